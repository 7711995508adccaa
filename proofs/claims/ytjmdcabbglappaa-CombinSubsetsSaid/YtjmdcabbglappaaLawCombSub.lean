/- CombinSubsets: for all arguments the rank of a list of numbers, and the subset that follows it, are the reference's: the law returns true. No condition. -/
import Derived.Test.YtjmdcabbglappaaFrame
import Derived.Test.YtjmdcabbglappaaCombW
namespace Go.Proofs.Ytjmdcabbglappaa
open Go.ChangeShapes Go.WideShapes Go.ChangeAt Go.RowKit

set_option maxHeartbeats 1000000 in
theorem combSub_calls (n : Int) (l : List Int) (a : Option Addr) (len cap : Nat) (w : World) (h : Row .i64 w a len cap l) :
    Calls Try.prog 9 #[.int .i64 n, .slice a len cap] w fun e w' => e = .returned (.bool true) ∧ Below w.heap.size w w' := by
  by_cases hr : ¬ (0 ≤ n ∧ n ≤ 200) ∨ subB n (-1) l = false
  · have HR := Lib.hid hr
    have H := Lib.hid h
    clear hr h
    go_enter Try.func9, Try.ntmps9
    go_wp2_with fail
    refine (Rank_no n l _ _ _ _ H.out HR.out).mono ?_
    rintro e w1 ⟨rfl, rfl⟩
    go_wp2_with fail
    refine (rRank_no n l _ _ _ _ H.out HR.out).mono ?_
    rintro e w1 ⟨rfl, hb1⟩
    have H1 := Lib.hid (H.out.below hb1)
    go_wp2_with fail
    refine (limbs_same _ _ _ _ (num_nil _) (num_nil _)).mono ?_
    rintro e w2 ⟨rfl, hb2⟩
    have H2 := Lib.hid (H1.out.below hb2)
    go_wp2_with fail
    refine (Next_no n l _ _ _ _ H2.out HR.out).mono ?_
    rintro e w3 ⟨rfl, rfl⟩
    go_wp2_with fail
    refine (rNext_no n l _ _ _ _ H2.out HR.out).mono ?_
    rintro e w3 ⟨rfl, hb3⟩
    go_wp2_with fail
    refine (ints_same [] _ _ _ _ _ _ _ (row_nil _) (row_nil _)).mono ?_
    rintro e w4 ⟨rfl, hb4⟩
    go_wp2_with fail
    go_ret
    have h3 := hb1.trans ((hb2.trans (hb3.mono hb2.size)).mono hb1.size)
    exact ⟨rfl, h3.trans (hb4.mono h3.size)⟩
  · obtain ⟨h1, h2⟩ : (0 ≤ n ∧ n ≤ 200) ∧ subB n (-1) l = true := by
      constructor
      · exact Decidable.byContradiction fun h => hr (.inl h)
      · cases hs : subB n (-1) l
        · exact absurd (.inr hs) hr
        · rfl
    obtain ⟨N, rfl⟩ : ∃ N : Nat, n = N := ⟨n.toNat, by omega⟩
    have hN : N ≤ 200 := by omega
    obtain ⟨L, rfl, hA⟩ := subB_asc 0 l (by simpa using h2)
    have HA := Lib.hid hA
    have H := Lib.hid h
    clear hr h h1 h2 hA
    go_enter Try.func9, Try.ntmps9
    go_wp2_with fail
    refine (Rank_any N L _ _ _ _ H.out hN HA.out).mono ?_
    rintro e w1 ⟨v1, rfl, hv1, hb1⟩
    have HV1 := Lib.hid hv1
    have H1 := Lib.hid (H.out.below hb1)
    clear hv1
    go_wp2_with fail
    refine (rRank_any N L _ _ _ _ H1.out hN HA.out).mono ?_
    rintro e w2 ⟨v2, rfl, hv2, hb2⟩
    have HV2 := Lib.hid hv2
    have HV12 := Lib.hid (HV1.out.below hb2)
    have H2 := Lib.hid (H1.out.below hb2)
    clear hv2
    go_wp2_with fail
    refine (limbs_same _ _ _ _ HV12.out HV2.out).mono ?_
    rintro e w3 ⟨rfl, hb3⟩
    have H3 := Lib.hid (H2.out.below hb3)
    have h03 := hb1.trans ((hb2.trans (hb3.mono hb2.size)).mono hb1.size)
    go_wp2_with fail
    refine (Next_any N L _ _ _ _ H3.out hN HA.out).mono ?_
    rintro e w4 ⟨hc, hb4⟩
    have H4 := Lib.hid (H3.out.below hb4)
    have h04 := h03.trans (hb4.mono h03.size)
    rcases hc with ⟨hp, rfl⟩ | ⟨p, a4, n4, c4, hp, rfl, hrow⟩
    · have HP := Lib.hid hp
      clear hp
      go_wp2_with fail
      refine (rNext_any N L _ _ _ _ H4.out hN HA.out).mono ?_
      rintro e w5 ⟨hc, hb5⟩
      rcases hc with ⟨_, rfl⟩ | ⟨p', a5, n5, c5, hp', _⟩
      · go_wp2_with fail
        refine (ints_same [] _ _ _ _ _ _ _ (row_nil _) (row_nil _)).mono ?_
        rintro e w6 ⟨rfl, hb6⟩
        go_wp2_with fail
        go_ret
        have h05 := h04.trans (hb5.mono h04.size)
        exact ⟨rfl, h05.trans (hb6.mono h05.size)⟩
      · rw [HP.out] at hp'; cases hp'
    · have HP := Lib.hid hp
      have HRow := Lib.hid hrow
      clear hp hrow
      go_wp2_with fail
      refine (rNext_any N L _ _ _ _ H4.out hN HA.out).mono ?_
      rintro e w5 ⟨hc, hb5⟩
      rcases hc with ⟨hp', _⟩ | ⟨p', a5, n5, c5, hp', rfl, hrow'⟩
      · rw [HP.out] at hp'; cases hp'
      · rw [HP.out] at hp'
        cases hp'
        have HRow2 := Lib.hid hrow'
        have HRow1 := Lib.hid (HRow.out.below hb5)
        clear hrow'
        go_wp2_with fail
        refine (ints_same _ _ _ _ _ _ _ _ HRow1.out HRow2.out).mono ?_
        rintro e w6 ⟨rfl, hb6⟩
        go_wp2_with fail
        go_ret
        have h05 := h04.trans (hb5.mono h04.size)
        exact ⟨rfl, h05.trans (hb6.mono h05.size)⟩

theorem combinSubsets_walk {H : Type} {enc : TypeId × Value → H} (W : World) (base : Nat) (args : Array Value) (ds gs : List (DataW H)) (before : List MemPlace)
    (hval : ∀ (j : Nat) t v, Try.f9.params[j]? = some t → args[j]? = some v → Value.okWide Try.prog W .any base t v)
    (hW : DataW.Whole enc Try.prog Try.f9.params.toList Rows.combinSubsetsSpec.vars false W args.toList ds gs before)
    (_hsz : (DataW.weightsEach Try.prog (Try.f9.params.toList ++ Rows.combinSubsetsSpec.plain.varTypes Try.prog) (ds ++ gs)).all (· ≤ reachBytes) = true) :
    Calls Try.prog 9 args W fun e w' => e = .returned (.bool true) ∧ Below W.heap.size W w' := by
  obtain ⟨p, q, hA, hV, -, -, -⟩ := hW
  obtain ⟨rfl, -⟩ := trodVars_none hV
  rw [Try.params9] at hA hval
  obtain ⟨v0, v1, d0, d1, p0, p1, rfl, rfl, rfl, h0, h1⟩ := trodAll_two hA
  obtain ⟨n, rfl, -, -⟩ := open_num Try.underlying3 (hval 0 _ _ rfl rfl) h0
  obtain ⟨a, len, cap, xs, rfl, hr, -⟩ := open_row Try.underlying22 Try.underlying3 (by kernel_rfl) (hval 1 _ _ rfl rfl) h1
  exact combSub_calls n xs a len cap W hr

set_option maxRecDepth 100000 in
theorem combinSubsets_lifted (os : Os) (started : os.Started) (H : Type) (enc : TypeId × Value → H) :
    ReturnsInHanded {} Try.checked os 9 .any (Rows.combinSubsetsSpec.pre6 enc Try.prog Try.f9 Rows.combinSubsetsRow.domain false) (Rows.combinSubsetsSpec.post enc Try.prog Try.f9 false true false false) := by
  refine returnsInHanded_of_change_sized (C := Try.checked) own started (by kernel_rfl) Try.func9
    (ChangeSpec.witness6 (enc := enc) (C := Try.checked) false ⟨#[], #[.int .i64 0, .slice none 0 0], []⟩ 8 (by kernel_rfl) (by kernel_rfl) (by kernel_rfl) (by kernel_rfl)) ?_
  intro W base args ds gs before hval hW _ hsz _
  exact law_post rfl (by kernel_rfl) (by kernel_rfl) (fun ds h => match ds, h with | [d0, d1], _ => ⟨rfl, rfl, rfl⟩) hW (combinSubsets_walk W base args ds gs before hval hW hsz)

theorem combinSubsets_over : Rows.combinSubsetsRow.holds Try.pinned (OpenSpec.ofChange Rows.combinSubsetsSpec) :=
  OpenClaim.holds_of_wide 9 Try.f9 rfl rfl rfl rfl rfl rfl rfl ⟨rfl, rfl, rfl, rfl, rfl⟩ rfl rfl rfl rfl rfl (by kernel_rfl) Try.func9 (by kernel_rfl)
    (of_decide_eq_true (by kernel_rfl)) (by unfold Func.isWrapper; first | (rw [if_pos (by decide +kernel)]; kernel_rfl) | (rw [if_neg (by decide +kernel)]; exact ⟨rfl, rfl⟩))
    (fun os started H enc _ => combinSubsets_lifted os started H enc)

theorem combinSubsets_proved : Rows.CombinSubsetsSaid := combinSubsets_over

end Go.Proofs.Ytjmdcabbglappaa
