/- CombinRank: ranking is a bijection, and the next subset has the next rank, for all arguments: the law returns true. No condition. -/
import Derived.Test.YtjmdcabbglappaaFrame
import Derived.Test.YtjmdcabbglappaaCombX
namespace Go.Proofs.Ytjmdcabbglappaa
open Go.ChangeShapes Go.WideShapes Go.ChangeAt Go.RowKit

/-- a list of numbers of kind u32 is a list of limbs -/
theorem limbs_of {W : World} {a : Option Addr} {len cap : Nat} {xs : List Int} (h : Row .u32 W a len cap xs) : ∃ ys : List Nat, Limbs W a len cap ys := by
  obtain ⟨h1, h2, h3⟩ := h
  have hx : ∀ n ∈ xs, 0 ≤ n ∧ n ≤ 4294967295 := fun n hn => by
    have := h2 n hn
    simpa [Lit.wf, IntKind.min, IntKind.max, IntKind.signed, IntKind.bits] using this
  refine ⟨xs.map Int.toNat, by simpa using h1, fun x hx' => ?_, h3.congr fun i hi => ?_⟩
  · simp only [List.mem_map] at hx'
    obtain ⟨y, hy, rfl⟩ := hx'
    have := hx y hy
    omega
  · have hi' : i < xs.length := by omega
    have := hx (xs[i]) (List.getElem_mem hi')
    simp [List.getD, hi']
    omega

set_option maxHeartbeats 2000000 in
set_option maxRecDepth 100000 in
theorem combRank_calls (n k : Int) (xs : List Nat) (a : Option Addr) (len cap : Nat) (w : World) (h : Limbs w a len cap xs) :
    Calls Try.prog 10 #[.int .i64 n, .int .i64 k, .slice a len cap] w fun e w' => e = .returned (.bool true) ∧ Below w.heap.size w w' := by
  by_cases hr : 0 ≤ n ∧ n ≤ 200
  case neg =>
    have HR := Lib.hid hr
    by_cases h40 : 40 < len
    · clear hr h
      go_enter Try.func10, Try.ntmps10
      go_wp2_with fail
      refine (Choose_no n k _ HR.out).mono ?_
      rintro e w1 ⟨rfl, rfl⟩
      go_wp2_with fail
      go_ret
      exact ⟨rfl, Below.refl _ _⟩
    · by_cases h1 : n < 0
      case' pos =>
        have d1 : decide (n < 0) = true := decide_eq_true h1
        clear hr h
      case' neg =>
        have d1 : decide (n < 0) = false := decide_eq_false h1
        have d2 : decide (200 < n) = true := decide_eq_true (by omega)
        clear hr h
      all_goals
        go_enter Try.func10, Try.ntmps10
        go_wp2_with fail
        refine (Choose_no n k _ HR.out).mono ?_
        rintro e w1 ⟨rfl, rfl⟩
        go_wp2_with fail
        go_ret
        exact ⟨rfl, Below.refl _ _⟩
  have d1 : decide (n < 0) = false := decide_eq_false (by omega)
  have d2 : decide (200 < n) = false := decide_eq_false (by omega)
  obtain ⟨hr1, hr2⟩ := hr
  have HSc := Lib.hid (sm_chI (n := n) (k := k) hr2)
  go_enter Try.func10, Try.ntmps10
  go_wp2_with fail
  refine (Choose_any n k _ hr1 hr2).mono ?_
  rintro e w1 ⟨v1, rfl, hv1, hb1⟩
  have HV1 := Lib.hid hv1
  clear hv1
  by_cases h40 : 40 < len
  · go_wp2_with fail
    go_ret
    exact ⟨rfl, hb1⟩
  have HLv := Lib.hid (show Lv w1 (.slice a len cap) (natOf xs) from ⟨a, len, cap, xs, rfl, h.below hb1, rfl, by omega⟩)
  clear h
  generalize natOf xs = R at *
  by_cases hbad : UnBad n k R
  · have HB := Lib.hid hbad
    have HC := Lib.hid (show decide (cmpI R (chI n k) < 0) = false by
      have hge : chI n k ≤ R := by
        rcases hbad with h | h | h | h
        · exact absurd ⟨hr1, hr2⟩ h
        · rw [chI, if_pos (.inl h)]; omega
        · rw [chI, if_pos (.inr h)]; omega
        · exact h
      rcases cmpI_cases R (chI n k) with ⟨h, h'⟩ | ⟨h, h'⟩ | ⟨h, h'⟩
      · omega
      · rw [h]; rfl
      · rw [h]; rfl)
    clear hbad
    go_wp2_with fail
    refine (Unrank_no n k _ _ _ HLv.out HB.out).mono ?_
    rintro e w2 ⟨rfl, hb2⟩
    have HLv2 := Lib.hid (HLv.out.below hb2)
    have HV2 := Lib.hid ((HV1.out.below hb2).lv HSc.out)
    have h02 := hb1.trans (hb2.mono hb1.size)
    go_wp2_with fail
    refine (cmp_lv HLv2.out HV2.out).mono ?_
    rintro e w3 ⟨rfl, hb3⟩
    have dc := HC.out
    generalize cmpI R (chI n k) = cv at *
    go_wp2_with fail
    go_ret
    exact ⟨rfl, h02.trans (hb3.mono h02.size)⟩
  obtain ⟨N, K, rfl, rfl, hN, hK, hR⟩ : ∃ N K : Nat, n = N ∧ k = K ∧ N ≤ 200 ∧ K ≤ N ∧ R < ch N K := by
    unfold UnBad at hbad
    have h2 : ¬ k < 0 := fun h => hbad (.inr (.inl h))
    have h3 : ¬ n < k := fun h => hbad (.inr (.inr (.inl h)))
    have h4 : ¬ chI n k ≤ R := fun h => hbad (.inr (.inr (.inr h)))
    obtain ⟨N, rfl⟩ : ∃ N : Nat, n = N := ⟨n.toNat, by omega⟩
    obtain ⟨K, rfl⟩ : ∃ K : Nat, k = K := ⟨k.toNat, by omega⟩
    rw [chI_any] at h4
    exact ⟨N, K, rfl, rfl, by omega, by omega, by omega⟩
  have HR := Lib.hid hR
  have HF := Lib.hid (un_facts N N 0 K R (by omega) hR)
  have HChI := Lib.hid (chI_any N K)
  rw [HChI.out] at HV1 HSc
  have HC := Lib.hid (show cmpI R (ch N K) = -1 from cmpI_lt hR)
  clear hbad hR
  go_wp2_with fail
  refine (Unrank_any N K _ _ _ HLv.out hN hK HR.out).mono ?_
  rintro e w2 ⟨a2, n2, c2, rfl, hr2', hb2⟩
  have hn2 : n2 = K := by rw [← hr2'.1, nl_length]; exact HF.out.2.1
  subst hn2
  have HRow := Lib.hid hr2'
  have HLv2 := Lib.hid (HLv.out.below hb2)
  have HV2 := Lib.hid (HV1.out.below hb2)
  have HV2l := Lib.hid (HV2.out.lv HSc.out)
  have h02 := hb1.trans (hb2.mono hb1.size)
  clear hr2' HLv HV1 hb1 hb2
  have HA := Lib.hid HF.out.1
  have HLen := Lib.hid HF.out.2.1
  have HRk := Lib.hid HF.out.2.2
  have HSub := Lib.hid (show true = subB (N : Int) (-1) (nl (un N 0 n2 R)) by have := asc_subB 0 _ HA.out; simpa using this.symm)
  clear HF
  go_wp2_with fail
  refine (cmp_lv HLv2.out HV2l.out).mono ?_
  rintro e w3 ⟨rfl, hb3⟩
  rw [HC.out]
  have HRow3 := Lib.hid (HRow.out.below hb3)
  have HLv3 := Lib.hid (HLv2.out.below hb3)
  have HV3 := Lib.hid (HV2.out.below hb3)
  have h03 := h02.trans (hb3.mono h02.size)
  clear HRow HLv2 HV2 HV2l h02 hb3
  go_wp2_with fail
  refine (Rank_any N _ _ _ _ _ HRow3.out hN HA.out).mono ?_
  rintro e w4 ⟨v4, rfl, hv4, hb4⟩
  rw [HRk.out] at hv4
  have HV4 := Lib.hid hv4
  have HRow4 := Lib.hid (HRow3.out.below hb4)
  have HLv4 := Lib.hid (HLv3.out.below hb4)
  have HVc4 := Lib.hid (HV3.out.below hb4)
  have h04 := h03.trans (hb4.mono h03.size)
  clear hv4 HRow3 HLv3 HV3 h03 hb4
  go_wp2_with fail
  refine (rising_any (N : Int) _ _ _ _ _ HRow4.out true HSub.out).mono ?_
  rintro e w5 ⟨rfl, hb5⟩
  have HV5 := Lib.hid (HV4.out.below hb5)
  have HRow5 := Lib.hid (HRow4.out.below hb5)
  have HLv5 := Lib.hid (HLv4.out.below hb5)
  have HVc5 := Lib.hid (HVc4.out.below hb5)
  have h05 := h04.trans (hb5.mono h04.size)
  clear HV4 HRow4 HLv4 HVc4 h04 hb5
  go_wp2_with fail
  refine (norm_lv HLv5.out).mono ?_
  rintro e w6 ⟨v6, rfl, hv6, hb6⟩
  have HV6 := Lib.hid hv6
  have HVr6 := Lib.hid (HV5.out.below hb6)
  have HRow6 := Lib.hid (HRow5.out.below hb6)
  have HLv6 := Lib.hid (HLv5.out.below hb6)
  have HVc6 := Lib.hid (HVc5.out.below hb6)
  have h06 := h05.trans (hb6.mono h05.size)
  clear hv6 HV5 HRow5 HLv5 HVc5 h05 hb6
  go_wp2_with fail
  refine (limbs_same _ _ _ _ HVr6.out HV6.out).mono ?_
  rintro e w7 ⟨rfl, hb7⟩
  have HRow7 := Lib.hid (HRow6.out.below hb7)
  have HLv7 := Lib.hid (HLv6.out.below hb7)
  have HVc7 := Lib.hid (HVc6.out.below hb7)
  have h07 := h06.trans (hb7.mono h06.size)
  clear HV6 HVr6 HRow6 HLv6 HVc6 h06 hb7
  go_wp2_with fail
  refine (of_any 1 (by omega) _).mono ?_
  rintro e w8 ⟨v8, rfl, hv8, hb8⟩
  have HV8 := Lib.hid (hv8.lv (sm_small (by omega)))
  have HRow8 := Lib.hid (HRow7.out.below hb8)
  have HLv8 := Lib.hid (HLv7.out.below hb8)
  have HVc8 := Lib.hid (HVc7.out.below hb8)
  have h08 := h07.trans (hb8.mono h07.size)
  clear hv8 HRow7 HLv7 HVc7 h07 hb8
  go_wp2_with fail
  refine (add_lv HLv8.out HV8.out).mono ?_
  rintro e w9 ⟨v9, rfl, hv9, hb9⟩
  have HV9 := Lib.hid hv9
  have HRow9 := Lib.hid (HRow8.out.below hb9)
  have HVc9 := Lib.hid (HVc8.out.below hb9)
  have h09 := h08.trans (hb9.mono h08.size)
  clear hv9 HRow8 HLv8 HVc8 HV8 h08 hb9
  go_wp2_with fail
  refine (Next_any N _ _ _ _ _ HRow9.out hN HA.out).mono ?_
  rintro e w10 ⟨hc, hb10⟩
  have HV10 := Lib.hid (HV9.out.below hb10)
  have HVc10 := Lib.hid (HVc9.out.below hb10)
  have h010 := h09.trans (hb10.mono h09.size)
  clear HV9 HVc9 HRow9 h09 hb10
  rcases hc with ⟨hp, rfl⟩ | ⟨p, ap, np, cp, hp, rfl, hrow⟩
  · have HN := Lib.hid (nextNone HA.out hp)
    rw [HRk.out, HLen.out] at HN
    have HC2 := Lib.hid (cmpI_eq HN.out)
    clear hp
    go_wp2_with fail
    refine (cmp_num HV10.out HVc10.out).mono ?_
    rintro e w11 ⟨rfl, hb11⟩
    rw [HC2.out]
    go_wp2_with fail
    go_ret
    exact ⟨rfl, h010.trans (hb11.mono h010.size)⟩
  · obtain ⟨hx1, hx2, hx3⟩ := nextAt_facts HA.out hp
    have hnp : np = n2 := by rw [← hrow.1, nl_length, hx2]; exact HLen.out
    subst hnp
    have HA2 := Lib.hid hx1
    have HRow2 := Lib.hid hrow
    have HRk2 := Lib.hid hx3
    rw [HRk.out] at HRk2
    have HSub2 := Lib.hid (show true = subB (N : Int) (-1) (nl (nextAt (un N 0 np R) p)) by have := asc_subB 0 _ HA2.out; simpa using this.symm)
    have HC2 := Lib.hid (show cmpI (R + 1) (ch N np) = -1 from cmpI_lt (by
      have := rankL_lt 0 _ hx1 (by omega)
      rw [hx3, HRk.out, hx2, HLen.out] at this
      simpa using this))
    clear hp hx1 hx2 hx3 hrow
    go_wp2_with fail
    refine (cmp_num HV10.out HVc10.out).mono ?_
    rintro e w11 ⟨rfl, hb11⟩
    rw [HC2.out]
    have HRow11 := Lib.hid (HRow2.out.below hb11)
    have HV11 := Lib.hid (HV10.out.below hb11)
    have h011 := h010.trans (hb11.mono h010.size)
    go_wp2_with fail
    refine (Rank_any N _ _ _ _ _ HRow11.out hN HA2.out).mono ?_
    rintro e w12 ⟨v12, rfl, hv12, hb12⟩
    rw [HRk2.out] at hv12
    have HV12 := Lib.hid hv12
    have HRow12 := Lib.hid (HRow11.out.below hb12)
    have HVn12 := Lib.hid (HV11.out.below hb12)
    have h012 := h011.trans (hb12.mono h011.size)
    clear hv12
    go_wp2_with fail
    refine (rising_any (N : Int) _ _ _ _ _ HRow12.out true HSub2.out).mono ?_
    rintro e w13 ⟨rfl, hb13⟩
    have HV13 := Lib.hid (HV12.out.below hb13)
    have HVn13 := Lib.hid (HVn12.out.below hb13)
    have h013 := h012.trans (hb13.mono h012.size)
    go_wp2_with fail
    refine (limbs_same _ _ _ _ HV13.out HVn13.out).mono ?_
    rintro e w14 ⟨rfl, hb14⟩
    go_wp2_with fail
    go_ret
    exact ⟨rfl, h013.trans (hb14.mono h013.size)⟩

theorem combinRank_walk {H : Type} {enc : TypeId × Value → H} (W : World) (base : Nat) (args : Array Value) (ds gs : List (DataW H)) (before : List MemPlace)
    (hval : ∀ (j : Nat) t v, Try.f10.params[j]? = some t → args[j]? = some v → Value.okWide Try.prog W .any base t v)
    (hW : DataW.Whole enc Try.prog Try.f10.params.toList Rows.combinRankSpec.vars false W args.toList ds gs before)
    (_hsz : (DataW.weightsEach Try.prog (Try.f10.params.toList ++ Rows.combinRankSpec.plain.varTypes Try.prog) (ds ++ gs)).all (· ≤ reachBytes) = true) :
    Calls Try.prog 10 args W fun e w' => e = .returned (.bool true) ∧ Below W.heap.size W w' := by
  obtain ⟨p, q, hA, hV, -, -, -⟩ := hW
  obtain ⟨rfl, -⟩ := trodVars_none hV
  rw [Try.params10] at hA hval
  obtain ⟨v0, v1, v2, d0, d1, d2, p0, p1, p2, rfl, rfl, rfl, h0, h1, h2⟩ := trodAll_three hA
  obtain ⟨n, rfl, -, -⟩ := open_num Try.underlying3 (hval 0 _ _ rfl rfl) h0
  obtain ⟨k, rfl, -, -⟩ := open_num Try.underlying3 (hval 1 _ _ rfl rfl) h1
  obtain ⟨a, len, cap, xs, rfl, hr, -⟩ := open_row Try.underlying24 Try.underlying50 (by kernel_rfl) (hval 2 _ _ rfl rfl) h2
  obtain ⟨ys, hl⟩ := limbs_of hr
  exact combRank_calls n k ys a len cap W hl

set_option maxRecDepth 100000 in
theorem combinRank_lifted (os : Os) (started : os.Started) (H : Type) (enc : TypeId × Value → H) :
    ReturnsInHanded {} Try.checked os 10 .any (Rows.combinRankSpec.pre6 enc Try.prog Try.f10 Rows.combinRankRow.domain false) (Rows.combinRankSpec.post enc Try.prog Try.f10 false true false false) := by
  refine returnsInHanded_of_change_sized (C := Try.checked) own started (by kernel_rfl) Try.func10
    (ChangeSpec.witness6 (enc := enc) (C := Try.checked) false ⟨#[], #[.int .i64 0, .int .i64 0, .slice none 0 0], []⟩ 8 (by kernel_rfl) (by kernel_rfl) (by kernel_rfl) (by kernel_rfl)) ?_
  intro W base args ds gs before hval hW _ hsz _
  exact law_post rfl (by kernel_rfl) (by kernel_rfl) (fun ds h => match ds, h with | [d0, d1, d2], _ => ⟨rfl, rfl, rfl⟩) hW (combinRank_walk W base args ds gs before hval hW hsz)

theorem combinRank_over : Rows.combinRankRow.holds Try.pinned (OpenSpec.ofChange Rows.combinRankSpec) :=
  OpenClaim.holds_of_wide 10 Try.f10 rfl rfl rfl rfl rfl rfl rfl ⟨rfl, rfl, rfl, rfl, rfl⟩ rfl rfl rfl rfl rfl (by kernel_rfl) Try.func10 (by kernel_rfl)
    (of_decide_eq_true (by kernel_rfl)) (by unfold Func.isWrapper; first | (rw [if_pos (by decide +kernel)]; kernel_rfl) | (rw [if_neg (by decide +kernel)]; exact ⟨rfl, rfl⟩))
    (fun os started H enc _ => combinRank_lifted os started H enc)

theorem combinRank_proved : Rows.CombinRankSaid := combinRank_over

end Go.Proofs.Ytjmdcabbglappaa
