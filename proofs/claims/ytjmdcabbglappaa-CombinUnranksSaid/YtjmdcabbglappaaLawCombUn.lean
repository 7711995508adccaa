/- CombinUnranks: for all arguments the subset at a position is the reference's: the law returns true. No condition. -/
import Derived.Test.YtjmdcabbglappaaFrame
import Derived.Test.YtjmdcabbglappaaCombY
namespace Go.Proofs.Ytjmdcabbglappaa
open Go.ChangeShapes Go.WideShapes Go.ChangeAt Go.RowKit

set_option maxHeartbeats 1000000 in
theorem combUn_calls (n k : Int) (xs : List Nat) (a : Option Addr) (len cap : Nat) (w : World) (h : Limbs w a len cap xs) :
    Calls Try.prog 6 #[.int .i64 n, .int .i64 k, .slice a len cap] w fun e w' => e = .returned (.bool true) ∧ Below w.heap.size w w' := by
  by_cases h40 : 40 < len
  · clear h
    go_enter Try.func6, Try.ntmps6
    go_wp2_with fail
    go_ret
    exact ⟨rfl, Below.refl _ _⟩
  have HV := Lib.hid (show Lv w (.slice a len cap) (natOf xs) from ⟨a, len, cap, xs, rfl, h, rfl, by omega⟩)
  clear h
  by_cases hb : UnBad n k (natOf xs)
  · have HB := Lib.hid hb
    clear hb
    go_enter Try.func6, Try.ntmps6
    go_wp2_with fail
    refine (Unrank_no n k _ _ _ HV.out HB.out).mono ?_
    rintro e w1 ⟨rfl, hb1⟩
    have HV1 := Lib.hid (HV.out.below hb1)
    go_wp2_with fail
    refine (rUnrank_no n k _ _ _ HV1.out HB.out).mono ?_
    rintro e w2 ⟨rfl, hb2⟩
    go_wp2_with fail
    refine (ints_same [] _ _ _ _ _ _ _ (row_nil _) (row_nil _)).mono ?_
    rintro e w3 ⟨rfl, hb3⟩
    go_wp2_with fail
    go_ret
    exact ⟨rfl, hb1.trans ((hb2.trans (hb3.mono hb2.size)).mono hb1.size)⟩
  · obtain ⟨N, K, rfl, rfl, hN, hK, hR⟩ : ∃ N K : Nat, n = N ∧ k = K ∧ N ≤ 200 ∧ K ≤ N ∧ natOf xs < ch N K := by
      unfold UnBad at hb
      have h1 : 0 ≤ n ∧ n ≤ 200 := Decidable.byContradiction fun h => hb (.inl h)
      have h2 : ¬ k < 0 := fun h => hb (.inr (.inl h))
      have h3 : ¬ n < k := fun h => hb (.inr (.inr (.inl h)))
      have h4 : ¬ chI n k ≤ natOf xs := fun h => hb (.inr (.inr (.inr h)))
      obtain ⟨N, rfl⟩ : ∃ N : Nat, n = N := ⟨n.toNat, by omega⟩
      obtain ⟨K, rfl⟩ : ∃ K : Nat, k = K := ⟨k.toNat, by omega⟩
      rw [chI_any] at h4
      exact ⟨N, K, rfl, rfl, by omega, by omega, by omega⟩
    have HR := Lib.hid hR
    clear hb hR
    go_enter Try.func6, Try.ntmps6
    go_wp2_with fail
    refine (Unrank_any N K _ _ _ HV.out hN hK HR.out).mono ?_
    rintro e w1 ⟨a1, n1, c1, rfl, hr1, hb1⟩
    have HV1 := Lib.hid (HV.out.below hb1)
    have HR1 := Lib.hid hr1
    clear hr1
    go_wp2_with fail
    refine (rUnrank_any N K _ _ _ HV1.out hN hK HR.out).mono ?_
    rintro e w2 ⟨a2, n2, c2, rfl, hr2, hb2⟩
    have HR2 := Lib.hid hr2
    have HR12 := Lib.hid (HR1.out.below hb2)
    clear hr2
    go_wp2_with fail
    refine (ints_same _ _ _ _ _ _ _ _ HR12.out HR2.out).mono ?_
    rintro e w3 ⟨rfl, hb3⟩
    go_wp2_with fail
    go_ret
    exact ⟨rfl, hb1.trans ((hb2.trans (hb3.mono hb2.size)).mono hb1.size)⟩

/-- a list of numbers of kind u32 is a list of limbs -/
theorem limbs_of {W : World} {a : Option Addr} {len cap : Nat} {xs : List Int} (h : Row .u32 W a len cap xs) : ∃ ys : List Nat, Limbs W a len cap ys := by
  obtain ⟨h1, h2, h3⟩ := h
  have hx : ∀ n ∈ xs, 0 ≤ n ∧ n ≤ 4294967295 := fun n hn => by
    have := h2 n hn
    simpa [Lit.wf, IntKind.min, IntKind.max, IntKind.signed, IntKind.bits] using this
  refine ⟨xs.map Int.toNat, by simpa using h1, fun x hx' => ?_, h3.congr fun i hi => ?_⟩
  · simp only [List.mem_map] at hx'
    obtain ⟨y, hy, rfl⟩ := hx'
    have := hx y hy
    omega
  · have hi' : i < xs.length := by omega
    have := hx (xs[i]) (List.getElem_mem hi')
    simp [List.getD, hi']
    omega

theorem combinUnranks_walk {H : Type} {enc : TypeId × Value → H} (W : World) (base : Nat) (args : Array Value) (ds gs : List (DataW H)) (before : List MemPlace)
    (hval : ∀ (j : Nat) t v, Try.f6.params[j]? = some t → args[j]? = some v → Value.okWide Try.prog W .any base t v)
    (hW : DataW.Whole enc Try.prog Try.f6.params.toList Rows.combinUnranksSpec.vars false W args.toList ds gs before)
    (_hsz : (DataW.weightsEach Try.prog (Try.f6.params.toList ++ Rows.combinUnranksSpec.plain.varTypes Try.prog) (ds ++ gs)).all (· ≤ reachBytes) = true) :
    Calls Try.prog 6 args W fun e w' => e = .returned (.bool true) ∧ Below W.heap.size W w' := by
  obtain ⟨p, q, hA, hV, -, -, -⟩ := hW
  obtain ⟨rfl, -⟩ := trodVars_none hV
  rw [Try.params6] at hA hval
  obtain ⟨v0, v1, v2, d0, d1, d2, p0, p1, p2, rfl, rfl, rfl, h0, h1, h2⟩ := trodAll_three hA
  obtain ⟨n, rfl, -, -⟩ := open_num Try.underlying3 (hval 0 _ _ rfl rfl) h0
  obtain ⟨k, rfl, -, -⟩ := open_num Try.underlying3 (hval 1 _ _ rfl rfl) h1
  obtain ⟨a, len, cap, xs, rfl, hr, -⟩ := open_row Try.underlying24 Try.underlying50 (by kernel_rfl) (hval 2 _ _ rfl rfl) h2
  obtain ⟨ys, hl⟩ := limbs_of hr
  exact combUn_calls n k ys a len cap W hl

set_option maxRecDepth 100000 in
theorem combinUnranks_lifted (os : Os) (started : os.Started) (H : Type) (enc : TypeId × Value → H) :
    ReturnsInHanded {} Try.checked os 6 .any (Rows.combinUnranksSpec.pre6 enc Try.prog Try.f6 Rows.combinUnranksRow.domain false) (Rows.combinUnranksSpec.post enc Try.prog Try.f6 false true false false) := by
  refine returnsInHanded_of_change_sized (C := Try.checked) own started (by kernel_rfl) Try.func6
    (ChangeSpec.witness6 (enc := enc) (C := Try.checked) false ⟨#[], #[.int .i64 0, .int .i64 0, .slice none 0 0], []⟩ 8 (by kernel_rfl) (by kernel_rfl) (by kernel_rfl) (by kernel_rfl)) ?_
  intro W base args ds gs before hval hW _ hsz _
  exact law_post rfl (by kernel_rfl) (by kernel_rfl) (fun ds h => match ds, h with | [d0, d1, d2], _ => ⟨rfl, rfl, rfl⟩) hW (combinUnranks_walk W base args ds gs before hval hW hsz)

theorem combinUnranks_over : Rows.combinUnranksRow.holds Try.pinned (OpenSpec.ofChange Rows.combinUnranksSpec) :=
  OpenClaim.holds_of_wide 6 Try.f6 rfl rfl rfl rfl rfl rfl rfl ⟨rfl, rfl, rfl, rfl, rfl⟩ rfl rfl rfl rfl rfl (by kernel_rfl) Try.func6 (by kernel_rfl)
    (of_decide_eq_true (by kernel_rfl)) (by unfold Func.isWrapper; first | (rw [if_pos (by decide +kernel)]; kernel_rfl) | (rw [if_neg (by decide +kernel)]; exact ⟨rfl, rfl⟩))
    (fun os started H enc _ => combinUnranks_lifted os started H enc)

theorem combinUnranks_proved : Rows.CombinUnranksSaid := combinUnranks_over

end Go.Proofs.Ytjmdcabbglappaa
