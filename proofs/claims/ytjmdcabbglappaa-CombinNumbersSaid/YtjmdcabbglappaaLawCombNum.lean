/- CombinNumbers: for all arguments the factorial and the binomial coefficient are the reference's: the law returns true. No condition. -/
import Derived.Test.YtjmdcabbglappaaFrame
import Derived.Test.YtjmdcabbglappaaComb
namespace Go.Proofs.Ytjmdcabbglappaa
open Go.ChangeShapes Go.WideShapes Go.ChangeAt Go.RowKit

set_option maxHeartbeats 1000000 in
theorem combNum_calls (n k : Int) (w : World) :
    Calls Try.prog 4 #[.int .i64 n, .int .i64 k] w fun e w' => e = .returned (.bool true) ∧ Below w.heap.size w w' := by
  by_cases hr : 0 ≤ n ∧ n ≤ 200
  · obtain ⟨N, rfl⟩ : ∃ N : Nat, n = N := ⟨n.toNat, by omega⟩
    have hN : N ≤ 200 := by omega
    clear hr
    go_enter Try.func4, Try.ntmps4
    go_wp2_with fail
    refine (Factorial_any N _ hN).mono ?_
    rintro e w1 ⟨v1, rfl, hv1, hb1⟩
    have HV1 := Lib.hid hv1
    clear hv1
    go_wp2_with fail
    refine (rFactorial_any N _ hN).mono ?_
    rintro e w2 ⟨v2, rfl, hv2, hb2⟩
    have HV2 := Lib.hid hv2
    have HV12 := Lib.hid (HV1.out.below hb2)
    clear hv2
    go_wp2_with fail
    refine (limbs_same v1 v2 _ _ HV12.out HV2.out).mono ?_
    rintro e w3 ⟨rfl, hb3⟩
    go_wp2_with fail
    refine (Choose_any N k _ (by omega) (by omega)).mono ?_
    rintro e w4 ⟨v4, rfl, hv4, hb4⟩
    have HV4 := Lib.hid hv4
    clear hv4
    go_wp2_with fail
    refine (rChoose_any N k _ (by omega) (by omega)).mono ?_
    rintro e w5 ⟨v5, rfl, hv5, hb5⟩
    have HV5 := Lib.hid hv5
    have HV45 := Lib.hid (HV4.out.below hb5)
    clear hv5
    go_wp2_with fail
    refine (limbs_same v4 v5 _ _ HV45.out HV5.out).mono ?_
    rintro e w6 ⟨rfl, hb6⟩
    go_wp2_with fail
    go_ret
    have h3 := hb1.trans ((hb2.trans (hb3.mono hb2.size)).mono hb1.size)
    have h6 := hb4.trans ((hb5.trans (hb6.mono hb5.size)).mono hb4.size)
    exact ⟨rfl, h3.trans (h6.mono h3.size)⟩
  · have HR := Lib.hid hr
    clear hr
    go_enter Try.func4, Try.ntmps4
    go_wp2_with fail
    refine (Factorial_no n _ HR.out).mono ?_
    rintro e w1 ⟨rfl, rfl⟩
    go_wp2_with fail
    refine (rFactorial_no n _ HR.out).mono ?_
    rintro e w1 ⟨rfl, rfl⟩
    go_wp2_with fail
    refine (limbs_same _ _ _ _ (num_nil _) (num_nil _)).mono ?_
    rintro e w1 ⟨rfl, hb1⟩
    go_wp2_with fail
    refine (Choose_no n k _ HR.out).mono ?_
    rintro e w2 ⟨rfl, rfl⟩
    go_wp2_with fail
    refine (rChoose_no n k _ HR.out).mono ?_
    rintro e w2 ⟨rfl, rfl⟩
    go_wp2_with fail
    refine (limbs_same _ _ _ _ (num_nil _) (num_nil _)).mono ?_
    rintro e w2 ⟨rfl, hb2⟩
    go_wp2_with fail
    go_ret
    exact ⟨rfl, hb1.trans (hb2.mono hb1.size)⟩

theorem combinNumbers_walk {H : Type} {enc : TypeId × Value → H} (W : World) (base : Nat) (args : Array Value) (ds gs : List (DataW H)) (before : List MemPlace)
    (hval : ∀ (j : Nat) t v, Try.f4.params[j]? = some t → args[j]? = some v → Value.okWide Try.prog W .any base t v)
    (hW : DataW.Whole enc Try.prog Try.f4.params.toList Rows.combinNumbersSpec.vars false W args.toList ds gs before)
    (_hsz : (DataW.weightsEach Try.prog (Try.f4.params.toList ++ Rows.combinNumbersSpec.plain.varTypes Try.prog) (ds ++ gs)).all (· ≤ reachBytes) = true) :
    Calls Try.prog 4 args W fun e w' => e = .returned (.bool true) ∧ Below W.heap.size W w' := by
  obtain ⟨p, q, hA, hV, -, -, -⟩ := hW
  obtain ⟨rfl, -⟩ := trodVars_none hV
  rw [Try.params4] at hA hval
  obtain ⟨v0, v1, d0, d1, p0, p1, rfl, rfl, rfl, h0, h1⟩ := trodAll_two hA
  obtain ⟨n, rfl, -, -⟩ := open_num Try.underlying3 (hval 0 _ _ rfl rfl) h0
  obtain ⟨k, rfl, -, -⟩ := open_num Try.underlying3 (hval 1 _ _ rfl rfl) h1
  exact combNum_calls n k W

set_option maxRecDepth 100000 in
theorem combinNumbers_lifted (os : Os) (started : os.Started) (H : Type) (enc : TypeId × Value → H) :
    ReturnsInHanded {} Try.checked os 4 .any (Rows.combinNumbersSpec.pre6 enc Try.prog Try.f4 Rows.combinNumbersRow.domain false) (Rows.combinNumbersSpec.post enc Try.prog Try.f4 false true false false) := by
  refine returnsInHanded_of_change_sized (C := Try.checked) own started (by kernel_rfl) Try.func4
    (ChangeSpec.witness6 (enc := enc) (C := Try.checked) false ⟨#[], #[.int .i64 0, .int .i64 0], []⟩ 8 (by kernel_rfl) (by kernel_rfl) (by kernel_rfl) (by kernel_rfl)) ?_
  intro W base args ds gs before hval hW _ hsz _
  exact law_post rfl (by kernel_rfl) (by kernel_rfl) (fun ds h => match ds, h with | [d0, d1], _ => ⟨rfl, rfl, rfl⟩) hW (combinNumbers_walk W base args ds gs before hval hW hsz)

theorem combinNumbers_over : Rows.combinNumbersRow.holds Try.pinned (OpenSpec.ofChange Rows.combinNumbersSpec) :=
  OpenClaim.holds_of_wide 4 Try.f4 rfl rfl rfl rfl rfl rfl rfl ⟨rfl, rfl, rfl, rfl, rfl⟩ rfl rfl rfl rfl rfl (by kernel_rfl) Try.func4 (by kernel_rfl)
    (of_decide_eq_true (by kernel_rfl)) (by unfold Func.isWrapper; first | (rw [if_pos (by decide +kernel)]; kernel_rfl) | (rw [if_neg (by decide +kernel)]; exact ⟨rfl, rfl⟩))
    (fun os started H enc _ => combinNumbers_lifted os started H enc)

theorem combinNumbers_proved : Rows.CombinNumbersSaid := combinNumbers_over

end Go.Proofs.Ytjmdcabbglappaa
