/- CombinParts: for every list of parts the multinomial coefficient is the reference's: the law returns true. No condition. -/
import Derived.Test.YtjmdcabbglappaaFrame
import Derived.Test.YtjmdcabbglappaaCombM
namespace Go.Proofs.Ytjmdcabbglappaa
open Go.ChangeShapes Go.WideShapes Go.ChangeAt Go.RowKit

set_option maxHeartbeats 400000 in
theorem combParts_calls (xs : List Int) (a : Option Addr) (len cap : Nat) (w : World) (h : Row .i64 w a len cap xs) :
    Calls Try.prog 3 #[.slice a len cap] w fun e w' => e = .returned (.bool true) ∧ Below w.heap.size w w' := by
  have H := Lib.hid h; clear h
  go_enter Try.func3, Try.ntmps3
  go_wp2_with fail
  refine (Mult_any xs a len cap _ H.out).mono ?_
  rintro e w1 ⟨v1, rfl, hv1, hb1⟩
  have H1 := Lib.hid (H.out.below hb1)
  have HV1 := Lib.hid hv1
  clear hv1
  go_wp2_with fail
  refine (rMult_any xs a len cap _ H1.out).mono ?_
  rintro e w2 ⟨v2, rfl, hv2, hb2⟩
  have HV2 := Lib.hid hv2
  have HV12 := Lib.hid (HV1.out.below hb2)
  clear hv2
  generalize multOk xs = b at *
  have hbb : (b == b) = true := by simp
  go_wp2_with fail
  refine (limbs_same v1 v2 _ _ HV12.out HV2.out).mono ?_
  rintro e w3 ⟨rfl, hb3⟩
  go_wp2_with fail
  go_ret
  exact ⟨rfl, hb1.trans ((hb2.trans (hb3.mono hb2.size)).mono hb1.size)⟩

theorem combinParts_walk {H : Type} {enc : TypeId × Value → H} (W : World) (base : Nat) (args : Array Value) (ds gs : List (DataW H)) (before : List MemPlace)
    (hval : ∀ (j : Nat) t v, Try.f3.params[j]? = some t → args[j]? = some v → Value.okWide Try.prog W .any base t v)
    (hW : DataW.Whole enc Try.prog Try.f3.params.toList Rows.combinPartsSpec.vars false W args.toList ds gs before)
    (_hsz : (DataW.weightsEach Try.prog (Try.f3.params.toList ++ Rows.combinPartsSpec.plain.varTypes Try.prog) (ds ++ gs)).all (· ≤ reachBytes) = true) :
    Calls Try.prog 3 args W fun e w' => e = .returned (.bool true) ∧ Below W.heap.size W w' := by
  obtain ⟨p, q, hA, hV, -, -, -⟩ := hW
  obtain ⟨rfl, -⟩ := trodVars_none hV
  rw [Try.params3] at hA hval
  obtain ⟨v0, d0, rfl, rfl, h0⟩ := trodAll_one hA
  obtain ⟨a, len, cap, xs, rfl, hr, -⟩ := open_row Try.underlying22 Try.underlying3 (by kernel_rfl) (hval 0 _ _ rfl rfl) h0
  exact combParts_calls xs a len cap W hr

set_option maxRecDepth 100000 in
theorem combinParts_lifted (os : Os) (started : os.Started) (H : Type) (enc : TypeId × Value → H) :
    ReturnsInHanded {} Try.checked os 3 .any (Rows.combinPartsSpec.pre6 enc Try.prog Try.f3 Rows.combinPartsRow.domain false) (Rows.combinPartsSpec.post enc Try.prog Try.f3 false true false false) := by
  refine returnsInHanded_of_change_sized (C := Try.checked) own started (by kernel_rfl) Try.func3
    (ChangeSpec.witness6 (enc := enc) (C := Try.checked) false ⟨#[], #[.slice none 0 0], []⟩ 8 (by kernel_rfl) (by kernel_rfl) (by kernel_rfl) (by kernel_rfl)) ?_
  intro W base args ds gs before hval hW _ hsz _
  exact law_post rfl (by kernel_rfl) (by kernel_rfl) (fun ds h => match ds, h with | [d0], _ => ⟨rfl, rfl, rfl⟩) hW (combinParts_walk W base args ds gs before hval hW hsz)

theorem combinParts_over : Rows.combinPartsRow.holds Try.pinned (OpenSpec.ofChange Rows.combinPartsSpec) :=
  OpenClaim.holds_of_wide 3 Try.f3 rfl rfl rfl rfl rfl rfl rfl ⟨rfl, rfl, rfl, rfl, rfl⟩ rfl rfl rfl rfl rfl (by kernel_rfl) Try.func3 (by kernel_rfl)
    (of_decide_eq_true (by kernel_rfl)) (by unfold Func.isWrapper; first | (rw [if_pos (by decide +kernel)]; kernel_rfl) | (rw [if_neg (by decide +kernel)]; exact ⟨rfl, rfl⟩))
    (fun os started H enc _ => combinParts_lifted os started H enc)

theorem combinParts_proved : Rows.CombinPartsSaid := combinParts_over

end Go.Proofs.Ytjmdcabbglappaa
