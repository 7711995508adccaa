/- ScalingBands: for every slice of cut scores and every score the program's band and error are the reference's: the law returns true. No condition. -/
import Derived.Test.YtfedalipoknilaaFrame
import Derived.Test.YtfedalipoknilaaScalB
namespace Go.Proofs.Ytfedalipoknilaa
open Go.ChangeShapes Go.WideShapes Go.ChangeAt Go.RowKit

set_option maxHeartbeats 400000 in
theorem bands_calls (zs : List Int) (a : Option Addr) (len cap : Nat) (s : Int) (w : World) (h : Row .i64 w a len cap zs) :
    Calls Try.prog 3 #[.slice a len cap, .int .i64 s] w fun e w' => e = .returned (.bool true) ∧ Below w.heap.size w w' := by
  have H := Lib.hid h; clear h
  go_enter Try.func3, Try.ntmps3
  go_wp2_with fail
  refine (band_any zs a len cap s _ H.out).mono ?_
  rintro e w1 ⟨rfl, hb1⟩
  have H1 := Lib.hid (H.out.below hb1)
  go_wp2_with fail
  refine (ref_band_any zs a len cap s _ H1.out).mono ?_
  rintro e w2 ⟨rfl, hb2⟩
  generalize bandOf zs s = p
  go_wp2
  go_ret
  exact ⟨by simp, hb1.trans (hb2.mono hb1.size)⟩

theorem scalingBands_walk {H : Type} {enc : TypeId × Value → H} (W : World) (base : Nat) (args : Array Value) (ds gs : List (DataW H)) (before : List MemPlace)
    (hval : ∀ (j : Nat) t v, Try.f3.params[j]? = some t → args[j]? = some v → Value.okWide Try.prog W .any base t v)
    (hW : DataW.Whole enc Try.prog Try.f3.params.toList Rows.scalingBandsSpec.vars false W args.toList ds gs before)
    (_hsz : (DataW.weightsEach Try.prog (Try.f3.params.toList ++ Rows.scalingBandsSpec.plain.varTypes Try.prog) (ds ++ gs)).all (· ≤ reachBytes) = true) :
    Calls Try.prog 3 args W fun e w' => e = .returned (.bool true) ∧ Below W.heap.size W w' := by
  obtain ⟨p, q, hA, hV, -, -, -⟩ := hW
  rw [Try.params3] at hA hval
  obtain ⟨v0, v1, d0, d1, p0, p1, rfl, rfl, rfl, h0, h1⟩ := trodAll_two hA
  obtain ⟨a, len, cap, xs, rfl, hr, -⟩ := open_row Try.underlying22 Try.underlying3 (by kernel_rfl) (hval 0 _ _ rfl rfl) h0
  obtain ⟨n, rfl, -, -⟩ := open_num Try.underlying3 (hval 1 _ _ rfl rfl) h1
  exact bands_calls xs a len cap n W hr

set_option maxRecDepth 100000 in
theorem scalingBands_lifted (os : Os) (started : os.Started) (H : Type) (enc : TypeId × Value → H) :
    ReturnsInHanded {} Try.checked os 3 .any (Rows.scalingBandsSpec.pre6 enc Try.prog Try.f3 Rows.scalingBandsRow.domain false) (Rows.scalingBandsSpec.post enc Try.prog Try.f3 false true false false) := by
  refine returnsInHanded_of_change_sized (C := Try.checked) own started (by kernel_rfl) Try.func3
    (ChangeSpec.witness6 (enc := enc) (C := Try.checked) false ⟨#[], #[.slice none 0 0, .int .i64 0], []⟩ 8 (by kernel_rfl) (by kernel_rfl) (by kernel_rfl) (by kernel_rfl)) ?_
  intro W base args ds gs before hval hW _ hsz _
  exact law_post rfl (by kernel_rfl) (by kernel_rfl) (fun ds h => match ds, h with | [d0, d1], _ => ⟨rfl, rfl, rfl⟩) hW (scalingBands_walk W base args ds gs before hval hW hsz)

theorem scalingBands_over : Rows.scalingBandsRow.holds Try.pinned (OpenSpec.ofChange Rows.scalingBandsSpec) :=
  OpenClaim.holds_of_wide 3 Try.f3 rfl rfl rfl rfl rfl rfl rfl ⟨rfl, rfl, rfl, rfl, rfl⟩ rfl rfl rfl rfl rfl (by kernel_rfl) Try.func3 (by kernel_rfl)
    (of_decide_eq_true (by kernel_rfl)) (by unfold Func.isWrapper; first | (rw [if_pos (by decide +kernel)]; kernel_rfl) | (rw [if_neg (by decide +kernel)]; exact ⟨rfl, rfl⟩))
    (fun os started H enc _ => scalingBands_lifted os started H enc)

theorem scalingBands_proved : Rows.ScalingBandsSaid := scalingBands_over

end Go.Proofs.Ytfedalipoknilaa
