/- The law DrawsNumbers: Below and Chance of the program and of the reference agree, for all arguments. No condition. -/
import Derived.Test.YtfkijcimddbjoaaDrC
import Derived.Test.YtfkijcimddbjoaaRatO
namespace Go.Proofs.Ytfkijcimddbjoaa
open Go.ChangeShapes Go.WideShapes Go.ChangeAt Go.RowKit

set_option maxHeartbeats 1000000 in
theorem drNumbers_calls (d : UInt64) (n : Int) (v : Value) (r : Rat) (w : World) (hv : RatV w v r 35184372087808) :
    Calls Try.prog 3 #[.int .u64 (d.toNat : Int), .int .i64 n, v] w fun e w' => e = .returned (.bool true) ∧ Below w.heap.size w w' := by
  have HV := Lib.hid hv
  obtain ⟨p, q, ⟨neg, a', len', cap', xs, a, len, cap, ys, rfl, -, -, -, -, -, -⟩, -⟩ := hv
  have hb0 : Below w.heap.size w (w.alloc (.cells #[.bool neg, .slice a' len' cap', .slice a len cap] 29)) := (Below.refl _ _).alloc (Nat.le_refl _) _
  go_enter Try.func3, Try.ntmps3
  go_wp2_with fail
  refine (below_draw d n _).mono ?_
  rintro e w' ⟨rfl, rfl⟩
  go_wp2_with fail
  refine (rbelow_draw d n _).mono ?_
  rintro e w' ⟨rfl, rfl⟩
  go_wp2_with fail
  refine (chance_draw d _ r _ _ (HV.out.below hb0) (by omega) (by omega)).mono ?_
  rintro e w1 ⟨rfl, hb1⟩
  have hb01 := hb0.trans (hb1.mono (by simp))
  obtain ⟨hc1, hf1⟩ := bcell hb1 w.heap.size (by simp)
  clear hb1
  go_wp2_with fail
  refine (rchance_draw d _ r _ _ (HV.out.below hb01) (by omega) (by omega)).mono ?_
  rintro e w2 ⟨rfl, hb2⟩
  have hb02 := hb01.trans (hb2.mono hb01.size)
  clear hb2 hb01
  go_wp2_with fail
  refine (awake_any _).mono ?_
  rintro e w3 ⟨rfl, hb3⟩
  go_wp2_with fail
  go_ret
  exact ⟨rfl, hb02.trans (hb3.mono hb02.size)⟩

theorem drawsNumbers_walk {H : Type} {enc : TypeId × Value → H} (W : World) (base : Nat) (args : Array Value) (ds gs : List (DataW H)) (before : List MemPlace)
    (hval : ∀ (j : Nat) t v, Try.f3.params[j]? = some t → args[j]? = some v → Value.okWide Try.prog W .any base t v)
    (hW : DataW.Whole enc Try.prog Try.f3.params.toList Rows.drawsNumbersSpec.vars false W args.toList ds gs before)
    (_hsz : (DataW.weightsEach Try.prog (Try.f3.params.toList ++ Rows.drawsNumbersSpec.plain.varTypes Try.prog) (ds ++ gs)).all (· ≤ reachBytes) = true) :
    Calls Try.prog 3 args W fun e w' => e = .returned (.bool true) ∧ Below W.heap.size W w' := by
  obtain ⟨p, q, hA, hV, -, -, -⟩ := hW
  obtain ⟨rfl, -⟩ := trodVars_none hV
  rw [Try.params3] at hA hval
  obtain ⟨v0, v1, v2, d0, d1, d2, p0, p1, p2, rfl, rfl, rfl, h0, h1, h2⟩ := trodAll_three hA
  obtain ⟨d, rfl, -, wd⟩ := open_num Try.underlying23 (hval 0 _ _ rfl rfl) h0
  obtain ⟨n, rfl, -, wn⟩ := open_num Try.underlying3 (hval 1 _ _ rfl rfl) h1
  obtain ⟨r, L, hR, hM, -⟩ := open_ratio (hval 2 _ _ rfl rfl) h2
  have hL := hM _ (reach_part _hsz 2 rfl rfl)
  obtain ⟨d', rfl⟩ := u64_of d wd
  exact drNumbers_calls d' n v2 r W (hR.mono (by omega))

set_option maxRecDepth 100000 in
theorem drawsNumbers_lifted (os : Os) (started : os.Started) (H : Type) (enc : TypeId × Value → H) :
    ReturnsInHanded {} Try.checked os 3 .any (Rows.drawsNumbersSpec.pre6 enc Try.prog Try.f3 Rows.drawsNumbersRow.domain false) (Rows.drawsNumbersSpec.post enc Try.prog Try.f3 false true false false) := by
  refine returnsInHanded_of_change_sized (C := Try.checked) own started (by kernel_rfl) Try.func3
    (ChangeSpec.witness6 (enc := enc) (C := Try.checked) false ⟨#[], #[.int .u64 0, .int .i64 0, .agg #[.bool false, .slice none 0 0, .slice none 0 0]], []⟩ 8 (by kernel_rfl) (by kernel_rfl) (by kernel_rfl) (by kernel_rfl)) ?_
  intro W base args ds gs before hval hW _ hsz _
  exact law_post rfl (by kernel_rfl) (by kernel_rfl) (fun ds h => match ds, h with | [d0, d1, d2], _ => ⟨rfl, rfl, rfl⟩) hW (drawsNumbers_walk W base args ds gs before hval hW hsz)

theorem drawsNumbers_over : Rows.drawsNumbersRow.holds Try.pinned (OpenSpec.ofChange Rows.drawsNumbersSpec) :=
  OpenClaim.holds_of_wide 3 Try.f3 rfl rfl rfl rfl rfl rfl rfl ⟨rfl, rfl, rfl, rfl, rfl⟩ rfl rfl rfl rfl rfl (by kernel_rfl) Try.func3 (by kernel_rfl)
    (of_decide_eq_true (by kernel_rfl)) (by unfold Func.isWrapper; first | (rw [if_pos (by decide +kernel)]; kernel_rfl) | (rw [if_neg (by decide +kernel)]; exact ⟨rfl, rfl⟩))
    (fun os started H enc _ => drawsNumbers_lifted os started H enc)

theorem drawsNumbers_proved : Rows.DrawsNumbersSaid := drawsNumbers_over

end Go.Proofs.Ytfkijcimddbjoaa
