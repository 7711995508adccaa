/- ZerooneValues: whether any numbers are a feasible assignment of any program, and their value, are those of the reference: the law returns true. No condition. -/
import Derived.Test.YtkgikajfeihbbaaZoF
import Derived.Test.YtkgikajfeihbbaaZoO
import Derived.Test.YtkgikajfeihbbaaMix
namespace Go.Proofs.Ytkgikajfeihbbaa
open Go.ChangeShapes Go.WideShapes Go.ChangeAt Go.RowKit

theorem probKept {w : World} {a0 a1 a2 : Option Addr} {l0 c0 l1 c1 l2 c2 : Nat} {p : ProbM} (h : ProbIn w (.agg #[.slice a0 l0 c0, .slice a1 l1 c1, .slice a2 l2 c2]) p) :
    ∀ w0, w0 = w.alloc (.cells #[.slice a0 l0 c0, .slice a1 l1 c1, .slice a2 l2 c2] 25) →
      Below w.heap.size w w0 ∧ ProbIn w0 (.agg #[.slice a0 l0 c0, .slice a1 l1 c1, .slice a2 l2 c2]) p ∧
      ∀ w', Below w0.heap.size w0 w' → w'.cell? ⟨w.heap.size, 0, none⟩ = some (.slice a0 l0 c0) ∧ w'.cell? ⟨w.heap.size, 1, none⟩ = some (.slice a1 l1 c1) ∧ w'.cell? ⟨w.heap.size, 2, none⟩ = some (.slice a2 l2 c2) := by
  obtain ⟨_, _, _, _, _, _, _, _, _, e, h0, h1, h2⟩ := h
  cases e
  intro w0 hw
  obtain ⟨hb, hv, hr, hf, hx⟩ := probBox h0 h1 h2 w0 hw
  exact ⟨hb, ⟨_, _, _, _, _, _, _, _, _, rfl, hv, hr, hf⟩, hx⟩

set_option maxHeartbeats 2000000 in
theorem zoValues_calls (v : Value) (p : ProbM) (xs : List Int) (a : Option Addr) (l c : Nat) (w : World) (hp : ProbIn w v p) (hx : Row .i64 w a l c xs) :
    Calls Try.prog 4 #[v, .slice a l c] w fun e w' => e = .returned (.bool true) ∧ Below w.heap.size w w' := by
  have hp' := hp
  obtain ⟨a0, l0, c0, a1, l1, c1, a2, l2, c2, rfl, -, -, -⟩ := hp
  have HB := Lib.hid (probKept hp')
  have HX0 := Lib.hid hx
  clear hp' hx
  go_enter Try.func4, Try.ntmps4
  go_wp2_with fail
  obtain ⟨hb0, hp0, hbox⟩ := HB.out _ rfl
  clear HB
  generalize w.alloc (.cells #[.slice a0 l0 c0, .slice a1 l1 c1, .slice a2 l2 c2] 25) = w0 at *
  have HP := Lib.hid hp0
  have HX := Lib.hid hbox
  clear hp0 hbox
  refine (value_any _ p xs _ _ _ _ HP.out (HX0.out.below hb0)).mono ?_
  rintro e w1 ⟨rfl, hb1⟩
  obtain ⟨x0, x1, x2⟩ := HX.out w1 hb1
  have HP1 := Lib.hid (HP.out.below hb1)
  go_wp2_with fail
  refine (ref_value_any _ p xs _ _ _ _ HP1.out (HX0.out.below (hb0.trans (hb1.mono hb0.size)))).mono ?_
  rintro e w2 ⟨rfl, hb2⟩
  have hb2' := hb1.trans (hb2.mono hb1.size)
  clear x0 x1 x2
  obtain ⟨x0, x1, x2⟩ := HX.out w2 hb2'
  have HP2 := Lib.hid (HP.out.below hb2')
  have hbw := hb0.trans (hb2'.mono hb0.size)
  have HX2 := Lib.hid (HX0.out.below hbw)
  have f0 : ∀ W : Ext w2.heap.size w2, W.val.cell? ⟨w.heap.size, 0, none⟩ = some (.slice a0 l0 c0) := fun W => (HX.out _ (hb2'.trans (W.prop.mono hb2'.size))).1
  have f1 : ∀ W : Ext w2.heap.size w2, W.val.cell? ⟨w.heap.size, 1, none⟩ = some (.slice a1 l1 c1) := fun W => (HX.out _ (hb2'.trans (W.prop.mono hb2'.size))).2.1
  have f2 : ∀ W : Ext w2.heap.size w2, W.val.cell? ⟨w.heap.size, 2, none⟩ = some (.slice a2 l2 c2) := fun W => (HX.out _ (hb2'.trans (W.prop.mono hb2'.size))).2.2
  clear x0 x1 x2 hb0 hb1 hb2 hb2' HX HP HP1
  go_wp2_with fail
  have q1 : ∀ W : Ext w2.heap.size w2, Calls Try.prog 16 #[.agg #[.slice a0 l0 c0, .slice a1 l1 c1, .slice a2 l2 c2], .slice a l c] W.val fun e w'' => e = .returned (.bool (feasOf p xs)) ∧ ∃ W' : Ext w2.heap.size w2, w'' = W'.val := fun W => Calls.ext W (feasible_any _ p xs _ _ _ _ (HP2.out.below W.prop) (HX2.out.below W.prop))
  have q2 : ∀ W : Ext w2.heap.size w2, Calls Try.prog 17 #[.agg #[.slice a0 l0 c0, .slice a1 l1 c1, .slice a2 l2 c2], .slice a l c] W.val fun e w'' => e = .returned (.bool (feasOf p xs)) ∧ ∃ W' : Ext w2.heap.size w2, w'' = W'.val := fun W => Calls.ext W (ref_feasible_any _ p xs _ _ _ _ (HP2.out.below W.prop) (HX2.out.below W.prop))
  generalize feasOf p xs = fv at *
  generalize valVal p xs = bv at *
  generalize valErr p xs = ev at *
  refine wp_region_ext w2.heap.size w2 (by kernel_rfl) (by kernel_rfl) (Below.refl _ _) ?_
  repeat (first | go_big_quiet_step (first
    | with_reducible exact q1 _
    | with_reducible exact q2 _))
  refine wpQuiet_nil ?_
  intro W
  have hb4 : Below w.heap.size w W.val := hbw.trans (W.prop.mono hbw.size)
  generalize W.val = w4 at *
  go_wp2_with fail
  go_ret
  exact ⟨rfl, hb4⟩


theorem zerooneValues_walk {H : Type} {enc : TypeId × Value → H} (W : World) (base : Nat) (args : Array Value) (ds gs : List (DataW H)) (before : List MemPlace)
    (hval : ∀ (j : Nat) t v, Try.f4.params[j]? = some t → args[j]? = some v → Value.okWide Try.prog W .any base t v)
    (hW : DataW.Whole enc Try.prog Try.f4.params.toList Rows.zerooneValuesSpec.vars false W args.toList ds gs before)
    (_hsz : (DataW.weightsEach Try.prog (Try.f4.params.toList ++ Rows.zerooneValuesSpec.plain.varTypes Try.prog) (ds ++ gs)).all (· ≤ reachBytes) = true) :
    Calls Try.prog 4 args W fun e w' => e = .returned (.bool true) ∧ Below W.heap.size W w' := by
  obtain ⟨p, q, hA, hV, -, -, -⟩ := hW
  obtain ⟨rfl, -⟩ := trodVars_none hV
  rw [Try.params4] at hA hval
  obtain ⟨v0, vs0, d0, ds0, p0, q0, hargs, rfl, rfl, h0, r0⟩ := trodAll_cons hA
  obtain ⟨v1, vs1, d1, ds1, p1, q1, rfl, rfl, rfl, h1, r1⟩ := trodAll_cons r0
  obtain ⟨rfl, rfl, rfl⟩ := trodAll_nil r1
  obtain rfl : args = #[v0, v1] := by cases args; simp_all
  obtain ⟨p, hp⟩ := open_prob (hval 0 _ _ rfl rfl) h0
  obtain ⟨a, len, cap, xs, rfl, hr, -⟩ := open_row Try.underlying22 Try.underlying3 (by kernel_rfl) (hval 1 _ _ rfl rfl) h1
  exact zoValues_calls v0 p xs a len cap W hp hr

set_option maxRecDepth 100000 in
theorem zerooneValues_lifted (os : Os) (started : os.Started) (H : Type) (enc : TypeId × Value → H) :
    ReturnsInHanded {} Try.checked os 4 .any (Rows.zerooneValuesSpec.pre6 enc Try.prog Try.f4 Rows.zerooneValuesRow.domain false) (Rows.zerooneValuesSpec.post enc Try.prog Try.f4 false true false false) := by
  refine returnsInHanded_of_change_sized (C := Try.checked) own started (by kernel_rfl) Try.func4
    (ChangeSpec.witness6 (enc := enc) (C := Try.checked) false ⟨#[], #[.agg #[.slice none 0 0, .slice none 0 0, .slice none 0 0], .slice none 0 0], []⟩ 8 (by kernel_rfl) (by kernel_rfl) (by kernel_rfl) (by kernel_rfl)) ?_
  intro W base args ds gs before hval hW _ hsz _
  exact law_post rfl (by kernel_rfl) (by kernel_rfl) (fun ds h => match ds, h with | [d0, d1], _ => ⟨rfl, rfl, rfl⟩) hW (zerooneValues_walk W base args ds gs before hval hW hsz)

theorem zerooneValues_over : Rows.zerooneValuesRow.holds Try.pinned (OpenSpec.ofChange Rows.zerooneValuesSpec) :=
  OpenClaim.holds_of_wide 4 Try.f4 rfl rfl rfl rfl rfl rfl rfl ⟨rfl, rfl, rfl, rfl, rfl⟩ rfl rfl rfl rfl rfl (by kernel_rfl) Try.func4 (by kernel_rfl)
    (of_decide_eq_true (by kernel_rfl)) (by unfold Func.isWrapper; first | (rw [if_pos (by decide +kernel)]; kernel_rfl) | (rw [if_neg (by decide +kernel)]; exact ⟨rfl, rfl⟩))
    (fun os started H enc _ => zerooneValues_lifted os started H enc)

theorem zerooneValues_proved : Rows.ZerooneValuesSaid := zerooneValues_over

end Go.Proofs.Ytkgikajfeihbbaa
