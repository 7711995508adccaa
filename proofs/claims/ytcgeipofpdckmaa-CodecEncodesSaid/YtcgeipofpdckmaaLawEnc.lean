/- The law CodecEncodes: Valid and Encode follow the rules of the chapter, for all nodes. No condition. -/
import Derived.Test.YtcgeipofpdckmaaCoL
import Derived.Test.YtcgeipofpdckmaaRCoC
import Derived.Test.YtcgeipofpdckmaaFrame
namespace Go.Proofs.Ytcgeipofpdckmaa
set_option maxRecDepth 100000
open Go.ChangeShapes Go.WideShapes Go.ChangeAt Go.RowKit

set_option maxHeartbeats 8000000 in
theorem encodes_calls (t : NodeT) (v : Value) (w : World) (hN : NodeIn w t v) (hi : i64T t) :
    Calls Try.prog 3 #[v] w fun e w' => e = .returned (.bool true) ∧ Below w.heap.size w w' := by
  obtain ⟨tag, kind, n, s, a, len, cap, kids, ht, rfl, hs, hk⟩ := hN.form
  have hb0 : Below w.heap.size w (w.alloc (.cells #[.int .i64 tag, .int .i64 kind, .int .i64 n, .string ⟨s.toArray⟩, .slice a len cap] 24)) := (Below.refl _ _).alloc (Nat.le_refl _) _
  have hx0 := heap_alloc_new w (.cells #[.int .i64 tag, .int .i64 kind, .int .i64 n, .string ⟨s.toArray⟩, .slice a len cap] 24)
  have HN := Lib.hid (hN.below hb0)
  have HI := Lib.hid hi
  clear hN hi hk ht
  cases hq : okT t with
  | true =>
    have HQ := Lib.hid hq
    clear hq
    go_enter Try.func3, Try.ntmps3
    go_wp2_with fail
    generalize w.alloc (.cells #[.int .i64 tag, .int .i64 kind, .int .i64 n, .string ⟨s.toArray⟩, .slice a len cap] 24) = wa at *
    have hwa : w.heap.size < wa.heap.size := blk_lt hx0
    refine (encode_ok t _ wa HN.out HI.out HQ.out).mono ?_
    rintro e w1 ⟨a1, n1, c1x, rfl, hO1, hb⟩
    have hx1 : w1.heap[w.heap.size]? = _ := (hb.block _ hwa).trans hx0
    have HB1 := Lib.hid (hb0.trans (hb.mono hb0.size))
    have HN1 := Lib.hid (HN.out.below hb)
    have hw1 : w.heap.size < w1.heap.size := blk_lt hx1
    have HX1 := Lib.hid hx1
    obtain ⟨_, _, _, hv1, hby1⟩ := hO1.bytes
    cases hv1
    have HY1 := Lib.hid hby1
    clear hO1 hby1
    have c0 := blk_cell hx1 0
    have c1 := blk_cell hx1 1
    have c2 := blk_cell hx1 2
    have c3 := blk_cell hx1 3
    have c4 := blk_cell hx1 4
    simp at c0 c1 c2 c3 c4
    clear hb hx0 hx1
    go_wp2_with fail
    refine (rencode_ok t _ w1 HN1.out HI.out HQ.out).mono ?_
    rintro e w2 ⟨a2, n2, c2x, rfl, hO2, hb⟩
    clear c0 c1 c2 c3 c4
    have hx2 : w2.heap[w.heap.size]? = _ := (hb.block _ hw1).trans HX1.out
    have HB2 := Lib.hid (HB1.out.trans (hb.mono HB1.out.size))
    have HN2 := Lib.hid (HN1.out.below hb)
    have hw2 : w.heap.size < w2.heap.size := blk_lt hx2
    have HY2 := Lib.hid (HY1.out.below hb)
    obtain ⟨_, _, _, hv2, hby2⟩ := hO2.bytes
    cases hv2
    have HZ2 := Lib.hid hby2
    clear hO2 hby2
    have c0 := blk_cell hx2 0
    have c1 := blk_cell hx2 1
    have c2 := blk_cell hx2 2
    have c3 := blk_cell hx2 3
    have c4 := blk_cell hx2 4
    simp at c0 c1 c2 c3 c4
    have e0 := box_ext (B := w2.heap.size) c0 hw2
    have e1 := box_ext (B := w2.heap.size) c1 hw2
    have e2 := box_ext (B := w2.heap.size) c2 hw2
    have e3 := box_ext (B := w2.heap.size) c3 hw2
    have e4 := box_ext (B := w2.heap.size) c4 hw2
    clear hb hx2
    have k1 : ∀ W : Ext w2.heap.size w2, Calls Try.prog 10 #[.agg #[.int .i64 tag, .int .i64 kind, .int .i64 n, .string ⟨s.toArray⟩, .slice a len cap]] W.val fun e w'' => e = .returned (.bool (okT t)) ∧ ∃ W' : Ext w2.heap.size w2, w'' = W'.val := fun W => Calls.ext W (valid_any t _ W.val (HN2.out.below W.prop) HI.out)
    have k2 : ∀ W : Ext w2.heap.size w2, Calls Try.prog 11 #[.agg #[.int .i64 tag, .int .i64 kind, .int .i64 n, .string ⟨s.toArray⟩, .slice a len cap]] W.val fun e w'' => e = .returned (.bool (okT t)) ∧ ∃ W' : Ext w2.heap.size w2, w'' = W'.val := fun W => Calls.ext W (rvalid_any t _ W.val (HN2.out.below W.prop) HI.out)
    have k3 : ∀ W : Ext w2.heap.size w2, Calls Try.prog 12 #[] W.val fun e w'' => e = .returned (.bool true) ∧ ∃ W' : Ext w2.heap.size w2, w'' = W'.val := fun W => Calls.ext W (awake_any W.val)
    rw [HQ.out] at k1 k2
    have q0 : ∀ W : Ext w2.heap.size w2, (convert 25 9 (.slice a1 n1 c1x)).run Try.prog W.val = .ok (.string ⟨(encT t).toArray⟩) W.val := fun W => str_of (HY2.out.below W.prop)
    have q1 : ∀ W : Ext w2.heap.size w2, (convert 25 9 (.slice a2 n2 c2x)).run Try.prog W.val = .ok (.string ⟨(encT t).toArray⟩) W.val := fun W => str_of (HZ2.out.below W.prop)
    clear c0 c1 c2 c3 c4
    go_wp2_with fail
    refine wp_region_ext w2.heap.size w2 (by kernel_rfl) (by kernel_rfl) (Below.refl _ _) ?_
    repeat (first | go_big_quiet_step (first
      | with_reducible exact k1 _
      | with_reducible exact k2 _
      | with_reducible exact k3 _))
    refine wpQuiet_nil ?_
    intro W
    have hb5 : Below w.heap.size w W.val := HB2.out.trans (W.prop.mono HB2.out.size)
    generalize W.val = w5 at *
    go_wp2_with fail
    go_ret
    exact ⟨rfl, hb5⟩
  | false =>
    have HQ := Lib.hid hq
    clear hq
    go_enter Try.func3, Try.ntmps3
    go_wp2_with fail
    generalize w.alloc (.cells #[.int .i64 tag, .int .i64 kind, .int .i64 n, .string ⟨s.toArray⟩, .slice a len cap] 24) = wa at *
    have hwa : w.heap.size < wa.heap.size := blk_lt hx0
    refine (encode_no t _ wa HN.out HI.out HQ.out).mono ?_
    rintro e w1 ⟨rfl, hb⟩
    have hx1 : w1.heap[w.heap.size]? = _ := (hb.block _ hwa).trans hx0
    have HB1 := Lib.hid (hb0.trans (hb.mono hb0.size))
    have HN1 := Lib.hid (HN.out.below hb)
    have hw1 : w.heap.size < w1.heap.size := blk_lt hx1
    have HX1 := Lib.hid hx1
    have c0 := blk_cell hx1 0
    have c1 := blk_cell hx1 1
    have c2 := blk_cell hx1 2
    have c3 := blk_cell hx1 3
    have c4 := blk_cell hx1 4
    simp at c0 c1 c2 c3 c4
    clear hb hx0 hx1
    go_wp2_with fail
    refine (rencode_no t _ w1 HN1.out HI.out HQ.out).mono ?_
    rintro e w2 ⟨rfl, hb⟩
    clear c0 c1 c2 c3 c4
    have hx2 : w2.heap[w.heap.size]? = _ := (hb.block _ hw1).trans HX1.out
    have HB2 := Lib.hid (HB1.out.trans (hb.mono HB1.out.size))
    have HN2 := Lib.hid (HN1.out.below hb)
    have hw2 : w.heap.size < w2.heap.size := blk_lt hx2
    have c0 := blk_cell hx2 0
    have c1 := blk_cell hx2 1
    have c2 := blk_cell hx2 2
    have c3 := blk_cell hx2 3
    have c4 := blk_cell hx2 4
    simp at c0 c1 c2 c3 c4
    have e0 := box_ext (B := w2.heap.size) c0 hw2
    have e1 := box_ext (B := w2.heap.size) c1 hw2
    have e2 := box_ext (B := w2.heap.size) c2 hw2
    have e3 := box_ext (B := w2.heap.size) c3 hw2
    have e4 := box_ext (B := w2.heap.size) c4 hw2
    clear hb hx2
    have k1 : ∀ W : Ext w2.heap.size w2, Calls Try.prog 10 #[.agg #[.int .i64 tag, .int .i64 kind, .int .i64 n, .string ⟨s.toArray⟩, .slice a len cap]] W.val fun e w'' => e = .returned (.bool (okT t)) ∧ ∃ W' : Ext w2.heap.size w2, w'' = W'.val := fun W => Calls.ext W (valid_any t _ W.val (HN2.out.below W.prop) HI.out)
    have k2 : ∀ W : Ext w2.heap.size w2, Calls Try.prog 11 #[.agg #[.int .i64 tag, .int .i64 kind, .int .i64 n, .string ⟨s.toArray⟩, .slice a len cap]] W.val fun e w'' => e = .returned (.bool (okT t)) ∧ ∃ W' : Ext w2.heap.size w2, w'' = W'.val := fun W => Calls.ext W (rvalid_any t _ W.val (HN2.out.below W.prop) HI.out)
    have k3 : ∀ W : Ext w2.heap.size w2, Calls Try.prog 12 #[] W.val fun e w'' => e = .returned (.bool true) ∧ ∃ W' : Ext w2.heap.size w2, w'' = W'.val := fun W => Calls.ext W (awake_any W.val)
    rw [HQ.out] at k1 k2
    have q0 : ∀ W : Ext w2.heap.size w2, (convert 25 9 (.slice none 0 0)).run Try.prog W.val = .ok (.string ⟨([] : List UInt8).toArray⟩) W.val := fun W => str_of (bytes_nil W.val)
    clear c0 c1 c2 c3 c4
    go_wp2_with fail
    refine wp_region_ext w2.heap.size w2 (by kernel_rfl) (by kernel_rfl) (Below.refl _ _) ?_
    repeat (first | go_big_quiet_step (first
      | with_reducible exact k1 _
      | with_reducible exact k2 _
      | with_reducible exact k3 _))
    refine wpQuiet_nil ?_
    intro W
    have hb5 : Below w.heap.size w W.val := HB2.out.trans (W.prop.mono HB2.out.size)
    generalize W.val = w5 at *
    go_wp2_with fail
    go_ret
    exact ⟨rfl, hb5⟩


theorem codecEncodes_walk {H : Type} {enc : TypeId × Value → H} (W : World) (base : Nat) (args : Array Value) (ds gs : List (DataW H)) (before : List MemPlace)
    (hval : ∀ (j : Nat) t v, Try.f3.params[j]? = some t → args[j]? = some v → Value.okWide Try.prog W .any base t v)
    (hW : DataW.Whole enc Try.prog Try.f3.params.toList Rows.codecEncodesSpec.vars false W args.toList ds gs before)
    (_hsz : (DataW.weightsEach Try.prog (Try.f3.params.toList ++ Rows.codecEncodesSpec.plain.varTypes Try.prog) (ds ++ gs)).all (· ≤ reachBytes) = true) :
    Calls Try.prog 3 args W fun e w' => e = .returned (.bool true) ∧ Below W.heap.size W w' := by
  obtain ⟨p, q, hA, hV, -, -, -⟩ := hW
  obtain ⟨rfl, -⟩ := trodVars_none hV
  rw [Try.params3] at hA hval
  obtain ⟨v0, d0, rfl, rfl, h0⟩ := trodAll_one hA
  obtain ⟨t, hN, hi⟩ := open_node (hval 0 _ _ rfl rfl) h0
  exact encodes_calls t v0 W hN hi

set_option maxRecDepth 100000 in
theorem codecEncodes_lifted (os : Os) (started : os.Started) (H : Type) (enc : TypeId × Value → H) :
    ReturnsInHanded {} Try.checked os 3 .any (Rows.codecEncodesSpec.pre6 enc Try.prog Try.f3 Rows.codecEncodesRow.domain false) (Rows.codecEncodesSpec.post enc Try.prog Try.f3 false true false false) := by
  refine returnsInHanded_of_change_sized (C := Try.checked) own started (by kernel_rfl) Try.func3
    (ChangeSpec.witness6 (enc := enc) (C := Try.checked) false ⟨#[], #[.agg #[.int .i64 0, .int .i64 0, .int .i64 0, .string ⟨#[]⟩, .slice none 0 0]], []⟩ 8 (by kernel_rfl) (by kernel_rfl) (by kernel_rfl) (by kernel_rfl)) ?_
  intro W base args ds gs before hval hW _ hsz _
  exact law_post rfl (by kernel_rfl) (by kernel_rfl) (fun ds h => match ds, h with | [d0], _ => ⟨rfl, rfl, rfl⟩) hW (codecEncodes_walk W base args ds gs before hval hW hsz)

theorem codecEncodes_over : Rows.codecEncodesRow.holds Try.pinned (OpenSpec.ofChange Rows.codecEncodesSpec) :=
  OpenClaim.holds_of_wide 3 Try.f3 rfl rfl rfl rfl rfl rfl rfl ⟨rfl, rfl, rfl, rfl, rfl⟩ rfl rfl rfl rfl rfl (by kernel_rfl) Try.func3 (by kernel_rfl)
    (of_decide_eq_true (by kernel_rfl)) (by unfold Func.isWrapper; first | (rw [if_pos (by decide +kernel)]; kernel_rfl) | (rw [if_neg (by decide +kernel)]; exact ⟨rfl, rfl⟩))
    (fun os started H enc _ => codecEncodes_lifted os started H enc)

theorem codecEncodes_proved : Rows.CodecEncodesSaid := codecEncodes_over

end Go.Proofs.Ytcgeipofpdckmaa
