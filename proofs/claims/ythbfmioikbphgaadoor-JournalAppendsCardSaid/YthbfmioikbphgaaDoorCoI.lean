/- The codec: what Valid, Encode, Int and String return. -/
import Derived.Test.YthbfmioikbphgaaDoorCoH
namespace Go.Proofs.YthbfmioikbphgaaDoor
set_option maxRecDepth 100000
open Go.RowKit

/-- 'make([]T, 0, n)': one operation -/
theorem wp_mk0 {P : Program} {w : World} {o : Oper} {a : Act} {K : Act → World → Prop} {Q : Exit → Act → World → Prop} (l c : Operand) (t : TypeId) (hop : o.op = Op.makeSlice t l c)
    (e : TypeId) (z : Value) (bytes : Nat) (ht : P.underlying t = some (.slice e)) (hi : (P.info? e).map (fun i => (i.zero, i.size, i.bytes)) = some (some z, 1, bytes))
    (kl kc : IntKind) (C : Int) (n : Nat) (hl : a.eval l = .int kl 0) (hc : a.eval c = .int kc C) (hC : C = (n : Int)) (hb : bytes * n ≤ 281474976710656) (hn : n ≤ maxLen)
    (hK : ∀ w', Owns w' w.heap.size e (.slice (some ⟨w.heap.size, 0, none⟩) 0 n) [] → Below w.heap.size w w' → K (a.put o.dst (.slice (some ⟨w.heap.size, 0, none⟩) 0 n)) w') : o.wp P a w K Q := by
  obtain ⟨i, hi', hz, hsize, hby⟩ := info_parts hi
  obtain ⟨w', hrun, r1, r2⟩ := run_make_own (P := P) w w.heap.size t e i z 1 ht hi' hz hsize kl kc n (by rw [hby]; exact hb) hn (Nat.le_refl _)
  subst hC
  unfold Oper.wp
  simp [execOp, hop, hl, hc, hrun, Result.andThen]
  exact hK w' r1 ((Below.refl _ _).grown r2 (Nat.le_refl _) (by simp))

/-- whether a tree can be encoded -/
def okT (t : NodeT) : Bool := mesB 1 t 1048576
theorem okT_fit {t : NodeT} (h : okT t = true) : fitT 1 t = true := mesB_fit h
theorem okT_len {t : NodeT} (h : okT t = true) : (encT t).length ≤ 1048576 := mesB_len h

set_option maxHeartbeats 4000000 in
theorem valid_any (t : NodeT) (v : Value) (w : World) (hN : NodeIn w t v) (hi : i64T t) :
    Calls Tryd.prog 30 #[v] w fun e w' => e = .returned (.bool (okT t)) ∧ Below w.heap.size w w' := by
  obtain ⟨tag, kind, n, s, a, len, cap, kids, ht, rfl, hs, hk⟩ := hN.form
  have HN := Lib.hid hN
  have HI := Lib.hid hi
  clear hN hi hk ht
  cases hq : okT t with
  | true =>
    have HM := Lib.hid (mesV_yes hq)
    have hb0 : Below w.heap.size w (w.alloc (.cells #[.int .i64 tag, .int .i64 kind, .int .i64 n, .string ⟨s.toArray⟩, .slice a len cap] 25)) := (Below.refl _ _).alloc (Nat.le_refl _) _
    go_enter Tryd.func30, Tryd.ntmps30
    go_wp2_with fail
    refine (measure_any 8 1 t _ 1048576 _ (by omega) (by omega) (HN.out.below hb0) HI.out (by omega)).mono ?_
    rintro e w1 ⟨rfl, hb⟩
    rw [HM.out]
    go_wp2_with fail
    go_ret
    exact ⟨rfl, hb0.trans (hb.mono hb0.size)⟩
  | false =>
    have HM := Lib.hid (mesV_no hq)
    have hb0 : Below w.heap.size w (w.alloc (.cells #[.int .i64 tag, .int .i64 kind, .int .i64 n, .string ⟨s.toArray⟩, .slice a len cap] 25)) := (Below.refl _ _).alloc (Nat.le_refl _) _
    go_enter Tryd.func30, Tryd.ntmps30
    go_wp2_with fail
    refine (measure_any 8 1 t _ 1048576 _ (by omega) (by omega) (HN.out.below hb0) HI.out (by omega)).mono ?_
    rintro e w1 ⟨rfl, hb⟩
    rw [HM.out]
    go_wp2_with fail
    go_ret
    exact ⟨rfl, hb0.trans (hb.mono hb0.size)⟩

set_option maxHeartbeats 4000000 in
theorem encode_no (t : NodeT) (v : Value) (w : World) (hN : NodeIn w t v) (hi : i64T t) (hq : okT t = false) :
    Calls Tryd.prog 31 #[v] w fun e w' => e = .returned (.tuple #[.slice none 0 0, .int .i64 1]) ∧ Below w.heap.size w w' := by
  obtain ⟨tag, kind, n, s, a, len, cap, kids, ht, rfl, hs, hk⟩ := hN.form
  have HN := Lib.hid hN
  have HI := Lib.hid hi
  clear hN hi hk ht
  have HM := Lib.hid (mesV_no hq)
  have hb0 : Below w.heap.size w (w.alloc (.cells #[.int .i64 tag, .int .i64 kind, .int .i64 n, .string ⟨s.toArray⟩, .slice a len cap] 25)) := (Below.refl _ _).alloc (Nat.le_refl _) _
  go_enter Tryd.func31, Tryd.ntmps31
  go_wp2_with fail
  refine (measure_any 8 1 t _ 1048576 _ (by omega) (by omega) (HN.out.below hb0) HI.out (by omega)).mono ?_
  rintro e w1 ⟨rfl, hb⟩
  rw [HM.out]
  go_wp2_with fail
  go_ret2
  exact ⟨rfl, hb0.trans (hb.mono hb0.size)⟩

set_option maxHeartbeats 4000000 in
theorem encode_ok (t : NodeT) (v : Value) (w : World) (hN : NodeIn w t v) (hi : i64T t) (hq : okT t = true) :
    Calls Tryd.prog 31 #[v] w fun e w' => ∃ a n c, e = .returned (.tuple #[.slice a n c, .int .i64 0]) ∧ Owns w' w.heap.size 5 (.slice a n c) (bvs (encT t)) ∧ Below w.heap.size w w' := by
  obtain ⟨tag, kind, n, s, a, len, cap, kids, ht, rfl, hs, hk⟩ := hN.form
  have HN := Lib.hid hN
  have HI := Lib.hid hi
  clear hN hi hk ht
  have HM := Lib.hid (mesV_yes hq)
  have hlen := okT_len hq
  have HF := Lib.hid (okT_fit hq)
  have hb0 : Below w.heap.size w (w.alloc (.cells #[.int .i64 tag, .int .i64 kind, .int .i64 n, .string ⟨s.toArray⟩, .slice a len cap] 25)) := (Below.refl _ _).alloc (Nat.le_refl _) _
  have hx0 := heap_alloc_new w (.cells #[.int .i64 tag, .int .i64 kind, .int .i64 n, .string ⟨s.toArray⟩, .slice a len cap] 25)
  go_enter Tryd.func31, Tryd.ntmps31
  go_wp2_with fail
  generalize w.alloc (.cells #[.int .i64 tag, .int .i64 kind, .int .i64 n, .string ⟨s.toArray⟩, .slice a len cap] 25) = wa at *
  refine (measure_any 8 1 t _ 1048576 _ (by omega) (by omega) (HN.out.below hb0) HI.out (by omega)).mono ?_
  rintro e w1 ⟨rfl, hb⟩
  rw [HM.out]
  have hx1 : w1.heap[w.heap.size]? = _ := (hb.block _ (blk_lt hx0)).trans hx0
  have hb1 : Below w.heap.size w w1 := hb0.trans (hb.mono hb0.size)
  have HB1 := Lib.hid hb1
  have hw1 : w.heap.size < w1.heap.size := blk_lt hx1
  have c0 := blk_cell hx1 0
  have c1 := blk_cell hx1 1
  have c2 := blk_cell hx1 2
  have c3 := blk_cell hx1 3
  have c4 := blk_cell hx1 4
  simp at c0 c1 c2 c3 c4
  clear hx0 hx1 hb hb0 hb1
  generalize hL : (encT t).length = L at *
  go_wp2_with fail
  have e0 := box_ext (B := w1.heap.size) c0 hw1
  have e1 := box_ext (B := w1.heap.size) c1 hw1
  have e2 := box_ext (B := w1.heap.size) c2 hw1
  have e3 := box_ext (B := w1.heap.size) c3 hw1
  have e4 := box_ext (B := w1.heap.size) c4 hw1
  refine wp_region_sched [(0, false), (2, false), (1, true), (3, true), (4, false), (5, false)] (fun w' => ∃ W : Ext w1.heap.size w1, w' = W.1) (by kernel_rfl) (by kernel_rfl) ⟨⟨w1.drew, (Below.refl _ _).drew⟩, rfl⟩ ?_
  repeat (refine wpSched_calm rfl (fun K hK => ?_); go_simp; refine hK _ ?_; clear hK K)
  clear e0 e1 e2 e3 e4
  have hbd : Below w1.heap.size w1 w1.drew := (Below.refl _ _).drew
  have HBd := Lib.hid (HB1.out.trans (hbd.mono HB1.out.size))
  have HNd := Lib.hid (HN.out.below HBd.out)
  generalize w1.drew = w2 at *
  refine wpSched_eff rfl rfl (fun K hK => ?_)
  refine wp_mk0 (.const (.int .i64 0)) (.tmp 13) 22 rfl 5 (.int .u8 0) 1 Tryd.underlying22 infoByte .i64 .i64 L L rfl rfl rfl (by omega) (by simp only [maxLen]; omega) fun w3 hO3 hb3 => ?_
  have HO3 := Lib.hid hO3
  have HB3 := Lib.hid (HBd.out.trans (hb3.mono HBd.out.size))
  have hs3 : w2.heap.size ≤ w3.heap.size := hb3.size
  have hE3 : Below w1.heap.size w1 w3 := hbd.trans (hb3.mono hbd.size)
  refine hK _ _ ⟨⟨w3, hE3⟩, rfl⟩ ?_
  clear hK K hO3
  refine wpSched_eff rfl rfl (fun K hK => ?_)
  go_simp
  refine (anode_any w2 w2.heap.size (Nat.le_refl _) 8 t _ _ [] w3 (by omega) HF.out HI.out HNd.out hb3 HO3.out (by rw [hL]; simp; omega) hs3).mono ?_
  rintro e w4 ⟨v4, rfl, h4, hg4⟩
  obtain ⟨a4, n4, c4', rfl⟩ : ∃ a n c, v4 = .slice a n c := by
    obtain ⟨a, cap, hv, -⟩ := h4.form
    exact ⟨_, _, _, hv⟩
  have hb4 : Below w3.heap.size w3 w4 ∨ True := .inr trivial
  have hB4 : Below w2.heap.size w2 w4 := hb3.trans (hg4.below hs3 HO3.out.lt)
  have HO4 := Lib.hid (h4.mono (B' := w.heap.size) HBd.out.size)
  have HB4 := Lib.hid (HBd.out.trans (hB4.mono HBd.out.size))
  simp only [List.nil_append] at HO4
  refine hK _ _ ⟨⟨w4, hbd.trans (hB4.mono hbd.size)⟩, rfl⟩ ?_
  clear hK K h4 hg4 hb4 hB4 hE3 hb3 hbd
  repeat (refine wpSched_calm rfl (fun K hK => ?_); go_simp; refine hK _ ?_; clear hK K)
  refine wpSched_nil ?_
  go_wp2_with fail
  go_ret2
  exact ⟨_, _, _, rfl, HO4.out, HB4.out⟩
end Go.Proofs.YthbfmioikbphgaaDoor
