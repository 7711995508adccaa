/- The reference of the codec: what Encode and Valid return. -/
import Derived.Test.YthbfmioikbphgaaDoorRCoB
namespace Go.Proofs.YthbfmioikbphgaaDoor
set_option maxRecDepth 100000
open Go.RowKit

/-- whether the tree fits, without its length -/
theorem okT_iff {t : NodeT} : okT t = (fitT 1 t && decide ((encT t).length ≤ 1048576)) := rfl

set_option maxHeartbeats 4000000 in
theorem rencode_no (t : NodeT) (v : Value) (w : World) (hN : NodeIn w t v) (hi : i64T t) (hq : okT t = false) :
    Calls Tryd.prog 36 #[v] w fun e w' => e = .returned (.tuple #[.slice none 0 0, .int .i64 1]) ∧ Below w.heap.size w w' := by
  obtain ⟨tag, kind, n, s, a, len, cap, kids, ht, rfl, hs, hk⟩ := hN.form
  have hb0 : Below w.heap.size w (w.alloc (.cells #[.int .i64 tag, .int .i64 kind, .int .i64 n, .string ⟨s.toArray⟩, .slice a len cap] 25)) := (Below.refl _ _).alloc (Nat.le_refl _) _
  have hx0 := heap_alloc_new w (.cells #[.int .i64 tag, .int .i64 kind, .int .i64 n, .string ⟨s.toArray⟩, .slice a len cap] 25)
  have HN := Lib.hid (hN.below hb0)
  have HI := Lib.hid hi
  clear hN hi hk ht
  cases hf : fitT 1 t with
  | false =>
    have HF := Lib.hid hf
    clear hf hq
    go_enter Tryd.func36, Tryd.ntmps36
    go_wp2_with fail
    generalize w.alloc (.cells #[.int .i64 tag, .int .i64 kind, .int .i64 n, .string ⟨s.toArray⟩, .slice a len cap] 25) = wa at *
    have hwa : w.heap.size < wa.heap.size := blk_lt hx0
    refine (rfits_any 8 1 t _ _ (by omega) HN.out HI.out).mono ?_
    rintro e w1 ⟨rfl, hb⟩
    rw [HF.out]
    have HB1 := Lib.hid (hb0.trans (hb.mono hb0.size))
    clear hb hx0
    go_wp2_with fail
    go_ret2
    exact ⟨rfl, HB1.out⟩
  | true =>
    have hlen : 1048576 < (encT t).length := by rw [okT_iff, hf] at hq; simpa using hq
    have HF := Lib.hid hf
    clear hf hq
    go_enter Tryd.func36, Tryd.ntmps36
    go_wp2_with fail
    generalize w.alloc (.cells #[.int .i64 tag, .int .i64 kind, .int .i64 n, .string ⟨s.toArray⟩, .slice a len cap] 25) = wa at *
    have hwa : w.heap.size < wa.heap.size := blk_lt hx0
    refine (rfits_any 8 1 t _ _ (by omega) HN.out HI.out).mono ?_
    rintro e w1 ⟨rfl, hb⟩
    rw [HF.out]
    have hx1 : w1.heap[w.heap.size]? = _ := (hb.block _ hwa).trans hx0
    have HB1 := Lib.hid (hb0.trans (hb.mono hb0.size))
    have hN1 := HN.out.below hb
    have hw1 : w.heap.size < w1.heap.size := blk_lt hx1
    have c0 := blk_cell hx1 0
    have c1 := blk_cell hx1 1
    have c2 := blk_cell hx1 2
    have c3 := blk_cell hx1 3
    have c4 := blk_cell hx1 4
    simp at c0 c1 c2 c3 c4
    clear hb hx0 hx1
    have HN1 := Lib.hid hN1
    clear hN1
    go_wp2_with fail
    refine (rwrite_any w1 w1.heap.size (Nat.le_refl _) 8 t _ _ [] w1 (by omega) HF.out HI.out HN1.out (Below.refl _ _) (Owns.nil _ _ _) (by simp) (Nat.le_refl _)).mono ?_
    rintro e w2 ⟨v', ys, rfl, hwr, hO, hG⟩
    have HB2 := Lib.hid (HB1.out.trans ((grew_base (Below.refl w1.heap.size w1) (Nat.le_refl _) (fun j hj => by cases hj) hG).mono HB1.out.size))
    obtain ⟨av, nv, cv, rfl, hvb⟩ := hO.bytes
    have hnv : ys.length = nv := hvb.1
    have hbig := hwr.2.2.1 (by simpa using hlen)
    have hd : decide (1048576 < (nv : Int)) = true := by simp; omega
    clear hO hG hwr hvb hbig c0 c1 c2 c3 c4
    go_wp2_with fail
    go_ret2
    exact ⟨rfl, HB2.out⟩

set_option maxHeartbeats 4000000 in
theorem rencode_ok (t : NodeT) (v : Value) (w : World) (hN : NodeIn w t v) (hi : i64T t) (hq : okT t = true) :
    Calls Tryd.prog 36 #[v] w fun e w' => ∃ a n c, e = .returned (.tuple #[.slice a n c, .int .i64 0]) ∧ Owns w' w.heap.size 5 (.slice a n c) (bvs (encT t)) ∧ Below w.heap.size w w' := by
  obtain ⟨tag, kind, n, s, a, len, cap, kids, ht, rfl, hs, hk⟩ := hN.form
  have hb0 : Below w.heap.size w (w.alloc (.cells #[.int .i64 tag, .int .i64 kind, .int .i64 n, .string ⟨s.toArray⟩, .slice a len cap] 25)) := (Below.refl _ _).alloc (Nat.le_refl _) _
  have hx0 := heap_alloc_new w (.cells #[.int .i64 tag, .int .i64 kind, .int .i64 n, .string ⟨s.toArray⟩, .slice a len cap] 25)
  have HN := Lib.hid (hN.below hb0)
  have HI := Lib.hid hi
  clear hN hi hk ht
  have hlen := okT_len hq
  have HF := Lib.hid (okT_fit hq)
  clear hq
  go_enter Tryd.func36, Tryd.ntmps36
  go_wp2_with fail
  generalize w.alloc (.cells #[.int .i64 tag, .int .i64 kind, .int .i64 n, .string ⟨s.toArray⟩, .slice a len cap] 25) = wa at *
  have hwa : w.heap.size < wa.heap.size := blk_lt hx0
  refine (rfits_any 8 1 t _ _ (by omega) HN.out HI.out).mono ?_
  rintro e w1 ⟨rfl, hb⟩
  rw [HF.out]
  have hx1 : w1.heap[w.heap.size]? = _ := (hb.block _ hwa).trans hx0
  have HB1 := Lib.hid (hb0.trans (hb.mono hb0.size))
  have hN1 := HN.out.below hb
  have hw1 : w.heap.size < w1.heap.size := blk_lt hx1
  have c0 := blk_cell hx1 0
  have c1 := blk_cell hx1 1
  have c2 := blk_cell hx1 2
  have c3 := blk_cell hx1 3
  have c4 := blk_cell hx1 4
  simp at c0 c1 c2 c3 c4
  clear hb hx0 hx1
  have HN1 := Lib.hid hN1
  clear hN1
  go_wp2_with fail
  refine (rwrite_any w1 w1.heap.size (Nat.le_refl _) 8 t _ _ [] w1 (by omega) HF.out HI.out HN1.out (Below.refl _ _) (Owns.nil _ _ _) (by simp) (Nat.le_refl _)).mono ?_
  rintro e w2 ⟨v', ys, rfl, hwr, hO, hG⟩
  have HB2 := Lib.hid (HB1.out.trans ((grew_base (Below.refl w1.heap.size w1) (Nat.le_refl _) (fun j hj => by cases hj) hG).mono HB1.out.size))
  have hys : ys = encT t := by simpa using hwr.2.1 (by simpa using hlen)
  subst hys
  obtain ⟨av, nv, cv, rfl, hvb⟩ := hO.bytes
  have hnv : (encT t).length = nv := hvb.1
  have hd : decide (1048576 < (nv : Int)) = false := by simp; omega
  have HO := Lib.hid (hO.mono (B' := w.heap.size) HB1.out.size)
  clear hO hG hwr hvb c0 c1 c2 c3 c4 hnv hlen
  go_wp2_with fail
  go_ret2
  exact ⟨_, _, _, rfl, HO.out, HB2.out⟩

end Go.Proofs.YthbfmioikbphgaaDoor
