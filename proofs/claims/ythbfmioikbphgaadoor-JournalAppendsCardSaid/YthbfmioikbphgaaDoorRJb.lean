/- The reference of the journal: Decode of the codec's reference, entry, read. -/
import Derived.Test.YthbfmioikbphgaaDoorRDb
import Derived.Test.YthbfmioikbphgaaDoorRJa
import Derived.Test.YthbfmioikbphgaaDoorJoB
namespace Go.Proofs.YthbfmioikbphgaaDoor
set_option maxRecDepth 100000
open Go.RowKit

set_option maxHeartbeats 2000000 in
theorem rdecode_any (bs : List UInt8) (a : Option Addr) (len cap : Nat) (w : World) (hx : Bytes w a len cap bs) (hl : len ≤ 1048576) :
    Calls Tryd.prog 63 #[.slice a len cap] w (NPr w len (decR bs)) := by
  have hlen : bs.length = len := hx.1
  have HE := Lib.hid (show decR bs = nodeD 4 8 bs by unfold decR; rw [if_neg (by omega), List.take_of_length_le (by omega)])
  rw [HE.out]
  have hb1 : Below w.heap.size w (w.alloc (.cells #[.int .i64 0, .int .i64 0, .int .i64 0, .string ⟨#[]⟩, .slice none 0 0] 25)) := (Below.refl _ _).alloc (Nat.le_refl _) _
  have HN := rnode_any 8 1 rfl bs 0 a len cap (w.alloc (.cells #[.int .i64 0, .int .i64 0, .int .i64 0, .string ⟨#[]⟩, .slice none 0 0] 25)) (hx.below hb1) hl (Nat.zero_le _)
  rw [List.drop_zero] at HN
  have HN := Lib.hid HN
  have HRz := Lib.hid (heap_alloc_new w (.cells #[.int .i64 0, .int .i64 0, .int .i64 0, .string ⟨#[]⟩, .slice none 0 0] 25))
  clear hx
  go_enter Tryd.func63, Tryd.ntmps63
  go_wp2_with fail
  refine (HN.out).mono ?_
  cases hq : nodeD 4 8 bs with
  | error x =>
    rintro e w2 ⟨rfl, hb2⟩
    have hb3 := hb1.trans (hb2.mono hb1.size)
    have hR3 := (hb2.block _ (blk_lt HRz.out)).trans HRz.out
    have hlz := blk_lt hR3
    have z0 := blk_cell hR3 0
    have z1 := blk_cell hR3 1
    have z2 := blk_cell hR3 2
    have z3 := blk_cell hR3 3
    have z4 := blk_cell hR3 4
    simp at z0 z1 z2 z3 z4
    have g0 := blk_free hR3 0
    have g1 := blk_free hR3 1
    have g2 := blk_free hR3 2
    have g3 := blk_free hR3 3
    have g4 := blk_free hR3 4
    clear hR3
    go_wp2_with fail
    exact bodyPost_ret (v := .tuple #[.agg #[.int .i64 0, .int .i64 0, .int .i64 0, .string ⟨#[]⟩, .slice none 0 0], .int .i64 0, .int .i64 x]) (by simp [results, Tryd.results63, go_sem, z0, z1, z2, z3, z4]) rfl (npr_err hq rfl (below_set5 hb3 (Nat.le_refl _) _ _ _ _ _))
  | ok r =>
    obtain ⟨t, l⟩ := r
    rintro e w2 ⟨nv, rfl, hN, hb2⟩
    obtain ⟨n0, n1, n2, n3, n4, n5, n6, rfl⟩ := hN.vals
    have hb3 := hb1.trans (hb2.mono hb1.size)
    have hR3 := (hb2.block _ (blk_lt HRz.out)).trans HRz.out
    have hlz := blk_lt hR3
    have z0 := blk_cell hR3 0
    have z1 := blk_cell hR3 1
    have z2 := blk_cell hR3 2
    have z3 := blk_cell hR3 3
    have z4 := blk_cell hR3 4
    simp at z0 z1 z2 z3 z4
    have g0 := blk_free hR3 0
    have g1 := blk_free hR3 1
    have g2 := blk_free hR3 2
    have g3 := blk_free hR3 3
    have g4 := blk_free hR3 4
    clear hR3
    have HNF := Lib.hid (show NodeS (fun b => w.heap.size ≤ b) (((((w2.setCell ⟨w.heap.size, 0, none⟩ (.int .i64 n0)).setCell ⟨w.heap.size, 1, none⟩ (.int .i64 n1)).setCell ⟨w.heap.size, 2, none⟩ (.int .i64 n2)).setCell ⟨w.heap.size, 3, none⟩ (.string ⟨n3.toArray⟩)).setCell ⟨w.heap.size, 4, none⟩ (.slice n4 n5 n6)) t (.agg #[.int .i64 n0, .int .i64 n1, .int .i64 n2, .string ⟨n3.toArray⟩, .slice n4 n5 n6]) from hN.keep (by simp) fun b h1 _ => ⟨by simp at h1; omega, set5_other _ _ _ _ _ (by simp at h1; omega)⟩)
    clear hN
    go_wp2_with fail
    exact bodyPost_ret (v := .tuple #[.agg #[.int .i64 n0, .int .i64 n1, .int .i64 n2, .string ⟨n3.toArray⟩, .slice n4 n5 n6], .int .i64 ((len - l.length : Nat) : Int), .int .i64 0]) (by simp [results, Tryd.results63, go_sem, z0, z1, z2, z3, z4]) rfl (npr_ok hq rfl rfl HNF.out (below_set5 hb3 (Nat.le_refl _) _ _ _ _ _))

end Go.Proofs.YthbfmioikbphgaaDoor
