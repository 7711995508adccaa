/- 0-1 programs: what newSearch returns. -/
import Derived.Test.YtkgikajfeihbbaaZsN
namespace Go.Proofs.Ytkgikajfeihbbaa
set_option maxRecDepth 100000
open Go.RowKit

/-- worlds that differ in block g alone, but not in its cell o -/
structure GC (g o : Nat) (v : Value) (w : World) where
  val : World
  prop : But (fun i => i = g) w val ∧ val.cell? ⟨g, o, none⟩ = some v
set_option maxHeartbeats 40000000 in
theorem newsearch_any (p : ProbM) (free : List Nat) (a0 a1 a2 af : Option Addr) (n m k c0 c1 c2 cf : Nat) (w : World) (h0 : Row .i64 w a0 n c0 p.val) (h1 : RowsIn w a1 m c1 p.rows) (h2 : Row .i64 w a2 n c2 p.fix) (hf : Ints w af k cf (ixs free)) (hv : ValidM p) (hlt : ∀ i ∈ free, i < n) (hnd : free.Nodup) (hk : k ≤ n) (hk2 : k ≤ 19) :
    Calls Try.prog 50 #[.agg #[.slice a0 n c0, .slice a1 m c1, .slice a2 n c2], .slice af k cf] w fun e w' => ∃ S ord, e = .returned (.pointer (some ⟨Sh.g S, 0, none⟩)) ∧ NewS w w' S p free ord := by
  have HV := Lib.hid hv
  have HFr := Lib.hid (And.intro hlt hnd)
  have e0 := Lib.hid h0.1
  have e1 := Lib.hid h1.1
  have e2 := Lib.hid h2.1
  have ef := Lib.hid (show free.length = k by rw [← hf.1, ixs_len])
  have hn : n ≤ 24 := by rw [← h0.1]; exact hv.n
  have hm : m ≤ 60 := by rw [← h1.1]; exact hv.m
  have HTr := Lib.hid (show Trits p.fix from hv.fix)
  have HFl := Lib.hid (show ∀ e, e < k → free.getD e 0 < n from fun e he => hlt _ (by have h := hf.1; rw [ixs_len] at h; simp [List.getD, List.getElem?_eq_getElem (show e < free.length by omega)]))
  have hb0 : Below w.heap.size w ((w.alloc (.cells #[.slice a0 n c0, .slice a1 m c1, .slice a2 n c2] 25)).alloc (.cells #[.slice af k cf] 22)) := ((Below.refl _ _).alloc (Nat.le_refl _) _).alloc (by simp) _
  have cK0 : ((w.alloc (.cells #[.slice a0 n c0, .slice a1 m c1, .slice a2 n c2] 25)).alloc (.cells #[.slice af k cf] 22)).cell? ⟨w.heap.size, 0, none⟩ = some (.slice a0 n c0) := by go_simp
  have cK1 : ((w.alloc (.cells #[.slice a0 n c0, .slice a1 m c1, .slice a2 n c2] 25)).alloc (.cells #[.slice af k cf] 22)).cell? ⟨w.heap.size, 1, none⟩ = some (.slice a1 m c1) := by go_simp
  have cK2 : ((w.alloc (.cells #[.slice a0 n c0, .slice a1 m c1, .slice a2 n c2] 25)).alloc (.cells #[.slice af k cf] 22)).cell? ⟨w.heap.size, 2, none⟩ = some (.slice a2 n c2) := by go_simp
  have cL0 : ((w.alloc (.cells #[.slice a0 n c0, .slice a1 m c1, .slice a2 n c2] 25)).alloc (.cells #[.slice af k cf] 22)).cell? ⟨w.heap.size + 1, 0, none⟩ = some (.slice af k cf) := by go_simp
  have hsz : w.heap.size + 1 < ((w.alloc (.cells #[.slice a0 n c0, .slice a1 m c1, .slice a2 n c2] 25)).alloc (.cells #[.slice af k cf] 22)).heap.size := by simp
  go_enter Try.func50, Try.ntmps50
  go_wp2_with fail
  generalize ((w.alloc (.cells #[.slice a0 n c0, .slice a1 m c1, .slice a2 n c2] 25)).alloc (.cells #[.slice af k cf] 22)) = w0 at *
  have HA := Lib.hid (show ∀ w', Below w0.heap.size w0 w' → Row .i64 w' a0 n c0 p.val ∧ RowsIn w' a1 m c1 p.rows ∧ Row .i64 w' a2 n c2 p.fix ∧ Ints w' af k cf (ixs free) ∧ w'.cell? ⟨w.heap.size, 0, none⟩ = some (.slice a0 n c0) ∧ w'.cell? ⟨w.heap.size, 1, none⟩ = some (.slice a1 m c1) ∧ w'.cell? ⟨w.heap.size, 2, none⟩ = some (.slice a2 n c2) ∧ w'.cell? ⟨w.heap.size + 1, 0, none⟩ = some (.slice af k cf) from fun w' hb => by
    have hbb := hb0.trans (hb.mono hb0.size)
    exact ⟨h0.below hbb, h1.below hbb, h2.below hbb, hf.below hbb, bc hb (by omega) cK0, bc hb (by omega) cK1, bc hb (by omega) cK2, bc hb (by omega) cL0⟩)
  have HAw := Lib.hid (show ∀ w', Below w.heap.size w w' → Row .i64 w' a0 n c0 p.val ∧ RowsIn w' a1 m c1 p.rows ∧ Row .i64 w' a2 n c2 p.fix ∧ Ints w' af k cf (ixs free) from fun w' hb => ⟨h0.below hb, h1.below hb, h2.below hb, hf.below hb⟩)
  clear h0 h1 h2 hf hv hlt hnd cK0 cK1 cK2 cL0
  -- the row of ones, the search
  have q1 : ∀ W : Ext w0.heap.size w0, W.1.cell? ⟨w.heap.size, 0, none⟩ = some (.slice a0 n c0) := fun W => (HA.out W.1 W.2).2.2.2.2.1
  have q2 : ∀ W : Ext w0.heap.size w0, W.1.cell? ⟨w.heap.size, 1, none⟩ = some (.slice a1 m c1) := fun W => (HA.out W.1 W.2).2.2.2.2.2.1
  have q3 : ∀ W : Ext w0.heap.size w0, W.1.cell? ⟨w.heap.size, 2, none⟩ = some (.slice a2 n c2) := fun W => (HA.out W.1 W.2).2.2.2.2.2.2.1
  have q4 : ∀ W : Ext w0.heap.size w0, W.1.cell? ⟨w.heap.size + 1, 0, none⟩ = some (.slice af k cf) := fun W => (HA.out W.1 W.2).2.2.2.2.2.2.2
  refine wp_region_sched [(0, false), (1, false), (2, false), (3, true), (4, false), (5, true), (6, false)] (fun w' => ∃ W : Ext w0.heap.size w0, w' = W.1) (by kernel_rfl) (by kernel_rfl) ⟨⟨w0.drew, (Below.refl _ _).drew⟩, rfl⟩ ?_
  repeat (refine wpSched_calm rfl (fun K hK => ?_); go_simp; refine hK _ ?_; clear hK K)
  clear q1 q2 q3 q4
  have hbd : Below w0.heap.size w0 w0.drew := (Below.refl _ _).drew
  have hsd : w0.heap.size = w0.drew.heap.size := rfl
  generalize w0.drew = w1 at *
  refine wpSched_eff rfl rfl (fun K hK => ?_)
  go_simp
  refine (widest_any p a0 a1 a2 n c0 m c1 n c2 w1 (HA.out _ hbd).2.1 HV.out).mono ?_
  rintro e w2 ⟨wd, rfl, hwd, hb⟩
  have HWd := Lib.hid hwd
  have hB2 := hbd.trans (hb.mono (Nat.le_of_eq hsd))
  clear hwd hbd hsd hb
  refine hK _ _ ⟨⟨w2, hB2⟩, rfl⟩ ?_
  clear hK K
  repeat (refine wpSched_calm rfl (fun K hK => ?_); go_simp; refine hK _ ?_; clear hK K)
  refine wpSched_eff rfl rfl (fun K hK => ?_)
  go_simp
  refine hK _ _ ⟨⟨_, hB2.alloc hB2.size _⟩, rfl⟩ ?_
  clear hK K
  repeat (refine wpSched_calm rfl (fun K hK => ?_); go_simp; refine hK _ ?_; clear hK K)
  refine wpSched_nil ?_
  have hgl : w0.heap.size ≤ w2.heap.size := hB2.size
  have hB3 : Below w0.heap.size w0 (w2.alloc (.cells #[.slice a0 n c0, .slice a1 m c1, .slice a2 n c2, .slice af k cf, .bool false, .bool false, .slice none 0 0, .int .i64 0, .slice none 0 0, .slice none 0 0, .slice none 0 0, .int .i64 wd, .slice none 0 0, .int .i64 0, .slice none 0 0, .int .i64 0, .bool false] 71)) := hB2.alloc hB2.size _
  have hK3 : (w2.alloc (.cells #[.slice a0 n c0, .slice a1 m c1, .slice a2 n c2, .slice af k cf, .bool false, .bool false, .slice none 0 0, .int .i64 0, .slice none 0 0, .slice none 0 0, .slice none 0 0, .int .i64 wd, .slice none 0 0, .int .i64 0, .slice none 0 0, .int .i64 0, .bool false] 71)).heap[w2.heap.size]? = some (.cells #[.slice a0 n c0, .slice a1 m c1, .slice a2 n c2, .slice af k cf, .bool false, .bool false, .slice none 0 0, .int .i64 0, .slice none 0 0, .slice none 0 0, .slice none 0 0, .int .i64 wd, .slice none 0 0, .int .i64 0, .slice none 0 0, .int .i64 0, .bool false] 71) := heap_alloc_new _ _
  generalize (w2.alloc (.cells #[.slice a0 n c0, .slice a1 m c1, .slice a2 n c2, .slice af k cf, .bool false, .bool false, .slice none 0 0, .int .i64 0, .slice none 0 0, .slice none 0 0, .slice none 0 0, .int .i64 wd, .slice none 0 0, .int .i64 0, .slice none 0 0, .int .i64 0, .bool false] 71)) = w3 at *
  generalize w2.heap.size = g at *
  have hg3 := blk_lt hK3
  have c30 := (HA.out w3 hB3).2.2.2.2.1
  go_wp2_with (at_make; refine wpList_mkn rfl _ _ 22 rfl 3 (.int .i64 0) 8 Try.underlying22 infoInt rfl .i64 .i64 _ _ n rfl rfl rfl rfl (by omega) (by unfold maxLen; omega) fun w4 ho1 hb1 => ?_; have y6 : w4.cell? ⟨g, 6, none⟩ = some (.slice none 0 0) := bc hb1 hg3 ((blk_cell hK3 6).trans rfl); have z6 : w4.frozen? ⟨g, 6, none⟩ = false := bf hb1 hg3 (blk_free hK3 6); have hB4 := hB3.trans (hb1.mono hB3.size); have hB5 : Below w0.heap.size w0 (w4.setCell ⟨g, 6, none⟩ (.slice (some ⟨w3.heap.size, 0, none⟩) n n)) := hB4.setCell (p := ⟨g, 6, none⟩) hgl _; have c52 := (HA.out _ hB5).2.2.2.2.2.2.1)
  have hK5 : (w4.setCell ⟨g, 6, none⟩ (.slice (some ⟨w3.heap.size, 0, none⟩) n n)).heap[g]? = some (.cells #[.slice a0 n c0, .slice a1 m c1, .slice a2 n c2, .slice af k cf, .bool false, .bool false, (.slice (some ⟨w3.heap.size, 0, none⟩) n n), .int .i64 0, .slice none 0 0, .slice none 0 0, .slice none 0 0, .int .i64 wd, .slice none 0 0, .int .i64 0, .slice none 0 0, .int .i64 0, .bool false] 71) := (heap_setCell_same w4 g 6 _ _ (.slice (some ⟨w3.heap.size, 0, none⟩) n n) (by rw [hb1.block g hg3]; exact hK3)).trans rfl
  have HX5 := Lib.hid (show OwnI (w4.setCell ⟨g, 6, none⟩ (.slice (some ⟨w3.heap.size, 0, none⟩) n n)) w3.heap.size (.slice (some ⟨w3.heap.size, 0, none⟩) n n) (curS (List.replicate n 0) (x0Of p.fix) 0) from by
    rw [curS_zero]
    have h := ho1
    rw [ivs_zeros] at h
    exact OwnI.by h (gby_set _ _ _ _) (.inr (by simp [Value.ownBlock]; omega)))
  have hg5 : g < w3.heap.size := hg3
  have hx5 : w3.heap.size < (w4.setCell ⟨g, 6, none⟩ (.slice (some ⟨w3.heap.size, 0, none⟩) n n)).heap.size := Owns.in HX5.out w3.heap.size rfl
  clear y6 z6 ho1 hb1 hB4
  generalize (w4.setCell ⟨g, 6, none⟩ (.slice (some ⟨w3.heap.size, 0, none⟩) n n)) = w5 at *
  generalize w3.heap.size = gx at *
  clear hB3 hK3 hg3 c30 hB2
  replace HX5 := Lib.hid (HX5.out.mono (show w.heap.size ≤ gx by omega))
  have hBx : ∀ wr, But (fun i => i = gx) w5 wr → Below w0.heap.size w0 wr := fun wr hB => hB5.trans (hB.below (by omega) fun i hi => by omega)
  go_loopw [33] (fun u wr => ∃ j : Nat, j ≤ n ∧ u = .int .i64 j ∧ But (fun i => i = gx) w5 wr ∧ Hid (OwnI wr w.heap.size (.slice (some ⟨gx, 0, none⟩) n n) (curS (List.replicate n 0) (x0Of p.fix) j))) (fun u _ => n - (intOf u).toNat)
  case atStart => exact ⟨0, by omega, rfl, But.refl _ _, HX5⟩
  case round =>
    clear HX5 c52
    obtain ⟨j, hj, rfl, hB, HX⟩ := hrel
    have hbw := hBx wr hB
    have hBk := hB.blk (show ¬ g = gx by omega) hK5
    have y6 : wr.cell? ⟨g, 6, none⟩ = some (.slice (some ⟨gx, 0, none⟩) n n) := (blk_cell hBk 6).trans rfl
    by_cases hlt : j < n
    · obtain ⟨b, off, rfl, hbs, hcc⟩ := (HA.out wr hbw).2.2.1.2.2.at hlt
      have yf := hcc j hlt wr (Below.refl _ _)
      have yx := HX.out.cellAt j hlt
      have zx := HX.out.free j
      have HSet := Lib.hid (curS_set (List.replicate n 0) (x0Of p.fix) j (by simpa using hlt) (by rw [x0_len, e2.out]; exact hlt))
      rw [x0_at _ _ (by rw [e2.out]; exact hlt)] at HSet
      have hBn : ∀ v : Int, But (fun i => i = gx) w5 (wr.setCell ⟨gx, j, none⟩ (.int .i64 v)) := fun v => hB.trans (But.set wr gx j (.int .i64 v) fun _ => rfl)
      have HXn := Lib.hid (show ∀ v : Int, v = max (p.fix.getD j 0) 0 → OwnI (wr.setCell ⟨gx, j, none⟩ (.int .i64 v)) w.heap.size (.slice (some ⟨gx, 0, none⟩) n n) (curS (List.replicate n 0) (x0Of p.fix) (j + 1)) from fun v hv => by
        subst hv
        rw [← HSet.out]
        exact (HX.out.store j (max (p.fix.getD j 0) 0)).1)
      have htr := HTr.out j (by rw [e2.out]; exact hlt)
      generalize p.fix.getD j 0 = fx at *
      generalize (curS (List.replicate n 0) (x0Of p.fix) j).getD j 0 = old at *
      clear hcc HSet HX hB hBk
      by_cases hneg : fx < 0
      · go_wp2_with fail
        go_roundw
        case rel => exact ⟨j + 1, by omega, by go_num, hBn 0, Lib.hid (HXn.out 0 (by omega))⟩
        case measure => simp [intOf]; omega
      · go_wp2_with fail
        go_roundw
        case rel => exact ⟨j + 1, by omega, by go_num, hBn fx, Lib.hid (HXn.out fx (by omega))⟩
        case measure => simp [intOf]; omega
    · have HXe := Lib.hid (show OwnI wr w.heap.size (.slice (some ⟨gx, 0, none⟩) n n) (x0Of p.fix) by have h := HX.out; rwa [curS_end _ _ _ (by simp; omega) (by rw [x0_len, e2.out]; omega)] at h)
      clear HX hBx
      go_wp2_with fail
      have c0r := (HA.out wr hbw).2.2.2.2.1
      have hgr := blk_lt hBk
      have q1 : ∀ W : GC g 6 (.slice (some ⟨gx, 0, none⟩) n n) wr, W.1.cell? ⟨w.heap.size, 0, none⟩ = some (.slice a0 n c0) := fun W => W.2.1.cell (by have := hbw.size; omega) (by omega) c0r
      have q2 : ∀ W : GC g 6 (.slice (some ⟨gx, 0, none⟩) n n) wr, W.1.cell? ⟨g, 6, none⟩ = some (.slice (some ⟨gx, 0, none⟩) n n) := fun W => W.2.2
      have hNe : Nonempty (GC g 6 (.slice (some ⟨gx, 0, none⟩) n n) wr) := ⟨⟨wr, But.refl _ _, y6⟩⟩
      refine wp_region_sched [(0, false), (1, false), (2, false), (3, false), (4, false), (5, false), (6, false), (7, true), (8, false), (9, false), (10, true)] (fun w' => ∃ W : GC g 6 (.slice (some ⟨gx, 0, none⟩) n n) wr, w' = W.1) (by kernel_rfl) (by kernel_rfl) ⟨⟨wr.drew, (But.refl _ _).drew, y6⟩, rfl⟩ ?_
      repeat (refine wpSched_calm rfl (fun K hK => ?_); go_simp; refine hK _ ?_; clear hK K)
      refine wpSched_eff rfl rfl (fun K hK => ?_)
      go_simp
      have hbd : Below wr.heap.size wr wr.drew := (Below.refl _ _).drew
      have HXd := Lib.hid (HXe.out.below hbd)
      have hrx : Row .i64 wr.drew (some ⟨gx, 0, none⟩) n n (x0Of p.fix) := by
        obtain ⟨ax, cx, hax, h⟩ := HXd.out.row (wf_bits (x0_bits HTr.out))
        rw [x0_len, e2.out] at hax h
        cases hax; exact h
      have hbw2 := hbw.trans (hbd.mono hbw.size)
      refine (product_any p.val (x0Of p.fix) a0 (some ⟨gx, 0, none⟩) n c0 n wr.drew (HA.out _ hbw2).1 hrx hn HV.out.val (x0_bits HTr.out)).mono ?_
      rintro e w6 ⟨rfl, rfl⟩
      refine hK _ _ ⟨⟨wr.drew, (But.refl _ _).drew, y6⟩, rfl⟩ ?_
      clear hK K
      repeat (refine wpSched_calm rfl (fun K hK => ?_); go_simp; refine hK _ ?_; clear hK K)
      have hBk6 : wr.drew.heap[g]? = _ := hBk
      have y7 : wr.drew.cell? ⟨g, 7, none⟩ = some (.int .i64 0) := (blk_cell hBk6 7).trans rfl
      have z7 := blk_free hBk6 7
      refine wpSched_eff rfl rfl (fun K hK => ?_)
      go_simp
      refine hK _ _ ⟨⟨_, (But.refl _ _).drew.trans (But.set _ _ _ _ fun _ => rfl), (World.cell?_setCell_other _ _ _ _ (by simp)).trans y6⟩, rfl⟩ ?_
      clear hK K
      refine wpSched_nil ?_
      have hB7 : Below w0.heap.size w0 (wr.setCell ⟨g, 7, none⟩ (.int .i64 (dotL p.val (x0Of p.fix)))).drew := (hbw.setCell (p := ⟨g, 7, none⟩) hgl _).drew
      have hK7 : (wr.setCell ⟨g, 7, none⟩ (.int .i64 (dotL p.val (x0Of p.fix)))).drew.heap[g]? = some (.cells #[.slice a0 n c0, .slice a1 m c1, .slice a2 n c2, .slice af k cf, .bool false, .bool false, .slice (some ⟨gx, 0, none⟩) n n, .int .i64 (dotL p.val (x0Of p.fix)), .slice none 0 0, .slice none 0 0, .slice none 0 0, .int .i64 wd, .slice none 0 0, .int .i64 0, .slice none 0 0, .int .i64 0, .bool false] 71) := (heap_setCell_same wr g 7 _ _ (.int .i64 (dotL p.val (x0Of p.fix))) hBk).trans rfl
      have HX7 := Lib.hid (HXe.out.by (gby_set wr g 7 (.int .i64 (dotL p.val (x0Of p.fix)))) (.inr (by simp [Value.ownBlock]; omega))).drew
      have c71 := (HA.out _ hB7).2.2.2.2.2.1
      clear HXe HXd hrx hbw2 hBk6 y7 z7 hbd hNe q1 q2 c0r hgr hBk y6 hbw hB hlt hK5 hB5 hj hx5
      generalize (wr.setCell ⟨g, 7, none⟩ (.int .i64 (dotL p.val (x0Of p.fix)))).drew = w7 at *
      have hg7 := blk_lt hK7
      have hx7 : gx < w7.heap.size := Owns.in HX7.out gx rfl
      go_wp2_with (at_make; refine wpList_mkn rfl _ _ 22 rfl 3 (.int .i64 0) 8 Try.underlying22 infoInt rfl .i64 .i64 _ _ m rfl rfl rfl rfl (by omega) (by unfold maxLen; omega) fun w8 ho1 hb1 => ?_; have y8 : w8.cell? ⟨g, 8, none⟩ = some (.slice none 0 0) := bc hb1 hg7 ((blk_cell hK7 8).trans rfl); have z8 : w8.frozen? ⟨g, 8, none⟩ = false := bf hb1 hg7 (blk_free hK7 8); have hB8 := hB7.trans (hb1.mono hB7.size); have hB9 : Below w0.heap.size w0 (w8.setCell ⟨g, 8, none⟩ (.slice (some ⟨w7.heap.size, 0, none⟩) m m)) := hB8.setCell (p := ⟨g, 8, none⟩) hgl _; have c91 := (HA.out _ hB9).2.2.2.2.2.1)
      have hK9 : (w8.setCell ⟨g, 8, none⟩ (.slice (some ⟨w7.heap.size, 0, none⟩) m m)).heap[g]? = some (.cells #[.slice a0 n c0, .slice a1 m c1, .slice a2 n c2, .slice af k cf, .bool false, .bool false, .slice (some ⟨gx, 0, none⟩) n n, .int .i64 (dotL p.val (x0Of p.fix)), (.slice (some ⟨w7.heap.size, 0, none⟩) m m), .slice none 0 0, .slice none 0 0, .int .i64 wd, .slice none 0 0, .int .i64 0, .slice none 0 0, .int .i64 0, .bool false] 71) := (heap_setCell_same w8 g 8 _ _ (.slice (some ⟨w7.heap.size, 0, none⟩) m m) (by rw [hb1.block g hg7]; exact hK7)).trans rfl
      have HX9 := Lib.hid ((HX7.out.below hb1).by (gby_set w8 g 8 (.slice (some ⟨w7.heap.size, 0, none⟩) m m)) (.inr (by simp [Value.ownBlock]; omega)))
      have HS9 := Lib.hid (show OwnI (w8.setCell ⟨g, 8, none⟩ (.slice (some ⟨w7.heap.size, 0, none⟩) m m)) w.heap.size (.slice (some ⟨w7.heap.size, 0, none⟩) m m) (curS (List.replicate m 0) (sumsS p.rows (x0Of p.fix)) 0) from by
        rw [curS_zero]
        have h := ho1
        rw [ivs_zeros] at h
        exact (OwnI.by h (gby_set _ _ _ _) (.inr (by simp [Value.ownBlock]; omega))).mono (by omega))
      clear y8 z8 ho1 hb1 hB8 hB7 hK7 HX7 c71
      generalize (w8.setCell ⟨g, 8, none⟩ (.slice (some ⟨w7.heap.size, 0, none⟩) m m)) = w9 at *
      generalize w7.heap.size = gs at *
      have hs9 : gs < w9.heap.size := Owns.in HS9.out gs rfl
      have hx9 : gx < w9.heap.size := Owns.in HX9.out gx rfl
      have hBs : ∀ wr, But (fun i => i = gs) w9 wr → Below w0.heap.size w0 wr := fun wr hB => hB9.trans (hB.below (by omega) fun i hi => by omega)
      go_loopw [67] (fun u wr => ∃ j : Nat, j ≤ m ∧ u = .int .i64 j ∧ But (fun i => i = gs) w9 wr ∧ Hid (OwnI wr w.heap.size (.slice (some ⟨gs, 0, none⟩) m m) (curS (List.replicate m 0) (sumsS p.rows (x0Of p.fix)) j))) (fun u _ => m - (intOf u).toNat)
      case atStart => exact ⟨0, by omega, rfl, But.refl _ _, HS9⟩
      case round =>
        generalize wr = wz at *
        clear HS9 c91
        obtain ⟨r, hr, rfl, hB, HS⟩ := hrel
        have hbw := hBs _ hB
        by_cases hlt : r < m
        · obtain ⟨b, off, rfl, hbs, ai, li, ci, hrow, hcc⟩ := (HA.out wz hbw).2.1.at hlt
          obtain ⟨y0, y1, y2⟩ := hcc wz (Below.refl _ _)
          have hlr : r < p.rows.length := by rw [e1.out]; exact hlt
          have hli : li = n := by rw [← hrow.1, HV.out.coefn r hlr]; exact e0.out
          subst hli
          have HSm := Lib.hid (HV.out.coef r hlr)
          have ys := HS.out.cellAt r hlt
          have zs := HS.out.free r
          have HSet := Lib.hid (curS_set (List.replicate m 0) (sumsS p.rows (x0Of p.fix)) r (by simpa using hlt) (by rw [sums_len]; exact hlr))
          rw [sumsS_at _ _ _ hlr] at HSet
          have HXe := Lib.hid (hB.own HX9.out (by simp [Value.ownBlock]; omega))
          have hKe := hB.blk (show ¬ g = gs by omega) hK9
          generalize p.rows.getD r default = q at *
          generalize (curS (List.replicate m 0) (sumsS p.rows (x0Of p.fix)) r).getD r 0 = old at *
          have hbx : Below wz.heap.size wz (wz.alloc (.cells #[.slice ai li ci, .int .i64 q.mn, .int .i64 q.mx] 44)) := (Below.refl _ _).alloc (Nat.le_refl _) _
          obtain ⟨z0, z1, z2⟩ := box3 wz 44 (.slice ai li ci) (.int .i64 q.mn) (.int .i64 q.mx) _ (Below.refl _ _)
          have hsx : wz.heap.size < (wz.alloc (.cells #[.slice ai li ci, .int .i64 q.mn, .int .i64 q.mx] 44)).heap.size := by simp
          have hgsz : gs < wz.heap.size := Owns.in HS.out gs rfl
          clear hcc
          go_wp2_with fail
          clear y0 y1 y2
          have hKx : (wz.alloc (.cells #[.slice ai li ci, .int .i64 q.mn, .int .i64 q.mx] 44)).heap[g]? = _ := (hbx.block g (blk_lt hKe)).trans hKe
          have HXx := Lib.hid (HXe.out.below hbx)
          have HSx := Lib.hid (HS.out.below hbx)
          have HRx := Lib.hid (hrow.below hbx)
          have hBx := hB.trans (But.of hbx)
          replace ys := bc hbx hgsz ys
          replace zs := bf hbx hgsz zs
          have hgz : gs ≠ wz.heap.size := by omega
          have hxz := hbx.size
          clear hKe HXe HS hrow hB hbx hbw hbs z1 z2
          generalize (wz.alloc (.cells #[.slice ai li ci, .int .i64 q.mn, .int .i64 q.mx] 44)) = wx at *
          have q1 := BC.cell (b := gs) ((blk_cell hKx 8).trans rfl : wx.cell? ⟨g, 8, none⟩ = some (.slice (some ⟨gs, 0, none⟩) m m)) (blk_lt hKx) (by omega)
          have q2 := BC.cell (b := gs) ((blk_cell hKx 6).trans rfl : wx.cell? ⟨g, 6, none⟩ = some (.slice (some ⟨gx, 0, none⟩) li li)) (blk_lt hKx) (by omega)
          have q3 := BC.cell (b := gs) z0 hsx (Ne.symm hgz)
          refine wp_region_sched [(0, false), (1, false), (2, false), (3, false), (4, false), (5, false), (6, false), (7, false), (8, false), (9, false), (10, false), (11, true), (12, false), (13, true)] (fun w' => ∃ W : BC gs wx, w' = W.1) (by kernel_rfl) (by kernel_rfl) ⟨⟨wx.drew, (But.refl _ _).drew⟩, rfl⟩ ?_
          repeat (refine wpSched_calm rfl (fun K hK => ?_); go_simp; refine hK _ ?_; clear hK K)
          refine wpSched_eff rfl rfl (fun K hK => ?_)
          go_simp
          have hbd : Below wx.heap.size wx wx.drew := (Below.refl _ _).drew
          have HXd := Lib.hid (HXx.out.below hbd)
          have hrx : Row .i64 wx.drew (some ⟨gx, 0, none⟩) li li (x0Of p.fix) := by
            obtain ⟨ax, cx, hax, h⟩ := HXd.out.row (wf_bits (x0_bits HTr.out))
            rw [x0_len, e2.out] at hax h
            cases hax; exact h
          refine (product_any q.coef (x0Of p.fix) ai (some ⟨gx, 0, none⟩) li ci li wx.drew (HRx.out.below hbd) hrx hn HSm.out (x0_bits HTr.out)).mono ?_
          rintro e w6 ⟨rfl, rfl⟩
          refine hK _ _ ⟨⟨wx.drew, (But.refl _ _).drew⟩, rfl⟩ ?_
          clear hK K
          repeat (refine wpSched_calm rfl (fun K hK => ?_); go_simp; refine hK _ ?_; clear hK K)
          have ys' : wx.drew.cell? ⟨gs, r, none⟩ = some (.int .i64 old) := ys
          have zs' : wx.drew.frozen? ⟨gs, r, none⟩ = false := zs
          refine wpSched_eff rfl rfl (fun K hK => ?_)
          go_simp
          refine hK _ _ ⟨⟨_, (But.refl _ _).drew.trans (But.set _ _ _ _ fun _ => rfl)⟩, rfl⟩ ?_
          clear hK K
          refine wpSched_nil ?_
          obtain ⟨hO1, -⟩ := HSx.out.store r (dotL q.coef (x0Of p.fix))
          rw [HSet.out] at hO1
          have HSn := Lib.hid (show OwnI (wx.setCell ⟨gs, r, none⟩ (.int .i64 (dotL q.coef (x0Of p.fix)))).drew w.heap.size (.slice (some ⟨gs, 0, none⟩) m m) (curS (List.replicate m 0) (sumsS p.rows (x0Of p.fix)) (r + 1)) from hO1.drew)
          have hBn : But (fun i => i = gs) w9 (wx.setCell ⟨gs, r, none⟩ (.int .i64 (dotL q.coef (x0Of p.fix)))).drew := (hBx.trans (But.set wx gs r (.int .i64 (dotL q.coef (x0Of p.fix))) fun _ => rfl)).drew
          clear hO1 HXd hrx hbd ys' zs' q1 q2 q3 HSx HSet
          go_wp2_with fail
          go_roundw
          case rel => exact ⟨r + 1, by omega, by go_num, hBn, HSn⟩
          case measure => simp [intOf]; omega
        · have HSe := Lib.hid (show OwnI wz w.heap.size (.slice (some ⟨gs, 0, none⟩) m m) (sumsS p.rows (x0Of p.fix)) by have h := HS.out; rwa [curS_end _ _ _ (by simp; omega) (by rw [sums_len, e1.out]; omega)] at h)
          have HXe := Lib.hid (hB.own HX9.out (by simp [Value.ownBlock]; omega))
          have hKe := hB.blk (show ¬ g = gs by omega) hK9
          clear HX9 HS hB hBs hK9 hB9
          have hgz := blk_lt hKe
          have hsz9 : gs < wz.heap.size := Owns.in HSe.out gs rfl
          have cL := (HA.out wz hbw).2.2.2.2.2.2.2
          go_wp2_with (first
            | (at_make; refine wpList_mkn rfl _ _ 69 rfl 22 (.slice none 0 0) 24 Try.underlying69 infoInts rfl .i64 .i64 _ _ (k + 1) rfl rfl (by omega) (by omega) (by omega) (by unfold maxLen; omega) fun w10 ho1 hb1 => ?_; have y9 : w10.cell? ⟨g, 9, none⟩ = some (.slice none 0 0) := bc hb1 hgz ((blk_cell hKe 9).trans rfl); have z9 : w10.frozen? ⟨g, 9, none⟩ = false := bf hb1 hgz (blk_free hKe 9); have hK11 : (w10.setCell ⟨g, 9, none⟩ (.slice (some ⟨wz.heap.size, 0, none⟩) (k + 1) (k + 1))).heap[g]? = some (.cells #[.slice a0 n c0, .slice a1 m c1, .slice a2 n c2, .slice af k cf, .bool false, .bool false, .slice (some ⟨gx, 0, none⟩) n n, .int .i64 (dotL p.val (x0Of p.fix)), .slice (some ⟨gs, 0, none⟩) m m, .slice (some ⟨wz.heap.size, 0, none⟩) (k + 1) (k + 1), .slice none 0 0, .int .i64 wd, .slice none 0 0, .int .i64 0, .slice none 0 0, .int .i64 0, .bool false] 71) := (heap_setCell_same w10 g 9 _ _ (.slice (some ⟨wz.heap.size, 0, none⟩) (k + 1) (k + 1)) (by rw [hb1.block g hgz]; exact hKe)).trans rfl)
            | (at_make; refine wpList_mkn rfl _ _ 69 rfl 22 (.slice none 0 0) 24 Try.underlying69 infoInts rfl .i64 .i64 _ _ (k + 1) rfl rfl (by omega) (by omega) (by omega) (by unfold maxLen; omega) fun w12 ho2 hb2 => ?_; have y10 : w12.cell? ⟨g, 10, none⟩ = some (.slice none 0 0) := bc hb2 (blk_lt hK11) ((blk_cell hK11 10).trans rfl); have z10 : w12.frozen? ⟨g, 10, none⟩ = false := bf hb2 (blk_lt hK11) (blk_free hK11 10)))
          have hs11 : (w10.setCell ⟨g, 9, none⟩ (.slice (some ⟨wz.heap.size, 0, none⟩) (k + 1) (k + 1))).heap.size = w10.heap.size := by simp
          have hc10 : But (fun i => i = g) w10 (w12.setCell ⟨g, 10, none⟩ (.slice (some ⟨w10.heap.size, 0, none⟩) (k + 1) (k + 1))) := (But.set (F := fun i => i = g) w10 g 9 (.slice (some ⟨wz.heap.size, 0, none⟩) (k + 1) (k + 1)) fun _ => rfl).trans ((But.of hb2).trans (But.set (F := fun i => i = g) w12 g 10 (.slice (some ⟨w10.heap.size, 0, none⟩) (k + 1) (k + 1)) fun _ => rfl))
          have hc12 : But (fun i => i = g) w12 (w12.setCell ⟨g, 10, none⟩ (.slice (some ⟨w10.heap.size, 0, none⟩) (k + 1) (k + 1))) := But.set (F := fun i => i = g) w12 g 10 (.slice (some ⟨w10.heap.size, 0, none⟩) (k + 1) (k + 1)) fun _ => rfl
          have hcz : But (fun i => i = g) wz (w12.setCell ⟨g, 10, none⟩ (.slice (some ⟨w10.heap.size, 0, none⟩) (k + 1) (k + 1))) := (But.of hb1).trans hc10
          have hK13 : (w12.setCell ⟨g, 10, none⟩ (.slice (some ⟨w10.heap.size, 0, none⟩) (k + 1) (k + 1))).heap[g]? = some (.cells #[.slice a0 n c0, .slice a1 m c1, .slice a2 n c2, .slice af k cf, .bool false, .bool false, .slice (some ⟨gx, 0, none⟩) n n, .int .i64 (dotL p.val (x0Of p.fix)), .slice (some ⟨gs, 0, none⟩) m m, .slice (some ⟨wz.heap.size, 0, none⟩) (k + 1) (k + 1), .slice (some ⟨w10.heap.size, 0, none⟩) (k + 1) (k + 1), .int .i64 wd, .slice none 0 0, .int .i64 0, .slice none 0 0, .int .i64 0, .bool false] 71) := (heap_setCell_same w12 g 10 _ _ (.slice (some ⟨w10.heap.size, 0, none⟩) (k + 1) (k + 1)) (by rw [hb2.block g (blk_lt hK11)]; exact hK11)).trans rfl
          rw [hs11] at ho2
          have hgl1 : wz.heap.size < w10.heap.size := Owns.in ho1 wz.heap.size rfl
          have hgl2 : w10.heap.size < (w12.setCell ⟨g, 10, none⟩ (.slice (some ⟨w10.heap.size, 0, none⟩) (k + 1) (k + 1))).heap.size := by have := Owns.in ho2 _ rfl; simpa using this
          obtain ⟨arl, htl⟩ := TB.start (m := m) (E := (w12.setCell ⟨g, 10, none⟩ (.slice (some ⟨w10.heap.size, 0, none⟩) (k + 1) (k + 1))).heap.size) (E2 := (w12.setCell ⟨g, 10, none⟩ (.slice (some ⟨w10.heap.size, 0, none⟩) (k + 1) (k + 1))).heap.size) (f := fun d => lowsS p.rows (free.drop d)) ho1
          obtain ⟨arh, hth⟩ := TB.start (m := m) (E := (w12.setCell ⟨g, 10, none⟩ (.slice (some ⟨w10.heap.size, 0, none⟩) (k + 1) (k + 1))).heap.size) (E2 := (w12.setCell ⟨g, 10, none⟩ (.slice (some ⟨w10.heap.size, 0, none⟩) (k + 1) (k + 1))).heap.size) (f := fun d => highsS p.rows (free.drop d)) ho2
          have HTl := Lib.hid (htl.but hc10 (by omega) (fun i h1 h2 => by omega))
          have HTh := Lib.hid (hth.but hc12 (by omega) (fun i h1 h2 => by omega))
          have hB13 : Below w0.heap.size w0 (w12.setCell ⟨g, 10, none⟩ (.slice (some ⟨w10.heap.size, 0, none⟩) (k + 1) (k + 1))) := hbw.trans (hcz.below hbw.size fun i hi => by omega)
          have HNS := Lib.hid (show NS (w12.setCell ⟨g, 10, none⟩ (.slice (some ⟨w10.heap.size, 0, none⟩) (k + 1) (k + 1))) w.heap.size g gx gs n m #[.slice a0 n c0, .slice a1 m c1, .slice a2 n c2, .slice af k cf, .bool false, .bool false, .slice (some ⟨gx, 0, none⟩) n n, .int .i64 (dotL p.val (x0Of p.fix)), .slice (some ⟨gs, 0, none⟩) m m, .slice (some ⟨wz.heap.size, 0, none⟩) (k + 1) (k + 1), .slice (some ⟨w10.heap.size, 0, none⟩) (k + 1) (k + 1), .int .i64 wd, .slice none 0 0, .int .i64 0, .slice none 0 0, .int .i64 0, .bool false] (x0Of p.fix) (sumsS p.rows (x0Of p.fix)) from ⟨hK13, hcz.own HXe.out (by simp [Value.ownBlock]; omega), hcz.own HSe.out (by simp [Value.ownBlock]; omega)⟩)
          clear y9 z9 y10 z10 ho1 ho2 hb1 hb2 hK11 hc10 hc12 hcz hK13 htl hth HXe HSe hKe hbw cL
          generalize (w12.setCell ⟨g, 10, none⟩ (.slice (some ⟨w10.heap.size, 0, none⟩) (k + 1) (k + 1))) = w13 at *
          clear hs11
          generalize w10.heap.size = gh at *
          generalize wz.heap.size = gl at *
          generalize hE : w13.heap.size = E at *
          go_loopw [11] (fun u wr => ∃ (t : Nat) (arl arh : Array Value), t ≤ k + 1 ∧ u = .int .i64 ((t : Int) - 1) ∧ Below w0.heap.size w0 wr ∧ E ≤ wr.heap.size ∧ Hid (NS wr w.heap.size g gx gs n m #[.slice a0 n c0, .slice a1 m c1, .slice a2 n c2, .slice af k cf, .bool false, .bool false, .slice (some ⟨gx, 0, none⟩) n n, .int .i64 (dotL p.val (x0Of p.fix)), .slice (some ⟨gs, 0, none⟩) m m, .slice (some ⟨gl, 0, none⟩) (k + 1) (k + 1), .slice (some ⟨gh, 0, none⟩) (k + 1) (k + 1), .int .i64 wd, .slice none 0 0, .int .i64 0, .slice none 0 0, .int .i64 0, .bool false] (x0Of p.fix) (sumsS p.rows (x0Of p.fix))) ∧ Hid (TB wr gl k m t E wr.heap.size arl (fun d => lowsS p.rows (free.drop d))) ∧ Hid (TB wr gh k m t E wr.heap.size arh (fun d => highsS p.rows (free.drop d)))) (fun u _ => (intOf u + 1).toNat)
          case atStart => exact ⟨k + 1, arl, arh, by omega, by go_num, hB13, by omega, HNS, by rw [hE]; exact HTl, by rw [hE]; exact HTh⟩
          case round =>
            generalize wr = wc at *
            clear HNS HTl HTh hB13 hE arl arh
            obtain ⟨t, arl, arh, ht, rfl, hbw, hEs, HNS, HTl, HTh⟩ := hrel
            by_cases ht0 : t = 0
            · subst ht0
              have hgE : g < E ∧ gx < E ∧ gs < E ∧ gl < E ∧ gh < E := by omega
              have hw0g : w0.heap.size ≤ g := by omega
              have hww := hb0.size
              have hbwc : Below w.heap.size w wc := hb0.trans (hbw.mono hb0.size)
              have hKc := HNS.out.blk
              have cL := (HA.out wc hbw).2.2.2.2.2.2.2
              have hk1 : k ≤ 9223372036854775807 := by omega
              go_wp2_with fail
              go_loopw [193] (fun u wr => ∃ (j : Nat) (vo : Value), j ≤ k ∧ u = .int .i64 j ∧ But (fun i => i = g) wc wr ∧ Hid (wr.heap[g]? = some (.cells (VCells a0 n c0 a1 m c1 a2 c2 af k cf gx (dotL p.val (x0Of p.fix)) gs gl gh wd vo) 71)) ∧ Hid (OwnI wr wc.heap.size vo (ixs (posOf p.val free j)))) (fun u _ => k - (intOf u).toNat)
              case atStart => exact ⟨0, .slice none 0 0, by omega, rfl, But.refl _ _, Lib.hid hKc, Lib.hid (by simpa [OwnI, ivs, ixs, posOf] using Owns.nil wc wc.heap.size 3)⟩
              case round =>
                generalize wr = wq at *
                clear cL hKc
                obtain ⟨j, vo, hj, rfl, hB, HK, HO⟩ := hrel
                have hbq : Below w0.heap.size w0 wq := hbw.trans (hB.below hbw.size fun i hi => by omega)
                by_cases hlt3 : j < k
                · obtain ⟨bf0, of0, rfl, hbf, hcf⟩ := (HA.out wq hbq).2.2.2.1.2.at hlt3
                  have yf := hcf j hlt3 wq (Below.refl _ _)
                  rw [ixs_at] at yf
                  have hfi := HFl.out j hlt3
                  have cK := (HA.out wq hbq).2.2.2.2.1
                  obtain ⟨bv, ov, rfl, hbv, hcv⟩ := (HA.out wq hbq).1.2.2.at hfi
                  have yv := hcv (free.getD j 0) hfi wq (Below.refl _ _)
                  have HS := Lib.hid (pos_succ p.val free j)
                  have HN := Lib.hid (show ((ivs (ixs (posOf p.val free j))).length + 1) * 8 ≤ 140737488355328 ∧ (ivs (ixs (posOf p.val free j))).length + 1 ≤ maxLen by
                    have := pos_len p.val free j
                    rw [ivs_len, ixs_len]; simp only [maxLen]; omega)
                  have hsz4 : wc.heap.size ≤ wq.heap.size := hB.size
                  have y12 : wq.cell? ⟨g, 12, none⟩ = some vo := (blk_cell HK.out 12).trans rfl
                  clear hcf hcv
                  generalize free.getD j 0 = fi at *
                  generalize p.val.getD fi 0 = x at *
                  by_cases hx : 0 < x
                  · rw [if_pos hx] at HS
                    have d1 : decide (0 < x) = true := by simp [hx]
                    have hgc : g < wc.heap.size := by omega
                    go_wp2_with (at_builtin; go_must (refine wpList_app1 rfl _ _ 22 rfl wc.heap.size 3 (.int .i64 0) 8 Try.underlying22 infoInt rfl vo (ivs (ixs (posOf p.val free j))) rfl (.int .i64 j) rfl HO.out rfl HN.out.1 HN.out.2 hsz4 fun v' w' h1 h2 => ?_; obtain ⟨an, ln, cn, hvn, -⟩ := Owns.ints (show Owns w' wc.heap.size 3 v' (ivs (ixs (posOf p.val free j) ++ [(j : Int)])) by rw [ivs_append]; exact h1); subst hvn; have hb5 : Below wc.heap.size wq w' := h2.below hsz4 (Owns.lt HO.out); have hK5 : w'.heap[g]? = _ := (hb5.block g hgc).trans HK.out; have y12' : w'.cell? ⟨g, 12, none⟩ = some vo := (blk_cell hK5 12).trans rfl; have z12' := blk_free hK5 12))
                    have hB6 := hB.grow hb5
                    have hK6 := Lib.hid ((heap_setCell_same w' g 12 _ _ (.slice an ln cn) hK5).trans rfl : (w'.setCell ⟨g, 12, none⟩ (.slice an ln cn)).heap[g]? = some (.cells (VCells (some ⟨bv, ov, none⟩) n c0 a1 m c1 a2 c2 (some ⟨bf0, of0, none⟩) k cf gx (dotL p.val (x0Of p.fix)) gs gl gh wd (.slice an ln cn)) 71))
                    have HO6 := Lib.hid (show OwnI (w'.setCell ⟨g, 12, none⟩ (.slice an ln cn)) wc.heap.size (.slice an ln cn) (ixs (posOf p.val free (j + 1))) by
                      rw [HS.out, ixs_app]
                      refine OwnI.by (show OwnI w' wc.heap.size (.slice an ln cn) _ by unfold OwnI; rw [ivs_append]; exact h1) (gby_set _ _ _ _) (own_ne (Owns.lt h1) hgc))
                    have hB7 := hB6.trans (But.set (F := fun i => i = g) w' g 12 (.slice an ln cn) fun _ => rfl)
                    clear h1 h2 hb5 hK5 y12' z12' hB6
                    go_wp2_with fail
                    go_roundw
                    case rel => (repeat apply Exists.intro); exact ⟨⟨j + 1, (.slice an ln cn), by omega, by go_num, hB7, hK6, HO6⟩, rfl⟩
                    case measure => simp [intOf]; omega
                  · rw [if_neg hx, List.append_nil] at HS
                    have d1 : decide (0 < x) = false := by simp; omega
                    have HO6 := Lib.hid (show OwnI wq wc.heap.size vo (ixs (posOf p.val free (j + 1))) by rw [HS.out]; exact HO.out)
                    go_wp2_with fail
                    go_roundw
                    case rel => exact ⟨j + 1, vo, by omega, by go_num, hB, HK, HO6⟩
                    case measure => simp [intOf]; omega
                · obtain rfl : j = k := by omega
                  have y12 : wq.cell? ⟨g, 12, none⟩ = some vo := (blk_cell HK.out 12).trans rfl
                  have HG := Lib.hid (show w.heap.size ≤ g ∧ g < gx ∧ gx < gs ∧ gs < E ∧ gl < E ∧ gh < E ∧ g ≠ gl ∧ g ≠ gh ∧ gx ≠ gl ∧ gx ≠ gh ∧ gs ≠ gl ∧ gs ≠ gh by omega)
                  rcases HO.out.2 with ⟨hv0, hx0⟩ | ⟨g', cap', cur', hv', hg', -⟩
                  · subst hv0
                    have hx1 : posOf p.val free j = [] := by
                      have h : (ivs (ixs (posOf p.val free j))).length = 0 := hx0
                      rw [ivs_len, ixs_len] at h
                      exact List.eq_nil_of_length_eq_zero h
                    go_wp2_with fail
                    refine (stableNil_any _ _).mono ?_
                    rintro e w1 ⟨rfl, rfl⟩
                    go_wp2_with fail
                    go_ret
                    obtain ⟨S, ord, hSg, hN⟩ := newS_make (ys := []) (VV := fun e => p.val.getD (free.getD e.toNat 0) 0) HAw.out HV.out HFr.out.1 HFr.out.2 hk HWd.out HG.out hEs hbwc HNS.out HTl.out HTh.out hB HK.out (by have h := HO.out; rw [hx1] at h; exact h) (by rw [hx1]; exact List.Perm.refl _) (by intro a b hab hb; simp at hb; omega) fun e => by simp
                    exact ⟨S, ord, congrArg (fun x => Ending.returned (Value.pointer (some ⟨x, 0, none⟩))) hSg, hN⟩
                  · subst hv'
                    have hl := HO.out.len'
                    generalize (ivs (ixs (posOf p.val free j))).length = L at *
                    have hL : L ≤ 19 := by have := pos_len p.val free j; rw [ixs_len] at hl; omega
                    have hgw : wc.heap.size ≤ g' := hg'
                    have HC := Lib.hid (show ∀ w', But (fun i => i = g') wq w' → ∀ x y, x ∈ ixs (posOf p.val free j) → y ∈ ixs (posOf p.val free j) → Calls Try.prog 56 #[.int .i64 x, .int .i64 y, .pointer (some ⟨w.heap.size, 0, none⟩), .pointer (some ⟨w.heap.size + 1, 0, none⟩)] w' fun e w'' => e = .returned (.int .i64 ((fun e : Int => p.val.getD (free.getD e.toNat 0) 0) y - (fun e : Int => p.val.getD (free.getD e.toNat 0) 0) x)) ∧ Below w'.heap.size w' w'' from fun w' h x y hx hy => by
                      simp only [ixs, List.mem_map] at hx hy
                      obtain ⟨x', hx', rfl⟩ := hx
                      obtain ⟨y', hy', rfl⟩ := hy
                      obtain ⟨r0, -, -, r3, r4, -, -, r7⟩ := HA.out w' (hbq.trans (h.below hbq.size fun i hi => by omega))
                      have hs2 := h.size
                      have hs3 := hB.size
                      exact cmpP_any w.heap.size (w.heap.size + 1) p.val free a0 af n c0 j cf x' y' w' r4 r7 r0 r3 HV.out.val HFl.out (pos_lt hx') (pos_lt hy'))
                    go_wp2_with fail
                    refine (stableP_any (fun e : Int => p.val.getD (free.getD e.toNat 0) 0) g' L cap' wc.heap.size w.heap.size (w.heap.size + 1) (ixs (posOf p.val free j)) wq HO.out hL HC.out).mono ?_
                    rintro e w1 ⟨rfl, ys, hsrt, ho, hb⟩
                    have hys := hl
                    go_wp2_with fail
                    go_ret
                    obtain ⟨S, ord, hSg, hN⟩ := newS_make (ys := ys) (VV := fun e => p.val.getD (free.getD e.toNat 0) 0) HAw.out HV.out HFr.out.1 HFr.out.2 hk HWd.out HG.out hEs hbwc HNS.out HTl.out HTh.out (hB.grow (hb.below hB.size fun i hi => by omega)) (by rw [hb.block g (blk_lt HK.out) (by omega)]; exact HK.out) ho hsrt.1 (by rw [← hl]; exact hsrt.2) fun e => by simp
                    exact ⟨S, ord, congrArg (fun x => Ending.returned (Value.pointer (some ⟨x, 0, none⟩))) hSg, hN⟩
            · obtain ⟨d, rfl⟩ : ∃ d, t = d + 1 := ⟨t - 1, by omega⟩
              have hd1 : ((d + 1 : Nat) : Int) - 1 = (d : Int) := by omega
              rw [hd1]
              have hdk : d ≤ k := by omega
              have hdk1 : d < k + 1 := by omega
              have hdk2 : (d : Int) < (k : Int) + 1 := by omega
              have hEg : g < E ∧ gx < E ∧ gs < E ∧ gl < E ∧ gh < E := by omega
              go_wp2_with fail
              have q1 := BC.cell (b := gl) ((blk_cell HNS.out.blk 9).trans rfl : wc.cell? ⟨g, 9, none⟩ = some (.slice (some ⟨gl, 0, none⟩) (k + 1) (k + 1))) (blk_lt HNS.out.blk) (by omega)
              have q2 := BC.cell (b := gl) (HA.out wc hbw).2.2.2.2.2.1 (by have := hbw.size; omega) (by omega)
              refine wp_region_sched [(0, false), (1, false), (2, false), (3, false), (4, false), (5, false), (6, false), (7, false), (8, true), (9, false), (10, true)] (fun w' => ∃ W : BC gl wc, w' = W.1) (by kernel_rfl) (by kernel_rfl) ⟨⟨wc.drew, (But.refl _ _).drew⟩, rfl⟩ ?_
              repeat (refine wpSched_calm rfl (fun K hK => ?_); go_simp; refine hK _ ?_; clear hK K)
              have hbd : Below wc.heap.size wc wc.drew := (Below.refl _ _).drew
              have hM : But (fun i => i = gl) wc wc.drew := (But.refl _ _).drew
              have hsd : wc.heap.size = wc.drew.heap.size := rfl
              replace HNS := Lib.hid (HNS.out.below hbd)
              replace HTl := Lib.hid (HTl.out.below hbd)
              replace HTh := Lib.hid (HTh.out.below hbd)
              replace hbw := hbw.trans (hbd.mono hbw.size)
              clear q1 q2 hbd
              generalize wc.drew = wd1 at *
              refine wpSched_eff rfl rfl (fun K hK => ?_)
              refine wp_mkn _ _ 22 rfl 3 (.int .i64 0) 8 Try.underlying22 infoInt rfl .i64 .i64 _ _ m rfl rfl rfl rfl (by omega) (by unfold maxLen; omega) fun w20 ho1 hb1 => ?_
              refine hK _ _ ⟨⟨w20, hM.trans (But.of hb1)⟩, rfl⟩ ?_
              clear hK K
              repeat (refine wpSched_calm rfl (fun K hK => ?_); go_simp; refine hK _ ?_; clear hK K)
              have hT1 := HTl.out.below hb1
              obtain ⟨old, hold⟩ : ∃ old, arl[d]? = some old := ⟨_, Array.getElem?_eq_getElem (by rw [HTl.out.size]; omega)⟩
              have yo : w20.cell? ⟨gl, d, none⟩ = some old := (blk_cell hT1.blk d).trans hold
              have zo := blk_free hT1.blk d
              refine wpSched_eff rfl rfl (fun K hK => ?_)
              go_simp
              refine hK _ _ ⟨⟨(w20.setCell ⟨gl, d, none⟩ (.slice (some ⟨wd1.heap.size, 0, none⟩) m m)), (hM.trans (But.of hb1)).trans (But.set _ _ _ _ fun _ => rfl)⟩, rfl⟩ ?_
              clear hK K
              refine wpSched_nil ?_
              have hset : But (fun i => i = gl) w20 (w20.setCell ⟨gl, d, none⟩ (.slice (some ⟨wd1.heap.size, 0, none⟩) m m)) := But.set (F := fun i => i = gl) w20 gl d (.slice (some ⟨wd1.heap.size, 0, none⟩) m m) fun _ => rfl
              have hnw : wd1.heap.size < (w20.setCell ⟨gl, d, none⟩ (.slice (some ⟨wd1.heap.size, 0, none⟩) m m)).heap.size := by have := Owns.in ho1 _ rfl; simpa using this
              replace HNS := Lib.hid ((HNS.out.below hb1).but hset (by omega) (by omega) (by omega))
              replace HTl := Lib.hid (hT1.put (by omega) (.slice (some ⟨wd1.heap.size, 0, none⟩) m m))
              replace HTh := Lib.hid ((HTh.out.below hb1).but hset (by omega) fun i h1 h2 => by omega)
              have HO1 := ho1
              rw [ivs_zeros] at HO1
              have HOn := Lib.hid ((show OwnI w20 E (.slice (some ⟨wd1.heap.size, 0, none⟩) m m) (List.replicate m 0) from OwnI.mono HO1 (by omega)).by (gby_set w20 gl d (.slice (some ⟨wd1.heap.size, 0, none⟩) m m)) (.inr (by simp [Value.ownBlock]; omega)))
              replace hbw : Below w0.heap.size w0 (w20.setCell ⟨gl, d, none⟩ (.slice (some ⟨wd1.heap.size, 0, none⟩) m m)) := hbw.trans (Below.of' hb1 hset ⟨hbw.size, fun i hi => by omega⟩)
              clear hT1 yo zo hold ho1 HO1 hb1 hset hM
              generalize (w20.setCell ⟨gl, d, none⟩ (.slice (some ⟨wd1.heap.size, 0, none⟩) m m)) = wa at *
              generalize hgd : wd1.heap.size = gld at *
              have HOl := HOn
              clear HOn
              go_wp2_with fail
              have q1 := BC.cell (b := gh) ((blk_cell HNS.out.blk 10).trans rfl : wa.cell? ⟨g, 10, none⟩ = some (.slice (some ⟨gh, 0, none⟩) (k + 1) (k + 1))) (blk_lt HNS.out.blk) (by omega)
              have q2 := BC.cell (b := gh) (HA.out wa hbw).2.2.2.2.2.1 (by have := hbw.size; omega) (by omega)
              refine wp_region_sched [(0, false), (1, false), (2, false), (3, false), (4, false), (5, false), (6, false), (7, false), (8, true), (9, false), (10, true)] (fun w' => ∃ W : BC gh wa, w' = W.1) (by kernel_rfl) (by kernel_rfl) ⟨⟨wa.drew, (But.refl _ _).drew⟩, rfl⟩ ?_
              repeat (refine wpSched_calm rfl (fun K hK => ?_); go_simp; refine hK _ ?_; clear hK K)
              have hbd : Below wa.heap.size wa wa.drew := (Below.refl _ _).drew
              have hM : But (fun i => i = gh) wa wa.drew := (But.refl _ _).drew
              have hsd : wa.heap.size = wa.drew.heap.size := rfl
              replace HNS := Lib.hid (HNS.out.below hbd)
              replace HTl := Lib.hid (HTl.out.below hbd)
              replace HTh := Lib.hid (HTh.out.below hbd)
              replace hbw := hbw.trans (hbd.mono hbw.size)
              replace HOl := Lib.hid (HOl.out.below hbd)
              clear q1 q2 hbd
              generalize wa.drew = we at *
              refine wpSched_eff rfl rfl (fun K hK => ?_)
              refine wp_mkn _ _ 22 rfl 3 (.int .i64 0) 8 Try.underlying22 infoInt rfl .i64 .i64 _ _ m rfl rfl rfl rfl (by omega) (by unfold maxLen; omega) fun w22 ho1 hb1 => ?_
              refine hK _ _ ⟨⟨w22, hM.trans (But.of hb1)⟩, rfl⟩ ?_
              clear hK K
              repeat (refine wpSched_calm rfl (fun K hK => ?_); go_simp; refine hK _ ?_; clear hK K)
              have hT1 := HTh.out.below hb1
              obtain ⟨old, hold⟩ : ∃ old, arh[d]? = some old := ⟨_, Array.getElem?_eq_getElem (by rw [HTh.out.size]; omega)⟩
              have yo : w22.cell? ⟨gh, d, none⟩ = some old := (blk_cell hT1.blk d).trans hold
              have zo := blk_free hT1.blk d
              refine wpSched_eff rfl rfl (fun K hK => ?_)
              go_simp
              refine hK _ _ ⟨⟨(w22.setCell ⟨gh, d, none⟩ (.slice (some ⟨we.heap.size, 0, none⟩) m m)), (hM.trans (But.of hb1)).trans (But.set _ _ _ _ fun _ => rfl)⟩, rfl⟩ ?_
              clear hK K
              refine wpSched_nil ?_
              have hset : But (fun i => i = gh) w22 (w22.setCell ⟨gh, d, none⟩ (.slice (some ⟨we.heap.size, 0, none⟩) m m)) := But.set (F := fun i => i = gh) w22 gh d (.slice (some ⟨we.heap.size, 0, none⟩) m m) fun _ => rfl
              have hnw : we.heap.size < (w22.setCell ⟨gh, d, none⟩ (.slice (some ⟨we.heap.size, 0, none⟩) m m)).heap.size := by have := Owns.in ho1 _ rfl; simpa using this
              replace HNS := Lib.hid ((HNS.out.below hb1).but hset (by omega) (by omega) (by omega))
              replace HTh := Lib.hid (hT1.put (by omega) (.slice (some ⟨we.heap.size, 0, none⟩) m m))
              replace HTl := Lib.hid ((HTl.out.below hb1).but hset (by omega) fun i h1 h2 => by omega)
              have HO1 := ho1
              rw [ivs_zeros] at HO1
              have HOn := Lib.hid ((show OwnI w22 E (.slice (some ⟨we.heap.size, 0, none⟩) m m) (List.replicate m 0) from OwnI.mono HO1 (by omega)).by (gby_set w22 gh d (.slice (some ⟨we.heap.size, 0, none⟩) m m)) (.inr (by simp [Value.ownBlock]; omega)))
              replace HOl := Lib.hid ((HOl.out.below hb1).by (gby_set w22 gh d (.slice (some ⟨we.heap.size, 0, none⟩) m m)) (.inr (by simp [Value.ownBlock]; omega)))
              replace hbw : Below w0.heap.size w0 (w22.setCell ⟨gh, d, none⟩ (.slice (some ⟨we.heap.size, 0, none⟩) m m)) := hbw.trans (Below.of' hb1 hset ⟨hbw.size, fun i hi => by omega⟩)
              clear hT1 yo zo hold ho1 HO1 hb1 hset hM
              generalize (w22.setCell ⟨gh, d, none⟩ (.slice (some ⟨we.heap.size, 0, none⟩) m m)) = wb at *
              generalize hgd : we.heap.size = ghd at *
              replace HTl := Lib.hid (HTl.out.more (show wc.heap.size ≤ gld by omega))
              replace HTh := Lib.hid (HTh.out.more (show wc.heap.size ≤ gld by omega))
              have hghd : gld < ghd := by omega
              have hgbs : ghd < wb.heap.size := by omega
              have hEd : E ≤ gld := by omega
              clear hgd hsd
              have hK1b := (HA.out wb hbw).2.2.2.2.2.1
              by_cases hdk3 : d = k
              · have hfd : free.drop d = [] := List.drop_eq_nil_of_le (by rw [ef.out]; omega)
                have HTl2 := Lib.hid (HTl.out.fill (E3 := wb.heap.size) (by have := HTl.out.size; simp at this; omega) (by show OwnI wb E _ (lowsS p.rows (free.drop d)); rw [hfd, lows_nil, e1.out]; exact HOl.out) (by omega) (by omega))
                have HTh2 := Lib.hid (HTh.out.fill (E3 := wb.heap.size) (by have := HTh.out.size; simp at this; omega) (by show OwnI wb E _ (highsS p.rows (free.drop d)); rw [hfd, highs_nil, e1.out]; exact HOn.out) (by omega) (by omega))
                have hde : ((d : Int) == (k : Int)) = true := by simp [hdk3]
                have hde2 : (d == k) = true := by simp [hdk3]
                clear HTl HTh HOl HOn
                go_wp2_with fail
                go_roundw
                case rel => exact ⟨d, _, _, by omega, by rw [hdk3], hbw, by omega, HNS, HTl2, HTh2⟩
                case measure => simp [intOf]; omega
              · have hde : ((d : Int) == (k : Int)) = false := by simp; omega
                have hde2 : (d == k) = false := by simp; omega
                go_wp2_with fail
                have hdlt : d < k := by omega
                have hfd : free.drop d = free.getD d 0 :: free.drop (d + 1) := drop_cons free d 0 (by rw [ef.out]; exact hdlt)
                have hfi := HFl.out d hdlt
                obtain ⟨e, he⟩ : ∃ e, e = d + 1 := ⟨_, rfl⟩
                have HE := Lib.hid he
                clear he
                obtain ⟨b1, he1, ho1, hl1⟩ := HTl.out.rows (d + 1) (Nat.le_refl _) hdlt
                obtain ⟨b2, he2, ho2, hl2⟩ := HTh.out.rows (d + 1) (Nat.le_refl _) hdlt
                have hb1E := ho1.lt b1 rfl
                have hb2E := ho2.lt b2 rfl
                have hs1 := HTl.out.size
                have hs2 := HTh.out.size
                have HO1 := Lib.hid (show OwnI wb E (.slice (some ⟨b1, 0, none⟩) m m) (lowsS p.rows (free.drop (d + 1))) from ho1)
                have HO2 := Lib.hid (show OwnI wb E (.slice (some ⟨b2, 0, none⟩) m m) (highsS p.rows (free.drop (d + 1))) from ho2)
                have HF := Lib.hid (show ∀ wv, But (fun i => i = gld ∨ i = ghd) wb wv → wv.cell? ⟨g, 9, none⟩ = some (.slice (some ⟨gl, 0, none⟩) (k + 1) (k + 1)) ∧ wv.cell? ⟨g, 10, none⟩ = some (.slice (some ⟨gh, 0, none⟩) (k + 1) (k + 1)) ∧ wv.cell? ⟨gl, d, none⟩ = some (.slice (some ⟨gld, 0, none⟩) m m) ∧ wv.cell? ⟨gh, d, none⟩ = some (.slice (some ⟨ghd, 0, none⟩) m m) ∧
                    wv.cell? ⟨gl, d + 1, none⟩ = some (.slice (some ⟨b1, 0, none⟩) m m) ∧ wv.cell? ⟨gh, d + 1, none⟩ = some (.slice (some ⟨b2, 0, none⟩) m m) ∧ (∀ r, r < m → wv.cell? ⟨b1, r, none⟩ = some (.int .i64 (lowS (p.rows.getD r default).coef (free.drop (d + 1))))) ∧ (∀ r, r < m → wv.cell? ⟨b2, r, none⟩ = some (.int .i64 (highS (p.rows.getD r default).coef (free.drop (d + 1))))) ∧ Below w0.heap.size w0 wv from fun wv hv => by
                  have hN := hv.blk (show ¬ (g = gld ∨ g = ghd) by omega) HNS.out.blk
                  have hTl := hv.blk (show ¬ (gl = gld ∨ gl = ghd) by omega) HTl.out.blk
                  have hTh := hv.blk (show ¬ (gh = gld ∨ gh = ghd) by omega) HTh.out.blk
                  refine ⟨(blk_cell hN 9).trans rfl, (blk_cell hN 10).trans rfl, (blk_cell hTl d).trans ?_, (blk_cell hTh d).trans ?_, (blk_cell hTl (d + 1)).trans he1, (blk_cell hTh (d + 1)).trans he2, fun r hr => ?_, fun r hr => ?_, hbw.trans (hv.below hbw.size fun i hi => by omega)⟩
                  · rw [Array.getElem?_setIfInBounds_self_of_lt (by simp at hs1; omega)]
                  · rw [Array.getElem?_setIfInBounds_self_of_lt (by simp at hs2; omega)]
                  · have h := (hv.own HO1.out (by simp [Value.ownBlock]; omega)).cellAt r hr
                    rwa [lowsS_at _ _ _ (by rw [e1.out]; exact hr)] at h
                  · have h := (hv.own HO2.out (by simp [Value.ownBlock]; omega)).cellAt r hr
                    rwa [highsS_at _ _ _ (by rw [e1.out]; exact hr)] at h)
                have HOl0 := Lib.hid (show OwnI wb E (.slice (some ⟨gld, 0, none⟩) m m) (curS (List.replicate m 0) (lowsS p.rows (free.drop d)) 0) by rw [curS_zero]; exact HOl.out)
                have HOh0 := Lib.hid (show OwnI wb E (.slice (some ⟨ghd, 0, none⟩) m m) (curS (List.replicate m 0) (highsS p.rows (free.drop d)) 0) by rw [curS_zero]; exact HOn.out)
                clear HO1 HO2 ho1 ho2 he1 he2 HOl HOn hK1b
                go_loopw [131] (fun u wz => ∃ r : Nat, r ≤ m ∧ u = .int .i64 r ∧ But (fun i => i = gld ∨ i = ghd) wb wz ∧ Hid (OwnI wz E (.slice (some ⟨gld, 0, none⟩) m m) (curS (List.replicate m 0) (lowsS p.rows (free.drop d)) r)) ∧ Hid (OwnI wz E (.slice (some ⟨ghd, 0, none⟩) m m) (curS (List.replicate m 0) (highsS p.rows (free.drop d)) r))) (fun u _ => m - (intOf u).toNat)
                case atStart => exact ⟨0, by omega, rfl, But.refl _ _, HOl0, HOh0⟩
                case round =>
                  generalize wr = wi at *
                  clear HOl0 HOh0
                  obtain ⟨rr, hrr, rfl, hB, HOl, HOh⟩ := hrel
                  by_cases hlt2 : rr < m
                  · obtain ⟨-, -, -, -, -, -, -, -, hbi⟩ := HF.out wi hB
                    obtain ⟨b, off, rfl, hbs, ai, li, ci, hrow, hcc⟩ := (HA.out wi hbi).2.1.at hlt2
                    obtain ⟨y0, y1, y2⟩ := hcc wi (Below.refl _ _)
                    have hlr : rr < p.rows.length := by rw [e1.out]; exact hlt2
                    have hli : li = n := by rw [← hrow.1, HV.out.coefn rr hlr]; exact e0.out
                    subst hli
                    have hsm := HV.out.coef rr hlr (free.getD d 0)
                    have HSl := Lib.hid (curS_set (List.replicate m 0) (lowsS p.rows (free.drop d)) rr (by simpa using hlt2) (by rw [lows_len]; exact hlr))
                    have HSh := Lib.hid (curS_set (List.replicate m 0) (highsS p.rows (free.drop d)) rr (by simpa using hlt2) (by rw [highs_len]; exact hlr))
                    rw [lowsS_at _ _ _ hlr] at HSl
                    rw [highsS_at _ _ _ hlr] at HSh
                    have HLw := Lib.hid (show lowS (p.rows.getD rr default).coef (free.drop d) = lowS (p.rows.getD rr default).coef (free.drop (d + 1)) + min ((p.rows.getD rr default).coef.getD (free.getD d 0) 0) 0 by rw [hfd]; rfl)
                    have HHw := Lib.hid (show highS (p.rows.getD rr default).coef (free.drop d) = highS (p.rows.getD rr default).coef (free.drop (d + 1)) + max ((p.rows.getD rr default).coef.getD (free.getD d 0) 0) 0 by rw [hfd]; rfl)
                    have hlb := lowS_bd (HV.out.coef rr hlr) (free.drop (d + 1))
                    have hhb := highS_bd (HV.out.coef rr hlr) (free.drop (d + 1))
                    rw [List.length_drop, ef.out] at hlb hhb
                    obtain ⟨bf0, of0, rfl, hbf, hcf⟩ := (HA.out wi hbi).2.2.2.1.2.at hdlt
                    have yf := hcf d hdlt wi (Below.refl _ _)
                    rw [ixs_at] at yf
                    have cL := (HA.out wi hbi).2.2.2.2.2.2.2
                    obtain ⟨bc0, oc0, rfl, hbc, hcc2⟩ := hrow.2.2.at hfi
                    have yc := hcc2 (free.getD d 0) hfi wi (Below.refl _ _)
                    have HR1 := Lib.hid (show ∀ wv, But (fun i => i = gld ∨ i = ghd) wb wv → wv.cell? ⟨b1, rr, none⟩ = some (.int .i64 (lowS (p.rows.getD rr default).coef (free.drop (d + 1)))) ∧ wv.cell? ⟨b2, rr, none⟩ = some (.int .i64 (highS (p.rows.getD rr default).coef (free.drop (d + 1)))) from fun wv hv => ⟨(HF.out wv hv).2.2.2.2.2.2.1 rr hlt2, (HF.out wv hv).2.2.2.2.2.2.2.1 rr hlt2⟩)
                    generalize p.rows.getD rr default = q at *
                    generalize free.getD d 0 = fi at *
                    generalize q.coef.getD fi 0 = cv at *
                    generalize lowS q.coef (free.drop (d + 1)) = lw at *
                    generalize highS q.coef (free.drop (d + 1)) = hw at *
                    rw [HLw.out] at HSl
                    rw [HHw.out] at HSh
                    have hbx : Below wi.heap.size wi (wi.alloc (.cells #[.slice (some ⟨bc0, oc0, none⟩) li ci, .int .i64 q.mn, .int .i64 q.mx] 44)) := (Below.refl _ _).alloc (Nat.le_refl _) _
                    obtain ⟨z0, z1, z2⟩ := box3 wi 44 (.slice (some ⟨bc0, oc0, none⟩) li ci) (.int .i64 q.mn) (.int .i64 q.mx) _ (Below.refl _ _)
                    have hBx := hB.trans (But.of hbx)
                    have HOlx := Lib.hid (HOl.out.below hbx)
                    have HOhx := Lib.hid (HOh.out.below hbx)
                    have hwil : w.heap.size + 1 < wi.heap.size := by have := hbi.size; omega
                    replace yf := bc hbx hbf yf
                    replace cL := bc hbx hwil cL
                    replace yc := bc hbx hbc yc
                    clear hcc hcf hcc2 hrow HOl HOh hB HLw HHw
                    go_wp2_with fail
                    clear y0 y1 y2 hbx hbs z1 z2
                    generalize (wi.alloc (.cells #[.slice (some ⟨bc0, oc0, none⟩) li ci, .int .i64 q.mn, .int .i64 q.mx] 44)) = wx at *
                    go_quiet (fail)
                    have hbq := below_drewN (Below.refl wx.heap.size wx) nq
                    replace hBx := hBx.trans (But.of hbq)
                    replace HOlx := Lib.hid (HOlx.out.below hbq)
                    replace HOhx := Lib.hid (HOhx.out.below hbq)
                    clear yf cL yc z0 hbq
                    generalize wx.drewN nq = wy at *
                    go_wp2_with fail
                    obtain ⟨k9, k10, kd, kd', ke, ke', -, -, hby⟩ := HF.out wy hBx
                    obtain ⟨kr, kr'⟩ := HR1.out wy hBx
                    have hsy : ghd < wy.heap.size := by have := hBx.size; omega
                    have yl := HOlx.out.cellAt rr hlt2
                    have zl := HOlx.out.free rr
                    generalize (curS (List.replicate m 0) (lowsS p.rows (free.drop d)) rr).getD rr 0 = ol at *
                    have hwd : IntKind.i64.wrap ((d : Int) + 1) = (e : Int) := by rw [IntWalk.i64_in _ (by omega), HE.out]; omega
                    have heL : e < k + 1 := by rw [HE.out]; omega
                    have heI : (e : Int) < (k : Int) + 1 := by omega
                    rw [← HE.out] at ke ke'
                    by_cases hcn : cv < 0
                    · have hw1 : IntKind.i64.wrap (lw + cv) = lw + cv := IntWalk.i64_in _ (by omega)
                      have hmn : min cv 0 = cv := by omega
                      have hmx : max cv 0 = 0 := by omega
                      have hc0 : ¬ 0 < cv := by omega
                      have hw2 : IntKind.i64.wrap hw = hw := IntWalk.i64_in _ (by omega)
                      rw [hmn] at HSl
                      rw [hmx, Int.add_zero] at HSh
                      clear hmn hmx
                      have hFl := Lib.hid (show But (fun i => i = gld ∨ i = ghd) wb (wy.setCell ⟨gld, rr, none⟩ (.int .i64 (lw + cv))).drew from (hBx.trans (But.set (F := fun i => i = gld ∨ i = ghd) wy gld rr (.int .i64 (lw + cv)) fun _ => .inl rfl)).drew)
                      have HOl2 := Lib.hid (show OwnI (wy.setCell ⟨gld, rr, none⟩ (.int .i64 (lw + cv))).drew E (.slice (some ⟨gld, 0, none⟩) m m) (curS (List.replicate m 0) (lowsS p.rows (free.drop d)) (rr + 1)) by rw [← HSl.out]; exact (HOlx.out.store rr (lw + cv)).1.drew)
                      have HOh2 := Lib.hid (show OwnI (wy.setCell ⟨gld, rr, none⟩ (.int .i64 (lw + cv))).drew E (.slice (some ⟨ghd, 0, none⟩) m m) (curS (List.replicate m 0) (highsS p.rows (free.drop d)) rr) from (HOhx.out.by (HOlx.out.store rr (lw + cv)).2 (.inr (by simp [Value.ownBlock]; omega))).drew)
                      clear HOlx HOhx HSl hby
                      have q1 := BC.cell (b := gld) k9 (by omega) (by omega)
                      have q2 := BC.cell (b := gld) kd (by omega) (by omega)
                      have q3 := BC.cell (b := gld) ke (by omega) (by omega)
                      have q4 := BC.cell (b := gld) kr (by omega) (by omega)
                      have yl' : wy.drew.cell? _ = _ := yl
                      have zl' : wy.drew.frozen? _ = _ := zl
                      refine wp_region_sched [(0, false), (1, false), (2, false), (3, false), (4, false), (5, false), (6, false), (7, false), (8, false), (9, false), (10, false), (11, false), (12, false), (13, false), (14, false), (15, false), (16, false), (17, false), (18, false), (19, false), (20, false), (21, false), (22, false), (23, true)] (fun w' => ∃ W : BC gld wy, w' = W.1) (by kernel_rfl) (by kernel_rfl) ⟨⟨wy.drew, (But.refl _ _).drew⟩, rfl⟩ ?_
                      repeat (refine wpSched_calm rfl (fun K hK => ?_); go_simp; refine hK _ ?_; clear hK K)
                      clear q1 q2 q3 q4
                      refine wpSched_eff rfl rfl (fun K hK => ?_)
                      go_simp
                      refine hK _ _ ⟨⟨_, (But.refl _ _).drew.trans (But.set _ _ _ _ fun _ => rfl)⟩, rfl⟩ ?_
                      clear hK K yl' zl'
                      refine wpSched_nil ?_
                      clear k9 k10 kd kd' ke ke' kr kr' yl zl
                      generalize (wy.setCell ⟨gld, rr, none⟩ (.int .i64 (lw + cv))).drew = wu at *
                      go_wp2_with fail
                      obtain ⟨k9, k10, kd, kd', ke, ke', -, -, hby⟩ := HF.out wu hFl.out
                      obtain ⟨kr, kr'⟩ := HR1.out wu hFl.out
                      rw [← HE.out] at ke ke'
                      have hsu : ghd < wu.heap.size := by have := hFl.out.size; omega
                      have yl := HOh2.out.cellAt rr hlt2
                      have zl := HOh2.out.free rr
                      generalize (curS (List.replicate m 0) (highsS p.rows (free.drop d)) rr).getD rr 0 = oh at *
                      have hFh := Lib.hid (show But (fun i => i = gld ∨ i = ghd) wb (wu.setCell ⟨ghd, rr, none⟩ (.int .i64 hw)).drew from (hFl.out.trans (But.set (F := fun i => i = gld ∨ i = ghd) wu ghd rr (.int .i64 hw) fun _ => .inr rfl)).drew)
                      have HOh3 := Lib.hid (show OwnI (wu.setCell ⟨ghd, rr, none⟩ (.int .i64 hw)).drew E (.slice (some ⟨ghd, 0, none⟩) m m) (curS (List.replicate m 0) (highsS p.rows (free.drop d)) (rr + 1)) by rw [← HSh.out]; exact (HOh2.out.store rr hw).1.drew)
                      have HOl3 := Lib.hid (show OwnI (wu.setCell ⟨ghd, rr, none⟩ (.int .i64 hw)).drew E (.slice (some ⟨gld, 0, none⟩) m m) (curS (List.replicate m 0) (lowsS p.rows (free.drop d)) (rr + 1)) from (HOl2.out.by (HOh2.out.store rr hw).2 (.inr (by simp [Value.ownBlock]; omega))).drew)
                      clear HOl2 HOh2 HSh hby hFl
                      have q1 := BC.cell (b := ghd) k10 (by omega) (by omega)
                      have q2 := BC.cell (b := ghd) kd' (by omega) (by omega)
                      have q3 := BC.cell (b := ghd) ke' (by omega) (by omega)
                      have q4 := BC.cell (b := ghd) kr' (by omega) (by omega)
                      have yl' : wu.drew.cell? _ = _ := yl
                      have zl' : wu.drew.frozen? _ = _ := zl
                      refine wp_region_sched [(0, false), (1, false), (2, false), (3, false), (4, false), (5, false), (6, false), (7, false), (8, false), (9, false), (10, false), (11, false), (12, false), (13, false), (14, false), (15, false), (16, false), (17, false), (18, false), (19, false), (20, false), (21, false), (22, false), (23, true)] (fun w' => ∃ W : BC ghd wu, w' = W.1) (by kernel_rfl) (by kernel_rfl) ⟨⟨wu.drew, (But.refl _ _).drew⟩, rfl⟩ ?_
                      repeat (refine wpSched_calm rfl (fun K hK => ?_); go_simp; refine hK _ ?_; clear hK K)
                      clear q1 q2 q3 q4
                      refine wpSched_eff rfl rfl (fun K hK => ?_)
                      go_simp
                      refine hK _ _ ⟨⟨_, (But.refl _ _).drew.trans (But.set _ _ _ _ fun _ => rfl)⟩, rfl⟩ ?_
                      clear hK K yl' zl'
                      refine wpSched_nil ?_
                      clear k9 k10 kd kd' ke ke' kr kr' yl zl
                      go_wp2_with fail
                      go_roundw
                      case rel => exact ⟨rr + 1, by omega, by go_num, hFh.out, HOl3, HOh3⟩
                      case measure => simp [intOf]; omega
                    · have hw1 : IntKind.i64.wrap (hw + cv) = hw + cv := IntWalk.i64_in _ (by omega)
                      have hmn : min cv 0 = 0 := by omega
                      have hmx : max cv 0 = cv := by omega
                      have hc0 : (if 0 < cv then (0 : Int) else cv) = 0 := by split <;> omega
                      have hw2 : IntKind.i64.wrap lw = lw := IntWalk.i64_in _ (by omega)
                      rw [hmn, Int.add_zero] at HSl
                      rw [hmx] at HSh
                      clear hmn hmx
                      have hFl := Lib.hid (show But (fun i => i = gld ∨ i = ghd) wb (wy.setCell ⟨gld, rr, none⟩ (.int .i64 lw)).drew from (hBx.trans (But.set (F := fun i => i = gld ∨ i = ghd) wy gld rr (.int .i64 lw) fun _ => .inl rfl)).drew)
                      have HOl2 := Lib.hid (show OwnI (wy.setCell ⟨gld, rr, none⟩ (.int .i64 lw)).drew E (.slice (some ⟨gld, 0, none⟩) m m) (curS (List.replicate m 0) (lowsS p.rows (free.drop d)) (rr + 1)) by rw [← HSl.out]; exact (HOlx.out.store rr lw).1.drew)
                      have HOh2 := Lib.hid (show OwnI (wy.setCell ⟨gld, rr, none⟩ (.int .i64 lw)).drew E (.slice (some ⟨ghd, 0, none⟩) m m) (curS (List.replicate m 0) (highsS p.rows (free.drop d)) rr) from (HOhx.out.by (HOlx.out.store rr lw).2 (.inr (by simp [Value.ownBlock]; omega))).drew)
                      clear HOlx HOhx HSl hby
                      have q1 := BC.cell (b := gld) k9 (by omega) (by omega)
                      have q2 := BC.cell (b := gld) kd (by omega) (by omega)
                      have q3 := BC.cell (b := gld) ke (by omega) (by omega)
                      have q4 := BC.cell (b := gld) kr (by omega) (by omega)
                      have yl' : wy.drew.cell? _ = _ := yl
                      have zl' : wy.drew.frozen? _ = _ := zl
                      refine wp_region_sched [(0, false), (1, false), (2, false), (3, false), (4, false), (5, false), (6, false), (7, false), (8, false), (9, false), (10, false), (11, false), (12, false), (13, false), (14, false), (15, false), (16, false), (17, false), (18, false), (19, false), (20, false), (21, false), (22, false), (23, true)] (fun w' => ∃ W : BC gld wy, w' = W.1) (by kernel_rfl) (by kernel_rfl) ⟨⟨wy.drew, (But.refl _ _).drew⟩, rfl⟩ ?_
                      repeat (refine wpSched_calm rfl (fun K hK => ?_); go_simp; refine hK _ ?_; clear hK K)
                      clear q1 q2 q3 q4
                      refine wpSched_eff rfl rfl (fun K hK => ?_)
                      go_simp
                      refine hK _ _ ⟨⟨_, (But.refl _ _).drew.trans (But.set _ _ _ _ fun _ => rfl)⟩, rfl⟩ ?_
                      clear hK K yl' zl'
                      refine wpSched_nil ?_
                      clear k9 k10 kd kd' ke ke' kr kr' yl zl
                      generalize (wy.setCell ⟨gld, rr, none⟩ (.int .i64 lw)).drew = wu at *
                      go_wp2_with fail
                      obtain ⟨k9, k10, kd, kd', ke, ke', -, -, hby⟩ := HF.out wu hFl.out
                      obtain ⟨kr, kr'⟩ := HR1.out wu hFl.out
                      rw [← HE.out] at ke ke'
                      have hsu : ghd < wu.heap.size := by have := hFl.out.size; omega
                      have yl := HOh2.out.cellAt rr hlt2
                      have zl := HOh2.out.free rr
                      generalize (curS (List.replicate m 0) (highsS p.rows (free.drop d)) rr).getD rr 0 = oh at *
                      have hFh := Lib.hid (show But (fun i => i = gld ∨ i = ghd) wb (wu.setCell ⟨ghd, rr, none⟩ (.int .i64 (hw + cv))).drew from (hFl.out.trans (But.set (F := fun i => i = gld ∨ i = ghd) wu ghd rr (.int .i64 (hw + cv)) fun _ => .inr rfl)).drew)
                      have HOh3 := Lib.hid (show OwnI (wu.setCell ⟨ghd, rr, none⟩ (.int .i64 (hw + cv))).drew E (.slice (some ⟨ghd, 0, none⟩) m m) (curS (List.replicate m 0) (highsS p.rows (free.drop d)) (rr + 1)) by rw [← HSh.out]; exact (HOh2.out.store rr (hw + cv)).1.drew)
                      have HOl3 := Lib.hid (show OwnI (wu.setCell ⟨ghd, rr, none⟩ (.int .i64 (hw + cv))).drew E (.slice (some ⟨gld, 0, none⟩) m m) (curS (List.replicate m 0) (lowsS p.rows (free.drop d)) (rr + 1)) from (HOl2.out.by (HOh2.out.store rr (hw + cv)).2 (.inr (by simp [Value.ownBlock]; omega))).drew)
                      clear HOl2 HOh2 HSh hby hFl
                      have q1 := BC.cell (b := ghd) k10 (by omega) (by omega)
                      have q2 := BC.cell (b := ghd) kd' (by omega) (by omega)
                      have q3 := BC.cell (b := ghd) ke' (by omega) (by omega)
                      have q4 := BC.cell (b := ghd) kr' (by omega) (by omega)
                      have yl' : wu.drew.cell? _ = _ := yl
                      have zl' : wu.drew.frozen? _ = _ := zl
                      refine wp_region_sched [(0, false), (1, false), (2, false), (3, false), (4, false), (5, false), (6, false), (7, false), (8, false), (9, false), (10, false), (11, false), (12, false), (13, false), (14, false), (15, false), (16, false), (17, false), (18, false), (19, false), (20, false), (21, false), (22, false), (23, true)] (fun w' => ∃ W : BC ghd wu, w' = W.1) (by kernel_rfl) (by kernel_rfl) ⟨⟨wu.drew, (But.refl _ _).drew⟩, rfl⟩ ?_
                      repeat (refine wpSched_calm rfl (fun K hK => ?_); go_simp; refine hK _ ?_; clear hK K)
                      clear q1 q2 q3 q4
                      refine wpSched_eff rfl rfl (fun K hK => ?_)
                      go_simp
                      refine hK _ _ ⟨⟨_, (But.refl _ _).drew.trans (But.set _ _ _ _ fun _ => rfl)⟩, rfl⟩ ?_
                      clear hK K yl' zl'
                      refine wpSched_nil ?_
                      clear k9 k10 kd kd' ke ke' kr kr' yl zl
                      go_wp2_with fail
                      go_roundw
                      case rel => exact ⟨rr + 1, by omega, by go_num, hFh.out, HOl3, HOh3⟩
                      case measure => simp [intOf]; omega
                  · obtain ⟨-, -, -, -, -, -, -, -, hbi⟩ := HF.out wi hB
                    have hgdi : gld < wi.heap.size := Owns.in HOl.out gld rfl
                    have hghi : ghd < wi.heap.size := Owns.in HOh.out ghd rfl
                    have HNi := Lib.hid (HNS.out.but hB (by omega) (by omega) (by omega))
                    have HTl2 := Lib.hid ((HTl.out.but hB (by omega) (fun i h1 h2 => by omega)).fill (E3 := wi.heap.size) (by have := HTl.out.size; simp at this; omega) (by
                      show OwnI wi E _ (lowsS p.rows (free.drop d))
                      have h := HOl.out
                      rwa [curS_end _ _ _ (by simp; omega) (by rw [lows_len, e1.out]; omega)] at h) (by omega) (by omega))
                    have HTh2 := Lib.hid ((HTh.out.but hB (by omega) (fun i h1 h2 => by omega)).fill (E3 := wi.heap.size) (by have := HTh.out.size; simp at this; omega) (by
                      show OwnI wi E _ (highsS p.rows (free.drop d))
                      have h := HOh.out
                      rwa [curS_end _ _ _ (by simp; omega) (by rw [highs_len, e1.out]; omega)] at h) (by omega) (by omega))
                    clear HTl HTh HOl HOh HF
                    go_wp2_with fail
                    go_roundw
                    case rel => exact ⟨d, _, _, by omega, rfl, hbi, by omega, HNi, HTl2, HTh2⟩
                    case measure => simp [intOf] <;> omega

end Go.Proofs.Ytkgikajfeihbbaa
