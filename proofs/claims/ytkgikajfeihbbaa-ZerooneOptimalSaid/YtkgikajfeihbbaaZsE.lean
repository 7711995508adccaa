/- 0-1 programs: what set does to the search. -/
import Derived.Test.YtkgikajfeihbbaaZsD
namespace Go.Proofs.Ytkgikajfeihbbaa
set_option maxRecDepth 100000
open Go.RowKit

theorem bits_set {x : List Int} {i : Nat} {v : Int} (h : Bits01 x) (hv : v = 0 ∨ v = 1) : Bits01 (x.set i v) := fun k hk => by
  by_cases hik : i = k
  · subst hik
    rw [getD_set_eq _ _ _ (by simpa using hk)]; exact hv
  · rw [getD_set_ne _ _ _ _ hik]; exact h k (by simpa using hk)
/-- the sums of the first rows are new -/
def curS (a b : List Int) (j : Nat) : List Int := b.take j ++ a.drop j
theorem curS_zero (a b : List Int) : curS a b 0 = a := by simp [curS]
theorem curS_end (a b : List Int) (j : Nat) (ha : a.length ≤ j) (hb : b.length ≤ j) : curS a b j = b := by simp [curS, List.take_of_length_le hb, List.drop_of_length_le ha]
theorem curS_at (a b : List Int) (j : Nat) (hb : j < b.length) : (curS a b j).getD j 0 = a.getD j 0 := by
  simp [curS, List.getD, List.getElem?_append_right, Nat.min_eq_left (Nat.le_of_lt hb)]
theorem curS_set (a b : List Int) (j : Nat) (ha : j < a.length) (hb : j < b.length) : (curS a b j).set j (b.getD j 0) = curS a b (j + 1) := by
  unfold curS
  rw [List.set_append_right _ _ (by simp; omega), List.length_take, Nat.min_eq_left (by omega), Nat.sub_self, take_snoc b j 0 hb, drop_cons a j 0 ha]
  simp
theorem sums_len (rs : List RowM) (x : List Int) : (sumsS rs x).length = rs.length := by simp [sumsS]
theorem Dy.len {w : World} {B : Nat} {S : Sh} {p : ProbM} {x : List Int} {β : Sb} {vb : Value} (h : Dy w B S p x β vb) : x.length = S.n := h.ox.len'
theorem not_F {S : Sh} {j : Nat} (h : ¬ S.F j) : j ≠ S.g ∧ j ≠ S.gx ∧ j ≠ S.gs := by
  unfold Sh.F at h; simp only [not_or] at h; exact h

set_option maxHeartbeats 8000000 in
theorem set1_any (S : Sh) (p : ProbM) (free ord : List Nat) (i B : Nat) (x : List Int) (β : Sb) (vb : Value) (w : World) (hP : Pu S p free ord) (hS : ∀ w', But S.F w w' → St w' S p free ord) (hD : Dy w B S p x β vb) (hA : Bits01 x) (hi : i < S.n) (hx : x.getD i 0 = 0) :
    Calls Try.prog 59 #[.pointer (some ⟨S.g, 0, none⟩), .int .i64 i, .int .i64 1] w fun e w' => e = .returned (.tuple #[]) ∧ Dy w' B S p (x.set i 1) β vb ∧ But S.F w w' := by
  have hm := hP.m60
  have hkn := hP.kn
  have HPu := Lib.hid hP
  have HSt := Lib.hid hS
  have HX := Lib.hid hx
  have hxl := hD.len
  have hgl := blk_lt hD.blk
  have hgxl : S.gx < w.heap.size := Owns.in hD.ox S.gx rfl
  have hgsl : S.gs < w.heap.size := Owns.in hD.os S.gs rfl
  have c0 : w.cell? ⟨S.g, 0, none⟩ = some (.slice S.a0 S.n S.c0) := (blk_cell hD.blk 0).trans rfl
  have c6 : w.cell? ⟨S.g, 6, none⟩ = some (.slice (some ⟨S.gx, 0, none⟩) S.n S.cx) := (blk_cell hD.blk 6).trans rfl
  have cx := hD.ox.cellAt i hi
  have fx := hD.ox.free i
  obtain ⟨hOx, hGx⟩ := hD.ox.store i 1
  have HDot := Lib.hid (show ∀ c : List Int, c.length = S.n → dotL c (x.set i 1) = dotL c x + c.getD i 0 from fun c hc => by rw [dotL_set c x i 1 (by omega) (by omega), hx]; omega)
  have HBd := Lib.hid (show ∀ c : List Int, c.length = S.n → Small c → (-24000000 ≤ dotL c x ∧ dotL c x ≤ 24000000) ∧ -1000000 ≤ c.getD i 0 ∧ c.getD i 0 ≤ 1000000 from fun c hc hs => by
    have h1 := dotL_bd c x hs hA
    have h2 := hs i
    omega)
  have hB1 : But S.F w (w.setCell ⟨S.gx, i, none⟩ (.int .i64 1)) := But.set w S.gx i _ fun _ => .inr (.inl rfl)
  have hblk : (w.setCell ⟨S.gx, i, none⟩ (.int .i64 1)).heap[S.g]? = some (.cells (S.cells (dotL p.val x) β.least vb β.most β.found) 71) := by rw [hGx.block S.g hgl (by simp; exact hP.ne1)]; exact hD.blk
  have HOx := Lib.hid hOx
  have HOs := Lib.hid (hD.os.by hGx (by simp [Value.ownBlock]; exact fun h => hP.ne3 h.symm))
  have HOb := Lib.hid (hD.ob.by hGx (.inr fun e => (not_F (hD.off _ e)).2.1 rfl))
  have HOff := Lib.hid hD.off
  generalize x.getD i 0 = xi at *
  clear hP hS hD hOx hGx hx hA
  go_enter Try.func59, Try.ntmps59
  go_wp2_with fail
  generalize w.setCell ⟨S.gx, i, none⟩ (.int .i64 1) = w1 at *
  have hs1 := hB1.size
  have hS1 := HSt.out w1 hB1
  have k0 : w1.cell? ⟨S.g, 0, none⟩ = some (.slice S.a0 S.n S.c0) := (blk_cell hblk 0).trans rfl
  have k7 : w1.cell? ⟨S.g, 7, none⟩ = some (.int .i64 (dotL p.val x)) := (blk_cell hblk 7).trans rfl
  have f7 := blk_free hblk 7
  obtain ⟨bv, ov, hva, hbv, hcv⟩ := hS1.val.2.2.at hi
  have pv := hcv i hi w1 (Below.refl _ _)
  have hbd := HBd.out p.val HPu.out.n HPu.out.valid.val
  have HDv := Lib.hid (HDot.out p.val HPu.out.n)
  rw [hva] at k0
  clear c0 c6 cx fx hcv hS1 hva
  generalize p.val.getD i 0 = vi at *
  generalize hsv : dotL p.val x = sv at *
  clear hsv
  have HB2 := Lib.hid (show But S.F w (w1.setCell ⟨S.g, 7, none⟩ (.int .i64 (sv + vi))).drew from (hB1.trans (But.set w1 S.g 7 _ fun _ => .inl rfl)).drew)
  have hG2 : w1.grownBy (w1.setCell ⟨S.g, 7, none⟩ (.int .i64 (sv + vi))).drew (some S.g) := gby_trans (gby_set w1 S.g 7 _) (gby_below (Below.refl _ _).drew)
  have HBlk := Lib.hid (show (w1.setCell ⟨S.g, 7, none⟩ (.int .i64 (sv + vi))).drew.heap[S.g]? = some (.cells (S.cells (sv + vi) β.least vb β.most β.found) 71) from (heap_setCell_same w1 S.g 7 _ _ (.int .i64 (sv + vi)) hblk).trans rfl)
  have HOx2 := Lib.hid (HOx.out.by hG2 (.inr (by simp [Value.ownBlock]; exact fun h => HPu.out.ne1 h.symm)))
  have HOs2 := Lib.hid (show OwnI (w1.setCell ⟨S.g, 7, none⟩ (.int .i64 (sv + vi))).drew B (.slice (some ⟨S.gs, 0, none⟩) S.m S.cs) (curS (sumsS p.rows x) (sumsS p.rows (x.set i 1)) 0) by rw [curS_zero]; exact HOs.out.by hG2 (.inr (by simp [Value.ownBlock]; exact fun h => HPu.out.ne2 h.symm)))
  have HOb2 := Lib.hid (HOb.out.by hG2 (.inr fun e => (not_F (HOff.out _ e)).1 rfl))
  have k1 : (w1.setCell ⟨S.g, 7, none⟩ (.int .i64 (sv + vi))).drew.cell? ⟨S.g, 1, none⟩ = some (.slice S.a1 S.m S.c1) := (blk_cell HBlk.out 1).trans rfl
  have HR0 := Lib.hid (HSt.out _ HB2.out).rows
  clear HOx HOs HOb hG2 hB1 hblk
  go_region
  generalize (w1.setCell ⟨S.g, 7, none⟩ (.int .i64 (sv + vi))).drew = w2 at *
  have HMm := Lib.hid HPu.out.m
  have HBlk' := Lib.hid (show w2.heap[S.g]? = some (.cells (S.cells (dotL p.val (x.set i 1)) β.least vb β.most β.found) 71) by rw [HDv.out]; exact HBlk.out)
  have hlt2 := blk_lt HBlk.out
  clear HBlk pv k0 k7 f7 hbd HDv hbv hs1
  go_wp2_with fail
  clear k1
  go_loopw [42] (fun u wr => ∃ j : Nat, j ≤ S.m ∧ u = .int .i64 j ∧ But S.F w wr ∧ Hid (wr.heap[S.g]? = some (.cells (S.cells (dotL p.val (x.set i 1)) β.least vb β.most β.found) 71)) ∧ Hid (OwnI wr B (.slice (some ⟨S.gx, 0, none⟩) S.n S.cx) (x.set i 1)) ∧ Hid (OwnI wr B (.slice (some ⟨S.gs, 0, none⟩) S.m S.cs) (curS (sumsS p.rows x) (sumsS p.rows (x.set i 1)) j)) ∧ Hid (OwnI wr B vb β.best)) (fun u _ => S.m - (intOf u).toNat)
  case atStart => exact ⟨0, by omega, rfl, HB2.out, HBlk', HOx2, HOs2, HOb2⟩
  case round =>
    clear HB2 HBlk' HOx2 HOs2 HOb2 HR0 hlt2
    obtain ⟨j, hj, rfl, hB, HBl, HOx, HOs, HOb⟩ := hrel
    have hglr := blk_lt HBl.out
    by_cases hlt : j < S.m
    · have hSt := HSt.out wr hB
      obtain ⟨b, off, hra, hbs, ai, li, ci, hrow, hcc⟩ := hSt.rows.at hlt
      obtain ⟨y0, y1, y2⟩ := hcc wr (Below.refl _ _)
      have hlj : j < p.rows.length := by rw [HMm.out]; exact hlt
      have hcl := HPu.out.valid.coefn j hlj
      have hcn : (p.rows.getD j default).coef.length = S.n := by rw [hcl]; exact HPu.out.n
      have hbd := HBd.out _ hcn (HPu.out.valid.coef j hlj)
      have HDc := Lib.hid (HDot.out _ hcn)
      have ps := HOs.out.cellAt j hlt
      have fs := HOs.out.free j
      rw [curS_at _ _ _ (by rw [sums_len]; exact hlj), sumsS_at _ _ _ hlj] at ps
      have HSet := Lib.hid (curS_set (sumsS p.rows x) (sumsS p.rows (x.set i 1)) j (by rw [sums_len]; exact hlj) (by rw [sums_len]; exact hlj))
      rw [sumsS_at _ _ _ hlj, HDc.out] at HSet
      have hli : li = S.n := by rw [← hcn]; exact hrow.1.symm
      subst hli
      obtain ⟨bc0, oc0, rfl, hbc, hcc2⟩ := hrow.2.2.at hi
      have pc := hcc2 i hi wr (Below.refl _ _)
      generalize hrk : p.rows.getD j default = q at *
      generalize hqc : q.coef.getD i 0 = cv at *
      generalize hqs : dotL q.coef x = sq at *
      have hbx : Below wr.heap.size wr (wr.alloc (.cells #[.slice (some ⟨bc0, oc0, none⟩) S.n ci, .int .i64 q.mn, .int .i64 q.mx] 44)) := (Below.refl _ _).alloc (Nat.le_refl _) _
      obtain ⟨z0, z1, z2⟩ := box3 wr 44 (.slice (some ⟨bc0, oc0, none⟩) S.n ci) (.int .i64 q.mn) (.int .i64 q.mx) _ (Below.refl _ _)
      clear hcc2 hcc hrow hSt hrk hqc hqs hcl hcn HDc
      rw [hra]
      clear hra
      go_wp2_with fail
      have HBx := Lib.hid (hB.trans (But.of hbx))
      have HBlx := Lib.hid (show (wr.alloc (.cells #[.slice (some ⟨bc0, oc0, none⟩) S.n ci, .int .i64 q.mn, .int .i64 q.mx] 44)).heap[S.g]? = _ from (hbx.block S.g hglr).trans HBl.out)
      have HOx1 := Lib.hid (HOx.out.below hbx)
      have HOs1 := Lib.hid (HOs.out.below hbx)
      have HOb1 := Lib.hid (HOb.out.below hbx)
      have k8 : (wr.alloc (.cells #[.slice (some ⟨bc0, oc0, none⟩) S.n ci, .int .i64 q.mn, .int .i64 q.mx] 44)).cell? ⟨S.g, 8, none⟩ = some (.slice (some ⟨S.gs, 0, none⟩) S.m S.cs) := (blk_cell HBlx.out 8).trans rfl
      have hgsr : S.gs < wr.heap.size := Owns.in HOs.out S.gs rfl
      replace ps := bc hbx hgsr ps
      replace fs := bf hbx hgsr fs
      replace pc := bc hbx hbc pc
      have hwx : wr.heap.size < (wr.alloc (.cells #[.slice (some ⟨bc0, oc0, none⟩) S.n ci, .int .i64 q.mn, .int .i64 q.mx] 44)).heap.size := by simp
      have hnx : S.g < wr.heap.size := hglr
      clear y0 y1 y2 hB HBl HOx HOs HOb hbs
      generalize (wr.alloc (.cells #[.slice (some ⟨bc0, oc0, none⟩) S.n ci, .int .i64 q.mn, .int .i64 q.mx] 44)) = wx at *
      have HBn := Lib.hid (show But S.F w (wx.setCell ⟨S.gs, j, none⟩ (.int .i64 (sq + cv))).drew from (HBx.out.trans (But.set wx S.gs j _ fun _ => .inr (.inr rfl))).drew)
      obtain ⟨hO1, hG1⟩ := HOs1.out.store j (sq + cv)
      rw [HSet.out] at hO1
      have HOn := Lib.hid (show OwnI (wx.setCell ⟨S.gs, j, none⟩ (.int .i64 (sq + cv))).drew B (.slice (some ⟨S.gs, 0, none⟩) S.m S.cs) (curS (sumsS p.rows x) (sumsS p.rows (x.set i 1)) (j + 1)) from hO1.drew)
      have HOxn := Lib.hid (show OwnI (wx.setCell ⟨S.gs, j, none⟩ (.int .i64 (sq + cv))).drew B (.slice (some ⟨S.gx, 0, none⟩) S.n S.cx) (x.set i 1) from (HOx1.out.by hG1 (.inr (by simp [Value.ownBlock]; exact HPu.out.ne3))).drew)
      have HObn := Lib.hid (show OwnI (wx.setCell ⟨S.gs, j, none⟩ (.int .i64 (sq + cv))).drew B vb β.best from (HOb1.out.by hG1 (.inr fun e => (not_F (HOff.out _ e)).2.2 rfl)).drew)
      have HBln := Lib.hid (show (wx.setCell ⟨S.gs, j, none⟩ (.int .i64 (sq + cv))).drew.heap[S.g]? = _ from (hG1.block S.g (blk_lt HBlx.out) (by simp; exact HPu.out.ne2)).trans HBlx.out)
      clear hO1 hG1 HOx1 HOs1 HOb1 HBx HBlx HSet hbx
      go_region
      go_wp2_with fail
      go_roundw
      case rel => exact ⟨j + 1, by omega, by go_num, HBn.out, HBln, HOxn, HOn, HObn⟩
      case measure => simp [intOf]; omega
    · have hje : j = S.m := by omega
      have HOs3 := Lib.hid (show OwnI wr B (.slice (some ⟨S.gs, 0, none⟩) S.m S.cs) (sumsS p.rows (x.set i 1)) by have h := HOs.out; rwa [curS_end _ _ _ (by rw [sums_len, HMm.out]; omega) (by rw [sums_len, HMm.out]; omega)] at h)
      go_wp2_with fail
      go_end0
      exact ⟨rfl, ⟨HBl.out, HOx.out, HOs3.out, HOb.out, HOff.out⟩, hB⟩

set_option maxHeartbeats 8000000 in
theorem set0_any (S : Sh) (p : ProbM) (free ord : List Nat) (i B : Nat) (x : List Int) (β : Sb) (vb : Value) (w : World) (hP : Pu S p free ord) (hS : ∀ w', But S.F w w' → St w' S p free ord) (hD : Dy w B S p x β vb) (hA : Bits01 x) (hi : i < S.n) (hx : x.getD i 0 = 1) :
    Calls Try.prog 59 #[.pointer (some ⟨S.g, 0, none⟩), .int .i64 i, .int .i64 0] w fun e w' => e = .returned (.tuple #[]) ∧ Dy w' B S p (x.set i 0) β vb ∧ But S.F w w' := by
  have hm := hP.m60
  have hkn := hP.kn
  have HPu := Lib.hid hP
  have HSt := Lib.hid hS
  have HX := Lib.hid hx
  have hxl := hD.len
  have hgl := blk_lt hD.blk
  have hgxl : S.gx < w.heap.size := Owns.in hD.ox S.gx rfl
  have hgsl : S.gs < w.heap.size := Owns.in hD.os S.gs rfl
  have c0 : w.cell? ⟨S.g, 0, none⟩ = some (.slice S.a0 S.n S.c0) := (blk_cell hD.blk 0).trans rfl
  have c6 : w.cell? ⟨S.g, 6, none⟩ = some (.slice (some ⟨S.gx, 0, none⟩) S.n S.cx) := (blk_cell hD.blk 6).trans rfl
  have cx := hD.ox.cellAt i hi
  have fx := hD.ox.free i
  obtain ⟨hOx, hGx⟩ := hD.ox.store i 0
  have HDot := Lib.hid (show ∀ c : List Int, c.length = S.n → dotL c (x.set i 0) = dotL c x + - c.getD i 0 from fun c hc => by rw [dotL_set c x i 0 (by omega) (by omega), hx]; omega)
  have HBd := Lib.hid (show ∀ c : List Int, c.length = S.n → Small c → (-24000000 ≤ dotL c x ∧ dotL c x ≤ 24000000) ∧ -1000000 ≤ c.getD i 0 ∧ c.getD i 0 ≤ 1000000 from fun c hc hs => by
    have h1 := dotL_bd c x hs hA
    have h2 := hs i
    omega)
  have hB1 : But S.F w (w.setCell ⟨S.gx, i, none⟩ (.int .i64 0)) := But.set w S.gx i _ fun _ => .inr (.inl rfl)
  have hblk : (w.setCell ⟨S.gx, i, none⟩ (.int .i64 0)).heap[S.g]? = some (.cells (S.cells (dotL p.val x) β.least vb β.most β.found) 71) := by rw [hGx.block S.g hgl (by simp; exact hP.ne1)]; exact hD.blk
  have HOx := Lib.hid hOx
  have HOs := Lib.hid (hD.os.by hGx (by simp [Value.ownBlock]; exact fun h => hP.ne3 h.symm))
  have HOb := Lib.hid (hD.ob.by hGx (.inr fun e => (not_F (hD.off _ e)).2.1 rfl))
  have HOff := Lib.hid hD.off
  generalize x.getD i 0 = xi at *
  clear hP hS hD hOx hGx hx hA
  go_enter Try.func59, Try.ntmps59
  go_wp2_with fail
  generalize w.setCell ⟨S.gx, i, none⟩ (.int .i64 0) = w1 at *
  have hs1 := hB1.size
  have hS1 := HSt.out w1 hB1
  have k0 : w1.cell? ⟨S.g, 0, none⟩ = some (.slice S.a0 S.n S.c0) := (blk_cell hblk 0).trans rfl
  have k7 : w1.cell? ⟨S.g, 7, none⟩ = some (.int .i64 (dotL p.val x)) := (blk_cell hblk 7).trans rfl
  have f7 := blk_free hblk 7
  obtain ⟨bv, ov, hva, hbv, hcv⟩ := hS1.val.2.2.at hi
  have pv := hcv i hi w1 (Below.refl _ _)
  have hbd := HBd.out p.val HPu.out.n HPu.out.valid.val
  have HDv := Lib.hid (HDot.out p.val HPu.out.n)
  rw [hva] at k0
  clear c0 c6 cx fx hcv hS1 hva
  generalize p.val.getD i 0 = vi at *
  generalize hsv : dotL p.val x = sv at *
  clear hsv
  have HB2 := Lib.hid (show But S.F w (w1.setCell ⟨S.g, 7, none⟩ (.int .i64 (sv + - vi))).drew from (hB1.trans (But.set w1 S.g 7 _ fun _ => .inl rfl)).drew)
  have hG2 : w1.grownBy (w1.setCell ⟨S.g, 7, none⟩ (.int .i64 (sv + - vi))).drew (some S.g) := gby_trans (gby_set w1 S.g 7 _) (gby_below (Below.refl _ _).drew)
  have HBlk := Lib.hid (show (w1.setCell ⟨S.g, 7, none⟩ (.int .i64 (sv + - vi))).drew.heap[S.g]? = some (.cells (S.cells (sv + - vi) β.least vb β.most β.found) 71) from (heap_setCell_same w1 S.g 7 _ _ (.int .i64 (sv + - vi)) hblk).trans rfl)
  have HOx2 := Lib.hid (HOx.out.by hG2 (.inr (by simp [Value.ownBlock]; exact fun h => HPu.out.ne1 h.symm)))
  have HOs2 := Lib.hid (show OwnI (w1.setCell ⟨S.g, 7, none⟩ (.int .i64 (sv + - vi))).drew B (.slice (some ⟨S.gs, 0, none⟩) S.m S.cs) (curS (sumsS p.rows x) (sumsS p.rows (x.set i 0)) 0) by rw [curS_zero]; exact HOs.out.by hG2 (.inr (by simp [Value.ownBlock]; exact fun h => HPu.out.ne2 h.symm)))
  have HOb2 := Lib.hid (HOb.out.by hG2 (.inr fun e => (not_F (HOff.out _ e)).1 rfl))
  have k1 : (w1.setCell ⟨S.g, 7, none⟩ (.int .i64 (sv + - vi))).drew.cell? ⟨S.g, 1, none⟩ = some (.slice S.a1 S.m S.c1) := (blk_cell HBlk.out 1).trans rfl
  have HR0 := Lib.hid (HSt.out _ HB2.out).rows
  clear HOx HOs HOb hG2 hB1 hblk
  go_region
  generalize (w1.setCell ⟨S.g, 7, none⟩ (.int .i64 (sv + - vi))).drew = w2 at *
  have HMm := Lib.hid HPu.out.m
  have HBlk' := Lib.hid (show w2.heap[S.g]? = some (.cells (S.cells (dotL p.val (x.set i 0)) β.least vb β.most β.found) 71) by rw [HDv.out]; exact HBlk.out)
  have hlt2 := blk_lt HBlk.out
  clear HBlk pv k0 k7 f7 hbd HDv hbv hs1
  go_wp2_with fail
  clear k1
  go_loopw [42] (fun u wr => ∃ j : Nat, j ≤ S.m ∧ u = .int .i64 j ∧ But S.F w wr ∧ Hid (wr.heap[S.g]? = some (.cells (S.cells (dotL p.val (x.set i 0)) β.least vb β.most β.found) 71)) ∧ Hid (OwnI wr B (.slice (some ⟨S.gx, 0, none⟩) S.n S.cx) (x.set i 0)) ∧ Hid (OwnI wr B (.slice (some ⟨S.gs, 0, none⟩) S.m S.cs) (curS (sumsS p.rows x) (sumsS p.rows (x.set i 0)) j)) ∧ Hid (OwnI wr B vb β.best)) (fun u _ => S.m - (intOf u).toNat)
  case atStart => exact ⟨0, by omega, rfl, HB2.out, HBlk', HOx2, HOs2, HOb2⟩
  case round =>
    clear HB2 HBlk' HOx2 HOs2 HOb2 HR0 hlt2
    obtain ⟨j, hj, rfl, hB, HBl, HOx, HOs, HOb⟩ := hrel
    have hglr := blk_lt HBl.out
    by_cases hlt : j < S.m
    · have hSt := HSt.out wr hB
      obtain ⟨b, off, hra, hbs, ai, li, ci, hrow, hcc⟩ := hSt.rows.at hlt
      obtain ⟨y0, y1, y2⟩ := hcc wr (Below.refl _ _)
      have hlj : j < p.rows.length := by rw [HMm.out]; exact hlt
      have hcl := HPu.out.valid.coefn j hlj
      have hcn : (p.rows.getD j default).coef.length = S.n := by rw [hcl]; exact HPu.out.n
      have hbd := HBd.out _ hcn (HPu.out.valid.coef j hlj)
      have HDc := Lib.hid (HDot.out _ hcn)
      have ps := HOs.out.cellAt j hlt
      have fs := HOs.out.free j
      rw [curS_at _ _ _ (by rw [sums_len]; exact hlj), sumsS_at _ _ _ hlj] at ps
      have HSet := Lib.hid (curS_set (sumsS p.rows x) (sumsS p.rows (x.set i 0)) j (by rw [sums_len]; exact hlj) (by rw [sums_len]; exact hlj))
      rw [sumsS_at _ _ _ hlj, HDc.out] at HSet
      have hli : li = S.n := by rw [← hcn]; exact hrow.1.symm
      subst hli
      obtain ⟨bc0, oc0, rfl, hbc, hcc2⟩ := hrow.2.2.at hi
      have pc := hcc2 i hi wr (Below.refl _ _)
      generalize hrk : p.rows.getD j default = q at *
      generalize hqc : q.coef.getD i 0 = cv at *
      generalize hqs : dotL q.coef x = sq at *
      have hbx : Below wr.heap.size wr (wr.alloc (.cells #[.slice (some ⟨bc0, oc0, none⟩) S.n ci, .int .i64 q.mn, .int .i64 q.mx] 44)) := (Below.refl _ _).alloc (Nat.le_refl _) _
      obtain ⟨z0, z1, z2⟩ := box3 wr 44 (.slice (some ⟨bc0, oc0, none⟩) S.n ci) (.int .i64 q.mn) (.int .i64 q.mx) _ (Below.refl _ _)
      clear hcc2 hcc hrow hSt hrk hqc hqs hcl hcn HDc
      rw [hra]
      clear hra
      go_wp2_with fail
      have HBx := Lib.hid (hB.trans (But.of hbx))
      have HBlx := Lib.hid (show (wr.alloc (.cells #[.slice (some ⟨bc0, oc0, none⟩) S.n ci, .int .i64 q.mn, .int .i64 q.mx] 44)).heap[S.g]? = _ from (hbx.block S.g hglr).trans HBl.out)
      have HOx1 := Lib.hid (HOx.out.below hbx)
      have HOs1 := Lib.hid (HOs.out.below hbx)
      have HOb1 := Lib.hid (HOb.out.below hbx)
      have k8 : (wr.alloc (.cells #[.slice (some ⟨bc0, oc0, none⟩) S.n ci, .int .i64 q.mn, .int .i64 q.mx] 44)).cell? ⟨S.g, 8, none⟩ = some (.slice (some ⟨S.gs, 0, none⟩) S.m S.cs) := (blk_cell HBlx.out 8).trans rfl
      have hgsr : S.gs < wr.heap.size := Owns.in HOs.out S.gs rfl
      replace ps := bc hbx hgsr ps
      replace fs := bf hbx hgsr fs
      replace pc := bc hbx hbc pc
      have hwx : wr.heap.size < (wr.alloc (.cells #[.slice (some ⟨bc0, oc0, none⟩) S.n ci, .int .i64 q.mn, .int .i64 q.mx] 44)).heap.size := by simp
      have hnx : S.g < wr.heap.size := hglr
      clear y0 y1 y2 hB HBl HOx HOs HOb hbs
      generalize (wr.alloc (.cells #[.slice (some ⟨bc0, oc0, none⟩) S.n ci, .int .i64 q.mn, .int .i64 q.mx] 44)) = wx at *
      have HBn := Lib.hid (show But S.F w (wx.setCell ⟨S.gs, j, none⟩ (.int .i64 (sq + - cv))).drew from (HBx.out.trans (But.set wx S.gs j _ fun _ => .inr (.inr rfl))).drew)
      obtain ⟨hO1, hG1⟩ := HOs1.out.store j (sq + - cv)
      rw [HSet.out] at hO1
      have HOn := Lib.hid (show OwnI (wx.setCell ⟨S.gs, j, none⟩ (.int .i64 (sq + - cv))).drew B (.slice (some ⟨S.gs, 0, none⟩) S.m S.cs) (curS (sumsS p.rows x) (sumsS p.rows (x.set i 0)) (j + 1)) from hO1.drew)
      have HOxn := Lib.hid (show OwnI (wx.setCell ⟨S.gs, j, none⟩ (.int .i64 (sq + - cv))).drew B (.slice (some ⟨S.gx, 0, none⟩) S.n S.cx) (x.set i 0) from (HOx1.out.by hG1 (.inr (by simp [Value.ownBlock]; exact HPu.out.ne3))).drew)
      have HObn := Lib.hid (show OwnI (wx.setCell ⟨S.gs, j, none⟩ (.int .i64 (sq + - cv))).drew B vb β.best from (HOb1.out.by hG1 (.inr fun e => (not_F (HOff.out _ e)).2.2 rfl)).drew)
      have HBln := Lib.hid (show (wx.setCell ⟨S.gs, j, none⟩ (.int .i64 (sq + - cv))).drew.heap[S.g]? = _ from (hG1.block S.g (blk_lt HBlx.out) (by simp; exact HPu.out.ne2)).trans HBlx.out)
      clear hO1 hG1 HOx1 HOs1 HOb1 HBx HBlx HSet hbx
      go_region
      go_wp2_with fail
      go_roundw
      case rel => exact ⟨j + 1, by omega, by go_num, HBn.out, HBln, HOxn, HOn, HObn⟩
      case measure => simp [intOf]; omega
    · have hje : j = S.m := by omega
      have HOs3 := Lib.hid (show OwnI wr B (.slice (some ⟨S.gs, 0, none⟩) S.m S.cs) (sumsS p.rows (x.set i 0)) by have h := HOs.out; rwa [curS_end _ _ _ (by rw [sums_len, HMm.out]; omega) (by rw [sums_len, HMm.out]; omega)] at h)
      go_wp2_with fail
      go_end0
      exact ⟨rfl, ⟨HBl.out, HOx.out, HOs3.out, HOb.out, HOff.out⟩, hB⟩

end Go.Proofs.Ytkgikajfeihbbaa
