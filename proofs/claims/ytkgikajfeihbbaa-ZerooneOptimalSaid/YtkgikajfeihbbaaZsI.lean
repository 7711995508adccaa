/- 0-1 programs: what greatest and first return. -/
import Derived.Test.YtkgikajfeihbbaaZsH
import Derived.Test.YtkgikajfeihbbaaZsQ
namespace Go.Proofs.Ytkgikajfeihbbaa
set_option maxRecDepth 100000
open Go.RowKit

theorem stableV_all (V : Int → Int) (B K : Nat) (xs : List Int) (v : Value) (w : World) (hO : OwnI w B v xs) (hn : xs.length ≤ 19) (hC : ∀ w', But (fun i => v.ownBlock = some i) w w' → ∀ x y, x ∈ xs → y ∈ xs → Calls Try.prog 49 #[.int .i64 x, .int .i64 y, .pointer (some ⟨K, 0, none⟩)] w' fun e w'' => e = .returned (.int .i64 (V y - V x)) ∧ Below w'.heap.size w' w'') :
    Calls Try.prog 48 #[v, .func (.func 49) #[] #[.pointer (some ⟨K, 0, none⟩)]] w fun e w' => e = .returned (.tuple #[]) ∧ ∃ ys : List Int, SortOf V xs ys ∧ OwnI w' B v ys ∧ But (fun i => v.ownBlock = some i) w w' := by
  rcases hO.2 with ⟨hv0, hx0⟩ | ⟨g, cap, cur, hv, hg, -⟩
  · subst hv0
    have hx1 : xs = [] := by
      have h : (ivs xs).length = 0 := hx0
      rw [ivs_len] at h
      exact List.eq_nil_of_length_eq_zero h
    subst hx1
    refine (stableNil_any _ w).mono ?_
    rintro e w1 ⟨rfl, rfl⟩
    exact ⟨rfl, [], ⟨List.Perm.refl _, fun a b hab hb => by simp at hb; omega⟩, hO, But.refl _ _⟩
  · subst hv
    have hF : (fun i => (Value.slice (some ⟨g, 0, none⟩) (ivs xs).length cap).ownBlock = some i) = fun i => i = g := by
      funext i
      simp only [Value.ownBlock, Option.some.injEq, eq_iff_iff]
      exact eq_comm
    rw [hF] at hC ⊢
    exact stableV_any V g _ cap B K xs w hO (by rw [ivs_len]; exact hn) hC

/-- what greatest returns -/
def GreatOf (p : ProbM) (mo : Int) (fd : Bool) : Prop := (fd = false → (bestOf p.rows p.val p.fix).1 = none) ∧ (fd = true → ∃ z, bestOf p.rows p.val p.fix = (some z, mo))
theorem fr_facts {p : ProbM} {fr : List Nat} {n : Nat} (hn : p.fix.length = n) (hf : fr.Perm (freeIx 0 p.fix)) : (∀ i ∈ fr, i < n) ∧ fr.Nodup ∧ fr.length ≤ n := by
  refine ⟨fun i hi => ?_, hf.nodup_iff.2 (freeIx_nd _ _), ?_⟩
  · have := (freeIx_mem p.fix 0 i).1 (hf.mem_iff.1 hi)
    omega
  · have := freeIx_len p.fix 0
    rw [hf.length_eq]; omega
/-- the search at its beginning, with another least value and other flags -/
theorem Dy.least {w w' : World} {B : Nat} {S : Sh} {p : ProbM} {x : List Int} {β : Sb} {vb : Value} (h : Dy w B S p x β vb) (l : Int) (hP : S.g ≠ S.gx ∧ S.g ≠ S.gs) (hg : w.grownBy w' (some S.g)) (hb : w'.heap[S.g]? = some (.cells (S.cells (dotL p.val x) l vb β.most β.found) 71)) : Dy w' B S p x ⟨l, β.best, β.most, β.found⟩ vb :=
  ⟨hb, h.ox.by hg (.inr (by simp [Value.ownBlock]; exact fun e => hP.1 e.symm)), h.os.by hg (.inr (by simp [Value.ownBlock]; exact fun e => hP.2 e.symm)), h.ob.by hg (.inr fun e => (not_F (h.off _ e)).1 rfl), h.off⟩

set_option maxHeartbeats 8000000 in
theorem greatest_any (p : ProbM) (a0 a1 a2 : Option Addr) (n m c0 c1 c2 : Nat) (w : World) (h0 : Row .i64 w a0 n c0 p.val) (h1 : RowsIn w a1 m c1 p.rows) (h2 : Row .i64 w a2 n c2 p.fix) (hv : ValidM p) (hn : n ≤ 19) :
    Calls Try.prog 39 #[.agg #[.slice a0 n c0, .slice a1 m c1, .slice a2 n c2]] w fun e w' => ∃ (mo : Int) (fd : Bool), e = .returned (.tuple #[.int .i64 mo, .bool fd]) ∧ GreatOf p mo fd ∧ Below w.heap.size w w' := by
  have HV := Lib.hid hv
  have e0 := Lib.hid h0.1
  have e2 := Lib.hid h2.1
  have hb0 : Below w.heap.size w (w.alloc (.cells #[.slice a0 n c0, .slice a1 m c1, .slice a2 n c2] 25)) := (Below.refl _ _).alloc (Nat.le_refl _) _
  have HB := Lib.hid (box3 w 25 (.slice a0 n c0) (.slice a1 m c1) (.slice a2 n c2))
  have HAw := Lib.hid (show ∀ w', Below w.heap.size w w' → Row .i64 w' a0 n c0 p.val ∧ RowsIn w' a1 m c1 p.rows ∧ Row .i64 w' a2 n c2 p.fix from fun w' hb => ⟨h0.below hb, h1.below hb, h2.below hb⟩)
  have hws : w.heap.size < (w.alloc (.cells #[.slice a0 n c0, .slice a1 m c1, .slice a2 n c2] 25)).heap.size := by simp
  clear h0 h1 h2 hv
  go_enter Try.func39, Try.ntmps39
  go_wp2_with fail
  generalize w.alloc (.cells #[.slice a0 n c0, .slice a1 m c1, .slice a2 n c2] 25) = w0 at *
  refine (freevars_any p a0 a1 a2 n c0 m c1 n c2 w0 (HAw.out _ hb0).2.2 HV.out.fix (by omega)).mono ?_
  rintro e w1 ⟨v, rfl, hO, hb1⟩
  have hlt := OwnI.lt hO
  have HO := Lib.hid hO
  have HC := Lib.hid (show ∀ w', But (fun i => v.ownBlock = some i) w1 w' → ∀ x y, x ∈ ixs (freeIx 0 p.fix) → y ∈ ixs (freeIx 0 p.fix) → Calls Try.prog 49 #[.int .i64 x, .int .i64 y, .pointer (some ⟨w.heap.size, 0, none⟩)] w' fun e w'' => e = .returned (.int .i64 ((fun e : Int => p.val.getD e.toNat 0) y - (fun e : Int => p.val.getD e.toNat 0) x)) ∧ Below w'.heap.size w' w'' from fun w' h x y hx hy => by
    simp only [ixs, List.mem_map] at hx hy
    obtain ⟨x', hx', rfl⟩ := hx
    obtain ⟨y', hy', rfl⟩ := hy
    have hbw : Below w0.heap.size w0 w' := hb1.trans (h.below hb1.size hlt)
    have hff := (fr_facts e2.out (List.Perm.refl _)).1
    exact cmpV_any w.heap.size p.val a0 n c0 x' y' w' (HB.out w' hbw).1 (by have := hbw.size; omega) (HAw.out w' (hb0.trans (hbw.mono hb0.size))).1 HV.out.val (hff x' hx') (hff y' hy'))
  obtain ⟨x0, x1, x2⟩ := HB.out _ hb1
  clear hO
  go_wp2_with fail
  refine (stableV_all (fun e : Int => p.val.getD e.toNat 0) w0.heap.size w.heap.size (ixs (freeIx 0 p.fix)) v w1 HO.out (by have := (fr_facts e2.out (List.Perm.refl _)).2.2; rw [ixs_len]; omega) HC.out).mono ?_
  rintro e w2 ⟨rfl, ys, hsrt, hO2, hb2⟩
  obtain ⟨fr, rfl, hfp⟩ := perm_ixs hsrt.1
  have hb12 : Below w0.heap.size w0 w2 := hb1.trans (hb2.below hb1.size hlt)
  obtain ⟨an, ln, cn, rfl, hI⟩ := Owns.ints (show Owns w2 w0.heap.size 3 v (ivs (ixs fr)) from hO2)
  have hll : fr.length = ln := by have := hI.1; rwa [ixs_len] at this
  have hff := fr_facts e2.out hfp
  have hbw2 : Below w.heap.size w w2 := hb0.trans (hb12.mono hb0.size)
  obtain ⟨r0, r1, r2⟩ := HAw.out w2 hbw2
  have HI := Lib.hid (And.intro hI (And.intro hff (And.intro hll hfp)))
  have HR := Lib.hid (And.intro r0 (And.intro r1 r2))
  clear x0 x1 x2
  obtain ⟨x0, x1, x2⟩ := HB.out _ hb12
  clear HC HO hsrt hO2 hb2 hI hff hfp r0 r1 r2 hlt
  go_wp2_with fail
  refine (newsearch_any p fr a0 a1 a2 an n m ln c0 c1 c2 cn w2 HR.out.1 HR.out.2.1 HR.out.2.2 HI.out.1 HV.out HI.out.2.1.1 HI.out.2.1.2.1 (by have := HI.out.2.1.2.2; omega) (by have := HI.out.2.1.2.2; omega)).mono ?_
  rintro e w3 ⟨S, ord, rfl, hN⟩
  have HN := Lib.hid hN
  have k13 : w3.cell? ⟨S.g, 13, none⟩ = some (.int .i64 0) := (blk_cell hN.dy.blk 13).trans rfl
  have f13 := blk_free hN.dy.blk 13
  have hgl := blk_lt hN.dy.blk
  have hbw3 : Below w.heap.size w w3 := hbw2.trans (hN.bel.mono hbw2.size)
  clear hN x0 x1 x2
  have HA := Lib.hid (show As S (fr.drop 0) (x0Of p.fix) from ⟨by rw [← HN.out.pu.n, List.drop_zero]; exact gd_start HV.out HI.out.2.2.2, x0_bits HV.out.fix⟩)
  go_wp2_with fail
  have HD := Lib.hid (HN.out.dy.least (-24000000) ⟨HN.out.pu.ne1, HN.out.pu.ne2⟩ (gby_set w3 S.g 13 (.int .i64 (-24000000))) ((heap_setCell_same w3 S.g 13 _ _ (.int .i64 (-24000000)) HN.out.dy.blk).trans rfl))
  have HBt := Lib.hid (show But S.F w3 (w3.setCell ⟨S.g, 13, none⟩ (.int .i64 (-24000000))) from But.set w3 S.g 13 _ fun _ => .inl rfl)
  generalize (w3.setCell ⟨S.g, 13, none⟩ (.int .i64 (-24000000))) = w4 at *
  have hvis : Calls Try.prog 51 #[.pointer (some ⟨S.g, 0, none⟩), .int .i64 0] w4 fun e w' => e = .returned (.tuple #[]) ∧ (∃ vb', Dy w' w2.heap.size S p (x0Of p.fix) (visR S p fr ord 0 (x0Of p.fix) ⟨-24000000, [], 0, false⟩) vb') ∧ But S.F w4 w' :=
    visit_any S p fr ord w2.heap.size HN.out.pu S.k 0 (by omega) (x0Of p.fix) ⟨-24000000, [], 0, false⟩ (.slice none 0 0) w4 (fun w' h => HN.out.st w' (HBt.out.trans h)) HD.out HA.out (by have := HBt.out.size; have := HN.out.bel.size; omega)
  refine hvis.mono ?_
  clear hvis
  rintro e w5 ⟨rfl, ⟨vb5, hD5⟩, hb5⟩
  have HGr := Lib.hid (great_ok HV.out HI.out.2.2.2 (lateR S p) (β := visR S p fr ord 0 (x0Of p.fix) ⟨-24000000, [], 0, false⟩) (by rw [vis_fold HN.out.pu HN.out.perm HN.out.srt HA.out, HN.out.once]))
  have k15 : w5.cell? ⟨S.g, 15, none⟩ = some (.int .i64 (visR S p fr ord 0 (x0Of p.fix) ⟨-24000000, [], 0, false⟩).most) := (blk_cell hD5.blk 15).trans rfl
  have k16 : w5.cell? ⟨S.g, 16, none⟩ = some (.bool (visR S p fr ord 0 (x0Of p.fix) ⟨-24000000, [], 0, false⟩).found) := (blk_cell hD5.blk 16).trans rfl
  have HB5 := Lib.hid (show Below w.heap.size w w5 from hbw3.trans ((HBt.out.trans hb5).below hbw3.size fun i hi => by have := HN.out.fr i hi; have := hbw2.size; omega))
  clear hD5 hb5 HD k13 f13 hgl
  generalize visR S p fr ord 0 (x0Of p.fix) ⟨-24000000, [], 0, false⟩ = β at *
  go_wp2_with fail
  go_quiet (fail)
  go_wp2_with fail
  go_ret2
  exact ⟨_, _, rfl, HGr.out, below_drewN HB5.out _⟩

/-- the search of first: with other flags -/
theorem newS_first {w w3 w4 : World} {S : Sh} {p : ProbM} {fr ord : List Nat} (h : NewS w w3 S p fr ord) (mo : Int) (hg : w3.grownBy w4 (some S.g)) (hb : w4.heap[S.g]? = some (.cells (Sh.cells { S with one := true, once := true } (dotL p.val (x0Of p.fix)) mo (.slice none 0 0) 0 false) 71)) :
    ∃ S' : Sh, S'.g = S.g ∧ S'.k = S.k ∧ S'.one = true ∧ S'.once = true ∧ (∀ i, S'.F i → S.F i) ∧ Pu S' p fr ord ∧ (∀ w'', But S'.F w4 w'' → St w'' S' p fr ord) ∧ Dy w4 w.heap.size S' p (x0Of p.fix) ⟨mo, [], 0, false⟩ (.slice none 0 0) ∧ But S.F w3 w4 ∧ S'.n = S.n := by
  have hB : But S.F w3 w4 := But.gby hg fun j hj _ => by cases hj; exact .inl rfl
  refine ⟨{ S with one := true, once := true }, rfl, rfl, rfl, rfl, fun i hi => hi, ?_, fun w'' hw => ?_, ?_, hB, rfl⟩
  · exact ⟨h.pu.valid, h.pu.n, h.pu.m, h.pu.k, h.pu.kle, h.pu.lt, h.pu.nd, h.pu.lo, h.pu.ord, h.pu.lok, h.pu.wd, h.pu.ne1, h.pu.ne2, h.pu.ne3⟩
  · have hw' : But S.F w4 w'' := hw
    have hs := h.st w'' (hB.trans hw')
    exact ⟨hs.val, hs.rows, hs.fr, hs.low, hs.high, hs.ord⟩
  · exact ⟨hb, h.dy.ox.by hg (.inr (by simp [Value.ownBlock]; exact fun e => h.pu.ne1 e.symm)), h.dy.os.by hg (.inr (by simp [Value.ownBlock]; exact fun e => h.pu.ne2 e.symm)), h.dy.ob.by hg (.inr fun e => by cases e), fun j hj => by cases hj⟩

set_option maxHeartbeats 8000000 in
theorem first_any (p : ProbM) (z : List Int) (mo : Int) (a0 a1 a2 : Option Addr) (n m c0 c1 c2 : Nat) (w : World) (h0 : Row .i64 w a0 n c0 p.val) (h1 : RowsIn w a1 m c1 p.rows) (h2 : Row .i64 w a2 n c2 p.fix) (hv : ValidM p) (hn : n ≤ 19) (hbest : bestOf p.rows p.val p.fix = (some z, mo)) :
    Calls Try.prog 40 #[.agg #[.slice a0 n c0, .slice a1 m c1, .slice a2 n c2], .int .i64 mo] w fun e w' => ∃ v, e = .returned v ∧ OwnI w' w.heap.size v z ∧ Below w.heap.size w w' := by
  have HV := Lib.hid hv
  have HBe := Lib.hid hbest
  have e0 := Lib.hid h0.1
  have e2 := Lib.hid h2.1
  have hb0 : Below w.heap.size w (w.alloc (.cells #[.slice a0 n c0, .slice a1 m c1, .slice a2 n c2] 25)) := (Below.refl _ _).alloc (Nat.le_refl _) _
  have HB := Lib.hid (box3 w 25 (.slice a0 n c0) (.slice a1 m c1) (.slice a2 n c2))
  have HAw := Lib.hid (show ∀ w', Below w.heap.size w w' → Row .i64 w' a0 n c0 p.val ∧ RowsIn w' a1 m c1 p.rows ∧ Row .i64 w' a2 n c2 p.fix from fun w' hb => ⟨h0.below hb, h1.below hb, h2.below hb⟩)
  have hws : w.heap.size < (w.alloc (.cells #[.slice a0 n c0, .slice a1 m c1, .slice a2 n c2] 25)).heap.size := by simp
  clear h0 h1 h2 hv hbest
  go_enter Try.func40, Try.ntmps40
  go_wp2_with fail
  generalize w.alloc (.cells #[.slice a0 n c0, .slice a1 m c1, .slice a2 n c2] 25) = w0 at *
  have q0 : ∀ W : Ext w0.heap.size w0, W.1.cell? ⟨w.heap.size, 0, none⟩ = some (.slice a0 n c0) := fun W => (HB.out W.1 W.2).1
  have q1 : ∀ W : Ext w0.heap.size w0, W.1.cell? ⟨w.heap.size, 1, none⟩ = some (.slice a1 m c1) := fun W => (HB.out W.1 W.2).2.1
  have q2 : ∀ W : Ext w0.heap.size w0, W.1.cell? ⟨w.heap.size, 2, none⟩ = some (.slice a2 n c2) := fun W => (HB.out W.1 W.2).2.2
  refine wp_region_sched [(0, false), (1, false), (2, true), (3, true), (4, false)] (fun w' => ∃ W : Ext w0.heap.size w0, w' = W.1) (by kernel_rfl) (by kernel_rfl) ⟨⟨w0.drew, (Below.refl _ _).drew⟩, rfl⟩ ?_
  repeat (refine wpSched_calm rfl (fun K hK => ?_); go_simp; refine hK _ ?_; clear hK K)
  clear q0 q1 q2
  have hbd : Below w0.heap.size w0 w0.drew := (Below.refl _ _).drew
  have hsd : w0.heap.size = w0.drew.heap.size := rfl
  generalize w0.drew = w1 at *
  refine wpSched_eff rfl rfl (fun K hK => ?_)
  go_simp
  refine (freevars_any p a0 a1 a2 n c0 m c1 n c2 w1 (HAw.out _ (hb0.trans (hbd.mono hb0.size))).2.2 HV.out.fix (by omega)).mono ?_
  rintro e w2 ⟨v, rfl, hO, hb⟩
  have hB2 := hbd.trans (hb.mono (Nat.le_of_eq hsd))
  obtain ⟨an, ln, cn, rfl, hI⟩ := Owns.ints (show Owns w2 w1.heap.size 3 v (ivs (ixs (freeIx 0 p.fix))) from hO)
  have hll : (freeIx 0 p.fix).length = ln := by have := hI.1; rwa [ixs_len] at this
  have hff := fr_facts e2.out (List.Perm.refl _)
  have hbw2 : Below w.heap.size w w2 := hb0.trans (hB2.mono hb0.size)
  have HI := Lib.hid (And.intro hI (And.intro hff hll))
  have HR := Lib.hid (HAw.out w2 hbw2)
  clear hI hff hbd hsd hb hO
  refine hK _ _ ⟨⟨w2, hB2⟩, rfl⟩ ?_
  clear hK K
  refine wpSched_eff rfl rfl (fun K hK => ?_)
  go_simp
  refine (newsearch_any p (freeIx 0 p.fix) a0 a1 a2 an n m ln c0 c1 c2 cn w2 HR.out.1 HR.out.2.1 HR.out.2.2 HI.out.1 HV.out HI.out.2.1.1 HI.out.2.1.2.1 (by have := HI.out.2.1.2.2; omega) (by have := HI.out.2.1.2.2; omega)).mono ?_
  rintro e w3 ⟨S, ord, rfl, hN⟩
  have HN := Lib.hid hN
  have hB3 := hB2.trans (hN.bel.mono hB2.size)
  have k4 : w3.cell? ⟨S.g, 4, none⟩ = some (.bool S.one) := (blk_cell hN.dy.blk 4).trans rfl
  have k5 : w3.cell? ⟨S.g, 5, none⟩ = some (.bool S.once) := (blk_cell hN.dy.blk 5).trans rfl
  have k13 : w3.cell? ⟨S.g, 13, none⟩ = some (.int .i64 0) := (blk_cell hN.dy.blk 13).trans rfl
  have f4 := blk_free hN.dy.blk 4
  have f5 := blk_free hN.dy.blk 5
  have f13 := blk_free hN.dy.blk 13
  have hgl := blk_lt hN.dy.blk
  have hbw3 : Below w.heap.size w w3 := hbw2.trans (hN.bel.mono hbw2.size)
  clear hN
  refine hK _ _ ⟨⟨w3, hB3⟩, rfl⟩ ?_
  clear hK K
  repeat (refine wpSched_calm rfl (fun K hK => ?_); go_simp; refine hK _ ?_; clear hK K)
  refine wpSched_nil ?_
  go_wp2_with fail
  have hF4 := newS_first HN.out mo (w4 := ((w3.setCell ⟨S.g, 4, none⟩ (.bool true)).setCell ⟨S.g, 5, none⟩ (.bool true)).setCell ⟨S.g, 13, none⟩ (.int .i64 mo)) (gby_trans (gby_trans (gby_set _ _ _ _) (gby_set _ _ _ _)) (gby_set _ _ _ _)) ((heap_setCell_same _ S.g 13 _ _ (.int .i64 mo) (heap_setCell_same _ S.g 5 _ _ (.bool true) (heap_setCell_same w3 S.g 4 _ _ (.bool true) HN.out.dy.blk))).trans rfl)
  generalize ((w3.setCell ⟨S.g, 4, none⟩ (.bool true)).setCell ⟨S.g, 5, none⟩ (.bool true)).setCell ⟨S.g, 13, none⟩ (.int .i64 mo) = w4 at *
  obtain ⟨S', hg, hk', ho1, ho2, hFF, hPu, hSt, hDy, hBt, hn'⟩ := hF4
  have hA : As S' ((freeIx 0 p.fix).drop 0) (x0Of p.fix) := ⟨by rw [hn', ← HN.out.pu.n, List.drop_zero]; exact gd_start HV.out (List.Perm.refl _), x0_bits HV.out.fix⟩
  have hvis : Calls Try.prog 51 #[.pointer (some ⟨S.g, 0, none⟩), .int .i64 0] w4 fun e w' => e = .returned (.tuple #[]) ∧ (∃ vb', Dy w' w2.heap.size S' p (x0Of p.fix) (visR S' p (freeIx 0 p.fix) ord 0 (x0Of p.fix) ⟨mo, [], 0, false⟩) vb') ∧ But S'.F w4 w' := by
    have h := visit_any S' p (freeIx 0 p.fix) ord w2.heap.size hPu S'.k 0 (by omega) (x0Of p.fix) ⟨mo, [], 0, false⟩ (.slice none 0 0) w4 hSt hDy hA (by have := hBt.size; have := HN.out.bel.size; omega)
    rw [hg] at h
    exact h
  have hfo : (visR S' p (freeIx 0 p.fix) ord 0 (x0Of p.fix) ⟨mo, [], 0, false⟩).best = z := by
    refine first_ok HV.out HBe.out ?_
    rw [vis_fold hPu HN.out.perm HN.out.srt hA, ho2, show lateR S' p = fun _ => false from by funext i; simp [lateR, ho1]]
  have HFo := Lib.hid hfo
  have HM := Lib.hid (And.intro hg (And.intro hFF hBt))
  clear hfo hg hFF hBt hPu hSt hDy hA ho1 ho2 hk' hn' k4 k5 k13 f4 f5 f13 hgl
  refine hvis.mono ?_
  clear hvis
  rintro e w5 ⟨rfl, ⟨vb5, hD5⟩, hb5⟩
  have HOb := Lib.hid hD5.ob
  have k14 : w5.cell? ⟨S.g, 14, none⟩ = some vb5 := by rw [← HM.out.1]; exact (blk_cell hD5.blk 14).trans rfl
  have HB5 := Lib.hid (show Below w.heap.size w w5 from hbw3.trans ((HM.out.2.2.trans (hb5.mono fun i _ h => HM.out.2.1 i h)).below hbw3.size fun i hi => by have := HN.out.fr i hi; have := hbw2.size; omega))
  rw [HFo.out] at HOb
  clear hD5 hb5 HFo
  obtain ⟨av, lv, cv, rfl, -⟩ := Owns.ints (show Owns w5 w2.heap.size 3 vb5 (ivs z) from HOb.out)
  go_wp2_with fail
  go_ret
  exact ⟨_, rfl, HOb.out.mono hbw2.size, HB5.out⟩

end Go.Proofs.Ytkgikajfeihbbaa
