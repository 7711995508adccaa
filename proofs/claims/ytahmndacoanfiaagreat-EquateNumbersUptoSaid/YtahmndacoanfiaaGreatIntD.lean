/- Integers: what integer.DivMod returns for a divisor above 0. Condition: the limbs can be read, and take at most 2^47 bytes. -/
import Derived.Test.YtahmndacoanfiaaGreatIntA
namespace Go.Proofs.YtahmndacoanfiaaGreat
set_option maxRecDepth 100000
open Go.RowKit

theorem int_store2 {B B' g g2 : Nat} {w : World} {b b2 : Bool} {a a2 : Option Addr} {n c n2 c2 : Nat} {z z2 : Int} (h : IntN B w (.agg #[.bool b, .slice a n c]) z) (h2 : IntN B w (.agg #[.bool b2, .slice a2 n2 c2]) z2) (hg : g < B) (hg2 : g2 < B) (hB : B' ≤ B) :
    IntN B' ((((w.setCell ⟨g, 0, none⟩ (.bool b)).setCell ⟨g, 1, none⟩ (.slice a n c)).setCell ⟨g2, 0, none⟩ (.bool b2)).setCell ⟨g2, 1, none⟩ (.slice a2 n2 c2)) (.agg #[.bool b, .slice a n c]) z ∧ IntN B' ((((w.setCell ⟨g, 0, none⟩ (.bool b)).setCell ⟨g, 1, none⟩ (.slice a n c)).setCell ⟨g2, 0, none⟩ (.bool b2)).setCell ⟨g2, 1, none⟩ (.slice a2 n2 c2)) (.agg #[.bool b2, .slice a2 n2 c2]) z2 := by
  obtain ⟨x, l, k, e, h1, h3⟩ := h
  obtain ⟨x2, l2, k2, e2, h4, h5⟩ := h2
  cases e; cases e2
  exact ⟨⟨a, n, c, rfl, (((h1.off (h3.off hg) 0 _).off (h3.off hg) 1 _).off (h3.off hg2) 0 _).off (h3.off hg2) 1 _, h3.mono hB⟩,
    ⟨a2, n2, c2, rfl, (((h4.off (h5.off hg) 0 _).off (h5.off hg) 1 _).off (h5.off hg2) 0 _).off (h5.off hg2) 1 _, h5.mono hB⟩⟩
theorem divz_pos (m n : Nat) : ((m / n : Nat) : Int) = (m : Int) / (n : Int) ∧ ((m % n : Nat) : Int) = (m : Int) % (n : Int) := by simp
theorem divz_zero {m n : Nat} (h : m % n = 0) (hn : 0 < n) : -((m / n : Nat) : Int) = -(m : Int) / (n : Int) ∧ (0 : Int) = -(m : Int) % (n : Int) := by
  have hm : m = n * (m / n) := by have := Nat.div_add_mod m n; omega
  generalize m / n = q at *
  subst hm
  have h0 : (n : Int) ≠ 0 := by omega
  push_cast
  rw [← Int.mul_neg]
  exact ⟨(Int.mul_ediv_cancel_left _ h0).symm, (Int.mul_emod_right _ _).symm⟩
theorem divz_neg {m n : Nat} (h : m % n ≠ 0) (hn : 0 < n) : -((m / n + 1 : Nat) : Int) = -(m : Int) / (n : Int) ∧ ((n - m % n : Nat) : Int) = -(m : Int) % (n : Int) := by
  have hm := Nat.div_add_mod m n
  have hl := Nat.mod_lt m hn
  generalize m / n = q at *
  generalize m % n = r at *
  subst hm
  have e : -((n * q + r : Nat) : Int) = (n : Int) * (-((q + 1 : Nat) : Int)) + ((n - r : Nat) : Int) := by
    push_cast [Nat.le_of_lt hl]
    rw [Int.mul_neg, Int.mul_add]; omega
  have k := Int.ediv_emod_unique (a := -((n * q + r : Nat) : Int)) (b := (n : Int)) (r := ((n - r : Nat) : Int)) (q := -((q + 1 : Nat) : Int)) (by omega)
  have := k.2 ⟨by rw [e]; omega, by omega, by omega⟩
  exact ⟨this.1.symm, this.2.symm⟩
theorem sgn_f (m : Nat) : sgn false m = (m : Int) := rfl
theorem sgn_t (m : Nat) : sgn true m = -(m : Int) := rfl

set_option maxHeartbeats 2000000 in
theorem idivmod_pos (xs xs2 : List Nat) (a a2 : Option Addr) (len cap len2 cap2 L : Nat) (w : World) (hx : Limbs w a len cap xs) (hy : Limbs w a2 len2 cap2 xs2) (h1 : len ≤ L) (h2 : len2 ≤ L) (hm : (L + 1) * 4 ≤ 140737488355328) (h0 : natOf xs2 ≠ 0)  :
    Calls Tryz.prog 60 #[.agg #[.bool false, .slice a len cap], .agg #[.bool false, .slice a2 len2 cap2]] w fun e w' => ∃ r s, e = .returned (.tuple #[r, s, .bool true]) ∧ IntN w.heap.size w' r ((natOf xs : Int) / (natOf xs2 : Int)) ∧ IntN w.heap.size w' s ((natOf xs : Int) % (natOf xs2 : Int)) ∧ Below w.heap.size w w' := by
  have HX := Lib.hid hx
  have HY := Lib.hid hy
  have hl1 := digs_length_of hx.2.1
  have hl2 := digs_length_of hy.2.1
  rw [hx.1] at hl1
  rw [hy.1] at hl2
  have hq1 := digs_len_le' (Nat.div_le_self (natOf xs) (natOf xs2))
  have hr1 := digs_len_le' (Nat.mod_le (natOf xs) (natOf xs2))
  have hL1 : 1 ≤ L := Nat.le_trans (Nat.le_trans (Nat.one_le_iff_ne_zero.2 (fun h => h0 (digs_len_zero.1 h))) hl2) h2
  clear hx hy
  have HZ := Lib.hid (show sgn false (natOf xs / natOf xs2) = (natOf xs : Int) / (natOf xs2 : Int) ∧ sgn false (natOf xs % natOf xs2) = (natOf xs : Int) % (natOf xs2 : Int) from divz_pos _ _)
  go_enter Tryz.func60, Tryz.ntmps60
  go_wp2_with fail
  have hbx : Below w.heap.size w ((((w.alloc (.cells #[.bool false, .slice a len cap] 26)).alloc (.cells #[.bool false, .slice a2 len2 cap2] 26)).alloc (.cells #[.bool false, .slice none 0 0] 26)).alloc (.cells #[.bool false, .slice none 0 0] 26)) := (((((Below.refl _ _).alloc (Nat.le_refl _) _).alloc (by simp) _).alloc (by simp <;> omega) _).alloc (by simp <;> omega) _)
  generalize hWW : ((((w.alloc (.cells #[.bool false, .slice a len cap] 26)).alloc (.cells #[.bool false, .slice a2 len2 cap2] 26)).alloc (.cells #[.bool false, .slice none 0 0] 26)).alloc (.cells #[.bool false, .slice none 0 0] 26)) = w0 at *
  replace HX := Lib.hid (HX.out.below hbx)
  replace HY := Lib.hid (HY.out.below hbx)
  have cA0 : w0.cell? ⟨w.heap.size, 0, none⟩ = some (.bool false) := by subst hWW; go_simp
  have cA1 : w0.cell? ⟨w.heap.size, 1, none⟩ = some (.slice a len cap) := by subst hWW; go_simp
  have ltA : w.heap.size < w0.heap.size := by subst hWW; simp <;> omega
  have cB0 : w0.cell? ⟨w.heap.size + 1, 0, none⟩ = some (.bool false) := by subst hWW; go_simp
  have cB1 : w0.cell? ⟨w.heap.size + 1, 1, none⟩ = some (.slice a2 len2 cap2) := by subst hWW; go_simp
  have ltB : w.heap.size + 1 < w0.heap.size := by subst hWW; simp <;> omega
  have cR0 : w0.cell? ⟨w.heap.size + 1 + 1, 0, none⟩ = some (.bool false) := by subst hWW; go_simp
  have fR0 : w0.frozen? ⟨w.heap.size + 1 + 1, 0, none⟩ = false := by subst hWW; go_simp
  have cR1 : w0.cell? ⟨w.heap.size + 1 + 1, 1, none⟩ = some (.slice none 0 0) := by subst hWW; go_simp
  have fR1 : w0.frozen? ⟨w.heap.size + 1 + 1, 1, none⟩ = false := by subst hWW; go_simp
  have ltR : w.heap.size + 1 + 1 < w0.heap.size := by subst hWW; simp <;> omega
  have cS0 : w0.cell? ⟨w.heap.size + 1 + 1 + 1, 0, none⟩ = some (.bool false) := by subst hWW; go_simp
  have fS0 : w0.frozen? ⟨w.heap.size + 1 + 1 + 1, 0, none⟩ = false := by subst hWW; go_simp
  have cS1 : w0.cell? ⟨w.heap.size + 1 + 1 + 1, 1, none⟩ = some (.slice none 0 0) := by subst hWW; go_simp
  have fS1 : w0.frozen? ⟨w.heap.size + 1 + 1 + 1, 1, none⟩ = false := by subst hWW; go_simp
  have ltS : w.heap.size + 1 + 1 + 1 < w0.heap.size := by subst hWW; simp
  have hB := hbx
  clear hbx hWW
  refine (divmod_new _ _ _ _ _ _ _ _ _ HX.out HY.out (by omega) h0).mono ?_
  rintro e w1 ⟨v1, u1, rfl, hv1, hu1, hb⟩
  replace cA0 := bc hb ltA cA0
  replace cA1 := bc hb ltA cA1
  replace ltA := bl hb ltA
  replace cB0 := bc hb ltB cB0
  replace cB1 := bc hb ltB cB1
  replace ltB := bl hb ltB
  replace cR0 := bc hb ltR cR0
  replace fR0 := bf hb ltR fR0
  replace cR1 := bc hb ltR cR1
  replace fR1 := bf hb ltR fR1
  replace ltR := bl hb ltR
  replace cS0 := bc hb ltS cS0
  replace fS0 := bf hb ltS fS0
  replace cS1 := bc hb ltS cS1
  replace fS1 := bf hb ltS fS1
  replace ltS := bl hb ltS
  replace HX := Lib.hid (HX.out.below hb)
  replace HY := Lib.hid (HY.out.below hb)
  replace hB := hB.trans (hb.mono hB.size)
  have HQ := Lib.hid hv1.1
  have HU := Lib.hid hu1.1
  clear hv1 hu1
  clear hb
  go_wp2_with fail
  have eA0 := Gr.cell (R := w.heap.size + 1 + 1) (R2 := w.heap.size + 1 + 1 + 1) cA0 ltA (by omega) (by omega)
  have eA1 := Gr.cell (R := w.heap.size + 1 + 1) (R2 := w.heap.size + 1 + 1 + 1) cA1 ltA (by omega) (by omega)
  have eB0 := Gr.cell (R := w.heap.size + 1 + 1) (R2 := w.heap.size + 1 + 1 + 1) cB0 ltB (by omega) (by omega)
  have eB1 := Gr.cell (R := w.heap.size + 1 + 1) (R2 := w.heap.size + 1 + 1 + 1) cB1 ltB (by omega) (by omega)
  refine wp_region_sched [(0, false), (1, false), (2, false), (3, false), (4, false), (5, false), (7, false), (8, false), (9, false), (6, true), (10, true), (11, true), (12, true), (13, false)] (fun w' => ∃ W : Gr (w.heap.size + 1 + 1) (w.heap.size + 1 + 1 + 1) w1, w' = W.1) (by kernel_rfl) (by kernel_rfl) ⟨⟨w1.drew, below_grown (Below.refl _ _).drew⟩, rfl⟩ ?_
  repeat (refine wpSched_calm rfl (fun K hK => ?_); go_simp; refine hK _ ?_; clear hK K)
  clear eA0 eA1 eB0 eB1
  have hbx : Below w1.heap.size w1 w1.drew := (Below.refl _ _).drew
  have hM := below_grown (R := w.heap.size + 1 + 1) (R2 := w.heap.size + 1 + 1 + 1) hbx
  replace cA0 := bc hbx ltA cA0
  replace cA1 := bc hbx ltA cA1
  replace ltA := bl hbx ltA
  replace cB0 := bc hbx ltB cB0
  replace cB1 := bc hbx ltB cB1
  replace ltB := bl hbx ltB
  replace cR0 := bc hbx ltR cR0
  replace fR0 := bf hbx ltR fR0
  replace cR1 := bc hbx ltR cR1
  replace fR1 := bf hbx ltR fR1
  replace ltR := bl hbx ltR
  replace cS0 := bc hbx ltS cS0
  replace fS0 := bf hbx ltS fS0
  replace cS1 := bc hbx ltS cS1
  replace fS1 := bf hbx ltS fS1
  replace ltS := bl hbx ltS
  replace HX := Lib.hid (HX.out.below hbx)
  replace HY := Lib.hid (HY.out.below hbx)
  replace HQ := Lib.hid (HQ.out.below hbx)
  replace HU := Lib.hid (HU.out.below hbx)
  replace hB := hB.trans (hbx.mono hB.size)
  clear hbx
  generalize w1.drew = ww1d at *
  have hs1 := ltR
  have hs2 := ltS
  refine wpSched_eff rfl rfl (fun K hK => ?_)
  go_simp
  refine (imake_num _ _ _ _ HQ.out (by omega)).mono ?_
  rintro e w5 ⟨v5, rfl, hv5, hb⟩
  replace cA0 := bc hb ltA cA0
  replace cA1 := bc hb ltA cA1
  replace ltA := bl hb ltA
  replace cB0 := bc hb ltB cB0
  replace cB1 := bc hb ltB cB1
  replace ltB := bl hb ltB
  replace cR0 := bc hb ltR cR0
  replace fR0 := bf hb ltR fR0
  replace cR1 := bc hb ltR cR1
  replace fR1 := bf hb ltR fR1
  replace ltR := bl hb ltR
  replace cS0 := bc hb ltS cS0
  replace fS0 := bf hb ltS fS0
  replace cS1 := bc hb ltS cS1
  replace fS1 := bf hb ltS fS1
  replace ltS := bl hb ltS
  replace HX := Lib.hid (HX.out.below hb)
  replace HY := Lib.hid (HY.out.below hb)
  replace HQ := Lib.hid (HQ.out.below hb)
  replace HU := Lib.hid (HU.out.below hb)
  replace hM := grown_below hM hb
  replace hB := hB.trans (hb.mono hB.size)
  rw [HZ.out.1] at hv5
  have HW5 := Lib.hid hv5
  have hsz5 := hb.size
  clear hv5
  clear hb
  refine hK _ _ ⟨⟨w5, hM⟩, rfl⟩ ?_
  clear hK K
  refine wpSched_eff rfl rfl (fun K hK => ?_)
  go_simp
  refine (imake_num _ _ _ _ HU.out (by omega)).mono ?_
  rintro e w6 ⟨v6, rfl, hv6, hb⟩
  replace cA0 := bc hb ltA cA0
  replace cA1 := bc hb ltA cA1
  replace ltA := bl hb ltA
  replace cB0 := bc hb ltB cB0
  replace cB1 := bc hb ltB cB1
  replace ltB := bl hb ltB
  replace cR0 := bc hb ltR cR0
  replace fR0 := bf hb ltR fR0
  replace cR1 := bc hb ltR cR1
  replace fR1 := bf hb ltR fR1
  replace ltR := bl hb ltR
  replace cS0 := bc hb ltS cS0
  replace fS0 := bf hb ltS fS0
  replace cS1 := bc hb ltS cS1
  replace fS1 := bf hb ltS fS1
  replace ltS := bl hb ltS
  replace HX := Lib.hid (HX.out.below hb)
  replace HY := Lib.hid (HY.out.below hb)
  replace HQ := Lib.hid (HQ.out.below hb)
  replace HU := Lib.hid (HU.out.below hb)
  replace HW5 := Lib.hid (HW5.out.below hb)
  replace hM := grown_below hM hb
  replace hB := hB.trans (hb.mono hB.size)
  rw [HZ.out.2] at hv6
  have hv5 := HW5.out
  obtain ⟨a5, n5, c5, rfl, p5, q5⟩ := hv5
  obtain ⟨a6, n6, c6, rfl, p6, q6⟩ := hv6
  have HFin := Lib.hid (int_store2 (B := ww1d.heap.size) (B' := w.heap.size) (g := w.heap.size + 1 + 1) (g2 := w.heap.size + 1 + 1 + 1) ⟨a5, n5, c5, rfl, p5, q5⟩ ⟨a6, n6, c6, rfl, p6, q6.mono hsz5⟩ hs1 hs2 (by omega))
  clear p5 q5 p6 q6 HW5
  generalize decide ((natOf xs : Int) / (natOf xs2 : Int) < 0) = d5 at *
  generalize decide ((natOf xs : Int) % (natOf xs2 : Int) < 0) = d6 at *
  clear hb
  refine hK _ _ ⟨⟨w6, hM⟩, rfl⟩ ?_
  clear hK K
  refine wpSched_eff rfl rfl (fun K hK => ?_)
  go_simp
  refine hK _ _ ⟨⟨_, grown_set (grown_set hM 0 _) 1 _⟩, rfl⟩ ?_
  clear hK K
  refine wpSched_eff rfl rfl (fun K hK => ?_)
  go_simp
  refine hK _ _ ⟨⟨_, grown_set2 (grown_set2 (grown_set (grown_set hM 0 _) 1 _) 0 _) 1 _⟩, rfl⟩ ?_
  clear hK K
  repeat (refine wpSched_calm rfl (fun K hK => ?_); go_simp; refine hK _ ?_; clear hK K)
  refine wpSched_nil ?_
  go_wp2_with fail
  exact bodyPost_ret (v := .tuple #[.agg #[.bool d5, .slice a5 n5 c5], .agg #[.bool d6, .slice a6 n6 c6], .bool true]) (by simp [results, Tryz.results60, go_sem, cR0, cR1, cS0, cS1]) rfl ⟨_, _, rfl, HFin.out.1, HFin.out.2, (((hB.setCell (p := ⟨w.heap.size + 1 + 1, 0, none⟩) (by simp <;> omega) _).setCell (p := ⟨w.heap.size + 1 + 1, 1, none⟩) (by simp <;> omega) _).setCell (p := ⟨w.heap.size + 1 + 1 + 1, 0, none⟩) (by simp <;> omega) _).setCell (p := ⟨w.heap.size + 1 + 1 + 1, 1, none⟩) (by simp <;> omega) _⟩

set_option maxHeartbeats 2000000 in
theorem idivmod_zero (xs xs2 : List Nat) (a a2 : Option Addr) (len cap len2 cap2 L : Nat) (w : World) (hx : Limbs w a len cap xs) (hy : Limbs w a2 len2 cap2 xs2) (h1 : len ≤ L) (h2 : len2 ≤ L) (hm : (L + 1) * 4 ≤ 140737488355328) (h0 : natOf xs2 ≠ 0) (hr0 : natOf xs % natOf xs2 = 0) :
    Calls Tryz.prog 60 #[.agg #[.bool true, .slice a len cap], .agg #[.bool false, .slice a2 len2 cap2]] w fun e w' => ∃ r s, e = .returned (.tuple #[r, s, .bool true]) ∧ IntN w.heap.size w' r (-(natOf xs : Int) / (natOf xs2 : Int)) ∧ IntN w.heap.size w' s (-(natOf xs : Int) % (natOf xs2 : Int)) ∧ Below w.heap.size w w' := by
  have HX := Lib.hid hx
  have HY := Lib.hid hy
  have hl1 := digs_length_of hx.2.1
  have hl2 := digs_length_of hy.2.1
  rw [hx.1] at hl1
  rw [hy.1] at hl2
  have hq1 := digs_len_le' (Nat.div_le_self (natOf xs) (natOf xs2))
  have hr1 := digs_len_le' (Nat.mod_le (natOf xs) (natOf xs2))
  have hL1 : 1 ≤ L := Nat.le_trans (Nat.le_trans (Nat.one_le_iff_ne_zero.2 (fun h => h0 (digs_len_zero.1 h))) hl2) h2
  clear hx hy
  have HZ := Lib.hid (show sgn true (natOf xs / natOf xs2) = -(natOf xs : Int) / (natOf xs2 : Int) ∧ sgn true (natOf xs % natOf xs2) = -(natOf xs : Int) % (natOf xs2 : Int) from ⟨(divz_zero hr0 (by omega)).1, by rw [hr0]; exact (divz_zero hr0 (by omega)).2⟩)
  go_enter Tryz.func60, Tryz.ntmps60
  go_wp2_with fail
  have hbx : Below w.heap.size w ((((w.alloc (.cells #[.bool true, .slice a len cap] 26)).alloc (.cells #[.bool false, .slice a2 len2 cap2] 26)).alloc (.cells #[.bool false, .slice none 0 0] 26)).alloc (.cells #[.bool false, .slice none 0 0] 26)) := (((((Below.refl _ _).alloc (Nat.le_refl _) _).alloc (by simp) _).alloc (by simp <;> omega) _).alloc (by simp <;> omega) _)
  generalize hWW : ((((w.alloc (.cells #[.bool true, .slice a len cap] 26)).alloc (.cells #[.bool false, .slice a2 len2 cap2] 26)).alloc (.cells #[.bool false, .slice none 0 0] 26)).alloc (.cells #[.bool false, .slice none 0 0] 26)) = w0 at *
  replace HX := Lib.hid (HX.out.below hbx)
  replace HY := Lib.hid (HY.out.below hbx)
  have cA0 : w0.cell? ⟨w.heap.size, 0, none⟩ = some (.bool true) := by subst hWW; go_simp
  have cA1 : w0.cell? ⟨w.heap.size, 1, none⟩ = some (.slice a len cap) := by subst hWW; go_simp
  have ltA : w.heap.size < w0.heap.size := by subst hWW; simp <;> omega
  have cB0 : w0.cell? ⟨w.heap.size + 1, 0, none⟩ = some (.bool false) := by subst hWW; go_simp
  have cB1 : w0.cell? ⟨w.heap.size + 1, 1, none⟩ = some (.slice a2 len2 cap2) := by subst hWW; go_simp
  have ltB : w.heap.size + 1 < w0.heap.size := by subst hWW; simp <;> omega
  have cR0 : w0.cell? ⟨w.heap.size + 1 + 1, 0, none⟩ = some (.bool false) := by subst hWW; go_simp
  have fR0 : w0.frozen? ⟨w.heap.size + 1 + 1, 0, none⟩ = false := by subst hWW; go_simp
  have cR1 : w0.cell? ⟨w.heap.size + 1 + 1, 1, none⟩ = some (.slice none 0 0) := by subst hWW; go_simp
  have fR1 : w0.frozen? ⟨w.heap.size + 1 + 1, 1, none⟩ = false := by subst hWW; go_simp
  have ltR : w.heap.size + 1 + 1 < w0.heap.size := by subst hWW; simp <;> omega
  have cS0 : w0.cell? ⟨w.heap.size + 1 + 1 + 1, 0, none⟩ = some (.bool false) := by subst hWW; go_simp
  have fS0 : w0.frozen? ⟨w.heap.size + 1 + 1 + 1, 0, none⟩ = false := by subst hWW; go_simp
  have cS1 : w0.cell? ⟨w.heap.size + 1 + 1 + 1, 1, none⟩ = some (.slice none 0 0) := by subst hWW; go_simp
  have fS1 : w0.frozen? ⟨w.heap.size + 1 + 1 + 1, 1, none⟩ = false := by subst hWW; go_simp
  have ltS : w.heap.size + 1 + 1 + 1 < w0.heap.size := by subst hWW; simp
  have hB := hbx
  clear hbx hWW
  refine (divmod_new _ _ _ _ _ _ _ _ _ HX.out HY.out (by omega) h0).mono ?_
  rintro e w1 ⟨v1, u1, rfl, hv1, hu1, hb⟩
  replace cA0 := bc hb ltA cA0
  replace cA1 := bc hb ltA cA1
  replace ltA := bl hb ltA
  replace cB0 := bc hb ltB cB0
  replace cB1 := bc hb ltB cB1
  replace ltB := bl hb ltB
  replace cR0 := bc hb ltR cR0
  replace fR0 := bf hb ltR fR0
  replace cR1 := bc hb ltR cR1
  replace fR1 := bf hb ltR fR1
  replace ltR := bl hb ltR
  replace cS0 := bc hb ltS cS0
  replace fS0 := bf hb ltS fS0
  replace cS1 := bc hb ltS cS1
  replace fS1 := bf hb ltS fS1
  replace ltS := bl hb ltS
  replace HX := Lib.hid (HX.out.below hb)
  replace HY := Lib.hid (HY.out.below hb)
  replace hB := hB.trans (hb.mono hB.size)
  have HQ := Lib.hid hv1.1
  have HU := Lib.hid hu1.1
  clear hv1 hu1
  clear hb
  obtain ⟨au, nu, cu, rfl, hlu⟩ := HU.out
  have hnu := hlu.1
  have HUL := Lib.hid hlu
  clear hlu
  obtain rfl : nu = 0 := by rw [← hnu, hr0, digs_zero]; rfl
  clear hnu
  go_wp2_with fail
  have eA0 := Gr.cell (R := w.heap.size + 1 + 1) (R2 := w.heap.size + 1 + 1 + 1) cA0 ltA (by omega) (by omega)
  have eA1 := Gr.cell (R := w.heap.size + 1 + 1) (R2 := w.heap.size + 1 + 1 + 1) cA1 ltA (by omega) (by omega)
  have eB0 := Gr.cell (R := w.heap.size + 1 + 1) (R2 := w.heap.size + 1 + 1 + 1) cB0 ltB (by omega) (by omega)
  have eB1 := Gr.cell (R := w.heap.size + 1 + 1) (R2 := w.heap.size + 1 + 1 + 1) cB1 ltB (by omega) (by omega)
  refine wp_region_sched [(0, false), (1, false), (2, false), (3, false), (4, false), (5, false), (7, false), (8, false), (9, false), (6, true), (10, true), (11, true), (12, true), (13, false)] (fun w' => ∃ W : Gr (w.heap.size + 1 + 1) (w.heap.size + 1 + 1 + 1) w1, w' = W.1) (by kernel_rfl) (by kernel_rfl) ⟨⟨w1.drew, below_grown (Below.refl _ _).drew⟩, rfl⟩ ?_
  repeat (refine wpSched_calm rfl (fun K hK => ?_); go_simp; refine hK _ ?_; clear hK K)
  clear eA0 eA1 eB0 eB1
  have hbx : Below w1.heap.size w1 w1.drew := (Below.refl _ _).drew
  have hM := below_grown (R := w.heap.size + 1 + 1) (R2 := w.heap.size + 1 + 1 + 1) hbx
  replace cA0 := bc hbx ltA cA0
  replace cA1 := bc hbx ltA cA1
  replace ltA := bl hbx ltA
  replace cB0 := bc hbx ltB cB0
  replace cB1 := bc hbx ltB cB1
  replace ltB := bl hbx ltB
  replace cR0 := bc hbx ltR cR0
  replace fR0 := bf hbx ltR fR0
  replace cR1 := bc hbx ltR cR1
  replace fR1 := bf hbx ltR fR1
  replace ltR := bl hbx ltR
  replace cS0 := bc hbx ltS cS0
  replace fS0 := bf hbx ltS fS0
  replace cS1 := bc hbx ltS cS1
  replace fS1 := bf hbx ltS fS1
  replace ltS := bl hbx ltS
  replace HX := Lib.hid (HX.out.below hbx)
  replace HY := Lib.hid (HY.out.below hbx)
  replace HQ := Lib.hid (HQ.out.below hbx)
  replace HU := Lib.hid (HU.out.below hbx)
  replace HUL := Lib.hid (HUL.out.below hbx)
  replace hB := hB.trans (hbx.mono hB.size)
  clear hbx
  generalize w1.drew = ww1d at *
  have hs1 := ltR
  have hs2 := ltS
  refine wpSched_eff rfl rfl (fun K hK => ?_)
  go_simp
  refine (imake_num _ _ _ _ HQ.out (by omega)).mono ?_
  rintro e w5 ⟨v5, rfl, hv5, hb⟩
  replace cA0 := bc hb ltA cA0
  replace cA1 := bc hb ltA cA1
  replace ltA := bl hb ltA
  replace cB0 := bc hb ltB cB0
  replace cB1 := bc hb ltB cB1
  replace ltB := bl hb ltB
  replace cR0 := bc hb ltR cR0
  replace fR0 := bf hb ltR fR0
  replace cR1 := bc hb ltR cR1
  replace fR1 := bf hb ltR fR1
  replace ltR := bl hb ltR
  replace cS0 := bc hb ltS cS0
  replace fS0 := bf hb ltS fS0
  replace cS1 := bc hb ltS cS1
  replace fS1 := bf hb ltS fS1
  replace ltS := bl hb ltS
  replace HX := Lib.hid (HX.out.below hb)
  replace HY := Lib.hid (HY.out.below hb)
  replace HQ := Lib.hid (HQ.out.below hb)
  replace HU := Lib.hid (HU.out.below hb)
  replace HUL := Lib.hid (HUL.out.below hb)
  replace hM := grown_below hM hb
  replace hB := hB.trans (hb.mono hB.size)
  rw [HZ.out.1] at hv5
  have HW5 := Lib.hid hv5
  have hsz5 := hb.size
  clear hv5
  clear hb
  refine hK _ _ ⟨⟨w5, hM⟩, rfl⟩ ?_
  clear hK K
  refine wpSched_eff rfl rfl (fun K hK => ?_)
  go_simp
  refine (imake_num _ _ _ _ HU.out (by omega)).mono ?_
  rintro e w6 ⟨v6, rfl, hv6, hb⟩
  replace cA0 := bc hb ltA cA0
  replace cA1 := bc hb ltA cA1
  replace ltA := bl hb ltA
  replace cB0 := bc hb ltB cB0
  replace cB1 := bc hb ltB cB1
  replace ltB := bl hb ltB
  replace cR0 := bc hb ltR cR0
  replace fR0 := bf hb ltR fR0
  replace cR1 := bc hb ltR cR1
  replace fR1 := bf hb ltR fR1
  replace ltR := bl hb ltR
  replace cS0 := bc hb ltS cS0
  replace fS0 := bf hb ltS fS0
  replace cS1 := bc hb ltS cS1
  replace fS1 := bf hb ltS fS1
  replace ltS := bl hb ltS
  replace HX := Lib.hid (HX.out.below hb)
  replace HY := Lib.hid (HY.out.below hb)
  replace HQ := Lib.hid (HQ.out.below hb)
  replace HU := Lib.hid (HU.out.below hb)
  replace HUL := Lib.hid (HUL.out.below hb)
  replace HW5 := Lib.hid (HW5.out.below hb)
  replace hM := grown_below hM hb
  replace hB := hB.trans (hb.mono hB.size)
  rw [HZ.out.2] at hv6
  have hv5 := HW5.out
  obtain ⟨a5, n5, c5, rfl, p5, q5⟩ := hv5
  obtain ⟨a6, n6, c6, rfl, p6, q6⟩ := hv6
  have HFin := Lib.hid (int_store2 (B := ww1d.heap.size) (B' := w.heap.size) (g := w.heap.size + 1 + 1) (g2 := w.heap.size + 1 + 1 + 1) ⟨a5, n5, c5, rfl, p5, q5⟩ ⟨a6, n6, c6, rfl, p6, q6.mono hsz5⟩ hs1 hs2 (by omega))
  clear p5 q5 p6 q6 HW5
  generalize decide (-(natOf xs : Int) / (natOf xs2 : Int) < 0) = d5 at *
  generalize decide (-(natOf xs : Int) % (natOf xs2 : Int) < 0) = d6 at *
  clear hb
  refine hK _ _ ⟨⟨w6, hM⟩, rfl⟩ ?_
  clear hK K
  refine wpSched_eff rfl rfl (fun K hK => ?_)
  go_simp
  refine hK _ _ ⟨⟨_, grown_set (grown_set hM 0 _) 1 _⟩, rfl⟩ ?_
  clear hK K
  refine wpSched_eff rfl rfl (fun K hK => ?_)
  go_simp
  refine hK _ _ ⟨⟨_, grown_set2 (grown_set2 (grown_set (grown_set hM 0 _) 1 _) 0 _) 1 _⟩, rfl⟩ ?_
  clear hK K
  repeat (refine wpSched_calm rfl (fun K hK => ?_); go_simp; refine hK _ ?_; clear hK K)
  refine wpSched_nil ?_
  go_wp2_with fail
  exact bodyPost_ret (v := .tuple #[.agg #[.bool d5, .slice a5 n5 c5], .agg #[.bool d6, .slice a6 n6 c6], .bool true]) (by simp [results, Tryz.results60, go_sem, cR0, cR1, cS0, cS1]) rfl ⟨_, _, rfl, HFin.out.1, HFin.out.2, (((hB.setCell (p := ⟨w.heap.size + 1 + 1, 0, none⟩) (by simp <;> omega) _).setCell (p := ⟨w.heap.size + 1 + 1, 1, none⟩) (by simp <;> omega) _).setCell (p := ⟨w.heap.size + 1 + 1 + 1, 0, none⟩) (by simp <;> omega) _).setCell (p := ⟨w.heap.size + 1 + 1 + 1, 1, none⟩) (by simp <;> omega) _⟩

set_option maxHeartbeats 2000000 in
theorem idivmod_neg (xs xs2 : List Nat) (a a2 : Option Addr) (len cap len2 cap2 L : Nat) (w : World) (hx : Limbs w a len cap xs) (hy : Limbs w a2 len2 cap2 xs2) (h1 : len ≤ L) (h2 : len2 ≤ L) (hm : (L + 1) * 4 ≤ 140737488355328) (h0 : natOf xs2 ≠ 0) (hr0 : natOf xs % natOf xs2 ≠ 0) :
    Calls Tryz.prog 60 #[.agg #[.bool true, .slice a len cap], .agg #[.bool false, .slice a2 len2 cap2]] w fun e w' => ∃ r s, e = .returned (.tuple #[r, s, .bool true]) ∧ IntN w.heap.size w' r (-(natOf xs : Int) / (natOf xs2 : Int)) ∧ IntN w.heap.size w' s (-(natOf xs : Int) % (natOf xs2 : Int)) ∧ Below w.heap.size w w' := by
  have HX := Lib.hid hx
  have HY := Lib.hid hy
  have hl1 := digs_length_of hx.2.1
  have hl2 := digs_length_of hy.2.1
  rw [hx.1] at hl1
  rw [hy.1] at hl2
  have hq1 := digs_len_le' (Nat.div_le_self (natOf xs) (natOf xs2))
  have hr1 := digs_len_le' (Nat.mod_le (natOf xs) (natOf xs2))
  have hL1 : 1 ≤ L := Nat.le_trans (Nat.le_trans (Nat.one_le_iff_ne_zero.2 (fun h => h0 (digs_len_zero.1 h))) hl2) h2
  clear hx hy
  have HZ := Lib.hid (show sgn true (natOf xs / natOf xs2 + 1) = -(natOf xs : Int) / (natOf xs2 : Int) ∧ sgn false (natOf xs2 - natOf xs % natOf xs2) = -(natOf xs : Int) % (natOf xs2 : Int) from divz_neg hr0 (by omega))
  go_enter Tryz.func60, Tryz.ntmps60
  go_wp2_with fail
  have hbx : Below w.heap.size w ((((w.alloc (.cells #[.bool true, .slice a len cap] 26)).alloc (.cells #[.bool false, .slice a2 len2 cap2] 26)).alloc (.cells #[.bool false, .slice none 0 0] 26)).alloc (.cells #[.bool false, .slice none 0 0] 26)) := (((((Below.refl _ _).alloc (Nat.le_refl _) _).alloc (by simp) _).alloc (by simp <;> omega) _).alloc (by simp <;> omega) _)
  generalize hWW : ((((w.alloc (.cells #[.bool true, .slice a len cap] 26)).alloc (.cells #[.bool false, .slice a2 len2 cap2] 26)).alloc (.cells #[.bool false, .slice none 0 0] 26)).alloc (.cells #[.bool false, .slice none 0 0] 26)) = w0 at *
  replace HX := Lib.hid (HX.out.below hbx)
  replace HY := Lib.hid (HY.out.below hbx)
  have cA0 : w0.cell? ⟨w.heap.size, 0, none⟩ = some (.bool true) := by subst hWW; go_simp
  have cA1 : w0.cell? ⟨w.heap.size, 1, none⟩ = some (.slice a len cap) := by subst hWW; go_simp
  have ltA : w.heap.size < w0.heap.size := by subst hWW; simp <;> omega
  have cB0 : w0.cell? ⟨w.heap.size + 1, 0, none⟩ = some (.bool false) := by subst hWW; go_simp
  have cB1 : w0.cell? ⟨w.heap.size + 1, 1, none⟩ = some (.slice a2 len2 cap2) := by subst hWW; go_simp
  have ltB : w.heap.size + 1 < w0.heap.size := by subst hWW; simp <;> omega
  have cR0 : w0.cell? ⟨w.heap.size + 1 + 1, 0, none⟩ = some (.bool false) := by subst hWW; go_simp
  have fR0 : w0.frozen? ⟨w.heap.size + 1 + 1, 0, none⟩ = false := by subst hWW; go_simp
  have cR1 : w0.cell? ⟨w.heap.size + 1 + 1, 1, none⟩ = some (.slice none 0 0) := by subst hWW; go_simp
  have fR1 : w0.frozen? ⟨w.heap.size + 1 + 1, 1, none⟩ = false := by subst hWW; go_simp
  have ltR : w.heap.size + 1 + 1 < w0.heap.size := by subst hWW; simp <;> omega
  have cS0 : w0.cell? ⟨w.heap.size + 1 + 1 + 1, 0, none⟩ = some (.bool false) := by subst hWW; go_simp
  have fS0 : w0.frozen? ⟨w.heap.size + 1 + 1 + 1, 0, none⟩ = false := by subst hWW; go_simp
  have cS1 : w0.cell? ⟨w.heap.size + 1 + 1 + 1, 1, none⟩ = some (.slice none 0 0) := by subst hWW; go_simp
  have fS1 : w0.frozen? ⟨w.heap.size + 1 + 1 + 1, 1, none⟩ = false := by subst hWW; go_simp
  have ltS : w.heap.size + 1 + 1 + 1 < w0.heap.size := by subst hWW; simp
  have hB := hbx
  clear hbx hWW
  refine (divmod_new _ _ _ _ _ _ _ _ _ HX.out HY.out (by omega) h0).mono ?_
  rintro e w1 ⟨v1, u1, rfl, hv1, hu1, hb⟩
  replace cA0 := bc hb ltA cA0
  replace cA1 := bc hb ltA cA1
  replace ltA := bl hb ltA
  replace cB0 := bc hb ltB cB0
  replace cB1 := bc hb ltB cB1
  replace ltB := bl hb ltB
  replace cR0 := bc hb ltR cR0
  replace fR0 := bf hb ltR fR0
  replace cR1 := bc hb ltR cR1
  replace fR1 := bf hb ltR fR1
  replace ltR := bl hb ltR
  replace cS0 := bc hb ltS cS0
  replace fS0 := bf hb ltS fS0
  replace cS1 := bc hb ltS cS1
  replace fS1 := bf hb ltS fS1
  replace ltS := bl hb ltS
  replace HX := Lib.hid (HX.out.below hb)
  replace HY := Lib.hid (HY.out.below hb)
  replace hB := hB.trans (hb.mono hB.size)
  have HQ := Lib.hid hv1.1
  have HU := Lib.hid hu1.1
  clear hv1 hu1
  clear hb
  obtain ⟨au, nu, cu, rfl, hlu⟩ := HU.out
  have hnu := hlu.1
  have HUL := Lib.hid hlu
  clear hlu
  have hnu0 : ((nu : Int) == 0) = false := by
    rw [beq_eq_false_iff_ne]; intro h
    exact hr0 (digs_len_zero.1 (by omega))
  have hnul : nu ≤ len := by omega
  clear hnu
  go_wp2_with fail
  refine (of_any 1 (by omega) _).mono ?_
  rintro e w2 ⟨v2, rfl, hv2, hb⟩
  replace cA0 := bc hb ltA cA0
  replace cA1 := bc hb ltA cA1
  replace ltA := bl hb ltA
  replace cB0 := bc hb ltB cB0
  replace cB1 := bc hb ltB cB1
  replace ltB := bl hb ltB
  replace cR0 := bc hb ltR cR0
  replace fR0 := bf hb ltR fR0
  replace cR1 := bc hb ltR cR1
  replace fR1 := bf hb ltR fR1
  replace ltR := bl hb ltR
  replace cS0 := bc hb ltS cS0
  replace fS0 := bf hb ltS fS0
  replace cS1 := bc hb ltS cS1
  replace fS1 := bf hb ltS fS1
  replace ltS := bl hb ltS
  replace HX := Lib.hid (HX.out.below hb)
  replace HY := Lib.hid (HY.out.below hb)
  replace HQ := Lib.hid (HQ.out.below hb)
  replace HU := Lib.hid (HU.out.below hb)
  replace HUL := Lib.hid (HUL.out.below hb)
  replace hB := hB.trans (hb.mono hB.size)
  have HV2 := Lib.hid hv2
  clear hv2
  clear hb
  go_wp2_with fail
  obtain ⟨aq, nq, cq, rfl, hlq⟩ := HQ.out
  obtain ⟨ao, no, co, rfl, hlo⟩ := HV2.out
  have hnq := hlq.1
  have hno := hlo.1
  have ho1 := digs_length_le (n := 1) (k := 1) (by simp)
  have HLq := Lib.hid hlq
  have HLo := Lib.hid hlo
  clear hlq hlo
  refine (add_any _ _ _ _ _ _ _ _ _ HLq.out HLo.out (by omega) (by omega)).mono ?_
  rintro e w3 ⟨v3, rfl, hv3, hb⟩
  replace cA0 := bc hb ltA cA0
  replace cA1 := bc hb ltA cA1
  replace ltA := bl hb ltA
  replace cB0 := bc hb ltB cB0
  replace cB1 := bc hb ltB cB1
  replace ltB := bl hb ltB
  replace cR0 := bc hb ltR cR0
  replace fR0 := bf hb ltR fR0
  replace cR1 := bc hb ltR cR1
  replace fR1 := bf hb ltR fR1
  replace ltR := bl hb ltR
  replace cS0 := bc hb ltS cS0
  replace fS0 := bf hb ltS fS0
  replace cS1 := bc hb ltS cS1
  replace fS1 := bf hb ltS fS1
  replace ltS := bl hb ltS
  replace HX := Lib.hid (HX.out.below hb)
  replace HY := Lib.hid (HY.out.below hb)
  replace HQ := Lib.hid (HQ.out.below hb)
  replace HU := Lib.hid (HU.out.below hb)
  replace HUL := Lib.hid (HUL.out.below hb)
  replace HV2 := Lib.hid (HV2.out.below hb)
  replace HLq := Lib.hid (HLq.out.below hb)
  replace HLo := Lib.hid (HLo.out.below hb)
  replace hB := hB.trans (hb.mono hB.size)
  rw [natOf_digs, natOf_digs] at hv3
  have HV3 := Lib.hid hv3
  clear hv3
  clear hb
  go_wp2_with fail
  refine (sub_new _ _ _ _ _ _ _ _ _ HY.out HUL.out (by omega) (by rw [natOf_digs]; exact Nat.le_of_lt (Nat.mod_lt _ (by omega)))).mono ?_
  rintro e w4 ⟨v4, rfl, hv4, hb⟩
  replace cA0 := bc hb ltA cA0
  replace cA1 := bc hb ltA cA1
  replace ltA := bl hb ltA
  replace cB0 := bc hb ltB cB0
  replace cB1 := bc hb ltB cB1
  replace ltB := bl hb ltB
  replace cR0 := bc hb ltR cR0
  replace fR0 := bf hb ltR fR0
  replace cR1 := bc hb ltR cR1
  replace fR1 := bf hb ltR fR1
  replace ltR := bl hb ltR
  replace cS0 := bc hb ltS cS0
  replace fS0 := bf hb ltS fS0
  replace cS1 := bc hb ltS cS1
  replace fS1 := bf hb ltS fS1
  replace ltS := bl hb ltS
  replace HX := Lib.hid (HX.out.below hb)
  replace HY := Lib.hid (HY.out.below hb)
  replace HQ := Lib.hid (HQ.out.below hb)
  replace HU := Lib.hid (HU.out.below hb)
  replace HUL := Lib.hid (HUL.out.below hb)
  replace HV2 := Lib.hid (HV2.out.below hb)
  replace HLq := Lib.hid (HLq.out.below hb)
  replace HLo := Lib.hid (HLo.out.below hb)
  replace HV3 := Lib.hid (HV3.out.below hb)
  replace hB := hB.trans (hb.mono hB.size)
  rw [natOf_digs] at hv4
  have HV4 := Lib.hid hv4.1
  clear hv4
  clear hb
  go_wp2_with fail
  have ha3 := digs_add_len (natOf xs / natOf xs2) 1 L (by omega) (by omega)
  have hs4 := digs_len_le' (Nat.sub_le (natOf xs2) (natOf xs % natOf xs2))
  have eA0 := Gr.cell (R := w.heap.size + 1 + 1) (R2 := w.heap.size + 1 + 1 + 1) cA0 ltA (by omega) (by omega)
  have eA1 := Gr.cell (R := w.heap.size + 1 + 1) (R2 := w.heap.size + 1 + 1 + 1) cA1 ltA (by omega) (by omega)
  have eB0 := Gr.cell (R := w.heap.size + 1 + 1) (R2 := w.heap.size + 1 + 1 + 1) cB0 ltB (by omega) (by omega)
  have eB1 := Gr.cell (R := w.heap.size + 1 + 1) (R2 := w.heap.size + 1 + 1 + 1) cB1 ltB (by omega) (by omega)
  refine wp_region_sched [(0, false), (2, false), (3, false), (4, false), (1, true), (5, true), (6, true), (7, true), (8, false)] (fun w' => ∃ W : Gr (w.heap.size + 1 + 1) (w.heap.size + 1 + 1 + 1) w4, w' = W.1) (by kernel_rfl) (by kernel_rfl) ⟨⟨w4.drew, below_grown (Below.refl _ _).drew⟩, rfl⟩ ?_
  repeat (refine wpSched_calm rfl (fun K hK => ?_); go_simp; refine hK _ ?_; clear hK K)
  clear eA0 eA1 eB0 eB1
  have hbx : Below w4.heap.size w4 w4.drew := (Below.refl _ _).drew
  have hM := below_grown (R := w.heap.size + 1 + 1) (R2 := w.heap.size + 1 + 1 + 1) hbx
  replace cA0 := bc hbx ltA cA0
  replace cA1 := bc hbx ltA cA1
  replace ltA := bl hbx ltA
  replace cB0 := bc hbx ltB cB0
  replace cB1 := bc hbx ltB cB1
  replace ltB := bl hbx ltB
  replace cR0 := bc hbx ltR cR0
  replace fR0 := bf hbx ltR fR0
  replace cR1 := bc hbx ltR cR1
  replace fR1 := bf hbx ltR fR1
  replace ltR := bl hbx ltR
  replace cS0 := bc hbx ltS cS0
  replace fS0 := bf hbx ltS fS0
  replace cS1 := bc hbx ltS cS1
  replace fS1 := bf hbx ltS fS1
  replace ltS := bl hbx ltS
  replace HX := Lib.hid (HX.out.below hbx)
  replace HY := Lib.hid (HY.out.below hbx)
  replace HQ := Lib.hid (HQ.out.below hbx)
  replace HU := Lib.hid (HU.out.below hbx)
  replace HUL := Lib.hid (HUL.out.below hbx)
  replace HV2 := Lib.hid (HV2.out.below hbx)
  replace HLq := Lib.hid (HLq.out.below hbx)
  replace HLo := Lib.hid (HLo.out.below hbx)
  replace HV3 := Lib.hid (HV3.out.below hbx)
  replace HV4 := Lib.hid (HV4.out.below hbx)
  replace hB := hB.trans (hbx.mono hB.size)
  clear hbx
  generalize w4.drew = ww4d at *
  have hs1 := ltR
  have hs2 := ltS
  refine wpSched_eff rfl rfl (fun K hK => ?_)
  go_simp
  refine (imake_num _ _ _ _ HV3.out (by omega)).mono ?_
  rintro e w5 ⟨v5, rfl, hv5, hb⟩
  replace cA0 := bc hb ltA cA0
  replace cA1 := bc hb ltA cA1
  replace ltA := bl hb ltA
  replace cB0 := bc hb ltB cB0
  replace cB1 := bc hb ltB cB1
  replace ltB := bl hb ltB
  replace cR0 := bc hb ltR cR0
  replace fR0 := bf hb ltR fR0
  replace cR1 := bc hb ltR cR1
  replace fR1 := bf hb ltR fR1
  replace ltR := bl hb ltR
  replace cS0 := bc hb ltS cS0
  replace fS0 := bf hb ltS fS0
  replace cS1 := bc hb ltS cS1
  replace fS1 := bf hb ltS fS1
  replace ltS := bl hb ltS
  replace HX := Lib.hid (HX.out.below hb)
  replace HY := Lib.hid (HY.out.below hb)
  replace HQ := Lib.hid (HQ.out.below hb)
  replace HU := Lib.hid (HU.out.below hb)
  replace HUL := Lib.hid (HUL.out.below hb)
  replace HV2 := Lib.hid (HV2.out.below hb)
  replace HLq := Lib.hid (HLq.out.below hb)
  replace HLo := Lib.hid (HLo.out.below hb)
  replace HV3 := Lib.hid (HV3.out.below hb)
  replace HV4 := Lib.hid (HV4.out.below hb)
  replace hM := grown_below hM hb
  replace hB := hB.trans (hb.mono hB.size)
  rw [HZ.out.1] at hv5
  have HW5 := Lib.hid hv5
  have hsz5 := hb.size
  clear hv5
  clear hb
  refine hK _ _ ⟨⟨w5, hM⟩, rfl⟩ ?_
  clear hK K
  refine wpSched_eff rfl rfl (fun K hK => ?_)
  go_simp
  refine (imake_num _ _ _ _ HV4.out (by omega)).mono ?_
  rintro e w6 ⟨v6, rfl, hv6, hb⟩
  replace cA0 := bc hb ltA cA0
  replace cA1 := bc hb ltA cA1
  replace ltA := bl hb ltA
  replace cB0 := bc hb ltB cB0
  replace cB1 := bc hb ltB cB1
  replace ltB := bl hb ltB
  replace cR0 := bc hb ltR cR0
  replace fR0 := bf hb ltR fR0
  replace cR1 := bc hb ltR cR1
  replace fR1 := bf hb ltR fR1
  replace ltR := bl hb ltR
  replace cS0 := bc hb ltS cS0
  replace fS0 := bf hb ltS fS0
  replace cS1 := bc hb ltS cS1
  replace fS1 := bf hb ltS fS1
  replace ltS := bl hb ltS
  replace HX := Lib.hid (HX.out.below hb)
  replace HY := Lib.hid (HY.out.below hb)
  replace HQ := Lib.hid (HQ.out.below hb)
  replace HU := Lib.hid (HU.out.below hb)
  replace HUL := Lib.hid (HUL.out.below hb)
  replace HV2 := Lib.hid (HV2.out.below hb)
  replace HLq := Lib.hid (HLq.out.below hb)
  replace HLo := Lib.hid (HLo.out.below hb)
  replace HV3 := Lib.hid (HV3.out.below hb)
  replace HV4 := Lib.hid (HV4.out.below hb)
  replace HW5 := Lib.hid (HW5.out.below hb)
  replace hM := grown_below hM hb
  replace hB := hB.trans (hb.mono hB.size)
  rw [HZ.out.2] at hv6
  have hv5 := HW5.out
  obtain ⟨a5, n5, c5, rfl, p5, q5⟩ := hv5
  obtain ⟨a6, n6, c6, rfl, p6, q6⟩ := hv6
  have HFin := Lib.hid (int_store2 (B := ww4d.heap.size) (B' := w.heap.size) (g := w.heap.size + 1 + 1) (g2 := w.heap.size + 1 + 1 + 1) ⟨a5, n5, c5, rfl, p5, q5⟩ ⟨a6, n6, c6, rfl, p6, q6.mono hsz5⟩ hs1 hs2 (by omega))
  clear p5 q5 p6 q6 HW5
  generalize decide (-(natOf xs : Int) / (natOf xs2 : Int) < 0) = d5 at *
  generalize decide (-(natOf xs : Int) % (natOf xs2 : Int) < 0) = d6 at *
  clear hb
  refine hK _ _ ⟨⟨w6, hM⟩, rfl⟩ ?_
  clear hK K
  refine wpSched_eff rfl rfl (fun K hK => ?_)
  go_simp
  refine hK _ _ ⟨⟨_, grown_set (grown_set hM 0 _) 1 _⟩, rfl⟩ ?_
  clear hK K
  refine wpSched_eff rfl rfl (fun K hK => ?_)
  go_simp
  refine hK _ _ ⟨⟨_, grown_set2 (grown_set2 (grown_set (grown_set hM 0 _) 1 _) 0 _) 1 _⟩, rfl⟩ ?_
  clear hK K
  repeat (refine wpSched_calm rfl (fun K hK => ?_); go_simp; refine hK _ ?_; clear hK K)
  refine wpSched_nil ?_
  go_wp2_with fail
  exact bodyPost_ret (v := .tuple #[.agg #[.bool d5, .slice a5 n5 c5], .agg #[.bool d6, .slice a6 n6 c6], .bool true]) (by simp [results, Tryz.results60, go_sem, cR0, cR1, cS0, cS1]) rfl ⟨_, _, rfl, HFin.out.1, HFin.out.2, (((hB.setCell (p := ⟨w.heap.size + 1 + 1, 0, none⟩) (by simp <;> omega) _).setCell (p := ⟨w.heap.size + 1 + 1, 1, none⟩) (by simp <;> omega) _).setCell (p := ⟨w.heap.size + 1 + 1 + 1, 0, none⟩) (by simp <;> omega) _).setCell (p := ⟨w.heap.size + 1 + 1 + 1, 1, none⟩) (by simp <;> omega) _⟩

theorem idivmod_any (v u : Value) (y z : Int) (L : Nat) (w : World) (hv : IntR w v y L) (hu : IntR w u z L) (hz : 0 < z) (hm : (L + 1) * 4 ≤ 140737488355328) :
    Calls Tryz.prog 60 #[v, u] w fun e w' => ∃ r s, e = .returned (.tuple #[r, s, .bool true]) ∧ IntN w.heap.size w' r (y / z) ∧ IntN w.heap.size w' s (y % z) ∧ Below w.heap.size w w' := by
  obtain ⟨neg, a, len, cap, xs, rfl, hl, rfl, hlL⟩ := hv
  obtain ⟨neg2, a2, len2, cap2, xs2, rfl, hl2, rfl, hlL2⟩ := hu
  cases neg2
  case true => simp [sgn] at hz; omega
  have h0 : natOf xs2 ≠ 0 := by simp [sgn] at hz; omega
  cases neg
  · exact idivmod_pos xs xs2 a a2 len cap len2 cap2 L w hl hl2 hlL hlL2 hm h0
  · by_cases hr : natOf xs % natOf xs2 = 0
    · exact idivmod_zero xs xs2 a a2 len cap len2 cap2 L w hl hl2 hlL hlL2 hm h0 hr
    · exact idivmod_neg xs xs2 a a2 len cap len2 cap2 L w hl hl2 hlL hlL2 hm h0 hr

end Go.Proofs.YtahmndacoanfiaaGreat
