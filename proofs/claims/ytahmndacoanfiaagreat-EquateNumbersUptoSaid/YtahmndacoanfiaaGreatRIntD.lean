/- Integers: what the reference's Sub and DivMod (for a divisor above 0) return. Condition: the limbs can be read, and take at most 2^47 bytes. -/
import Derived.Test.YtahmndacoanfiaaGreatRIntA
import Derived.Test.YtahmndacoanfiaaGreatIntD
import Derived.Test.YtahmndacoanfiaaGreatTail
namespace Go.Proofs.YtahmndacoanfiaaGreat
set_option maxRecDepth 100000
open Go.RowKit
set_option maxHeartbeats 2000000 in
theorem jsub_any (v u : Value) (y z : Int) (L : Nat) (w : World) (hv : IntR w v y L) (hu : IntR w u z L) (hzl : (digs z.natAbs).length ≤ L) (hm : (L + 1) * 4 ≤ 140737488355328) :
   Calls Tryz.prog 126 #[v, u] w fun e w' => ∃ v, e = .returned v ∧ IntN w.heap.size w' v (y - z) ∧ Below w.heap.size w w' := by
 have HV := Lib.hid hv
 have HU := Lib.hid hu
 have HS := Lib.hid (show y + -z = y - z from rfl)
 obtain ⟨neg, a, len, cap, xs, rfl, -, -, -⟩ := hv
 obtain ⟨neg2, a2, len2, cap2, xs2, rfl, -, -, -⟩ := hu
 go_enter Tryz.func126, Tryz.ntmps126
 go_wp2_with fail
 have hbx : Below w.heap.size w (((w.alloc (.cells #[.bool neg, .slice a len cap] 26)).alloc (.cells #[.bool neg2, .slice a2 len2 cap2] 26)).alloc (.cells #[.bool false, .slice none 0 0] 26)) := ((((Below.refl _ _).alloc (Nat.le_refl _) _).alloc (by simp) _).alloc (by simp <;> omega) _)
 generalize hWW : (((w.alloc (.cells #[.bool neg, .slice a len cap] 26)).alloc (.cells #[.bool neg2, .slice a2 len2 cap2] 26)).alloc (.cells #[.bool false, .slice none 0 0] 26)) = w0 at *
 replace HV := Lib.hid (HV.out.below hbx)
 replace HU := Lib.hid (HU.out.below hbx)
 have cA0 : w0.cell? ⟨w.heap.size, 0, none⟩ = some (.bool neg) := by subst hWW; go_simp
 have cA1 : w0.cell? ⟨w.heap.size, 1, none⟩ = some (.slice a len cap) := by subst hWW; go_simp
 have ltA : w.heap.size < w0.heap.size := by subst hWW; simp <;> omega
 have cB0 : w0.cell? ⟨w.heap.size + 1, 0, none⟩ = some (.bool neg2) := by subst hWW; go_simp
 have cB1 : w0.cell? ⟨w.heap.size + 1, 1, none⟩ = some (.slice a2 len2 cap2) := by subst hWW; go_simp
 have ltB : w.heap.size + 1 < w0.heap.size := by subst hWW; simp <;> omega
 have cR0 : w0.cell? ⟨w.heap.size + 1 + 1, 0, none⟩ = some (.bool false) := by subst hWW; go_simp
 have fR0 : w0.frozen? ⟨w.heap.size + 1 + 1, 0, none⟩ = false := by subst hWW; go_simp
 have cR1 : w0.cell? ⟨w.heap.size + 1 + 1, 1, none⟩ = some (.slice none 0 0) := by subst hWW; go_simp
 have fR1 : w0.frozen? ⟨w.heap.size + 1 + 1, 1, none⟩ = false := by subst hWW; go_simp
 have ltR : w.heap.size + 1 + 1 < w0.heap.size := by subst hWW; simp
 have hB := hbx
 clear hbx hWW
 have eA0 := Gr.cell (R := w.heap.size + 1 + 1) (R2 := w.heap.size + 1 + 1) cA0 ltA (by omega) (by omega)
 have eA1 := Gr.cell (R := w.heap.size + 1 + 1) (R2 := w.heap.size + 1 + 1) cA1 ltA (by omega) (by omega)
 have eB0 := Gr.cell (R := w.heap.size + 1 + 1) (R2 := w.heap.size + 1 + 1) cB0 ltB (by omega) (by omega)
 have eB1 := Gr.cell (R := w.heap.size + 1 + 1) (R2 := w.heap.size + 1 + 1) cB1 ltB (by omega) (by omega)
 refine wp_region_sched [(0, false), (1, false), (2, true), (3, true), (4, true)] (fun w' => ∃ W : Gr (w.heap.size + 1 + 1) (w.heap.size + 1 + 1) w0, w' = W.1) (by kernel_rfl) (by kernel_rfl) ⟨⟨w0.drew, below_grown (Below.refl _ _).drew⟩, rfl⟩ ?_
 repeat (refine wpSched_calm rfl (fun K hK => ?_); go_simp; refine hK _ ?_; clear hK K)
 clear eA0 eA1 eB0 eB1
 have hbx : Below w0.heap.size w0 w0.drew := (Below.refl _ _).drew
 have hM := below_grown (R := w.heap.size + 1 + 1) (R2 := w.heap.size + 1 + 1) hbx
 replace cA0 := bc hbx ltA cA0
 replace cA1 := bc hbx ltA cA1
 replace ltA := bl hbx ltA
 replace cB0 := bc hbx ltB cB0
 replace cB1 := bc hbx ltB cB1
 replace ltB := bl hbx ltB
 replace cR0 := bc hbx ltR cR0
 replace fR0 := bf hbx ltR fR0
 replace cR1 := bc hbx ltR cR1
 replace fR1 := bf hbx ltR fR1
 replace ltR := bl hbx ltR
 replace HV := Lib.hid (HV.out.below hbx)
 replace HU := Lib.hid (HU.out.below hbx)
 replace hB := hB.trans (hbx.mono hB.size)
 clear hbx
 generalize w0.drew = ww0d at *
 refine wpSched_eff rfl rfl (fun K hK => ?_)
 go_simp
 refine (jneg_any _ z L _ HU.out (by omega)).mono ?_
 rintro e w1 ⟨v1, rfl, hv1, hb⟩
 replace cA0 := bc hb ltA cA0
 replace cA1 := bc hb ltA cA1
 replace ltA := bl hb ltA
 replace cB0 := bc hb ltB cB0
 replace cB1 := bc hb ltB cB1
 replace ltB := bl hb ltB
 replace cR0 := bc hb ltR cR0
 replace fR0 := bf hb ltR fR0
 replace cR1 := bc hb ltR cR1
 replace fR1 := bf hb ltR fR1
 replace ltR := bl hb ltR
 replace HV := Lib.hid (HV.out.below hb)
 replace HU := Lib.hid (HU.out.below hb)
 replace hM := grown_below hM hb
 replace hB := hB.trans (hb.mono hB.size)
 have HN := Lib.hid (hv1.raw L (by rw [Int.natAbs_neg]; exact hzl))
 clear hv1
 clear hb
 refine hK _ _ ⟨⟨w1, hM⟩, rfl⟩ ?_
 clear hK K
 have hs1 := ltR
 refine wpSched_eff rfl rfl (fun K hK => ?_)
 go_simp
 refine (jadd_any _ _ y (-z) L _ HV.out HN.out hm).mono ?_
 rintro e w2 ⟨v2, rfl, hv2, hb⟩
 replace cA0 := bc hb ltA cA0
 replace cA1 := bc hb ltA cA1
 replace ltA := bl hb ltA
 replace cB0 := bc hb ltB cB0
 replace cB1 := bc hb ltB cB1
 replace ltB := bl hb ltB
 replace cR0 := bc hb ltR cR0
 replace fR0 := bf hb ltR fR0
 replace cR1 := bc hb ltR cR1
 replace fR1 := bf hb ltR fR1
 replace ltR := bl hb ltR
 replace HV := Lib.hid (HV.out.below hb)
 replace HU := Lib.hid (HU.out.below hb)
 replace HN := Lib.hid (HN.out.below hb)
 replace hM := grown_below hM hb
 replace hB := hB.trans (hb.mono hB.size)
 rw [HS.out] at hv2
 obtain ⟨a5, n5, c5, rfl, h3, h4⟩ := hv2
 have HFin := Lib.hid (int_store (B := w1.heap.size) (B' := w.heap.size) (g := w.heap.size + 1 + 1) ⟨a5, n5, c5, rfl, h3, h4⟩ hs1 (by omega))
 clear h3 h4
 generalize decide (y - z < 0) = dn at *
 clear hb
 refine hK _ _ ⟨⟨w2, hM⟩, rfl⟩ ?_
 clear hK K
 refine wpSched_eff rfl rfl (fun K hK => ?_)
 go_simp
 refine hK _ _ ⟨⟨_, grown_set (grown_set hM 0 _) 1 _⟩, rfl⟩ ?_
 clear hK K
 refine wpSched_nil ?_
 go_wp2_with fail
 exact bodyPost_ret (v := .agg #[.bool dn, .slice a5 n5 c5]) (by simp [results, Tryz.results126, go_sem, cR0, cR1]) rfl ⟨_, rfl, HFin.out, (hB.setCell (p := ⟨w.heap.size + 1 + 1, 0, none⟩) (by simp <;> omega) _).setCell (p := ⟨w.heap.size + 1 + 1, 1, none⟩) (by simp <;> omega) _⟩
theorem quo_pos {y z : Int} (hy : 0 ≤ y) (hz : 0 < z) : sgn false (y.natAbs / z.natAbs) = y / z := by
 obtain ⟨m, rfl⟩ := Int.eq_ofNat_of_zero_le hy
 obtain ⟨n, rfl⟩ := Int.eq_ofNat_of_zero_le (Int.le_of_lt hz)
 simp [sgn]
theorem quo_zero {y z : Int} (hy : y < 0) (hz : 0 < z) (hr : y.natAbs % z.natAbs = 0) : sgn true (y.natAbs / z.natAbs) = y / z := by
 obtain ⟨m, hm⟩ := Int.eq_ofNat_of_zero_le (show 0 ≤ -y by omega)
 obtain rfl : y = -(m : Int) := by omega
 clear hm
 obtain ⟨n, rfl⟩ := Int.eq_ofNat_of_zero_le (Int.le_of_lt hz)
 simp only [Int.natAbs_neg, Int.natAbs_natCast] at hr ⊢
 exact (divz_zero hr (by omega)).1
theorem quo_neg {y z : Int} (hy : y < 0) (hz : 0 < z) (hr : y.natAbs % z.natAbs ≠ 0) : sgn true (y.natAbs / z.natAbs) - 1 = y / z := by
 obtain ⟨m, hm⟩ := Int.eq_ofNat_of_zero_le (show 0 ≤ -y by omega)
 obtain rfl : y = -(m : Int) := by omega
 clear hm
 obtain ⟨n, rfl⟩ := Int.eq_ofNat_of_zero_le (Int.le_of_lt hz)
 simp only [Int.natAbs_neg, Int.natAbs_natCast] at hr ⊢
 rw [← (divz_neg hr (by omega)).1, sgn_t]; omega
set_option maxHeartbeats 4000000 in
theorem jdivmod_pos (v u : Value) (y z : Int) (L : Nat) (w : World) (hv : IntR w v y L) (hu : IntR w u z L) (hz : 0 < z) (hyl : (digs y.natAbs).length ≤ L) (hzl : (digs z.natAbs).length ≤ L) (hm : (2 * L + 1) * 4 ≤ 140737488355328) (hy : 0 ≤ y) :
   Calls Tryz.prog 119 #[v, u] w fun e w' => ∃ r s, e = .returned (.tuple #[r, s, .bool true]) ∧ IntN w.heap.size w' r (y / z) ∧ IntN w.heap.size w' s (y % z) ∧ Below w.heap.size w w' := by
 have HV := Lib.hid hv
 have HU := Lib.hid hu
 have HQz := Lib.hid (quo_pos hy hz)
 have HMz := Lib.hid (Int.emod_def y z).symm
 have hdy : decide (y < 0) = false := by simp; omega
 have hdz : decide (z < 0) = false := by simp; omega
 have hz0 : z.natAbs ≠ 0 := by omega
 have HLq := Lib.hid (show (digs (y / z).natAbs).length ≤ L from Nat.le_trans (digs_len_le' (Int.natAbs_ediv_le_natAbs y z)) hyl)
 have HLn := Lib.hid (show (digs (y.natAbs / z.natAbs)).length ≤ L from Nat.le_trans (digs_len_le' (Nat.div_le_self _ _)) hyl)
 have HLm := Lib.hid (show (digs (z * (y / z)).natAbs).length ≤ 2 * L from Nat.le_trans (int_mul_len hzl HLq.out) (by omega))
 have HLr := Lib.hid (show (digs (y.natAbs % z.natAbs)).length ≤ L from Nat.le_trans (digs_len_le' (Nat.mod_le _ _)) hyl)
 have hL1 : 1 ≤ L := Nat.le_trans (Nat.one_le_iff_ne_zero.2 (fun h => hz0 (digs_len_zero.1 h))) hzl
 obtain ⟨neg, a, len, cap, xs, rfl, -, -, -⟩ := hv
 obtain ⟨neg2, a2, len2, cap2, xs2, rfl, -, -, -⟩ := hu
 clear hy
 go_enter Tryz.func119, Tryz.ntmps119
 go_wp2_with fail
 have hbx : Below w.heap.size w ((((w.alloc (.cells #[.bool neg, .slice a len cap] 26)).alloc (.cells #[.bool neg2, .slice a2 len2 cap2] 26)).alloc (.cells #[.bool false, .slice none 0 0] 26)).alloc (.cells #[.bool false, .slice none 0 0] 26)) := (((((Below.refl _ _).alloc (Nat.le_refl _) _).alloc (by simp) _).alloc (by simp <;> omega) _).alloc (by simp <;> omega) _)
 generalize hWW : ((((w.alloc (.cells #[.bool neg, .slice a len cap] 26)).alloc (.cells #[.bool neg2, .slice a2 len2 cap2] 26)).alloc (.cells #[.bool false, .slice none 0 0] 26)).alloc (.cells #[.bool false, .slice none 0 0] 26)) = w0 at *
 replace HV := Lib.hid (HV.out.below hbx)
 replace HU := Lib.hid (HU.out.below hbx)
 have cA0 : w0.cell? ⟨w.heap.size, 0, none⟩ = some (.bool neg) := by subst hWW; go_simp
 have cA1 : w0.cell? ⟨w.heap.size, 1, none⟩ = some (.slice a len cap) := by subst hWW; go_simp
 have ltA : w.heap.size < w0.heap.size := by subst hWW; simp <;> omega
 have cB0 : w0.cell? ⟨w.heap.size + 1, 0, none⟩ = some (.bool neg2) := by subst hWW; go_simp
 have cB1 : w0.cell? ⟨w.heap.size + 1, 1, none⟩ = some (.slice a2 len2 cap2) := by subst hWW; go_simp
 have ltB : w.heap.size + 1 < w0.heap.size := by subst hWW; simp <;> omega
 have cR0 : w0.cell? ⟨w.heap.size + 1 + 1, 0, none⟩ = some (.bool false) := by subst hWW; go_simp
 have fR0 : w0.frozen? ⟨w.heap.size + 1 + 1, 0, none⟩ = false := by subst hWW; go_simp
 have cR1 : w0.cell? ⟨w.heap.size + 1 + 1, 1, none⟩ = some (.slice none 0 0) := by subst hWW; go_simp
 have fR1 : w0.frozen? ⟨w.heap.size + 1 + 1, 1, none⟩ = false := by subst hWW; go_simp
 have ltR : w.heap.size + 1 + 1 < w0.heap.size := by subst hWW; simp <;> omega
 have cS0 : w0.cell? ⟨w.heap.size + 1 + 1 + 1, 0, none⟩ = some (.bool false) := by subst hWW; go_simp
 have fS0 : w0.frozen? ⟨w.heap.size + 1 + 1 + 1, 0, none⟩ = false := by subst hWW; go_simp
 have cS1 : w0.cell? ⟨w.heap.size + 1 + 1 + 1, 1, none⟩ = some (.slice none 0 0) := by subst hWW; go_simp
 have fS1 : w0.frozen? ⟨w.heap.size + 1 + 1 + 1, 1, none⟩ = false := by subst hWW; go_simp
 have ltS : w.heap.size + 1 + 1 + 1 < w0.heap.size := by subst hWW; simp
 have hB := hbx
 clear hbx hWW
 refine (jnorm_any _ y L _ HV.out (by omega)).mono ?_
 rintro e w1 ⟨v1, rfl, hv1, hb⟩
 replace cA0 := bc hb ltA cA0
 replace cA1 := bc hb ltA cA1
 replace ltA := bl hb ltA
 replace cB0 := bc hb ltB cB0
 replace cB1 := bc hb ltB cB1
 replace ltB := bl hb ltB
 replace cR0 := bc hb ltR cR0
 replace fR0 := bf hb ltR fR0
 replace cR1 := bc hb ltR cR1
 replace fR1 := bf hb ltR fR1
 replace ltR := bl hb ltR
 replace cS0 := bc hb ltS cS0
 replace fS0 := bf hb ltS fS0
 replace cS1 := bc hb ltS cS1
 replace fS1 := bf hb ltS fS1
 replace ltS := bl hb ltS
 replace HV := Lib.hid (HV.out.below hb)
 replace HU := Lib.hid (HU.out.below hb)
 replace hB := hB.trans (hb.mono hB.size)
 have HX := Lib.hid (hv1.raw L hyl)
 obtain ⟨a1, n1, c1, rfl, p1, -⟩ := hv1
 rw [hdy] at HX ⊢
 have hn1 := p1.1
 have HX1 := Lib.hid p1
 clear p1
 clear hb
 clear HV
 go_wp2_with fail
 have hs1 := ltS
 have hbx : Below w1.heap.size w1 (w1.alloc (.cells #[.bool false, .slice a1 n1 c1] 26)) := ((Below.refl _ _).alloc (Nat.le_refl _) _)
 generalize hWW : (w1.alloc (.cells #[.bool false, .slice a1 n1 c1] 26)) = w2 at *
 replace cA0 := bc hbx ltA cA0
 replace cA1 := bc hbx ltA cA1
 replace ltA := bl hbx ltA
 replace cB0 := bc hbx ltB cB0
 replace cB1 := bc hbx ltB cB1
 replace ltB := bl hbx ltB
 replace cR0 := bc hbx ltR cR0
 replace fR0 := bf hbx ltR fR0
 replace cR1 := bc hbx ltR cR1
 replace fR1 := bf hbx ltR fR1
 replace ltR := bl hbx ltR
 replace cS0 := bc hbx ltS cS0
 replace fS0 := bf hbx ltS fS0
 replace cS1 := bc hbx ltS cS1
 replace fS1 := bf hbx ltS fS1
 replace ltS := bl hbx ltS
 replace HU := Lib.hid (HU.out.below hbx)
 replace HX := Lib.hid (HX.out.below hbx)
 replace HX1 := Lib.hid (HX1.out.below hbx)
 have cX0 : w2.cell? ⟨w1.heap.size, 0, none⟩ = some (.bool false) := by subst hWW; go_simp
 have cX1 : w2.cell? ⟨w1.heap.size, 1, none⟩ = some (.slice a1 n1 c1) := by subst hWW; go_simp
 have ltX : w1.heap.size < w2.heap.size := by subst hWW; simp
 replace hB := hB.trans (hbx.mono hB.size)
 clear hbx hWW
 refine (jnorm_any _ z L _ HU.out (by omega)).mono ?_
 rintro e w3 ⟨v3, rfl, hv3, hb⟩
 replace cA0 := bc hb ltA cA0
 replace cA1 := bc hb ltA cA1
 replace ltA := bl hb ltA
 replace cB0 := bc hb ltB cB0
 replace cB1 := bc hb ltB cB1
 replace ltB := bl hb ltB
 replace cR0 := bc hb ltR cR0
 replace fR0 := bf hb ltR fR0
 replace cR1 := bc hb ltR cR1
 replace fR1 := bf hb ltR fR1
 replace ltR := bl hb ltR
 replace cS0 := bc hb ltS cS0
 replace fS0 := bf hb ltS fS0
 replace cS1 := bc hb ltS cS1
 replace fS1 := bf hb ltS fS1
 replace ltS := bl hb ltS
 replace cX0 := bc hb ltX cX0
 replace cX1 := bc hb ltX cX1
 replace ltX := bl hb ltX
 replace HU := Lib.hid (HU.out.below hb)
 replace HX := Lib.hid (HX.out.below hb)
 replace HX1 := Lib.hid (HX1.out.below hb)
 replace hB := hB.trans (hb.mono hB.size)
 have HY := Lib.hid (hv3.raw L hzl)
 obtain ⟨a3, n3, c3, rfl, p3, -⟩ := hv3
 rw [hdz] at HY ⊢
 have hn3 := p3.1
 have HY1 := Lib.hid p3
 clear p3
 clear hb
 clear HU
 go_wp2_with fail
 have hs3 := ltS
 have hbx : Below w3.heap.size w3 (w3.alloc (.cells #[.bool false, .slice a3 n3 c3] 26)) := ((Below.refl _ _).alloc (Nat.le_refl _) _)
 generalize hWW : (w3.alloc (.cells #[.bool false, .slice a3 n3 c3] 26)) = w4 at *
 replace cA0 := bc hbx ltA cA0
 replace cA1 := bc hbx ltA cA1
 replace ltA := bl hbx ltA
 replace cB0 := bc hbx ltB cB0
 replace cB1 := bc hbx ltB cB1
 replace ltB := bl hbx ltB
 replace cR0 := bc hbx ltR cR0
 replace fR0 := bf hbx ltR fR0
 replace cR1 := bc hbx ltR cR1
 replace fR1 := bf hbx ltR fR1
 replace ltR := bl hbx ltR
 replace cS0 := bc hbx ltS cS0
 replace fS0 := bf hbx ltS fS0
 replace cS1 := bc hbx ltS cS1
 replace fS1 := bf hbx ltS fS1
 replace ltS := bl hbx ltS
 replace cX0 := bc hbx ltX cX0
 replace cX1 := bc hbx ltX cX1
 replace ltX := bl hbx ltX
 replace HX := Lib.hid (HX.out.below hbx)
 replace HX1 := Lib.hid (HX1.out.below hbx)
 replace HY := Lib.hid (HY.out.below hbx)
 replace HY1 := Lib.hid (HY1.out.below hbx)
 have cY0 : w4.cell? ⟨w3.heap.size, 0, none⟩ = some (.bool false) := by subst hWW; go_simp
 have cY1 : w4.cell? ⟨w3.heap.size, 1, none⟩ = some (.slice a3 n3 c3) := by subst hWW; go_simp
 have ltY : w3.heap.size < w4.heap.size := by subst hWW; simp
 replace hB := hB.trans (hbx.mono hB.size)
 clear hbx hWW
 clear cA0 cA1 ltA
 clear cB0 cB1 ltB
 refine (rdivmod_any _ _ _ _ _ _ _ _ _ HX1.out HY1.out (by rw [natOf_digs]; exact hz0) (by omega) (by omega)).mono ?_
 rintro e w5 ⟨vq, vr, rfl, hq, hr, hb⟩
 replace cR0 := bc hb ltR cR0
 replace fR0 := bf hb ltR fR0
 replace cR1 := bc hb ltR cR1
 replace fR1 := bf hb ltR fR1
 replace ltR := bl hb ltR
 replace cS0 := bc hb ltS cS0
 replace fS0 := bf hb ltS fS0
 replace cS1 := bc hb ltS cS1
 replace fS1 := bf hb ltS fS1
 replace ltS := bl hb ltS
 replace cX0 := bc hb ltX cX0
 replace cX1 := bc hb ltX cX1
 replace ltX := bl hb ltX
 replace cY0 := bc hb ltY cY0
 replace cY1 := bc hb ltY cY1
 replace ltY := bl hb ltY
 replace HX := Lib.hid (HX.out.below hb)
 replace HX1 := Lib.hid (HX1.out.below hb)
 replace HY := Lib.hid (HY.out.below hb)
 replace HY1 := Lib.hid (HY1.out.below hb)
 replace hB := hB.trans (hb.mono hB.size)
 rw [natOf_digs, natOf_digs] at hq hr
 have HQn := Lib.hid hq
 have HRn := Lib.hid hr
 clear hq hr
 clear hb
 clear HX1 HY1
 go_wp2_with fail
 have hs5 := ltS
 refine (jmake_num false _ _ _ HQn.out (by have := HLn.out; omega)).mono ?_
 rintro e w6 ⟨v6, rfl, hv6, hb⟩
 replace cR0 := bc hb ltR cR0
 replace fR0 := bf hb ltR fR0
 replace cR1 := bc hb ltR cR1
 replace fR1 := bf hb ltR fR1
 replace ltR := bl hb ltR
 replace cS0 := bc hb ltS cS0
 replace fS0 := bf hb ltS fS0
 replace cS1 := bc hb ltS cS1
 replace fS1 := bf hb ltS fS1
 replace ltS := bl hb ltS
 replace cX0 := bc hb ltX cX0
 replace cX1 := bc hb ltX cX1
 replace ltX := bl hb ltX
 replace cY0 := bc hb ltY cY0
 replace cY1 := bc hb ltY cY1
 replace ltY := bl hb ltY
 replace HX := Lib.hid (HX.out.below hb)
 replace HY := Lib.hid (HY.out.below hb)
 replace HQn := Lib.hid (HQn.out.below hb)
 replace HRn := Lib.hid (HRn.out.below hb)
 replace hB := hB.trans (hb.mono hB.size)
 rw [HQz.out] at hv6
 have HQv := Lib.hid (hv6.mono (show w.heap.size + 1 + 1 + 1 + 1 ≤ w5.heap.size by omega))
 obtain ⟨aq, nq, cq, rfl, -, -⟩ := hv6
 generalize decide (y / z < 0) = dq at *
 clear hb
 clear HQn
 clear HRn
 have hs6 := ltS
 go_wp2_with fail
 have hbx : Below w6.heap.size w6 (w6.alloc (.cells #[.bool dq, .slice aq nq cq] 26)) := ((Below.refl _ _).alloc (Nat.le_refl _) _)
 generalize hWW : (w6.alloc (.cells #[.bool dq, .slice aq nq cq] 26)) = w7 at *
 replace cR0 := bc hbx ltR cR0
 replace fR0 := bf hbx ltR fR0
 replace cR1 := bc hbx ltR cR1
 replace fR1 := bf hbx ltR fR1
 replace ltR := bl hbx ltR
 replace cS0 := bc hbx ltS cS0
 replace fS0 := bf hbx ltS fS0
 replace cS1 := bc hbx ltS cS1
 replace fS1 := bf hbx ltS fS1
 replace ltS := bl hbx ltS
 replace cX0 := bc hbx ltX cX0
 replace cX1 := bc hbx ltX cX1
 replace ltX := bl hbx ltX
 replace cY0 := bc hbx ltY cY0
 replace cY1 := bc hbx ltY cY1
 replace ltY := bl hbx ltY
 replace HX := Lib.hid (HX.out.below hbx)
 replace HY := Lib.hid (HY.out.below hbx)
 replace HQv := Lib.hid (HQv.out.below hbx)
 have cQ0 : w7.cell? ⟨w6.heap.size, 0, none⟩ = some (.bool dq) := by subst hWW; go_simp
 have cQ1 : w7.cell? ⟨w6.heap.size, 1, none⟩ = some (.slice aq nq cq) := by subst hWW; go_simp
 have ltQ : w6.heap.size < w7.heap.size := by subst hWW; simp
 replace hB := hB.trans (hbx.mono hB.size)
 clear hbx hWW
 go_wp2_with fail
 have eX0 := Gr.cell (R := w.heap.size + 1 + 1) (R2 := w.heap.size + 1 + 1 + 1) cX0 ltX (by omega) (by omega)
 have eX1 := Gr.cell (R := w.heap.size + 1 + 1) (R2 := w.heap.size + 1 + 1 + 1) cX1 ltX (by omega) (by omega)
 have eY0 := Gr.cell (R := w.heap.size + 1 + 1) (R2 := w.heap.size + 1 + 1 + 1) cY0 ltY (by omega) (by omega)
 have eY1 := Gr.cell (R := w.heap.size + 1 + 1) (R2 := w.heap.size + 1 + 1 + 1) cY1 ltY (by omega) (by omega)
 have eQ0 := Gr.cell (R := w.heap.size + 1 + 1) (R2 := w.heap.size + 1 + 1 + 1) cQ0 ltQ (by omega) (by omega)
 have eQ1 := Gr.cell (R := w.heap.size + 1 + 1) (R2 := w.heap.size + 1 + 1 + 1) cQ1 ltQ (by omega) (by omega)
 refine wp_region_sched [(0, false), (1, false), (2, false), (3, false), (4, true), (5, true), (6, true), (7, true), (8, false)] (fun w' => ∃ W : Gr (w.heap.size + 1 + 1) (w.heap.size + 1 + 1 + 1) w7, w' = W.1) (by kernel_rfl) (by kernel_rfl) ⟨⟨w7.drew, below_grown (Below.refl _ _).drew⟩, rfl⟩ ?_
 repeat (refine wpSched_calm rfl (fun K hK => ?_); go_simp; refine hK _ ?_; clear hK K)
 clear eX0 eX1 eY0 eY1 eQ0 eQ1
 have hbx : Below w7.heap.size w7 w7.drew := (Below.refl _ _).drew
 have hM := below_grown (R := w.heap.size + 1 + 1) (R2 := w.heap.size + 1 + 1 + 1) hbx
 replace cR0 := bc hbx ltR cR0
 replace fR0 := bf hbx ltR fR0
 replace cR1 := bc hbx ltR cR1
 replace fR1 := bf hbx ltR fR1
 replace ltR := bl hbx ltR
 replace cS0 := bc hbx ltS cS0
 replace fS0 := bf hbx ltS fS0
 replace cS1 := bc hbx ltS cS1
 replace fS1 := bf hbx ltS fS1
 replace ltS := bl hbx ltS
 replace cX0 := bc hbx ltX cX0
 replace cX1 := bc hbx ltX cX1
 replace ltX := bl hbx ltX
 replace cY0 := bc hbx ltY cY0
 replace cY1 := bc hbx ltY cY1
 replace ltY := bl hbx ltY
 replace cQ0 := bc hbx ltQ cQ0
 replace cQ1 := bc hbx ltQ cQ1
 replace ltQ := bl hbx ltQ
 replace HX := Lib.hid (HX.out.below hbx)
 replace HY := Lib.hid (HY.out.below hbx)
 replace HQv := Lib.hid (HQv.out.below hbx)
 replace hB := hB.trans (hbx.mono hB.size)
 clear hbx
 generalize w7.drew = ww7d at *
 refine wpSched_eff rfl rfl (fun K hK => ?_)
 go_simp
 refine (jmul_any _ _ z (y / z) L L _ HY.out (HQv.out.raw L HLq.out) (by omega)).mono ?_
 rintro e w12 ⟨v12, rfl, hv12, hb⟩
 replace cR0 := bc hb ltR cR0
 replace fR0 := bf hb ltR fR0
 replace cR1 := bc hb ltR cR1
 replace fR1 := bf hb ltR fR1
 replace ltR := bl hb ltR
 replace cS0 := bc hb ltS cS0
 replace fS0 := bf hb ltS fS0
 replace cS1 := bc hb ltS cS1
 replace fS1 := bf hb ltS fS1
 replace ltS := bl hb ltS
 replace cX0 := bc hb ltX cX0
 replace cX1 := bc hb ltX cX1
 replace ltX := bl hb ltX
 replace cY0 := bc hb ltY cY0
 replace cY1 := bc hb ltY cY1
 replace ltY := bl hb ltY
 replace cQ0 := bc hb ltQ cQ0
 replace cQ1 := bc hb ltQ cQ1
 replace ltQ := bl hb ltQ
 replace HX := Lib.hid (HX.out.below hb)
 replace HY := Lib.hid (HY.out.below hb)
 replace HQv := Lib.hid (HQv.out.below hb)
 replace hM := grown_below hM hb
 replace hB := hB.trans (hb.mono hB.size)
 have HM := Lib.hid (hv12.raw (2 * L) HLm.out)
 clear hv12
 clear hb
 refine hK _ _ ⟨⟨w12, hM⟩, rfl⟩ ?_
 clear hK K
 have hs12 := ltS
 refine wpSched_eff rfl rfl (fun K hK => ?_)
 go_simp
 refine (jsub_any _ _ y _ (2 * L) _ (HX.out.mono (by omega)) HM.out HLm.out (by omega)).mono ?_
 rintro e w13 ⟨v13, rfl, hv13, hb⟩
 replace cR0 := bc hb ltR cR0
 replace fR0 := bf hb ltR fR0
 replace cR1 := bc hb ltR cR1
 replace fR1 := bf hb ltR fR1
 replace ltR := bl hb ltR
 replace cS0 := bc hb ltS cS0
 replace fS0 := bf hb ltS fS0
 replace cS1 := bc hb ltS cS1
 replace fS1 := bf hb ltS fS1
 replace ltS := bl hb ltS
 replace cX0 := bc hb ltX cX0
 replace cX1 := bc hb ltX cX1
 replace ltX := bl hb ltX
 replace cY0 := bc hb ltY cY0
 replace cY1 := bc hb ltY cY1
 replace ltY := bl hb ltY
 replace cQ0 := bc hb ltQ cQ0
 replace cQ1 := bc hb ltQ cQ1
 replace ltQ := bl hb ltQ
 replace HX := Lib.hid (HX.out.below hb)
 replace HY := Lib.hid (HY.out.below hb)
 replace HQv := Lib.hid (HQv.out.below hb)
 replace HM := Lib.hid (HM.out.below hb)
 replace hM := grown_below hM hb
 replace hB := hB.trans (hb.mono hB.size)
 rw [HMz.out] at hv13
 obtain ⟨a6, n6, c6, rfl, p6, q6⟩ := hv13
 have HFin := Lib.hid (int_store2 (B := w.heap.size + 1 + 1 + 1 + 1) (B' := w.heap.size) (g := w.heap.size + 1 + 1) (g2 := w.heap.size + 1 + 1 + 1) HQv.out ⟨a6, n6, c6, rfl, p6, q6.mono (by omega)⟩ (by omega) (by omega) (by omega))
 clear p6 q6
 generalize decide (y % z < 0) = d6 at *
 clear hb
 refine hK _ _ ⟨⟨w13, hM⟩, rfl⟩ ?_
 clear hK K
 refine wpSched_eff rfl rfl (fun K hK => ?_)
 go_simp
 refine hK _ _ ⟨⟨_, grown_set (grown_set hM 0 _) 1 _⟩, rfl⟩ ?_
 clear hK K
 refine wpSched_eff rfl rfl (fun K hK => ?_)
 go_simp
 refine hK _ _ ⟨⟨_, grown_set2 (grown_set2 (grown_set (grown_set hM 0 _) 1 _) 0 _) 1 _⟩, rfl⟩ ?_
 clear hK K
 repeat (refine wpSched_calm rfl (fun K hK => ?_); go_simp; refine hK _ ?_; clear hK K)
 refine wpSched_nil ?_
 go_wp2_with fail
 exact bodyPost_ret (v := .tuple #[.agg #[.bool dq, .slice aq nq cq], .agg #[.bool d6, .slice a6 n6 c6], .bool true]) (by simp [results, Tryz.results119, go_sem, cR0, cR1, cS0, cS1]) rfl ⟨_, _, rfl, HFin.out.1, HFin.out.2, (((hB.setCell (p := ⟨w.heap.size + 1 + 1, 0, none⟩) (by simp <;> omega) _).setCell (p := ⟨w.heap.size + 1 + 1, 1, none⟩) (by simp <;> omega) _).setCell (p := ⟨w.heap.size + 1 + 1 + 1, 0, none⟩) (by simp <;> omega) _).setCell (p := ⟨w.heap.size + 1 + 1 + 1, 1, none⟩) (by simp <;> omega) _⟩
set_option maxHeartbeats 4000000 in
theorem jdivmod_zero (v u : Value) (y z : Int) (L : Nat) (w : World) (hv : IntR w v y L) (hu : IntR w u z L) (hz : 0 < z) (hyl : (digs y.natAbs).length ≤ L) (hzl : (digs z.natAbs).length ≤ L) (hm : (2 * L + 1) * 4 ≤ 140737488355328) (hy : y < 0) (hr : y.natAbs % z.natAbs = 0) :
   Calls Tryz.prog 119 #[v, u] w fun e w' => ∃ r s, e = .returned (.tuple #[r, s, .bool true]) ∧ IntN w.heap.size w' r (y / z) ∧ IntN w.heap.size w' s (y % z) ∧ Below w.heap.size w w' := by
 have HV := Lib.hid hv
 have HU := Lib.hid hu
 have HQz := Lib.hid (quo_zero hy hz hr)
 have HMz := Lib.hid (Int.emod_def y z).symm
 have hdy : decide (y < 0) = true := by simp; omega
 have hdz : decide (z < 0) = false := by simp; omega
 have hz0 : z.natAbs ≠ 0 := by omega
 have HLq := Lib.hid (show (digs (y / z).natAbs).length ≤ L from Nat.le_trans (digs_len_le' (Int.natAbs_ediv_le_natAbs y z)) hyl)
 have HLn := Lib.hid (show (digs (y.natAbs / z.natAbs)).length ≤ L from Nat.le_trans (digs_len_le' (Nat.div_le_self _ _)) hyl)
 have HLm := Lib.hid (show (digs (z * (y / z)).natAbs).length ≤ 2 * L from Nat.le_trans (int_mul_len hzl HLq.out) (by omega))
 have HLr := Lib.hid (show (digs (y.natAbs % z.natAbs)).length ≤ L from Nat.le_trans (digs_len_le' (Nat.mod_le _ _)) hyl)
 have hL1 : 1 ≤ L := Nat.le_trans (Nat.one_le_iff_ne_zero.2 (fun h => hz0 (digs_len_zero.1 h))) hzl
 have HRr := Lib.hid hr
 clear hr
 obtain ⟨neg, a, len, cap, xs, rfl, -, -, -⟩ := hv
 obtain ⟨neg2, a2, len2, cap2, xs2, rfl, -, -, -⟩ := hu
 clear hy
 go_enter Tryz.func119, Tryz.ntmps119
 go_wp2_with fail
 have hbx : Below w.heap.size w ((((w.alloc (.cells #[.bool neg, .slice a len cap] 26)).alloc (.cells #[.bool neg2, .slice a2 len2 cap2] 26)).alloc (.cells #[.bool false, .slice none 0 0] 26)).alloc (.cells #[.bool false, .slice none 0 0] 26)) := (((((Below.refl _ _).alloc (Nat.le_refl _) _).alloc (by simp) _).alloc (by simp <;> omega) _).alloc (by simp <;> omega) _)
 generalize hWW : ((((w.alloc (.cells #[.bool neg, .slice a len cap] 26)).alloc (.cells #[.bool neg2, .slice a2 len2 cap2] 26)).alloc (.cells #[.bool false, .slice none 0 0] 26)).alloc (.cells #[.bool false, .slice none 0 0] 26)) = w0 at *
 replace HV := Lib.hid (HV.out.below hbx)
 replace HU := Lib.hid (HU.out.below hbx)
 have cA0 : w0.cell? ⟨w.heap.size, 0, none⟩ = some (.bool neg) := by subst hWW; go_simp
 have cA1 : w0.cell? ⟨w.heap.size, 1, none⟩ = some (.slice a len cap) := by subst hWW; go_simp
 have ltA : w.heap.size < w0.heap.size := by subst hWW; simp <;> omega
 have cB0 : w0.cell? ⟨w.heap.size + 1, 0, none⟩ = some (.bool neg2) := by subst hWW; go_simp
 have cB1 : w0.cell? ⟨w.heap.size + 1, 1, none⟩ = some (.slice a2 len2 cap2) := by subst hWW; go_simp
 have ltB : w.heap.size + 1 < w0.heap.size := by subst hWW; simp <;> omega
 have cR0 : w0.cell? ⟨w.heap.size + 1 + 1, 0, none⟩ = some (.bool false) := by subst hWW; go_simp
 have fR0 : w0.frozen? ⟨w.heap.size + 1 + 1, 0, none⟩ = false := by subst hWW; go_simp
 have cR1 : w0.cell? ⟨w.heap.size + 1 + 1, 1, none⟩ = some (.slice none 0 0) := by subst hWW; go_simp
 have fR1 : w0.frozen? ⟨w.heap.size + 1 + 1, 1, none⟩ = false := by subst hWW; go_simp
 have ltR : w.heap.size + 1 + 1 < w0.heap.size := by subst hWW; simp <;> omega
 have cS0 : w0.cell? ⟨w.heap.size + 1 + 1 + 1, 0, none⟩ = some (.bool false) := by subst hWW; go_simp
 have fS0 : w0.frozen? ⟨w.heap.size + 1 + 1 + 1, 0, none⟩ = false := by subst hWW; go_simp
 have cS1 : w0.cell? ⟨w.heap.size + 1 + 1 + 1, 1, none⟩ = some (.slice none 0 0) := by subst hWW; go_simp
 have fS1 : w0.frozen? ⟨w.heap.size + 1 + 1 + 1, 1, none⟩ = false := by subst hWW; go_simp
 have ltS : w.heap.size + 1 + 1 + 1 < w0.heap.size := by subst hWW; simp
 have hB := hbx
 clear hbx hWW
 refine (jnorm_any _ y L _ HV.out (by omega)).mono ?_
 rintro e w1 ⟨v1, rfl, hv1, hb⟩
 replace cA0 := bc hb ltA cA0
 replace cA1 := bc hb ltA cA1
 replace ltA := bl hb ltA
 replace cB0 := bc hb ltB cB0
 replace cB1 := bc hb ltB cB1
 replace ltB := bl hb ltB
 replace cR0 := bc hb ltR cR0
 replace fR0 := bf hb ltR fR0
 replace cR1 := bc hb ltR cR1
 replace fR1 := bf hb ltR fR1
 replace ltR := bl hb ltR
 replace cS0 := bc hb ltS cS0
 replace fS0 := bf hb ltS fS0
 replace cS1 := bc hb ltS cS1
 replace fS1 := bf hb ltS fS1
 replace ltS := bl hb ltS
 replace HV := Lib.hid (HV.out.below hb)
 replace HU := Lib.hid (HU.out.below hb)
 replace hB := hB.trans (hb.mono hB.size)
 have HX := Lib.hid (hv1.raw L hyl)
 obtain ⟨a1, n1, c1, rfl, p1, -⟩ := hv1
 rw [hdy] at HX ⊢
 have hn1 := p1.1
 have HX1 := Lib.hid p1
 clear p1
 clear hb
 clear HV
 go_wp2_with fail
 have hs1 := ltS
 have hbx : Below w1.heap.size w1 (w1.alloc (.cells #[.bool true, .slice a1 n1 c1] 26)) := ((Below.refl _ _).alloc (Nat.le_refl _) _)
 generalize hWW : (w1.alloc (.cells #[.bool true, .slice a1 n1 c1] 26)) = w2 at *
 replace cA0 := bc hbx ltA cA0
 replace cA1 := bc hbx ltA cA1
 replace ltA := bl hbx ltA
 replace cB0 := bc hbx ltB cB0
 replace cB1 := bc hbx ltB cB1
 replace ltB := bl hbx ltB
 replace cR0 := bc hbx ltR cR0
 replace fR0 := bf hbx ltR fR0
 replace cR1 := bc hbx ltR cR1
 replace fR1 := bf hbx ltR fR1
 replace ltR := bl hbx ltR
 replace cS0 := bc hbx ltS cS0
 replace fS0 := bf hbx ltS fS0
 replace cS1 := bc hbx ltS cS1
 replace fS1 := bf hbx ltS fS1
 replace ltS := bl hbx ltS
 replace HU := Lib.hid (HU.out.below hbx)
 replace HX := Lib.hid (HX.out.below hbx)
 replace HX1 := Lib.hid (HX1.out.below hbx)
 have cX0 : w2.cell? ⟨w1.heap.size, 0, none⟩ = some (.bool true) := by subst hWW; go_simp
 have cX1 : w2.cell? ⟨w1.heap.size, 1, none⟩ = some (.slice a1 n1 c1) := by subst hWW; go_simp
 have ltX : w1.heap.size < w2.heap.size := by subst hWW; simp
 replace hB := hB.trans (hbx.mono hB.size)
 clear hbx hWW
 refine (jnorm_any _ z L _ HU.out (by omega)).mono ?_
 rintro e w3 ⟨v3, rfl, hv3, hb⟩
 replace cA0 := bc hb ltA cA0
 replace cA1 := bc hb ltA cA1
 replace ltA := bl hb ltA
 replace cB0 := bc hb ltB cB0
 replace cB1 := bc hb ltB cB1
 replace ltB := bl hb ltB
 replace cR0 := bc hb ltR cR0
 replace fR0 := bf hb ltR fR0
 replace cR1 := bc hb ltR cR1
 replace fR1 := bf hb ltR fR1
 replace ltR := bl hb ltR
 replace cS0 := bc hb ltS cS0
 replace fS0 := bf hb ltS fS0
 replace cS1 := bc hb ltS cS1
 replace fS1 := bf hb ltS fS1
 replace ltS := bl hb ltS
 replace cX0 := bc hb ltX cX0
 replace cX1 := bc hb ltX cX1
 replace ltX := bl hb ltX
 replace HU := Lib.hid (HU.out.below hb)
 replace HX := Lib.hid (HX.out.below hb)
 replace HX1 := Lib.hid (HX1.out.below hb)
 replace hB := hB.trans (hb.mono hB.size)
 have HY := Lib.hid (hv3.raw L hzl)
 obtain ⟨a3, n3, c3, rfl, p3, -⟩ := hv3
 rw [hdz] at HY ⊢
 have hn3 := p3.1
 have HY1 := Lib.hid p3
 clear p3
 clear hb
 clear HU
 go_wp2_with fail
 have hs3 := ltS
 have hbx : Below w3.heap.size w3 (w3.alloc (.cells #[.bool false, .slice a3 n3 c3] 26)) := ((Below.refl _ _).alloc (Nat.le_refl _) _)
 generalize hWW : (w3.alloc (.cells #[.bool false, .slice a3 n3 c3] 26)) = w4 at *
 replace cA0 := bc hbx ltA cA0
 replace cA1 := bc hbx ltA cA1
 replace ltA := bl hbx ltA
 replace cB0 := bc hbx ltB cB0
 replace cB1 := bc hbx ltB cB1
 replace ltB := bl hbx ltB
 replace cR0 := bc hbx ltR cR0
 replace fR0 := bf hbx ltR fR0
 replace cR1 := bc hbx ltR cR1
 replace fR1 := bf hbx ltR fR1
 replace ltR := bl hbx ltR
 replace cS0 := bc hbx ltS cS0
 replace fS0 := bf hbx ltS fS0
 replace cS1 := bc hbx ltS cS1
 replace fS1 := bf hbx ltS fS1
 replace ltS := bl hbx ltS
 replace cX0 := bc hbx ltX cX0
 replace cX1 := bc hbx ltX cX1
 replace ltX := bl hbx ltX
 replace HX := Lib.hid (HX.out.below hbx)
 replace HX1 := Lib.hid (HX1.out.below hbx)
 replace HY := Lib.hid (HY.out.below hbx)
 replace HY1 := Lib.hid (HY1.out.below hbx)
 have cY0 : w4.cell? ⟨w3.heap.size, 0, none⟩ = some (.bool false) := by subst hWW; go_simp
 have cY1 : w4.cell? ⟨w3.heap.size, 1, none⟩ = some (.slice a3 n3 c3) := by subst hWW; go_simp
 have ltY : w3.heap.size < w4.heap.size := by subst hWW; simp
 replace hB := hB.trans (hbx.mono hB.size)
 clear hbx hWW
 clear cA0 cA1 ltA
 clear cB0 cB1 ltB
 refine (rdivmod_any _ _ _ _ _ _ _ _ _ HX1.out HY1.out (by rw [natOf_digs]; exact hz0) (by omega) (by omega)).mono ?_
 rintro e w5 ⟨vq, vr, rfl, hq, hr, hb⟩
 replace cR0 := bc hb ltR cR0
 replace fR0 := bf hb ltR fR0
 replace cR1 := bc hb ltR cR1
 replace fR1 := bf hb ltR fR1
 replace ltR := bl hb ltR
 replace cS0 := bc hb ltS cS0
 replace fS0 := bf hb ltS fS0
 replace cS1 := bc hb ltS cS1
 replace fS1 := bf hb ltS fS1
 replace ltS := bl hb ltS
 replace cX0 := bc hb ltX cX0
 replace cX1 := bc hb ltX cX1
 replace ltX := bl hb ltX
 replace cY0 := bc hb ltY cY0
 replace cY1 := bc hb ltY cY1
 replace ltY := bl hb ltY
 replace HX := Lib.hid (HX.out.below hb)
 replace HX1 := Lib.hid (HX1.out.below hb)
 replace HY := Lib.hid (HY.out.below hb)
 replace HY1 := Lib.hid (HY1.out.below hb)
 replace hB := hB.trans (hb.mono hB.size)
 rw [natOf_digs, natOf_digs] at hq hr
 have HQn := Lib.hid hq
 have HRn := Lib.hid hr
 clear hq hr
 clear hb
 clear HX1 HY1
 go_wp2_with fail
 have hs5 := ltS
 refine (jmake_num true _ _ _ HQn.out (by have := HLn.out; omega)).mono ?_
 rintro e w6 ⟨v6, rfl, hv6, hb⟩
 replace cR0 := bc hb ltR cR0
 replace fR0 := bf hb ltR fR0
 replace cR1 := bc hb ltR cR1
 replace fR1 := bf hb ltR fR1
 replace ltR := bl hb ltR
 replace cS0 := bc hb ltS cS0
 replace fS0 := bf hb ltS fS0
 replace cS1 := bc hb ltS cS1
 replace fS1 := bf hb ltS fS1
 replace ltS := bl hb ltS
 replace cX0 := bc hb ltX cX0
 replace cX1 := bc hb ltX cX1
 replace ltX := bl hb ltX
 replace cY0 := bc hb ltY cY0
 replace cY1 := bc hb ltY cY1
 replace ltY := bl hb ltY
 replace HX := Lib.hid (HX.out.below hb)
 replace HY := Lib.hid (HY.out.below hb)
 replace HQn := Lib.hid (HQn.out.below hb)
 replace HRn := Lib.hid (HRn.out.below hb)
 replace hB := hB.trans (hb.mono hB.size)
 rw [HQz.out] at hv6
 have HQv := Lib.hid (hv6.mono (show w.heap.size + 1 + 1 + 1 + 1 ≤ w5.heap.size by omega))
 obtain ⟨aq, nq, cq, rfl, -, -⟩ := hv6
 generalize decide (y / z < 0) = dq at *
 clear hb
 clear HQn
 obtain ⟨ar, nr, cr, rfl, hlr⟩ := HRn.out
 have hnr := hlr.1
 have HRL := Lib.hid hlr
 clear hlr HRn
 have hs6 := ltS
 go_wp2_with fail
 have hbx : Below w6.heap.size w6 (w6.alloc (.cells #[.bool dq, .slice aq nq cq] 26)) := ((Below.refl _ _).alloc (Nat.le_refl _) _)
 generalize hWW : (w6.alloc (.cells #[.bool dq, .slice aq nq cq] 26)) = w7 at *
 replace cR0 := bc hbx ltR cR0
 replace fR0 := bf hbx ltR fR0
 replace cR1 := bc hbx ltR cR1
 replace fR1 := bf hbx ltR fR1
 replace ltR := bl hbx ltR
 replace cS0 := bc hbx ltS cS0
 replace fS0 := bf hbx ltS fS0
 replace cS1 := bc hbx ltS cS1
 replace fS1 := bf hbx ltS fS1
 replace ltS := bl hbx ltS
 replace cX0 := bc hbx ltX cX0
 replace cX1 := bc hbx ltX cX1
 replace ltX := bl hbx ltX
 replace cY0 := bc hbx ltY cY0
 replace cY1 := bc hbx ltY cY1
 replace ltY := bl hbx ltY
 replace HX := Lib.hid (HX.out.below hbx)
 replace HY := Lib.hid (HY.out.below hbx)
 replace HQv := Lib.hid (HQv.out.below hbx)
 replace HRL := Lib.hid (HRL.out.below hbx)
 have cQ0 : w7.cell? ⟨w6.heap.size, 0, none⟩ = some (.bool dq) := by subst hWW; go_simp
 have cQ1 : w7.cell? ⟨w6.heap.size, 1, none⟩ = some (.slice aq nq cq) := by subst hWW; go_simp
 have ltQ : w6.heap.size < w7.heap.size := by subst hWW; simp
 replace hB := hB.trans (hbx.mono hB.size)
 clear hbx hWW
 refine (rnorm_any _ _ _ _ _ HRL.out (by have := HLr.out; omega)).mono ?_
 rintro e w8 ⟨vn, rfl, hn, hb⟩
 replace cR0 := bc hb ltR cR0
 replace fR0 := bf hb ltR fR0
 replace cR1 := bc hb ltR cR1
 replace fR1 := bf hb ltR fR1
 replace ltR := bl hb ltR
 replace cS0 := bc hb ltS cS0
 replace fS0 := bf hb ltS fS0
 replace cS1 := bc hb ltS cS1
 replace fS1 := bf hb ltS fS1
 replace ltS := bl hb ltS
 replace cX0 := bc hb ltX cX0
 replace cX1 := bc hb ltX cX1
 replace ltX := bl hb ltX
 replace cY0 := bc hb ltY cY0
 replace cY1 := bc hb ltY cY1
 replace ltY := bl hb ltY
 replace cQ0 := bc hb ltQ cQ0
 replace cQ1 := bc hb ltQ cQ1
 replace ltQ := bl hb ltQ
 replace HX := Lib.hid (HX.out.below hb)
 replace HY := Lib.hid (HY.out.below hb)
 replace HQv := Lib.hid (HQv.out.below hb)
 replace HRL := Lib.hid (HRL.out.below hb)
 replace hB := hB.trans (hb.mono hB.size)
 rw [natOf_digs] at hn
 obtain ⟨an, nn, cn, rfl, hln⟩ := hn
 have hnn := hln.1
 clear hln
 clear hb
 obtain rfl : nn = 0 := by rw [← hnn, HRr.out, digs_zero]; rfl
 clear hnn
 go_wp2_with fail
 have eX0 := Gr.cell (R := w.heap.size + 1 + 1) (R2 := w.heap.size + 1 + 1 + 1) cX0 ltX (by omega) (by omega)
 have eX1 := Gr.cell (R := w.heap.size + 1 + 1) (R2 := w.heap.size + 1 + 1 + 1) cX1 ltX (by omega) (by omega)
 have eY0 := Gr.cell (R := w.heap.size + 1 + 1) (R2 := w.heap.size + 1 + 1 + 1) cY0 ltY (by omega) (by omega)
 have eY1 := Gr.cell (R := w.heap.size + 1 + 1) (R2 := w.heap.size + 1 + 1 + 1) cY1 ltY (by omega) (by omega)
 have eQ0 := Gr.cell (R := w.heap.size + 1 + 1) (R2 := w.heap.size + 1 + 1 + 1) cQ0 ltQ (by omega) (by omega)
 have eQ1 := Gr.cell (R := w.heap.size + 1 + 1) (R2 := w.heap.size + 1 + 1 + 1) cQ1 ltQ (by omega) (by omega)
 refine wp_region_sched [(0, false), (1, false), (2, false), (3, false), (4, true), (5, true), (6, true), (7, true), (8, false)] (fun w' => ∃ W : Gr (w.heap.size + 1 + 1) (w.heap.size + 1 + 1 + 1) w8, w' = W.1) (by kernel_rfl) (by kernel_rfl) ⟨⟨w8.drew, below_grown (Below.refl _ _).drew⟩, rfl⟩ ?_
 repeat (refine wpSched_calm rfl (fun K hK => ?_); go_simp; refine hK _ ?_; clear hK K)
 clear eX0 eX1 eY0 eY1 eQ0 eQ1
 have hbx : Below w8.heap.size w8 w8.drew := (Below.refl _ _).drew
 have hM := below_grown (R := w.heap.size + 1 + 1) (R2 := w.heap.size + 1 + 1 + 1) hbx
 replace cR0 := bc hbx ltR cR0
 replace fR0 := bf hbx ltR fR0
 replace cR1 := bc hbx ltR cR1
 replace fR1 := bf hbx ltR fR1
 replace ltR := bl hbx ltR
 replace cS0 := bc hbx ltS cS0
 replace fS0 := bf hbx ltS fS0
 replace cS1 := bc hbx ltS cS1
 replace fS1 := bf hbx ltS fS1
 replace ltS := bl hbx ltS
 replace cX0 := bc hbx ltX cX0
 replace cX1 := bc hbx ltX cX1
 replace ltX := bl hbx ltX
 replace cY0 := bc hbx ltY cY0
 replace cY1 := bc hbx ltY cY1
 replace ltY := bl hbx ltY
 replace cQ0 := bc hbx ltQ cQ0
 replace cQ1 := bc hbx ltQ cQ1
 replace ltQ := bl hbx ltQ
 replace HX := Lib.hid (HX.out.below hbx)
 replace HY := Lib.hid (HY.out.below hbx)
 replace HQv := Lib.hid (HQv.out.below hbx)
 replace HRL := Lib.hid (HRL.out.below hbx)
 replace hB := hB.trans (hbx.mono hB.size)
 clear hbx
 generalize w8.drew = ww8d at *
 refine wpSched_eff rfl rfl (fun K hK => ?_)
 go_simp
 refine (jmul_any _ _ z (y / z) L L _ HY.out (HQv.out.raw L HLq.out) (by omega)).mono ?_
 rintro e w12 ⟨v12, rfl, hv12, hb⟩
 replace cR0 := bc hb ltR cR0
 replace fR0 := bf hb ltR fR0
 replace cR1 := bc hb ltR cR1
 replace fR1 := bf hb ltR fR1
 replace ltR := bl hb ltR
 replace cS0 := bc hb ltS cS0
 replace fS0 := bf hb ltS fS0
 replace cS1 := bc hb ltS cS1
 replace fS1 := bf hb ltS fS1
 replace ltS := bl hb ltS
 replace cX0 := bc hb ltX cX0
 replace cX1 := bc hb ltX cX1
 replace ltX := bl hb ltX
 replace cY0 := bc hb ltY cY0
 replace cY1 := bc hb ltY cY1
 replace ltY := bl hb ltY
 replace cQ0 := bc hb ltQ cQ0
 replace cQ1 := bc hb ltQ cQ1
 replace ltQ := bl hb ltQ
 replace HX := Lib.hid (HX.out.below hb)
 replace HY := Lib.hid (HY.out.below hb)
 replace HQv := Lib.hid (HQv.out.below hb)
 replace HRL := Lib.hid (HRL.out.below hb)
 replace hM := grown_below hM hb
 replace hB := hB.trans (hb.mono hB.size)
 have HM := Lib.hid (hv12.raw (2 * L) HLm.out)
 clear hv12
 clear hb
 refine hK _ _ ⟨⟨w12, hM⟩, rfl⟩ ?_
 clear hK K
 have hs12 := ltS
 refine wpSched_eff rfl rfl (fun K hK => ?_)
 go_simp
 refine (jsub_any _ _ y _ (2 * L) _ (HX.out.mono (by omega)) HM.out HLm.out (by omega)).mono ?_
 rintro e w13 ⟨v13, rfl, hv13, hb⟩
 replace cR0 := bc hb ltR cR0
 replace fR0 := bf hb ltR fR0
 replace cR1 := bc hb ltR cR1
 replace fR1 := bf hb ltR fR1
 replace ltR := bl hb ltR
 replace cS0 := bc hb ltS cS0
 replace fS0 := bf hb ltS fS0
 replace cS1 := bc hb ltS cS1
 replace fS1 := bf hb ltS fS1
 replace ltS := bl hb ltS
 replace cX0 := bc hb ltX cX0
 replace cX1 := bc hb ltX cX1
 replace ltX := bl hb ltX
 replace cY0 := bc hb ltY cY0
 replace cY1 := bc hb ltY cY1
 replace ltY := bl hb ltY
 replace cQ0 := bc hb ltQ cQ0
 replace cQ1 := bc hb ltQ cQ1
 replace ltQ := bl hb ltQ
 replace HX := Lib.hid (HX.out.below hb)
 replace HY := Lib.hid (HY.out.below hb)
 replace HQv := Lib.hid (HQv.out.below hb)
 replace HRL := Lib.hid (HRL.out.below hb)
 replace HM := Lib.hid (HM.out.below hb)
 replace hM := grown_below hM hb
 replace hB := hB.trans (hb.mono hB.size)
 rw [HMz.out] at hv13
 obtain ⟨a6, n6, c6, rfl, p6, q6⟩ := hv13
 have HFin := Lib.hid (int_store2 (B := w.heap.size + 1 + 1 + 1 + 1) (B' := w.heap.size) (g := w.heap.size + 1 + 1) (g2 := w.heap.size + 1 + 1 + 1) HQv.out ⟨a6, n6, c6, rfl, p6, q6.mono (by omega)⟩ (by omega) (by omega) (by omega))
 clear p6 q6
 generalize decide (y % z < 0) = d6 at *
 clear hb
 refine hK _ _ ⟨⟨w13, hM⟩, rfl⟩ ?_
 clear hK K
 refine wpSched_eff rfl rfl (fun K hK => ?_)
 go_simp
 refine hK _ _ ⟨⟨_, grown_set (grown_set hM 0 _) 1 _⟩, rfl⟩ ?_
 clear hK K
 refine wpSched_eff rfl rfl (fun K hK => ?_)
 go_simp
 refine hK _ _ ⟨⟨_, grown_set2 (grown_set2 (grown_set (grown_set hM 0 _) 1 _) 0 _) 1 _⟩, rfl⟩ ?_
 clear hK K
 repeat (refine wpSched_calm rfl (fun K hK => ?_); go_simp; refine hK _ ?_; clear hK K)
 refine wpSched_nil ?_
 go_wp2_with fail
 exact bodyPost_ret (v := .tuple #[.agg #[.bool dq, .slice aq nq cq], .agg #[.bool d6, .slice a6 n6 c6], .bool true]) (by simp [results, Tryz.results119, go_sem, cR0, cR1, cS0, cS1]) rfl ⟨_, _, rfl, HFin.out.1, HFin.out.2, (((hB.setCell (p := ⟨w.heap.size + 1 + 1, 0, none⟩) (by simp <;> omega) _).setCell (p := ⟨w.heap.size + 1 + 1, 1, none⟩) (by simp <;> omega) _).setCell (p := ⟨w.heap.size + 1 + 1 + 1, 0, none⟩) (by simp <;> omega) _).setCell (p := ⟨w.heap.size + 1 + 1 + 1, 1, none⟩) (by simp <;> omega) _⟩
set_option maxHeartbeats 4000000 in
theorem jdivmod_neg (v u : Value) (y z : Int) (L : Nat) (w : World) (hv : IntR w v y L) (hu : IntR w u z L) (hz : 0 < z) (hyl : (digs y.natAbs).length ≤ L) (hzl : (digs z.natAbs).length ≤ L) (hm : (2 * L + 1) * 4 ≤ 140737488355328) (hy : y < 0) (hr : y.natAbs % z.natAbs ≠ 0) :
   Calls Tryz.prog 119 #[v, u] w fun e w' => ∃ r s, e = .returned (.tuple #[r, s, .bool true]) ∧ IntN w.heap.size w' r (y / z) ∧ IntN w.heap.size w' s (y % z) ∧ Below w.heap.size w w' := by
 have HV := Lib.hid hv
 have HU := Lib.hid hu
 have HQz := Lib.hid (quo_neg hy hz hr)
 have HMz := Lib.hid (Int.emod_def y z).symm
 have hdy : decide (y < 0) = true := by simp; omega
 have hdz : decide (z < 0) = false := by simp; omega
 have hz0 : z.natAbs ≠ 0 := by omega
 have HLq := Lib.hid (show (digs (y / z).natAbs).length ≤ L from Nat.le_trans (digs_len_le' (Int.natAbs_ediv_le_natAbs y z)) hyl)
 have HLn := Lib.hid (show (digs (y.natAbs / z.natAbs)).length ≤ L from Nat.le_trans (digs_len_le' (Nat.div_le_self _ _)) hyl)
 have HLm := Lib.hid (show (digs (z * (y / z)).natAbs).length ≤ 2 * L from Nat.le_trans (int_mul_len hzl HLq.out) (by omega))
 have HLr := Lib.hid (show (digs (y.natAbs % z.natAbs)).length ≤ L from Nat.le_trans (digs_len_le' (Nat.mod_le _ _)) hyl)
 have hL1 : 1 ≤ L := Nat.le_trans (Nat.one_le_iff_ne_zero.2 (fun h => hz0 (digs_len_zero.1 h))) hzl
 have HRr := Lib.hid hr
 clear hr
 obtain ⟨neg, a, len, cap, xs, rfl, -, -, -⟩ := hv
 obtain ⟨neg2, a2, len2, cap2, xs2, rfl, -, -, -⟩ := hu
 clear hy
 go_enter Tryz.func119, Tryz.ntmps119
 go_wp2_with fail
 have hbx : Below w.heap.size w ((((w.alloc (.cells #[.bool neg, .slice a len cap] 26)).alloc (.cells #[.bool neg2, .slice a2 len2 cap2] 26)).alloc (.cells #[.bool false, .slice none 0 0] 26)).alloc (.cells #[.bool false, .slice none 0 0] 26)) := (((((Below.refl _ _).alloc (Nat.le_refl _) _).alloc (by simp) _).alloc (by simp <;> omega) _).alloc (by simp <;> omega) _)
 generalize hWW : ((((w.alloc (.cells #[.bool neg, .slice a len cap] 26)).alloc (.cells #[.bool neg2, .slice a2 len2 cap2] 26)).alloc (.cells #[.bool false, .slice none 0 0] 26)).alloc (.cells #[.bool false, .slice none 0 0] 26)) = w0 at *
 replace HV := Lib.hid (HV.out.below hbx)
 replace HU := Lib.hid (HU.out.below hbx)
 have cA0 : w0.cell? ⟨w.heap.size, 0, none⟩ = some (.bool neg) := by subst hWW; go_simp
 have cA1 : w0.cell? ⟨w.heap.size, 1, none⟩ = some (.slice a len cap) := by subst hWW; go_simp
 have ltA : w.heap.size < w0.heap.size := by subst hWW; simp <;> omega
 have cB0 : w0.cell? ⟨w.heap.size + 1, 0, none⟩ = some (.bool neg2) := by subst hWW; go_simp
 have cB1 : w0.cell? ⟨w.heap.size + 1, 1, none⟩ = some (.slice a2 len2 cap2) := by subst hWW; go_simp
 have ltB : w.heap.size + 1 < w0.heap.size := by subst hWW; simp <;> omega
 have cR0 : w0.cell? ⟨w.heap.size + 1 + 1, 0, none⟩ = some (.bool false) := by subst hWW; go_simp
 have fR0 : w0.frozen? ⟨w.heap.size + 1 + 1, 0, none⟩ = false := by subst hWW; go_simp
 have cR1 : w0.cell? ⟨w.heap.size + 1 + 1, 1, none⟩ = some (.slice none 0 0) := by subst hWW; go_simp
 have fR1 : w0.frozen? ⟨w.heap.size + 1 + 1, 1, none⟩ = false := by subst hWW; go_simp
 have ltR : w.heap.size + 1 + 1 < w0.heap.size := by subst hWW; simp <;> omega
 have cS0 : w0.cell? ⟨w.heap.size + 1 + 1 + 1, 0, none⟩ = some (.bool false) := by subst hWW; go_simp
 have fS0 : w0.frozen? ⟨w.heap.size + 1 + 1 + 1, 0, none⟩ = false := by subst hWW; go_simp
 have cS1 : w0.cell? ⟨w.heap.size + 1 + 1 + 1, 1, none⟩ = some (.slice none 0 0) := by subst hWW; go_simp
 have fS1 : w0.frozen? ⟨w.heap.size + 1 + 1 + 1, 1, none⟩ = false := by subst hWW; go_simp
 have ltS : w.heap.size + 1 + 1 + 1 < w0.heap.size := by subst hWW; simp
 have hB := hbx
 clear hbx hWW
 refine (jnorm_any _ y L _ HV.out (by omega)).mono ?_
 rintro e w1 ⟨v1, rfl, hv1, hb⟩
 replace cA0 := bc hb ltA cA0
 replace cA1 := bc hb ltA cA1
 replace ltA := bl hb ltA
 replace cB0 := bc hb ltB cB0
 replace cB1 := bc hb ltB cB1
 replace ltB := bl hb ltB
 replace cR0 := bc hb ltR cR0
 replace fR0 := bf hb ltR fR0
 replace cR1 := bc hb ltR cR1
 replace fR1 := bf hb ltR fR1
 replace ltR := bl hb ltR
 replace cS0 := bc hb ltS cS0
 replace fS0 := bf hb ltS fS0
 replace cS1 := bc hb ltS cS1
 replace fS1 := bf hb ltS fS1
 replace ltS := bl hb ltS
 replace HV := Lib.hid (HV.out.below hb)
 replace HU := Lib.hid (HU.out.below hb)
 replace hB := hB.trans (hb.mono hB.size)
 have HX := Lib.hid (hv1.raw L hyl)
 obtain ⟨a1, n1, c1, rfl, p1, -⟩ := hv1
 rw [hdy] at HX ⊢
 have hn1 := p1.1
 have HX1 := Lib.hid p1
 clear p1
 clear hb
 clear HV
 go_wp2_with fail
 have hs1 := ltS
 have hbx : Below w1.heap.size w1 (w1.alloc (.cells #[.bool true, .slice a1 n1 c1] 26)) := ((Below.refl _ _).alloc (Nat.le_refl _) _)
 generalize hWW : (w1.alloc (.cells #[.bool true, .slice a1 n1 c1] 26)) = w2 at *
 replace cA0 := bc hbx ltA cA0
 replace cA1 := bc hbx ltA cA1
 replace ltA := bl hbx ltA
 replace cB0 := bc hbx ltB cB0
 replace cB1 := bc hbx ltB cB1
 replace ltB := bl hbx ltB
 replace cR0 := bc hbx ltR cR0
 replace fR0 := bf hbx ltR fR0
 replace cR1 := bc hbx ltR cR1
 replace fR1 := bf hbx ltR fR1
 replace ltR := bl hbx ltR
 replace cS0 := bc hbx ltS cS0
 replace fS0 := bf hbx ltS fS0
 replace cS1 := bc hbx ltS cS1
 replace fS1 := bf hbx ltS fS1
 replace ltS := bl hbx ltS
 replace HU := Lib.hid (HU.out.below hbx)
 replace HX := Lib.hid (HX.out.below hbx)
 replace HX1 := Lib.hid (HX1.out.below hbx)
 have cX0 : w2.cell? ⟨w1.heap.size, 0, none⟩ = some (.bool true) := by subst hWW; go_simp
 have cX1 : w2.cell? ⟨w1.heap.size, 1, none⟩ = some (.slice a1 n1 c1) := by subst hWW; go_simp
 have ltX : w1.heap.size < w2.heap.size := by subst hWW; simp
 replace hB := hB.trans (hbx.mono hB.size)
 clear hbx hWW
 refine (jnorm_any _ z L _ HU.out (by omega)).mono ?_
 rintro e w3 ⟨v3, rfl, hv3, hb⟩
 replace cA0 := bc hb ltA cA0
 replace cA1 := bc hb ltA cA1
 replace ltA := bl hb ltA
 replace cB0 := bc hb ltB cB0
 replace cB1 := bc hb ltB cB1
 replace ltB := bl hb ltB
 replace cR0 := bc hb ltR cR0
 replace fR0 := bf hb ltR fR0
 replace cR1 := bc hb ltR cR1
 replace fR1 := bf hb ltR fR1
 replace ltR := bl hb ltR
 replace cS0 := bc hb ltS cS0
 replace fS0 := bf hb ltS fS0
 replace cS1 := bc hb ltS cS1
 replace fS1 := bf hb ltS fS1
 replace ltS := bl hb ltS
 replace cX0 := bc hb ltX cX0
 replace cX1 := bc hb ltX cX1
 replace ltX := bl hb ltX
 replace HU := Lib.hid (HU.out.below hb)
 replace HX := Lib.hid (HX.out.below hb)
 replace HX1 := Lib.hid (HX1.out.below hb)
 replace hB := hB.trans (hb.mono hB.size)
 have HY := Lib.hid (hv3.raw L hzl)
 obtain ⟨a3, n3, c3, rfl, p3, -⟩ := hv3
 rw [hdz] at HY ⊢
 have hn3 := p3.1
 have HY1 := Lib.hid p3
 clear p3
 clear hb
 clear HU
 go_wp2_with fail
 have hs3 := ltS
 have hbx : Below w3.heap.size w3 (w3.alloc (.cells #[.bool false, .slice a3 n3 c3] 26)) := ((Below.refl _ _).alloc (Nat.le_refl _) _)
 generalize hWW : (w3.alloc (.cells #[.bool false, .slice a3 n3 c3] 26)) = w4 at *
 replace cA0 := bc hbx ltA cA0
 replace cA1 := bc hbx ltA cA1
 replace ltA := bl hbx ltA
 replace cB0 := bc hbx ltB cB0
 replace cB1 := bc hbx ltB cB1
 replace ltB := bl hbx ltB
 replace cR0 := bc hbx ltR cR0
 replace fR0 := bf hbx ltR fR0
 replace cR1 := bc hbx ltR cR1
 replace fR1 := bf hbx ltR fR1
 replace ltR := bl hbx ltR
 replace cS0 := bc hbx ltS cS0
 replace fS0 := bf hbx ltS fS0
 replace cS1 := bc hbx ltS cS1
 replace fS1 := bf hbx ltS fS1
 replace ltS := bl hbx ltS
 replace cX0 := bc hbx ltX cX0
 replace cX1 := bc hbx ltX cX1
 replace ltX := bl hbx ltX
 replace HX := Lib.hid (HX.out.below hbx)
 replace HX1 := Lib.hid (HX1.out.below hbx)
 replace HY := Lib.hid (HY.out.below hbx)
 replace HY1 := Lib.hid (HY1.out.below hbx)
 have cY0 : w4.cell? ⟨w3.heap.size, 0, none⟩ = some (.bool false) := by subst hWW; go_simp
 have cY1 : w4.cell? ⟨w3.heap.size, 1, none⟩ = some (.slice a3 n3 c3) := by subst hWW; go_simp
 have ltY : w3.heap.size < w4.heap.size := by subst hWW; simp
 replace hB := hB.trans (hbx.mono hB.size)
 clear hbx hWW
 clear cA0 cA1 ltA
 clear cB0 cB1 ltB
 refine (rdivmod_any _ _ _ _ _ _ _ _ _ HX1.out HY1.out (by rw [natOf_digs]; exact hz0) (by omega) (by omega)).mono ?_
 rintro e w5 ⟨vq, vr, rfl, hq, hr, hb⟩
 replace cR0 := bc hb ltR cR0
 replace fR0 := bf hb ltR fR0
 replace cR1 := bc hb ltR cR1
 replace fR1 := bf hb ltR fR1
 replace ltR := bl hb ltR
 replace cS0 := bc hb ltS cS0
 replace fS0 := bf hb ltS fS0
 replace cS1 := bc hb ltS cS1
 replace fS1 := bf hb ltS fS1
 replace ltS := bl hb ltS
 replace cX0 := bc hb ltX cX0
 replace cX1 := bc hb ltX cX1
 replace ltX := bl hb ltX
 replace cY0 := bc hb ltY cY0
 replace cY1 := bc hb ltY cY1
 replace ltY := bl hb ltY
 replace HX := Lib.hid (HX.out.below hb)
 replace HX1 := Lib.hid (HX1.out.below hb)
 replace HY := Lib.hid (HY.out.below hb)
 replace HY1 := Lib.hid (HY1.out.below hb)
 replace hB := hB.trans (hb.mono hB.size)
 rw [natOf_digs, natOf_digs] at hq hr
 have HQn := Lib.hid hq
 have HRn := Lib.hid hr
 clear hq hr
 clear hb
 clear HX1 HY1
 go_wp2_with fail
 have hs5 := ltS
 refine (jmake_num true _ _ _ HQn.out (by have := HLn.out; omega)).mono ?_
 rintro e w6 ⟨v6, rfl, hv6, hb⟩
 replace cR0 := bc hb ltR cR0
 replace fR0 := bf hb ltR fR0
 replace cR1 := bc hb ltR cR1
 replace fR1 := bf hb ltR fR1
 replace ltR := bl hb ltR
 replace cS0 := bc hb ltS cS0
 replace fS0 := bf hb ltS fS0
 replace cS1 := bc hb ltS cS1
 replace fS1 := bf hb ltS fS1
 replace ltS := bl hb ltS
 replace cX0 := bc hb ltX cX0
 replace cX1 := bc hb ltX cX1
 replace ltX := bl hb ltX
 replace cY0 := bc hb ltY cY0
 replace cY1 := bc hb ltY cY1
 replace ltY := bl hb ltY
 replace HX := Lib.hid (HX.out.below hb)
 replace HY := Lib.hid (HY.out.below hb)
 replace HQn := Lib.hid (HQn.out.below hb)
 replace HRn := Lib.hid (HRn.out.below hb)
 replace hB := hB.trans (hb.mono hB.size)
 have HQv := Lib.hid (hv6.mono (show w.heap.size + 1 + 1 + 1 + 1 ≤ w5.heap.size by omega))
 obtain ⟨aq, nq, cq, rfl, -, -⟩ := hv6
 generalize decide (sgn true (y.natAbs / z.natAbs) < 0) = dq at *
 clear hb
 clear HQn
 obtain ⟨ar, nr, cr, rfl, hlr⟩ := HRn.out
 have hnr := hlr.1
 have HRL := Lib.hid hlr
 clear hlr HRn
 have hs6 := ltS
 have SCR0 := Lib.hid cR0
 have SFR0 := Lib.hid fR0
 have SCR1 := Lib.hid cR1
 have SFR1 := Lib.hid fR1
 have SLR := Lib.hid ltR
 have SCS0 := Lib.hid cS0
 have SFS0 := Lib.hid fS0
 have SCS1 := Lib.hid cS1
 have SFS1 := Lib.hid fS1
 have SLS := Lib.hid ltS
 have SCX0 := Lib.hid cX0
 have SCX1 := Lib.hid cX1
 have SLX := Lib.hid ltX
 have SCY0 := Lib.hid cY0
 have SCY1 := Lib.hid cY1
 have SLY := Lib.hid ltY
 have SHX := Lib.hid HX.out
 have SHY := Lib.hid HY.out
 have SHQv := Lib.hid HQv.out
 have SHRL := Lib.hid HRL.out
 have SB := Lib.hid hB
 have hP : Below w6.heap.size w6 w6 := Below.refl _ _
 go_wp2_with fail
 have hbx : Below w6.heap.size w6 (w6.alloc (.cells #[.bool dq, .slice aq nq cq] 26)) := ((Below.refl _ _).alloc (Nat.le_refl _) _)
 generalize hWW : (w6.alloc (.cells #[.bool dq, .slice aq nq cq] 26)) = w7 at *
 replace cR0 := bc hbx ltR cR0
 replace fR0 := bf hbx ltR fR0
 replace cR1 := bc hbx ltR cR1
 replace fR1 := bf hbx ltR fR1
 replace ltR := bl hbx ltR
 replace cS0 := bc hbx ltS cS0
 replace fS0 := bf hbx ltS fS0
 replace cS1 := bc hbx ltS cS1
 replace fS1 := bf hbx ltS fS1
 replace ltS := bl hbx ltS
 replace cX0 := bc hbx ltX cX0
 replace cX1 := bc hbx ltX cX1
 replace ltX := bl hbx ltX
 replace cY0 := bc hbx ltY cY0
 replace cY1 := bc hbx ltY cY1
 replace ltY := bl hbx ltY
 replace HX := Lib.hid (HX.out.below hbx)
 replace HY := Lib.hid (HY.out.below hbx)
 replace HQv := Lib.hid (HQv.out.below hbx)
 replace HRL := Lib.hid (HRL.out.below hbx)
 have cQ0 : w7.cell? ⟨w6.heap.size, 0, none⟩ = some (.bool dq) := by subst hWW; go_simp
 have fQ0 : w7.frozen? ⟨w6.heap.size, 0, none⟩ = false := by subst hWW; go_simp
 have cQ1 : w7.cell? ⟨w6.heap.size, 1, none⟩ = some (.slice aq nq cq) := by subst hWW; go_simp
 have fQ1 : w7.frozen? ⟨w6.heap.size, 1, none⟩ = false := by subst hWW; go_simp
 have ltQ : w6.heap.size < w7.heap.size := by subst hWW; simp
 replace hB := hB.trans (hbx.mono hB.size)
 replace hP := hP.trans (hbx.mono hP.size)
 clear hbx hWW
 refine (rnorm_any _ _ _ _ _ HRL.out (by have := HLr.out; omega)).mono ?_
 rintro e w8 ⟨vn, rfl, hn, hb⟩
 replace cR0 := bc hb ltR cR0
 replace fR0 := bf hb ltR fR0
 replace cR1 := bc hb ltR cR1
 replace fR1 := bf hb ltR fR1
 replace ltR := bl hb ltR
 replace cS0 := bc hb ltS cS0
 replace fS0 := bf hb ltS fS0
 replace cS1 := bc hb ltS cS1
 replace fS1 := bf hb ltS fS1
 replace ltS := bl hb ltS
 replace cX0 := bc hb ltX cX0
 replace cX1 := bc hb ltX cX1
 replace ltX := bl hb ltX
 replace cY0 := bc hb ltY cY0
 replace cY1 := bc hb ltY cY1
 replace ltY := bl hb ltY
 replace cQ0 := bc hb ltQ cQ0
 replace fQ0 := bf hb ltQ fQ0
 replace cQ1 := bc hb ltQ cQ1
 replace fQ1 := bf hb ltQ fQ1
 replace ltQ := bl hb ltQ
 replace HX := Lib.hid (HX.out.below hb)
 replace HY := Lib.hid (HY.out.below hb)
 replace HQv := Lib.hid (HQv.out.below hb)
 replace HRL := Lib.hid (HRL.out.below hb)
 replace hB := hB.trans (hb.mono hB.size)
 replace hP := hP.trans (hb.mono hP.size)
 rw [natOf_digs] at hn
 obtain ⟨an, nn, cn, rfl, hln⟩ := hn
 have hnn := hln.1
 clear hln
 clear hb
 have hnn0 : 0 < nn := by
   have : nn ≠ 0 := fun h => HRr.out (digs_len_zero.1 (by omega))
   omega
 clear hnn
 go_wp2_with fail
 have eR0 := box_ext (B := w8.heap.size) cR0 ltR
 have eR1 := box_ext (B := w8.heap.size) cR1 ltR
 have eS0 := box_ext (B := w8.heap.size) cS0 ltS
 have eS1 := box_ext (B := w8.heap.size) cS1 ltS
 have eX0 := box_ext (B := w8.heap.size) cX0 ltX
 have eX1 := box_ext (B := w8.heap.size) cX1 ltX
 have eY0 := box_ext (B := w8.heap.size) cY0 ltY
 have eY1 := box_ext (B := w8.heap.size) cY1 ltY
 have eQ0 := box_ext (B := w8.heap.size) cQ0 ltQ
 have eQ1 := box_ext (B := w8.heap.size) cQ1 ltQ
 refine wp_region_tail [(0, false), (1, true), (2, true)] [3] (fun w' => ∃ W : Ext w8.heap.size w8, w' = W.1) (by kernel_rfl) (by kernel_rfl) ⟨⟨w8.drew, (Below.refl _ _).drew⟩, rfl⟩ ?_
 repeat (refine wpSt_calm rfl (fun K hK => ?_); go_simp; refine hK _ ?_; clear hK K)
 clear eR0 eR1 eS0 eS1 eX0 eX1 eY0 eY1 eQ0 eQ1
 have hbx : Below w8.heap.size w8 w8.drew := (Below.refl _ _).drew
 have hM := hbx
 replace cR0 := bc hbx ltR cR0
 replace fR0 := bf hbx ltR fR0
 replace cR1 := bc hbx ltR cR1
 replace fR1 := bf hbx ltR fR1
 replace ltR := bl hbx ltR
 replace cS0 := bc hbx ltS cS0
 replace fS0 := bf hbx ltS fS0
 replace cS1 := bc hbx ltS cS1
 replace fS1 := bf hbx ltS fS1
 replace ltS := bl hbx ltS
 replace cX0 := bc hbx ltX cX0
 replace cX1 := bc hbx ltX cX1
 replace ltX := bl hbx ltX
 replace cY0 := bc hbx ltY cY0
 replace cY1 := bc hbx ltY cY1
 replace ltY := bl hbx ltY
 replace cQ0 := bc hbx ltQ cQ0
 replace fQ0 := bf hbx ltQ fQ0
 replace cQ1 := bc hbx ltQ cQ1
 replace fQ1 := bf hbx ltQ fQ1
 replace ltQ := bl hbx ltQ
 replace HX := Lib.hid (HX.out.below hbx)
 replace HY := Lib.hid (HY.out.below hbx)
 replace HQv := Lib.hid (HQv.out.below hbx)
 replace HRL := Lib.hid (HRL.out.below hbx)
 replace hB := hB.trans (hbx.mono hB.size)
 replace hP := hP.trans (hbx.mono hP.size)
 clear hbx
 generalize w8.drew = ww8d at *
 refine wpSt_eff rfl rfl (fun K hK => ?_)
 go_simp
 refine (jof_any 1 _ (by omega) (by omega)).mono ?_
 rintro e w9 ⟨v9, rfl, hv9, hb⟩
 replace cR0 := bc hb ltR cR0
 replace fR0 := bf hb ltR fR0
 replace cR1 := bc hb ltR cR1
 replace fR1 := bf hb ltR fR1
 replace ltR := bl hb ltR
 replace cS0 := bc hb ltS cS0
 replace fS0 := bf hb ltS fS0
 replace cS1 := bc hb ltS cS1
 replace fS1 := bf hb ltS fS1
 replace ltS := bl hb ltS
 replace cX0 := bc hb ltX cX0
 replace cX1 := bc hb ltX cX1
 replace ltX := bl hb ltX
 replace cY0 := bc hb ltY cY0
 replace cY1 := bc hb ltY cY1
 replace ltY := bl hb ltY
 replace cQ0 := bc hb ltQ cQ0
 replace fQ0 := bf hb ltQ fQ0
 replace cQ1 := bc hb ltQ cQ1
 replace fQ1 := bf hb ltQ fQ1
 replace ltQ := bl hb ltQ
 replace HX := Lib.hid (HX.out.below hb)
 replace HY := Lib.hid (HY.out.below hb)
 replace HQv := Lib.hid (HQv.out.below hb)
 replace HRL := Lib.hid (HRL.out.below hb)
 replace hM := hM.trans (hb.mono hM.size)
 replace hB := hB.trans (hb.mono hB.size)
 replace hP := hP.trans (hb.mono hP.size)
 have HO := Lib.hid ((hv9.raw 1 (digs_length_le (by simp))).mono hL1)
 clear hv9
 clear hb
 refine hK _ _ ⟨⟨w9, hM⟩, rfl⟩ ?_
 clear hK K
 have hsQ := ltQ
 refine wpSt_eff rfl rfl (fun K hK => ?_)
 go_simp
 refine (jsub_any _ _ _ 1 L _ (HQv.out.raw L (by rw [sgn_abs]; exact HLn.out)) HO.out (Nat.le_trans (digs_length_le (by simp)) hL1) (by omega)).mono ?_
 rintro e w10 ⟨v10, rfl, hv10, hb⟩
 replace cR0 := bc hb ltR cR0
 replace fR0 := bf hb ltR fR0
 replace cR1 := bc hb ltR cR1
 replace fR1 := bf hb ltR fR1
 replace ltR := bl hb ltR
 replace cS0 := bc hb ltS cS0
 replace fS0 := bf hb ltS fS0
 replace cS1 := bc hb ltS cS1
 replace fS1 := bf hb ltS fS1
 replace ltS := bl hb ltS
 replace cX0 := bc hb ltX cX0
 replace cX1 := bc hb ltX cX1
 replace ltX := bl hb ltX
 replace cY0 := bc hb ltY cY0
 replace cY1 := bc hb ltY cY1
 replace ltY := bl hb ltY
 replace cQ0 := bc hb ltQ cQ0
 replace fQ0 := bf hb ltQ fQ0
 replace cQ1 := bc hb ltQ cQ1
 replace fQ1 := bf hb ltQ fQ1
 replace ltQ := bl hb ltQ
 replace HX := Lib.hid (HX.out.below hb)
 replace HY := Lib.hid (HY.out.below hb)
 replace HQv := Lib.hid (HQv.out.below hb)
 replace HRL := Lib.hid (HRL.out.below hb)
 replace HO := Lib.hid (HO.out.below hb)
 replace hM := hM.trans (hb.mono hM.size)
 replace hB := hB.trans (hb.mono hB.size)
 replace hP := hP.trans (hb.mono hP.size)
 rw [HQz.out] at hv10
 obtain ⟨a10, n10, c10, rfl, p1, p2⟩ := hv10
 have HF := Lib.hid (int_store (B := w9.heap.size) (B' := w.heap.size + 1 + 1 + 1 + 1) (g := w6.heap.size) ⟨a10, n10, c10, rfl, p1, p2⟩ hsQ (by omega))
 clear p1 p2
 generalize decide (y / z < 0) = d10 at *
 clear hb
 refine hK _ _ ⟨⟨w10, hM⟩, rfl⟩ ?_
 clear hK K
 refine wpSt_end ?_
 refine wpTail_op rfl rfl (fun K hK => ?_)
 go_simp
 refine hK _ _ ?_
 clear hK K
 refine wpTail_nil ?_
 have hMn := ((hP.setCell (p := ⟨w6.heap.size, 0, none⟩) (Nat.le_refl _) (.bool d10)).setCell (p := ⟨w6.heap.size, 1, none⟩) (Nat.le_refl _) (.slice a10 n10 c10))
 replace cR0 := bc hMn SLR.out SCR0.out
 replace fR0 := bf hMn SLR.out SFR0.out
 replace cR1 := bc hMn SLR.out SCR1.out
 replace fR1 := bf hMn SLR.out SFR1.out
 replace ltR := bl hMn SLR.out
 replace cS0 := bc hMn SLS.out SCS0.out
 replace fS0 := bf hMn SLS.out SFS0.out
 replace cS1 := bc hMn SLS.out SCS1.out
 replace fS1 := bf hMn SLS.out SFS1.out
 replace ltS := bl hMn SLS.out
 replace cX0 := bc hMn SLX.out SCX0.out
 replace cX1 := bc hMn SLX.out SCX1.out
 replace ltX := bl hMn SLX.out
 replace cY0 := bc hMn SLY.out SCY0.out
 replace cY1 := bc hMn SLY.out SCY1.out
 replace ltY := bl hMn SLY.out
 replace HX := Lib.hid (SHX.out.below hMn)
 replace HY := Lib.hid (SHY.out.below hMn)
 replace HQv := Lib.hid (SHQv.out.below hMn)
 replace HRL := Lib.hid (SHRL.out.below hMn)
 replace hB := SB.out.trans (hMn.mono SB.out.size)
 replace cQ0 : ((w10.setCell ⟨w6.heap.size, 0, none⟩ (.bool d10)).setCell ⟨w6.heap.size, 1, none⟩ (.slice a10 n10 c10)).cell? ⟨w6.heap.size, 0, none⟩ = some (.bool d10) := by go_simp
 replace cQ1 : ((w10.setCell ⟨w6.heap.size, 0, none⟩ (.bool d10)).setCell ⟨w6.heap.size, 1, none⟩ (.slice a10 n10 c10)).cell? ⟨w6.heap.size, 1, none⟩ = some (.slice a10 n10 c10) := by go_simp
 replace ltQ : w6.heap.size < ((w10.setCell ⟨w6.heap.size, 0, none⟩ (.bool d10)).setCell ⟨w6.heap.size, 1, none⟩ (.slice a10 n10 c10)).heap.size := by simpa using ltQ
 clear SCR0 SFR0 SCR1 SFR1 SLR SCS0 SFS0 SCS1 SFS1 SLS SCX0 SCX1 SLX SCY0 SCY1 SLY SHX SHY SHQv SHRL SB hMn hP hM fQ0 fQ1
 go_wp2_with fail
 generalize ((w10.setCell ⟨w6.heap.size, 0, none⟩ (.bool d10)).setCell ⟨w6.heap.size, 1, none⟩ (.slice a10 n10 c10)) = w11 at *
 clear HQv
 have HQv := HF
 clear HF
 have eX0 := Gr.cell (R := w.heap.size + 1 + 1) (R2 := w.heap.size + 1 + 1 + 1) cX0 ltX (by omega) (by omega)
 have eX1 := Gr.cell (R := w.heap.size + 1 + 1) (R2 := w.heap.size + 1 + 1 + 1) cX1 ltX (by omega) (by omega)
 have eY0 := Gr.cell (R := w.heap.size + 1 + 1) (R2 := w.heap.size + 1 + 1 + 1) cY0 ltY (by omega) (by omega)
 have eY1 := Gr.cell (R := w.heap.size + 1 + 1) (R2 := w.heap.size + 1 + 1 + 1) cY1 ltY (by omega) (by omega)
 have eQ0 := Gr.cell (R := w.heap.size + 1 + 1) (R2 := w.heap.size + 1 + 1 + 1) cQ0 ltQ (by omega) (by omega)
 have eQ1 := Gr.cell (R := w.heap.size + 1 + 1) (R2 := w.heap.size + 1 + 1 + 1) cQ1 ltQ (by omega) (by omega)
 refine wp_region_sched [(0, false), (1, false), (2, false), (3, false), (4, true), (5, true), (6, true), (7, true), (8, false)] (fun w' => ∃ W : Gr (w.heap.size + 1 + 1) (w.heap.size + 1 + 1 + 1) w11, w' = W.1) (by kernel_rfl) (by kernel_rfl) ⟨⟨w11.drew, below_grown (Below.refl _ _).drew⟩, rfl⟩ ?_
 repeat (refine wpSched_calm rfl (fun K hK => ?_); go_simp; refine hK _ ?_; clear hK K)
 clear eX0 eX1 eY0 eY1 eQ0 eQ1
 have hbx : Below w11.heap.size w11 w11.drew := (Below.refl _ _).drew
 have hM := below_grown (R := w.heap.size + 1 + 1) (R2 := w.heap.size + 1 + 1 + 1) hbx
 replace cR0 := bc hbx ltR cR0
 replace fR0 := bf hbx ltR fR0
 replace cR1 := bc hbx ltR cR1
 replace fR1 := bf hbx ltR fR1
 replace ltR := bl hbx ltR
 replace cS0 := bc hbx ltS cS0
 replace fS0 := bf hbx ltS fS0
 replace cS1 := bc hbx ltS cS1
 replace fS1 := bf hbx ltS fS1
 replace ltS := bl hbx ltS
 replace cX0 := bc hbx ltX cX0
 replace cX1 := bc hbx ltX cX1
 replace ltX := bl hbx ltX
 replace cY0 := bc hbx ltY cY0
 replace cY1 := bc hbx ltY cY1
 replace ltY := bl hbx ltY
 replace cQ0 := bc hbx ltQ cQ0
 replace cQ1 := bc hbx ltQ cQ1
 replace ltQ := bl hbx ltQ
 replace HX := Lib.hid (HX.out.below hbx)
 replace HY := Lib.hid (HY.out.below hbx)
 replace HQv := Lib.hid (HQv.out.below hbx)
 replace HRL := Lib.hid (HRL.out.below hbx)
 replace hB := hB.trans (hbx.mono hB.size)
 clear hbx
 generalize w11.drew = ww11d at *
 refine wpSched_eff rfl rfl (fun K hK => ?_)
 go_simp
 refine (jmul_any _ _ z (y / z) L L _ HY.out (HQv.out.raw L HLq.out) (by omega)).mono ?_
 rintro e w12 ⟨v12, rfl, hv12, hb⟩
 replace cR0 := bc hb ltR cR0
 replace fR0 := bf hb ltR fR0
 replace cR1 := bc hb ltR cR1
 replace fR1 := bf hb ltR fR1
 replace ltR := bl hb ltR
 replace cS0 := bc hb ltS cS0
 replace fS0 := bf hb ltS fS0
 replace cS1 := bc hb ltS cS1
 replace fS1 := bf hb ltS fS1
 replace ltS := bl hb ltS
 replace cX0 := bc hb ltX cX0
 replace cX1 := bc hb ltX cX1
 replace ltX := bl hb ltX
 replace cY0 := bc hb ltY cY0
 replace cY1 := bc hb ltY cY1
 replace ltY := bl hb ltY
 replace cQ0 := bc hb ltQ cQ0
 replace cQ1 := bc hb ltQ cQ1
 replace ltQ := bl hb ltQ
 replace HX := Lib.hid (HX.out.below hb)
 replace HY := Lib.hid (HY.out.below hb)
 replace HQv := Lib.hid (HQv.out.below hb)
 replace HRL := Lib.hid (HRL.out.below hb)
 replace hM := grown_below hM hb
 replace hB := hB.trans (hb.mono hB.size)
 have HM := Lib.hid (hv12.raw (2 * L) HLm.out)
 clear hv12
 clear hb
 refine hK _ _ ⟨⟨w12, hM⟩, rfl⟩ ?_
 clear hK K
 have hs12 := ltS
 refine wpSched_eff rfl rfl (fun K hK => ?_)
 go_simp
 refine (jsub_any _ _ y _ (2 * L) _ (HX.out.mono (by omega)) HM.out HLm.out (by omega)).mono ?_
 rintro e w13 ⟨v13, rfl, hv13, hb⟩
 replace cR0 := bc hb ltR cR0
 replace fR0 := bf hb ltR fR0
 replace cR1 := bc hb ltR cR1
 replace fR1 := bf hb ltR fR1
 replace ltR := bl hb ltR
 replace cS0 := bc hb ltS cS0
 replace fS0 := bf hb ltS fS0
 replace cS1 := bc hb ltS cS1
 replace fS1 := bf hb ltS fS1
 replace ltS := bl hb ltS
 replace cX0 := bc hb ltX cX0
 replace cX1 := bc hb ltX cX1
 replace ltX := bl hb ltX
 replace cY0 := bc hb ltY cY0
 replace cY1 := bc hb ltY cY1
 replace ltY := bl hb ltY
 replace cQ0 := bc hb ltQ cQ0
 replace cQ1 := bc hb ltQ cQ1
 replace ltQ := bl hb ltQ
 replace HX := Lib.hid (HX.out.below hb)
 replace HY := Lib.hid (HY.out.below hb)
 replace HQv := Lib.hid (HQv.out.below hb)
 replace HRL := Lib.hid (HRL.out.below hb)
 replace HM := Lib.hid (HM.out.below hb)
 replace hM := grown_below hM hb
 replace hB := hB.trans (hb.mono hB.size)
 rw [HMz.out] at hv13
 obtain ⟨a6, n6, c6, rfl, p6, q6⟩ := hv13
 have HFin := Lib.hid (int_store2 (B := w.heap.size + 1 + 1 + 1 + 1) (B' := w.heap.size) (g := w.heap.size + 1 + 1) (g2 := w.heap.size + 1 + 1 + 1) HQv.out ⟨a6, n6, c6, rfl, p6, q6.mono (by omega)⟩ (by omega) (by omega) (by omega))
 clear p6 q6
 generalize decide (y % z < 0) = d6 at *
 clear hb
 refine hK _ _ ⟨⟨w13, hM⟩, rfl⟩ ?_
 clear hK K
 refine wpSched_eff rfl rfl (fun K hK => ?_)
 go_simp
 refine hK _ _ ⟨⟨_, grown_set (grown_set hM 0 _) 1 _⟩, rfl⟩ ?_
 clear hK K
 refine wpSched_eff rfl rfl (fun K hK => ?_)
 go_simp
 refine hK _ _ ⟨⟨_, grown_set2 (grown_set2 (grown_set (grown_set hM 0 _) 1 _) 0 _) 1 _⟩, rfl⟩ ?_
 clear hK K
 repeat (refine wpSched_calm rfl (fun K hK => ?_); go_simp; refine hK _ ?_; clear hK K)
 refine wpSched_nil ?_
 go_wp2_with fail
 exact bodyPost_ret (v := .tuple #[.agg #[.bool d10, .slice a10 n10 c10], .agg #[.bool d6, .slice a6 n6 c6], .bool true]) (by simp [results, Tryz.results119, go_sem, cR0, cR1, cS0, cS1]) rfl ⟨_, _, rfl, HFin.out.1, HFin.out.2, (((hB.setCell (p := ⟨w.heap.size + 1 + 1, 0, none⟩) (by simp <;> omega) _).setCell (p := ⟨w.heap.size + 1 + 1, 1, none⟩) (by simp <;> omega) _).setCell (p := ⟨w.heap.size + 1 + 1 + 1, 0, none⟩) (by simp <;> omega) _).setCell (p := ⟨w.heap.size + 1 + 1 + 1, 1, none⟩) (by simp <;> omega) _⟩
theorem jdivmod_any (v u : Value) (y z : Int) (L : Nat) (w : World) (hv : IntR w v y L) (hu : IntR w u z L) (hz : 0 < z) (hyl : (digs y.natAbs).length ≤ L) (hzl : (digs z.natAbs).length ≤ L) (hm : (2 * L + 1) * 4 ≤ 140737488355328) :
   Calls Tryz.prog 119 #[v, u] w fun e w' => ∃ r s, e = .returned (.tuple #[r, s, .bool true]) ∧ IntN w.heap.size w' r (y / z) ∧ IntN w.heap.size w' s (y % z) ∧ Below w.heap.size w w' := by
 by_cases hy : 0 ≤ y
 · exact jdivmod_pos v u y z L w hv hu hz hyl hzl hm hy
 · by_cases hr : y.natAbs % z.natAbs = 0
   · exact jdivmod_zero v u y z L w hv hu hz hyl hzl hm (by omega) hr
   · exact jdivmod_neg v u y z L w hv hu hz hyl hzl hm (by omega) hr
end Go.Proofs.YtahmndacoanfiaaGreat
