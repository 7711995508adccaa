/- Fractions: what ratio.Norm, Mul and Add return. Condition: the limbs can be read, and take at most 2^47 bytes. -/
import Derived.Test.YtahmndacoanfiaaGreatWalk
import Derived.Test.YtahmndacoanfiaaGreatRRatC
namespace Go.Proofs.YtahmndacoanfiaaGreat
set_option maxRecDepth 100000
open Go.RowKit

theorem mul_raw (v u : Value) (m n L M : Nat) (w : World) (hv : NatRaw w v m L) (hu : NatRaw w u n M) (hm : (L + M) * 4 ≤ 281474976710656) :
    Calls Tryz.prog 55 #[v, u] w fun e w' => ∃ v, e = .returned v ∧ NatRaw w' v (m * n) (L + M) ∧ Below w.heap.size w w' := by
  obtain ⟨a, len, cap, ys, rfl, hy, rfl, hl⟩ := hv
  obtain ⟨a', len', cap', ys', rfl, hy', rfl, hl'⟩ := hu
  refine (mul_any _ _ _ _ _ _ _ _ w hy hy' (by omega)).mono ?_
  rintro e w' ⟨v, rfl, h1, h2⟩
  have h3 := digs_mul_len (natOf ys) (natOf ys')
  have h4 := digs_length_of hy.2.1
  have h5 := digs_length_of hy'.2.1
  rw [hy.1] at h4
  rw [hy'.1] at h5
  exact ⟨v, rfl, h1.rawN (by omega), h2⟩

set_option maxHeartbeats 1000000 in
theorem qnorm_any (v : Value) (r : Rat) (L : Nat) (w : World) (hv : RatV w v r L) (hL : 1 ≤ L) (hm : L * 4 ≤ 140737488355328) :
    Calls Tryz.prog 101 #[v] w fun e w' => ∃ v, e = .returned v ∧ RatN w.heap.size w' v r ∧ Rsz r L ∧ Below w.heap.size w w' := by
  obtain ⟨p, q, hr, hpq⟩ := hv
  have HS := Lib.hid ((mk_pt p q).trans hpq)
  have HR := Lib.hid hr
  obtain ⟨neg, a', len', cap', xs, a, len, cap, ys, rfl, -, -, -, -, -, -⟩ := hr
  clear hpq
  go_enter Tryz.func101, Tryz.ntmps101
  go_wp2_with fail
  have hbx : Below w.heap.size w ((w.alloc (.cells #[.bool neg, .slice a' len' cap', .slice a len cap] 28)).alloc (.cells #[.bool false, .slice none 0 0, .slice none 0 0] 28)) := (((Below.refl _ _).alloc (Nat.le_refl _) _).alloc (by simp) _)
  generalize hWW : ((w.alloc (.cells #[.bool neg, .slice a' len' cap', .slice a len cap] 28)).alloc (.cells #[.bool false, .slice none 0 0, .slice none 0 0] 28)) = w0 at *
  replace HR := Lib.hid (HR.out.below hbx)
  have cA0 : w0.cell? ⟨w.heap.size, 0, none⟩ = some (.bool neg) := by subst hWW; go_simp
  have cA1 : w0.cell? ⟨w.heap.size, 1, none⟩ = some (.slice a' len' cap') := by subst hWW; go_simp
  have cA2 : w0.cell? ⟨w.heap.size, 2, none⟩ = some (.slice a len cap) := by subst hWW; go_simp
  have ltA : w.heap.size < w0.heap.size := by subst hWW; simp <;> omega
  have cR0 : w0.cell? ⟨w.heap.size + 1, 0, none⟩ = some (.bool false) := by subst hWW; go_simp
  have fR0 : w0.frozen? ⟨w.heap.size + 1, 0, none⟩ = false := by subst hWW; go_simp
  have cR1 : w0.cell? ⟨w.heap.size + 1, 1, none⟩ = some (.slice none 0 0) := by subst hWW; go_simp
  have fR1 : w0.frozen? ⟨w.heap.size + 1, 1, none⟩ = false := by subst hWW; go_simp
  have cR2 : w0.cell? ⟨w.heap.size + 1, 2, none⟩ = some (.slice none 0 0) := by subst hWW; go_simp
  have fR2 : w0.frozen? ⟨w.heap.size + 1, 2, none⟩ = false := by subst hWW; go_simp
  have ltR : w.heap.size + 1 < w0.heap.size := by subst hWW; simp
  have hB := hbx
  clear hbx hWW
  refine (parts_any _ p q L _ HR.out hL).mono ?_
  rintro e w1 ⟨vi, vd, rfl, hi, hd, hb⟩
  replace cA0 := bc hb ltA cA0
  replace cA1 := bc hb ltA cA1
  replace cA2 := bc hb ltA cA2
  replace ltA := bl hb ltA
  replace cR0 := bc hb ltR cR0
  replace fR0 := bf hb ltR fR0
  replace cR1 := bc hb ltR cR1
  replace fR1 := bf hb ltR fR1
  replace cR2 := bc hb ltR cR2
  replace fR2 := bf hb ltR fR2
  replace ltR := bl hb ltR
  replace HR := Lib.hid (HR.out.below hb)
  replace hB := hB.trans (hb.mono hB.size)
  have HI := Lib.hid hi
  have HD := Lib.hid hd
  clear hi hd
  clear hb
  go_wp2_with fail
  have hs1 := ltR
  refine (reduce_any vi vd _ _ L _ HI.out HD.out (ptD_ne q) hm).mono ?_
  rintro e w2 ⟨v2, rfl, hv2, hsz, hb⟩
  replace cA0 := bc hb ltA cA0
  replace cA1 := bc hb ltA cA1
  replace cA2 := bc hb ltA cA2
  replace ltA := bl hb ltA
  replace cR0 := bc hb ltR cR0
  replace fR0 := bf hb ltR fR0
  replace cR1 := bc hb ltR cR1
  replace fR1 := bf hb ltR fR1
  replace cR2 := bc hb ltR cR2
  replace fR2 := bf hb ltR fR2
  replace ltR := bl hb ltR
  replace HR := Lib.hid (HR.out.below hb)
  replace HI := Lib.hid (HI.out.below hb)
  replace HD := Lib.hid (HD.out.below hb)
  replace hB := hB.trans (hb.mono hB.size)
  rw [HS.out] at hv2 hsz
  obtain ⟨x', l', k', x, l, k, rfl, h1, h2, h3, h4⟩ := hv2
  have HSz := Lib.hid hsz
  have HFin := Lib.hid (rat_store (B := w1.heap.size) (B' := w.heap.size) (g := w.heap.size + 1) (r := r) ⟨x', l', k', x, l, k, rfl, h1, h2, h3, h4⟩ hs1 (by omega))
  clear h1 h2 h3 h4 hsz
  clear hb
  generalize decide ((r).num < 0) = dn at *
  go_wp2_with fail
  exact bodyPost_ret (v := .agg #[.bool dn, .slice x' l' k', .slice x l k]) (by simp [results, Tryz.results101, go_sem, cR0, cR1, cR2]) rfl ⟨_, rfl, HFin.out, HSz.out, ((hB.setCell (p := ⟨w.heap.size + 1, 0, none⟩) (by simp) _).setCell (p := ⟨w.heap.size + 1, 1, none⟩) (by simp) _).setCell (p := ⟨w.heap.size + 1, 2, none⟩) (by simp) _⟩
set_option maxHeartbeats 2000000 in
theorem qmul_any (v u : Value) (r s : Rat) (L M : Nat) (w : World) (hv : RatV w v r L) (hu : RatV w u s M) (hL : 1 ≤ L) (hM1 : 1 ≤ M) (hm : (L + M) * 4 ≤ 140737488355328) :
    Calls Tryz.prog 31 #[v, u] w fun e w' => ∃ v, e = .returned v ∧ RatN w.heap.size w' v (r * s) ∧ Rsz (r * s) (L + M) ∧ Below w.heap.size w w' := by
  obtain ⟨p, q, hr, hpq⟩ := hv
  obtain ⟨p', q', hr', hpq'⟩ := hu
  have HRl := Lib.hid hr.lens
  have HRl' := Lib.hid hr'.lens
  have HS := Lib.hid (mk_mul (p := ptN p q) (s := ptN p' q') (q := ptD q) (t := ptD q'))
  rw [mk_pt, mk_pt, hpq, hpq'] at HS
  have HR := Lib.hid hr
  have HR' := Lib.hid hr'
  obtain ⟨neg, a', len', cap', xs, a, len, cap, ys, rfl, -, -, -, -, -, -⟩ := hr
  obtain ⟨neg2, a2', len2', cap2', xs2, a2, len2, cap2, ys2, rfl, -, -, -, -, -, -⟩ := hr'
  clear hpq hpq'
  go_enter Tryz.func31, Tryz.ntmps31
  go_wp2_with fail
  have hbx : Below w.heap.size w (((w.alloc (.cells #[.bool neg, .slice a' len' cap', .slice a len cap] 28)).alloc (.cells #[.bool neg2, .slice a2' len2' cap2', .slice a2 len2 cap2] 28)).alloc (.cells #[.bool false, .slice none 0 0, .slice none 0 0] 28)) := ((((Below.refl _ _).alloc (Nat.le_refl _) _).alloc (by simp) _).alloc (by simp <;> omega) _)
  generalize hWW : (((w.alloc (.cells #[.bool neg, .slice a' len' cap', .slice a len cap] 28)).alloc (.cells #[.bool neg2, .slice a2' len2' cap2', .slice a2 len2 cap2] 28)).alloc (.cells #[.bool false, .slice none 0 0, .slice none 0 0] 28)) = w0 at *
  replace HR := Lib.hid (HR.out.below hbx)
  replace HR' := Lib.hid (HR'.out.below hbx)
  have cA0 : w0.cell? ⟨w.heap.size, 0, none⟩ = some (.bool neg) := by subst hWW; go_simp
  have cA1 : w0.cell? ⟨w.heap.size, 1, none⟩ = some (.slice a' len' cap') := by subst hWW; go_simp
  have cA2 : w0.cell? ⟨w.heap.size, 2, none⟩ = some (.slice a len cap) := by subst hWW; go_simp
  have ltA : w.heap.size < w0.heap.size := by subst hWW; simp <;> omega
  have cB0 : w0.cell? ⟨w.heap.size + 1, 0, none⟩ = some (.bool neg2) := by subst hWW; go_simp
  have cB1 : w0.cell? ⟨w.heap.size + 1, 1, none⟩ = some (.slice a2' len2' cap2') := by subst hWW; go_simp
  have cB2 : w0.cell? ⟨w.heap.size + 1, 2, none⟩ = some (.slice a2 len2 cap2) := by subst hWW; go_simp
  have ltB : w.heap.size + 1 < w0.heap.size := by subst hWW; simp <;> omega
  have cR0 : w0.cell? ⟨w.heap.size + 1 + 1, 0, none⟩ = some (.bool false) := by subst hWW; go_simp
  have fR0 : w0.frozen? ⟨w.heap.size + 1 + 1, 0, none⟩ = false := by subst hWW; go_simp
  have cR1 : w0.cell? ⟨w.heap.size + 1 + 1, 1, none⟩ = some (.slice none 0 0) := by subst hWW; go_simp
  have fR1 : w0.frozen? ⟨w.heap.size + 1 + 1, 1, none⟩ = false := by subst hWW; go_simp
  have cR2 : w0.cell? ⟨w.heap.size + 1 + 1, 2, none⟩ = some (.slice none 0 0) := by subst hWW; go_simp
  have fR2 : w0.frozen? ⟨w.heap.size + 1 + 1, 2, none⟩ = false := by subst hWW; go_simp
  have ltR : w.heap.size + 1 + 1 < w0.heap.size := by subst hWW; simp
  have hB := hbx
  clear hbx hWW
  refine (parts_any _ p q L _ HR.out hL).mono ?_
  rintro e w1 ⟨vi, vd, rfl, hi, hd, hb⟩
  replace cA0 := bc hb ltA cA0
  replace cA1 := bc hb ltA cA1
  replace cA2 := bc hb ltA cA2
  replace ltA := bl hb ltA
  replace cB0 := bc hb ltB cB0
  replace cB1 := bc hb ltB cB1
  replace cB2 := bc hb ltB cB2
  replace ltB := bl hb ltB
  replace cR0 := bc hb ltR cR0
  replace fR0 := bf hb ltR fR0
  replace cR1 := bc hb ltR cR1
  replace fR1 := bf hb ltR fR1
  replace cR2 := bc hb ltR cR2
  replace fR2 := bf hb ltR fR2
  replace ltR := bl hb ltR
  replace HR := Lib.hid (HR.out.below hb)
  replace HR' := Lib.hid (HR'.out.below hb)
  replace hB := hB.trans (hb.mono hB.size)
  have HI := Lib.hid hi
  have HD := Lib.hid hd
  obtain ⟨ni, ai, li, ci, xi, rfl, -, -, -⟩ := hi
  clear hd
  clear hb
  go_wp2_with fail
  have hbx : Below w1.heap.size w1 (w1.alloc (.cells #[.bool ni, .slice ai li ci] 26)) := ((Below.refl _ _).alloc (Nat.le_refl _) _)
  generalize hWW : (w1.alloc (.cells #[.bool ni, .slice ai li ci] 26)) = w1a at *
  replace cA0 := bc hbx ltA cA0
  replace cA1 := bc hbx ltA cA1
  replace cA2 := bc hbx ltA cA2
  replace ltA := bl hbx ltA
  replace cB0 := bc hbx ltB cB0
  replace cB1 := bc hbx ltB cB1
  replace cB2 := bc hbx ltB cB2
  replace ltB := bl hbx ltB
  replace cR0 := bc hbx ltR cR0
  replace fR0 := bf hbx ltR fR0
  replace cR1 := bc hbx ltR cR1
  replace fR1 := bf hbx ltR fR1
  replace cR2 := bc hbx ltR cR2
  replace fR2 := bf hbx ltR fR2
  replace ltR := bl hbx ltR
  replace HR := Lib.hid (HR.out.below hbx)
  replace HR' := Lib.hid (HR'.out.below hbx)
  replace HI := Lib.hid (HI.out.below hbx)
  replace HD := Lib.hid (HD.out.below hbx)
  have cX0 : w1a.cell? ⟨w1.heap.size, 0, none⟩ = some (.bool ni) := by subst hWW; go_simp
  have cX1 : w1a.cell? ⟨w1.heap.size, 1, none⟩ = some (.slice ai li ci) := by subst hWW; go_simp
  have ltX : w1.heap.size < w1a.heap.size := by subst hWW; simp
  replace hB := hB.trans (hbx.mono hB.size)
  clear hbx hWW
  refine (parts_any _ p' q' M _ HR'.out hM1).mono ?_
  rintro e w2 ⟨vi', vd', rfl, hi, hd, hb⟩
  replace cA0 := bc hb ltA cA0
  replace cA1 := bc hb ltA cA1
  replace cA2 := bc hb ltA cA2
  replace ltA := bl hb ltA
  replace cB0 := bc hb ltB cB0
  replace cB1 := bc hb ltB cB1
  replace cB2 := bc hb ltB cB2
  replace ltB := bl hb ltB
  replace cR0 := bc hb ltR cR0
  replace fR0 := bf hb ltR fR0
  replace cR1 := bc hb ltR cR1
  replace fR1 := bf hb ltR fR1
  replace cR2 := bc hb ltR cR2
  replace fR2 := bf hb ltR fR2
  replace ltR := bl hb ltR
  replace cX0 := bc hb ltX cX0
  replace cX1 := bc hb ltX cX1
  replace ltX := bl hb ltX
  replace HR := Lib.hid (HR.out.below hb)
  replace HR' := Lib.hid (HR'.out.below hb)
  replace HI := Lib.hid (HI.out.below hb)
  replace HD := Lib.hid (HD.out.below hb)
  replace hB := hB.trans (hb.mono hB.size)
  have HI' := Lib.hid hi
  have HD' := Lib.hid hd
  obtain ⟨nj, aj, lj, cj, xj, rfl, -, -, -⟩ := hi
  clear hd
  clear hb
  go_wp2_with fail
  have hbx : Below w2.heap.size w2 (w2.alloc (.cells #[.bool nj, .slice aj lj cj] 26)) := ((Below.refl _ _).alloc (Nat.le_refl _) _)
  generalize hWW : (w2.alloc (.cells #[.bool nj, .slice aj lj cj] 26)) = w2a at *
  replace cA0 := bc hbx ltA cA0
  replace cA1 := bc hbx ltA cA1
  replace cA2 := bc hbx ltA cA2
  replace ltA := bl hbx ltA
  replace cB0 := bc hbx ltB cB0
  replace cB1 := bc hbx ltB cB1
  replace cB2 := bc hbx ltB cB2
  replace ltB := bl hbx ltB
  replace cR0 := bc hbx ltR cR0
  replace fR0 := bf hbx ltR fR0
  replace cR1 := bc hbx ltR cR1
  replace fR1 := bf hbx ltR fR1
  replace cR2 := bc hbx ltR cR2
  replace fR2 := bf hbx ltR fR2
  replace ltR := bl hbx ltR
  replace cX0 := bc hbx ltX cX0
  replace cX1 := bc hbx ltX cX1
  replace ltX := bl hbx ltX
  replace HR := Lib.hid (HR.out.below hbx)
  replace HR' := Lib.hid (HR'.out.below hbx)
  replace HI := Lib.hid (HI.out.below hbx)
  replace HD := Lib.hid (HD.out.below hbx)
  replace HI' := Lib.hid (HI'.out.below hbx)
  replace HD' := Lib.hid (HD'.out.below hbx)
  have cY0 : w2a.cell? ⟨w2.heap.size, 0, none⟩ = some (.bool nj) := by subst hWW; go_simp
  have cY1 : w2a.cell? ⟨w2.heap.size, 1, none⟩ = some (.slice aj lj cj) := by subst hWW; go_simp
  have ltY : w2.heap.size < w2a.heap.size := by subst hWW; simp
  replace hB := hB.trans (hbx.mono hB.size)
  clear hbx hWW
  refine (imul_any _ _ _ _ L M _ HI.out HI'.out (by omega)).mono ?_
  rintro e w3 ⟨v3, rfl, hv3, hb⟩
  replace cA0 := bc hb ltA cA0
  replace cA1 := bc hb ltA cA1
  replace cA2 := bc hb ltA cA2
  replace ltA := bl hb ltA
  replace cB0 := bc hb ltB cB0
  replace cB1 := bc hb ltB cB1
  replace cB2 := bc hb ltB cB2
  replace ltB := bl hb ltB
  replace cR0 := bc hb ltR cR0
  replace fR0 := bf hb ltR fR0
  replace cR1 := bc hb ltR cR1
  replace fR1 := bf hb ltR fR1
  replace cR2 := bc hb ltR cR2
  replace fR2 := bf hb ltR fR2
  replace ltR := bl hb ltR
  replace cX0 := bc hb ltX cX0
  replace cX1 := bc hb ltX cX1
  replace ltX := bl hb ltX
  replace cY0 := bc hb ltY cY0
  replace cY1 := bc hb ltY cY1
  replace ltY := bl hb ltY
  replace HR := Lib.hid (HR.out.below hb)
  replace HR' := Lib.hid (HR'.out.below hb)
  replace HI := Lib.hid (HI.out.below hb)
  replace HD := Lib.hid (HD.out.below hb)
  replace HI' := Lib.hid (HI'.out.below hb)
  replace HD' := Lib.hid (HD'.out.below hb)
  replace hB := hB.trans (hb.mono hB.size)
  have HV3 := Lib.hid (hv3.raw (L + M) (int_mul_len (ptN_len HRl.out.1) (ptN_len HRl'.out.1)))
  clear hv3
  clear hb
  go_wp2_with fail
  refine (mul_raw vd vd' _ _ L M _ HD.out HD'.out (by omega)).mono ?_
  rintro e w4 ⟨v4, rfl, hv4, hb⟩
  replace cA0 := bc hb ltA cA0
  replace cA1 := bc hb ltA cA1
  replace cA2 := bc hb ltA cA2
  replace ltA := bl hb ltA
  replace cB0 := bc hb ltB cB0
  replace cB1 := bc hb ltB cB1
  replace cB2 := bc hb ltB cB2
  replace ltB := bl hb ltB
  replace cR0 := bc hb ltR cR0
  replace fR0 := bf hb ltR fR0
  replace cR1 := bc hb ltR cR1
  replace fR1 := bf hb ltR fR1
  replace cR2 := bc hb ltR cR2
  replace fR2 := bf hb ltR fR2
  replace ltR := bl hb ltR
  replace cX0 := bc hb ltX cX0
  replace cX1 := bc hb ltX cX1
  replace ltX := bl hb ltX
  replace cY0 := bc hb ltY cY0
  replace cY1 := bc hb ltY cY1
  replace ltY := bl hb ltY
  replace HR := Lib.hid (HR.out.below hb)
  replace HR' := Lib.hid (HR'.out.below hb)
  replace HI := Lib.hid (HI.out.below hb)
  replace HD := Lib.hid (HD.out.below hb)
  replace HI' := Lib.hid (HI'.out.below hb)
  replace HD' := Lib.hid (HD'.out.below hb)
  replace HV3 := Lib.hid (HV3.out.below hb)
  replace hB := hB.trans (hb.mono hB.size)
  have HV4 := Lib.hid hv4
  clear hv4
  clear hb
  go_wp2_with fail
  have hs1 := ltR
  refine (reduce_any v3 v4 _ _ (L + M) _ HV3.out HV4.out (Nat.mul_ne_zero (ptD_ne q) (ptD_ne q')) hm).mono ?_
  rintro e w5 ⟨v5, rfl, hv5, hsz, hb⟩
  replace cA0 := bc hb ltA cA0
  replace cA1 := bc hb ltA cA1
  replace cA2 := bc hb ltA cA2
  replace ltA := bl hb ltA
  replace cB0 := bc hb ltB cB0
  replace cB1 := bc hb ltB cB1
  replace cB2 := bc hb ltB cB2
  replace ltB := bl hb ltB
  replace cR0 := bc hb ltR cR0
  replace fR0 := bf hb ltR fR0
  replace cR1 := bc hb ltR cR1
  replace fR1 := bf hb ltR fR1
  replace cR2 := bc hb ltR cR2
  replace fR2 := bf hb ltR fR2
  replace ltR := bl hb ltR
  replace cX0 := bc hb ltX cX0
  replace cX1 := bc hb ltX cX1
  replace ltX := bl hb ltX
  replace cY0 := bc hb ltY cY0
  replace cY1 := bc hb ltY cY1
  replace ltY := bl hb ltY
  replace HR := Lib.hid (HR.out.below hb)
  replace HR' := Lib.hid (HR'.out.below hb)
  replace HI := Lib.hid (HI.out.below hb)
  replace HD := Lib.hid (HD.out.below hb)
  replace HI' := Lib.hid (HI'.out.below hb)
  replace HD' := Lib.hid (HD'.out.below hb)
  replace HV3 := Lib.hid (HV3.out.below hb)
  replace HV4 := Lib.hid (HV4.out.below hb)
  replace hB := hB.trans (hb.mono hB.size)
  rw [HS.out] at hv5 hsz
  obtain ⟨x', l', k', x, l, k, rfl, h1, h2, h3, h4⟩ := hv5
  have HSz := Lib.hid hsz
  have HFin := Lib.hid (rat_store (B := w4.heap.size) (B' := w.heap.size) (g := w.heap.size + 1 + 1) (r := r * s) ⟨x', l', k', x, l, k, rfl, h1, h2, h3, h4⟩ hs1 (by omega))
  clear h1 h2 h3 h4 hsz
  clear hb
  generalize decide ((r * s).num < 0) = dn at *
  go_wp2_with fail
  exact bodyPost_ret (v := .agg #[.bool dn, .slice x' l' k', .slice x l k]) (by simp [results, Tryz.results31, go_sem, cR0, cR1, cR2]) rfl ⟨_, rfl, HFin.out, HSz.out, ((hB.setCell (p := ⟨w.heap.size + 1 + 1, 0, none⟩) (by simp <;> omega) _).setCell (p := ⟨w.heap.size + 1 + 1, 1, none⟩) (by simp <;> omega) _).setCell (p := ⟨w.heap.size + 1 + 1, 2, none⟩) (by simp <;> omega) _⟩

end Go.Proofs.YtahmndacoanfiaaGreat
