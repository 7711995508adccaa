/- Ratios: what ratio.Make, Of, Sign and Cmp return, as fractions. Condition: the limbs can be read, and take at most 2^47 bytes. -/
import Derived.Test.YtahmndacoanfiaaGreatRatB
namespace Go.Proofs.YtahmndacoanfiaaGreat
set_option maxRecDepth 100000
open Go.RowKit

theorem box_ext {B g : Nat} {w : World} {o : Nat} {v : Value} (h : w.cell? ⟨g, o, none⟩ = some v) (hg : g < B) : ∀ W : Ext B w, W.1.cell? ⟨g, o, none⟩ = some v := fun W => by rw [W.2.cell (p := ⟨g, o, none⟩) hg]; exact h
theorem divInt_sgn (b c : Bool) (m n : Nat) : Rat.divInt (sgn b m) (sgn c n) = mkRat (sgn (!(b == c)) m) n := by
  cases b <;> cases c <;> simp [sgn, Rat.divInt_neg', Rat.divInt_ofNat]
theorem rsz_zero {L : Nat} (h : 1 ≤ L) : Rsz 0 L := by
  refine ⟨?_, ?_⟩
  · rw [show (0 : Rat).num.natAbs = 0 from rfl, digs_zero]; exact Nat.zero_le _
  · refine Nat.le_trans (digs_length_le (k := 1) ?_) h; decide

theorem whole_raw (v : Value) (q L : Nat) (w : World) (hv : NatRaw w v q L) (hm : L * 4 ≤ 140737488355328) :
    Calls Tryz.prog 53 #[v] w fun e w' => ∃ v, e = .returned v ∧ IntR w' v (q : Int) L ∧ Below w.heap.size w w' := by
  obtain ⟨a, len, cap, ys, rfl, hy, rfl, hl⟩ := hv
  have h0 := digs_length_of hy.2.1
  rw [hy.1] at h0
  refine (whole_lim a len cap ys w hy (by omega)).mono ?_
  rintro e w' ⟨v, rfl, h1, h2⟩
  exact ⟨v, rfl, h1.raw L (by simp; omega), h2⟩

set_option maxHeartbeats 1000000 in
theorem qmake_zero (vi vj : Value) (p : Int) (L : Nat) (w : World) (hi : IntR w vi p L) (hj : IntR w vj 0 L) :
    Calls Tryz.prog 62 #[vi, vj] w fun e w' => ∃ v, e = .returned (.tuple #[v, .bool false]) ∧ RatN w.heap.size w' v 0 ∧ Below w.heap.size w w' := by
  have HJ := Lib.hid hj
  obtain ⟨neg, a, len, cap, xs, rfl, hx, hp, hlx⟩ := hi
  obtain ⟨neg', a', len', cap', ys, rfl, hy, hq, hly⟩ := hj
  have hb0 : Below w.heap.size w (((w.alloc (.cells #[.bool neg, .slice a len cap] 26)).alloc (.cells #[.bool neg', .slice a' len' cap'] 26)).alloc (.cells #[.bool false, .slice none 0 0, .slice none 0 0] 28)) := ((((Below.refl _ _).alloc (Nat.le_refl _) _).alloc (by simp) _).alloc (by simp; omega) _)
  clear hx hy hp hq
  go_enter Tryz.func62, Tryz.ntmps62
  go_wp2_with fail
  refine (isign_any _ 0 L _ (HJ.out.below hb0)).mono ?_
  rintro e w1 ⟨rfl, hb1⟩
  have hb01 := hb0.trans (hb1.mono (by simp; omega))
  obtain ⟨hc1, hf1⟩ := bcell hb1 (w.heap.size + 1 + 1) (by simp)
  have HS1 := Lib.hid (show w.heap.size + 3 ≤ w1.heap.size by have := hb1.size; simp at this; omega)
  clear hb1
  go_wp2_with fail
  refine (zero_any w1).mono ?_
  rintro e w2 ⟨v2, rfl, hv2, hb2⟩
  obtain ⟨x', l', k', x, l, k, rfl, h1, h2, h3, h4⟩ := hv2
  obtain ⟨hc2, hf2⟩ := bcell hb2 (w.heap.size + 1 + 1) (by have := HS1.out; omega)
  have HB := Lib.hid (hb01.trans (hb2.mono hb01.size))
  have HFin := Lib.hid (rat_store (B := w1.heap.size) (B' := w.heap.size) (g := w.heap.size + 1 + 1) (r := 0) ⟨x', l', k', x, l, k, rfl, h1, h2, h3, h4⟩ (by have := HS1.out; omega) (by have := HS1.out; omega))
  clear h1 h2 h3 h4 hb2 hb01
  generalize decide ((0 : Rat).num < 0) = dn at *
  go_wp2_with fail
  exact bodyPost_ret (v := .tuple #[.agg #[.bool dn, .slice x' l' k', .slice x l k], .bool false]) (by simp [results, Tryz.results62, go_sem, hc2, hc1]) rfl ⟨_, rfl, HFin.out, ((HB.out.setCell (p := ⟨w.heap.size + 1 + 1, 0, none⟩) (by simp; omega) _).setCell (p := ⟨w.heap.size + 1 + 1, 1, none⟩) (by simp; omega) _).setCell (p := ⟨w.heap.size + 1 + 1, 2, none⟩) (by simp; omega) _⟩

set_option maxHeartbeats 1000000 in
theorem qmake_any (vi vj : Value) (p q : Int) (L : Nat) (w : World) (hi : IntR w vi p L) (hj : IntR w vj q L) (hq0 : q ≠ 0) (hL : L * 4 ≤ 140737488355328) :
    Calls Tryz.prog 62 #[vi, vj] w fun e w' => ∃ v, e = .returned (.tuple #[v, .bool true]) ∧ RatN w.heap.size w' v (Rat.divInt p q) ∧ Rsz (Rat.divInt p q) L ∧ Below w.heap.size w w' := by
  have HJ := Lib.hid hj
  obtain ⟨neg, a, len, cap, xs, rfl, hx, hp, hlx⟩ := hi
  obtain ⟨neg', a', len', cap', ys, rfl, hy, hq, hly⟩ := hj
  have hb0 : Below w.heap.size w (((w.alloc (.cells #[.bool neg, .slice a len cap] 26)).alloc (.cells #[.bool neg', .slice a' len' cap'] 26)).alloc (.cells #[.bool false, .slice none 0 0, .slice none 0 0] 28)) := ((((Below.refl _ _).alloc (Nat.le_refl _) _).alloc (by simp) _).alloc (by simp; omega) _)
  have HDv := Lib.hid (divInt_sgn neg neg' (natOf xs) (natOf ys))
  rw [hp, hq] at HDv
  have HY0 := Lib.hid (show natOf ys ≠ 0 from fun h => hq0 (by rw [← hq, h]; cases neg' <;> rfl))
  have hs0 : (q.sign == 0) = false := by simpa [Int.sign_eq_zero_iff_zero] using hq0
  have HX := Lib.hid hx
  have HY := Lib.hid hy
  clear hx hy hp hq hq0
  go_enter Tryz.func62, Tryz.ntmps62
  go_wp2_with fail
  refine (isign_any _ q L _ (HJ.out.below hb0)).mono ?_
  rintro e w1 ⟨rfl, hb1⟩
  have hb01 := hb0.trans (hb1.mono (by simp; omega))
  have k00 : w1.cell? ⟨w.heap.size, 0, none⟩ = some (.bool neg) := by rw [(bcell hb1 w.heap.size (by simp; omega)).1]; go_simp
  have k01 : w1.cell? ⟨w.heap.size, 1, none⟩ = some (.slice a len cap) := by rw [(bcell hb1 w.heap.size (by simp; omega)).1]; go_simp
  have k10 : w1.cell? ⟨w.heap.size + 1, 0, none⟩ = some (.bool neg') := by rw [(bcell hb1 (w.heap.size + 1) (by simp)).1]; go_simp
  have k11 : w1.cell? ⟨w.heap.size + 1, 1, none⟩ = some (.slice a' len' cap') := by rw [(bcell hb1 (w.heap.size + 1) (by simp)).1]; go_simp
  have HR0 := Lib.hid (show w1.cell? ⟨w.heap.size + 1 + 1, 0, none⟩ = some (.bool false) by rw [(bcell hb1 (w.heap.size + 1 + 1) (by simp)).1]; go_simp)
  have HR1 := Lib.hid (show w1.cell? ⟨w.heap.size + 1 + 1, 1, none⟩ = some (.slice none 0 0) by rw [(bcell hb1 (w.heap.size + 1 + 1) (by simp)).1]; go_simp)
  have HR2 := Lib.hid (show w1.cell? ⟨w.heap.size + 1 + 1, 2, none⟩ = some (.slice none 0 0) by rw [(bcell hb1 (w.heap.size + 1 + 1) (by simp)).1]; go_simp)
  have HRf := Lib.hid (show ∀ o, w1.frozen? ⟨w.heap.size + 1 + 1, o, none⟩ = false from fun o => by rw [(bcell hb1 (w.heap.size + 1 + 1) (by simp)).2]; go_simp)
  have HS1 := Lib.hid (show w.heap.size + 3 ≤ w1.heap.size by have := hb1.size; simp at this; omega)
  have e00 := box_ext (B := w.heap.size + 2) k00 (by omega)
  have e01 := box_ext (B := w.heap.size + 2) k01 (by omega)
  have e10 := box_ext (B := w.heap.size + 2) k10 (by omega)
  have e11 := box_ext (B := w.heap.size + 2) k11 (by omega)
  clear hb1 k00 k01 k10 k11
  have HX1 := Lib.hid (HX.out.below hb01.drew)
  have HY1 := Lib.hid (HY.out.below hb01.drew)
  go_wp2_with fail
  refine wp_region_sched [(0, false), (1, false), (2, false), (3, false), (4, false), (5, false), (6, false), (8, false), (9, false), (7, true), (10, true), (11, true), (12, false)] (fun w' => ∃ W : Ext (w.heap.size + 2) w1, w' = W.1) (by kernel_rfl) (by kernel_rfl) ⟨⟨w1.drew, (Below.refl _ _).drew⟩, rfl⟩ ?_
  repeat (refine wpSched_calm rfl (fun K hK => ?_); go_simp; refine hK _ ?_; clear hK K)
  clear e00 e01 e10 e11
  have HBd := Lib.hid (show Below w1.heap.size w1 w1.drew from (Below.refl _ _).drew)
  generalize w1.drew = wd at *
  refine wpSched_eff rfl rfl (fun K hK => ?_)
  go_simp
  refine (imake_any _ xs _ _ _ _ HX1.out (by omega)).mono ?_
  rintro e w2 ⟨v2, rfl, hv2, hb2⟩
  have HV2 := Lib.hid (hv2.raw L (by rw [sgn_abs]; exact Nat.le_trans (digs_length_of HX.out.2.1) (by rw [HX.out.1]; exact hlx)))
  have HB2 := Lib.hid (HBd.out.trans (hb2.mono HBd.out.size))
  have HY2 := Lib.hid (HY1.out.below hb2)
  refine hK _ _ ⟨⟨w2, HB2.out.mono (by have := HS1.out; omega)⟩, rfl⟩ ?_
  clear hK K hv2 hb2
  refine wpSched_eff rfl rfl (fun K hK => ?_)
  go_simp
  refine (reduce_any v2 _ _ (natOf ys) L w2 HV2.out ⟨a', len', cap', ys, rfl, HY2.out, rfl, hly⟩ HY0.out hL).mono ?_
  rintro e w3 ⟨v3, rfl, hv3, hsz3, hb3⟩
  rw [← HDv.out] at hv3 hsz3
  obtain ⟨x', l', k', x, l, k, rfl, h1, h2, h3, h4⟩ := hv3
  have HSz := Lib.hid hsz3
  have hs2 : w.heap.size + 3 ≤ w2.heap.size := by have := HS1.out; have := HB2.out.size; omega
  have HFin := Lib.hid (rat_store (B := w2.heap.size) (B' := w.heap.size) (g := w.heap.size + 1 + 1) (r := Rat.divInt p q) ⟨x', l', k', x, l, k, rfl, h1, h2, h3, h4⟩ (by omega) (by omega))
  have hb13 := HB2.out.trans (hb3.mono HB2.out.size)
  obtain ⟨hc, hf⟩ := bcell hb13 (w.heap.size + 1 + 1) (by have := HS1.out; omega)
  have r0 : w3.cell? ⟨w.heap.size + 1 + 1, 0, none⟩ = some (.bool false) := by rw [hc]; exact HR0.out
  have r1 : w3.cell? ⟨w.heap.size + 1 + 1, 1, none⟩ = some (.slice none 0 0) := by rw [hc]; exact HR1.out
  have r2 : w3.cell? ⟨w.heap.size + 1 + 1, 2, none⟩ = some (.slice none 0 0) := by rw [hc]; exact HR2.out
  have f0 : w3.frozen? ⟨w.heap.size + 1 + 1, 0, none⟩ = false := by rw [hf]; exact HRf.out 0
  have f1 : w3.frozen? ⟨w.heap.size + 1 + 1, 1, none⟩ = false := by rw [hf]; exact HRf.out 1
  have f2 : w3.frozen? ⟨w.heap.size + 1 + 1, 2, none⟩ = false := by rw [hf]; exact HRf.out 2
  have HB := Lib.hid (hb01.trans (hb13.mono hb01.size))
  have HBx := Lib.hid (show Below (w.heap.size + 2) w1 w3 from hb13.mono (by have := HS1.out; omega))
  refine hK _ _ ⟨⟨w3, HBx.out⟩, rfl⟩ ?_
  clear hK K h1 h2 h3 h4 hb3 hc hf hb13 hsz3
  generalize decide ((Rat.divInt p q).num < 0) = dn at *
  refine wpSched_eff rfl rfl (fun K hK => ?_)
  go_simp
  refine hK _ _ ⟨⟨_, ((HBx.out.setCell (p := ⟨w.heap.size + 1 + 1, 0, none⟩) (by simp) _).setCell (p := ⟨w.heap.size + 1 + 1, 1, none⟩) (by simp) _).setCell (p := ⟨w.heap.size + 1 + 1, 2, none⟩) (by simp) _⟩, rfl⟩ ?_
  clear hK K
  refine wpSched_calm rfl (fun K hK => ?_); go_simp; refine hK _ ?_; clear hK K
  refine wpSched_nil ?_
  go_wp2_with fail
  exact bodyPost_ret (v := .tuple #[.agg #[.bool dn, .slice x' l' k', .slice x l k], .bool true]) (by simp [results, Tryz.results62, go_sem, r0, r1, r2]) rfl ⟨_, rfl, HFin.out, HSz.out, ((HB.out.setCell (p := ⟨w.heap.size + 1 + 1, 0, none⟩) (by simp; omega) _).setCell (p := ⟨w.heap.size + 1 + 1, 1, none⟩) (by simp; omega) _).setCell (p := ⟨w.heap.size + 1 + 1, 2, none⟩) (by simp; omega) _⟩

theorem digs_i64 {n : Int} (h1 : -9223372036854775808 ≤ n) (h2 : n ≤ 9223372036854775807) : (digs n.natAbs).length ≤ 2 := digs_length_le (by
  have : n.natAbs ≤ 9223372036854775808 := by omega
  omega)

set_option maxHeartbeats 1000000 in
theorem qof_any (n d : Int) (w : World) (h1 : -9223372036854775808 ≤ n) (h2 : n ≤ 9223372036854775807) (h3 : -9223372036854775808 ≤ d) (h4 : d ≤ 9223372036854775807) (hd0 : d ≠ 0) :
    Calls Tryz.prog 56 #[.int .i64 n, .int .i64 d] w fun e w' => ∃ v, e = .returned (.tuple #[v, .bool true]) ∧ RatN w.heap.size w' v (Rat.divInt n d) ∧ Rsz (Rat.divInt n d) 2 ∧ Below w.heap.size w w' := by
  have hb0 : Below w.heap.size w (w.alloc (.cells #[.bool false, .slice none 0 0, .slice none 0 0] 28)) := (Below.refl _ _).alloc (Nat.le_refl _) _
  have HL1 := Lib.hid (digs_i64 h1 h2)
  have HL2 := Lib.hid (digs_i64 h3 h4)
  go_enter Tryz.func56, Tryz.ntmps56
  go_wp2_with fail
  refine (iof_any n _ h1 h2).mono ?_
  rintro e w1 ⟨v1, rfl, hv1, hb1⟩
  have HV1 := Lib.hid (hv1.raw 2 HL1.out)
  have hb01 := hb0.trans (hb1.mono (by simp))
  obtain ⟨hc1, hf1⟩ := bcell hb1 w.heap.size (by simp)
  have HS1 := Lib.hid (show w.heap.size + 1 ≤ w1.heap.size by have := hb1.size; simp at this; omega)
  clear hv1 hb1
  go_wp2_with fail
  refine (iof_any d _ h3 h4).mono ?_
  rintro e w2 ⟨v2, rfl, hv2, hb2⟩
  have HV1' := Lib.hid (HV1.out.below hb2)
  have HV2 := Lib.hid (hv2.raw 2 HL2.out)
  have hb02 := hb01.trans (hb2.mono hb01.size)
  obtain ⟨hc2, hf2⟩ := bcell hb2 w.heap.size (by have := HS1.out; omega)
  have HS2 := Lib.hid (Nat.le_trans HS1.out hb2.size)
  clear hv2 hb2 hb01
  go_wp2_with fail
  refine (qmake_any v1 v2 n d 2 w2 HV1'.out HV2.out hd0 (by omega)).mono ?_
  rintro e w3 ⟨v3, rfl, hv3, hsz3, hb3⟩
  obtain ⟨x', l', k', x, l, k, rfl, g1, g2, g3, g4⟩ := hv3
  have HSz := Lib.hid hsz3
  obtain ⟨hc3, hf3⟩ := bcell hb3 w.heap.size (by have := HS2.out; omega)
  have HB := Lib.hid (hb02.trans (hb3.mono hb02.size))
  have HFin := Lib.hid (rat_store (B := w2.heap.size) (B' := w.heap.size) (g := w.heap.size) (r := Rat.divInt n d) ⟨x', l', k', x, l, k, rfl, g1, g2, g3, g4⟩ (by have := HS2.out; omega) (by have := HS2.out; omega))
  clear g1 g2 g3 g4 hb3 hb02 hsz3
  generalize decide ((Rat.divInt n d).num < 0) = dn at *
  go_wp2_with fail
  exact bodyPost_ret (v := .tuple #[.agg #[.bool dn, .slice x' l' k', .slice x l k], .bool true]) (by simp [results, Tryz.results56, go_sem, hc3, hc2, hc1]) rfl ⟨_, rfl, HFin.out, HSz.out, ((HB.out.setCell (Nat.le_refl _) _).setCell (Nat.le_refl _) _).setCell (Nat.le_refl _) _⟩

set_option maxHeartbeats 1000000 in
theorem qsign_any (v : Value) (r : Rat) (L : Nat) (w : World) (hv : RatV w v r L) (hL : 1 ≤ L) :
    Calls Tryz.prog 26 #[v] w fun e w' => e = .returned (.int .i64 (rsgI r)) ∧ Below w.heap.size w w' := by
  obtain ⟨p, q, hr, hpq⟩ := hv
  have HR := Lib.hid hr
  have HS := Lib.hid (mk_sgn (p := ptN p q) (ptD_ne q))
  rw [mk_pt, hpq] at HS
  obtain ⟨neg, a', len', cap', xs, a, len, cap, ys, rfl, -, -, -, -, -, -⟩ := hr
  have hb0 : Below w.heap.size w (w.alloc (.cells #[.bool neg, .slice a' len' cap', .slice a len cap] 28)) := (Below.refl _ _).alloc (Nat.le_refl _) _
  clear hpq
  go_enter Tryz.func26, Tryz.ntmps26
  go_wp2_with fail
  refine (parts_any _ p q L _ (HR.out.below hb0) hL).mono ?_
  rintro e w1 ⟨vi, vd, rfl, hi, hd, hb1⟩
  have HI := Lib.hid hi
  obtain ⟨neg1, a1, l1, c1, xs1, rfl, -, -, -⟩ := hi
  have hb01 := hb0.trans (hb1.mono (by simp))
  have hb2 : Below w1.heap.size w1 (w1.alloc (.cells #[.bool neg1, .slice a1 l1 c1] 26)) := (Below.refl _ _).alloc (Nat.le_refl _) _
  have HI2 := Lib.hid (HI.out.below hb2)
  have hb02 := hb01.trans (hb2.mono hb01.size)
  clear hd hb1
  go_wp2_with fail
  refine (isign_any _ _ L _ HI2.out).mono ?_
  rintro e w2 ⟨rfl, hb3⟩
  go_wp2_with fail
  go_ret
  exact ⟨by rw [HS.out]; rfl, hb02.trans (hb3.mono hb02.size)⟩

set_option maxHeartbeats 2000000 in
theorem qcmp_any (v u : Value) (r s : Rat) (L M : Nat) (w : World) (hv : RatV w v r L) (hu : RatV w u s M) (hL : 1 ≤ L) (hM : 1 ≤ M) (hm : (L + M) * 4 ≤ 140737488355328) :
    Calls Tryz.prog 27 #[v, u] w fun e w' => e = .returned (.int .i64 (rcmpI r s)) ∧ Below w.heap.size w w' := by
  obtain ⟨p, q, hr, hpq⟩ := hv
  obtain ⟨p', q', hr', hpq'⟩ := hu
  have HR := Lib.hid hr
  have HR' := Lib.hid hr'
  have HS := Lib.hid (mk_cmp (p := ptN p q) (s := ptN p' q') (ptD_ne q) (ptD_ne q'))
  rw [mk_pt, mk_pt, hpq, hpq'] at HS
  obtain ⟨neg, a', len', cap', xs, a, len, cap, ys, rfl, -, -, -, -, -, -⟩ := hr
  obtain ⟨neg', b', lem', cbp', xs', b, lem, cbp, ys', rfl, -, -, -, -, -, -⟩ := hr'
  have hb0 : Below w.heap.size w ((w.alloc (.cells #[.bool neg, .slice a' len' cap', .slice a len cap] 28)).alloc (.cells #[.bool neg', .slice b' lem' cbp', .slice b lem cbp] 28)) := ((Below.refl _ _).alloc (Nat.le_refl _) _).alloc (by simp) _
  clear hpq hpq'
  go_enter Tryz.func27, Tryz.ntmps27
  go_wp2_with fail
  refine (parts_any _ p q L _ (HR.out.below hb0) hL).mono ?_
  rintro e w1 ⟨vi, vd, rfl, hi, hd, hb1⟩
  have HI := Lib.hid hi
  obtain ⟨neg1, a1, l1, c1, xs1, rfl, -, -, -⟩ := hi
  have HD := Lib.hid hd
  obtain ⟨ad, ld, cd, zd, rfl, -, -, -⟩ := hd
  have hb01 := hb0.trans (hb1.mono (by simp; omega))
  have hb2 : Below w1.heap.size w1 (w1.alloc (.cells #[.bool neg1, .slice a1 l1 c1] 26)) := (Below.refl _ _).alloc (Nat.le_refl _) _
  have hb02 := hb01.trans (hb2.mono hb01.size)
  obtain ⟨hc1, hf1⟩ := bcell hb1 (w.heap.size + 1) (by simp)
  have HS1 := Lib.hid (show w.heap.size + 2 ≤ w1.heap.size by have := hb1.size; simp at this; omega)
  have hlt1 : w.heap.size + 1 < w1.heap.size := by have := HS1.out; omega
  go_wp2_with fail
  refine (parts_any _ p' q' M _ (HR'.out.below hb02) hM).mono ?_
  rintro e w3 ⟨vi', vd', rfl, hi', hd', hb3⟩
  have HI' := Lib.hid hi'
  obtain ⟨neg2, a2, l2, c2, xs2, rfl, -, -, -⟩ := hi'
  have HD' := Lib.hid hd'
  obtain ⟨ae, le, ce, ze, rfl, -, -, -⟩ := hd'
  have hb03 := hb02.trans (hb3.mono hb02.size)
  have k0 : w3.cell? ⟨w1.heap.size, 0, none⟩ = some (.bool neg1) := by rw [(bcell hb3 w1.heap.size (by simp)).1]; go_simp
  have k1 : w3.cell? ⟨w1.heap.size, 1, none⟩ = some (.slice a1 l1 c1) := by rw [(bcell hb3 w1.heap.size (by simp)).1]; go_simp
  have hs13 : w1.heap.size + 1 ≤ w3.heap.size := by have := hb3.size; simp at this; omega
  have hb4 : Below w3.heap.size w3 (w3.alloc (.cells #[.bool neg2, .slice a2 l2 c2] 26)) := (Below.refl _ _).alloc (Nat.le_refl _) _
  have HI4 := Lib.hid (((HI.out.below hb2).below hb3).below hb4)
  have HD4 := Lib.hid (((HD.out.below hb2).below hb3).below hb4)
  have HI4' := Lib.hid (HI'.out.below hb4)
  have HD4' := Lib.hid (HD'.out.below hb4)
  have hb04 := hb03.trans (hb4.mono hb03.size)
  clear hc1 hf1 hb1 hb2 hb3 hb02 hb01 hb03
  go_wp2_with fail
  have g00 : (w3.alloc (.cells #[.bool neg2, .slice a2 l2 c2] 26)).cell? ⟨w1.heap.size, 0, none⟩ = some (.bool neg1) := by rw [(bcell hb4 w1.heap.size (by omega)).1]; exact k0
  have g01 : (w3.alloc (.cells #[.bool neg2, .slice a2 l2 c2] 26)).cell? ⟨w1.heap.size, 1, none⟩ = some (.slice a1 l1 c1) := by rw [(bcell hb4 w1.heap.size (by omega)).1]; exact k1
  have g10 : (w3.alloc (.cells #[.bool neg2, .slice a2 l2 c2] 26)).cell? ⟨w3.heap.size, 0, none⟩ = some (.bool neg2) := by go_simp
  have g11 : (w3.alloc (.cells #[.bool neg2, .slice a2 l2 c2] 26)).cell? ⟨w3.heap.size, 1, none⟩ = some (.slice a2 l2 c2) := by go_simp
  have hsz : (w3.alloc (.cells #[.bool neg2, .slice a2 l2 c2] 26)).heap.size = w3.heap.size + 1 := by simp
  generalize (w3.alloc (.cells #[.bool neg2, .slice a2 l2 c2] 26)) = w4 at *
  have e00 := box_ext (B := w4.heap.size) g00 (by omega)
  have e01 := box_ext (B := w4.heap.size) g01 (by omega)
  have e10 := box_ext (B := w4.heap.size) g10 (by omega)
  have e11 := box_ext (B := w4.heap.size) g11 (by omega)
  clear g00 g01 g10 g11 hsz k0 k1 hb4 hlt1 hs13
  refine wp_region_sched [(0, false), (1, false), (4, false), (5, false), (2, true), (3, true), (6, true), (7, true), (8, true), (9, false)] (fun w' => ∃ W : Ext w4.heap.size w4, w' = W.1) (by kernel_rfl) (by kernel_rfl) ⟨⟨w4.drew, (Below.refl _ _).drew⟩, rfl⟩ ?_
  repeat (refine wpSched_calm rfl (fun K hK => ?_); go_simp; refine hK _ ?_; clear hK K)
  clear e00 e01 e10 e11
  have HBd := Lib.hid (show Below w4.heap.size w4 w4.drew from (Below.refl _ _).drew)
  have HBw := Lib.hid hb04
  clear hb04
  generalize w4.drew = wd at *
  refine wpSched_eff rfl rfl (fun K hK => ?_)
  go_simp
  refine (whole_raw _ _ M _ (HD4'.out.below HBd.out) (by omega)).mono ?_
  rintro e w5 ⟨v5, rfl, hv5, hb5⟩
  have HV5 := Lib.hid hv5
  have HB5 := Lib.hid (HBd.out.trans (hb5.mono HBd.out.size))
  refine hK _ _ ⟨⟨w5, HB5.out⟩, rfl⟩ ?_
  clear hK K hv5 hb5
  refine wpSched_eff rfl rfl (fun K hK => ?_)
  go_simp
  refine (imul_any _ _ _ _ L M w5 (HI4.out.below HB5.out) HV5.out (by omega)).mono ?_
  rintro e w6 ⟨v6, rfl, hv6, hb6⟩
  have HV6 := Lib.hid hv6
  have HB6 := Lib.hid (HB5.out.trans (hb6.mono HB5.out.size))
  refine hK _ _ ⟨⟨w6, HB6.out⟩, rfl⟩ ?_
  clear hK K hv6 hb6
  refine wpSched_eff rfl rfl (fun K hK => ?_)
  go_simp
  refine (whole_raw _ _ L _ (HD4.out.below HB6.out) (by omega)).mono ?_
  rintro e w7 ⟨v7, rfl, hv7, hb7⟩
  have HV7 := Lib.hid hv7
  have HV6' := Lib.hid (HV6.out.below hb7)
  have HB7 := Lib.hid (HB6.out.trans (hb7.mono HB6.out.size))
  refine hK _ _ ⟨⟨w7, HB7.out⟩, rfl⟩ ?_
  clear hK K hv7 hb7
  refine wpSched_eff rfl rfl (fun K hK => ?_)
  go_simp
  refine (imul_any _ _ _ _ M L w7 (HI4'.out.below HB7.out) HV7.out (by omega)).mono ?_
  rintro e w8 ⟨v8, rfl, hv8, hb8⟩
  have HV8 := Lib.hid hv8
  have HV6'' := Lib.hid (HV6'.out.below hb8)
  have HB8 := Lib.hid (HB7.out.trans (hb8.mono HB7.out.size))
  refine hK _ _ ⟨⟨w8, HB8.out⟩, rfl⟩ ?_
  clear hK K hv8 hb8
  refine wpSched_eff rfl rfl (fun K hK => ?_)
  go_simp
  refine (icmp_any _ _ _ _ _ _ w8 (HV6''.out.raw _ (Nat.le_refl _)) (HV8.out.raw _ (Nat.le_refl _))).mono ?_
  rintro e w9 ⟨rfl, hb9⟩
  rw [HS.out]
  have HB9 := Lib.hid (HB8.out.trans (hb9.mono HB8.out.size))
  refine hK _ _ ⟨⟨w9, HB9.out⟩, rfl⟩ ?_
  clear hK K hb9
  refine wpSched_calm rfl (fun K hK => ?_); go_simp; refine hK _ ?_; clear hK K
  refine wpSched_nil ?_
  go_wp2_with fail
  go_ret
  exact ⟨rfl, HBw.out.trans (HB9.out.mono HBw.out.size)⟩

end Go.Proofs.YtahmndacoanfiaaGreat
