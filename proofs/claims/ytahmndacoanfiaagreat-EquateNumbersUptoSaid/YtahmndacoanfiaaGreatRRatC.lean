/- The reference's fractions: what examboardref03's Of, Mul and Cmp return. Condition: the limbs can be read, and take at most 2^47 bytes. -/
import Derived.Test.YtahmndacoanfiaaGreatRRatB
import Derived.Test.YtahmndacoanfiaaGreatFloatB
namespace Go.Proofs.YtahmndacoanfiaaGreat
set_option maxRecDepth 100000
open Go.RowKit

set_option maxHeartbeats 1000000 in
theorem kof_any (n d : Int) (w : World) (h1 : -9223372036854775808 ≤ n) (h2 : n ≤ 9223372036854775807) (h3 : -9223372036854775808 ≤ d) (h4 : d ≤ 9223372036854775807) (hd0 : d ≠ 0) :
    Calls Tryz.prog 63 #[.int .i64 n, .int .i64 d] w fun e w' => ∃ v, e = .returned (.tuple #[v, .bool true]) ∧ RatN w.heap.size w' v (Rat.divInt n d) ∧ Rsz (Rat.divInt n d) 2 ∧ Below w.heap.size w w' := by
  have hb0 : Below w.heap.size w (w.alloc (.cells #[.bool false, .slice none 0 0, .slice none 0 0] 28)) := (Below.refl _ _).alloc (Nat.le_refl _) _
  have HL1 := Lib.hid (digs_i64 h1 h2)
  have HL2 := Lib.hid (digs_i64 h3 h4)
  go_enter Tryz.func63, Tryz.ntmps63
  go_wp2_with fail
  refine (jof_any n _ h1 h2).mono ?_
  rintro e w1 ⟨v1, rfl, hv1, hb1⟩
  have HV1 := Lib.hid (hv1.raw 2 HL1.out)
  have hb01 := hb0.trans (hb1.mono (by simp))
  obtain ⟨hc1, hf1⟩ := bcell hb1 w.heap.size (by simp)
  have HS1 := Lib.hid (show w.heap.size + 1 ≤ w1.heap.size by have := hb1.size; simp at this; omega)
  clear hv1 hb1
  go_wp2_with fail
  refine (jof_any d _ h3 h4).mono ?_
  rintro e w2 ⟨v2, rfl, hv2, hb2⟩
  have HV1' := Lib.hid (HV1.out.below hb2)
  have HV2 := Lib.hid (hv2.raw 2 HL2.out)
  have hb02 := hb01.trans (hb2.mono hb01.size)
  obtain ⟨hc2, hf2⟩ := bcell hb2 w.heap.size (by have := HS1.out; omega)
  have HS2 := Lib.hid (Nat.le_trans HS1.out hb2.size)
  clear hv2 hb2 hb01
  go_wp2_with fail
  refine (kmake_any v1 v2 n d 2 w2 HV1'.out HV2.out hd0 (by omega) (by omega)).mono ?_
  rintro e w3 ⟨v3, rfl, hv3, hsz3, hb3⟩
  obtain ⟨x', l', k', x, l, k, rfl, g1, g2, g3, g4⟩ := hv3
  have HSz := Lib.hid hsz3
  obtain ⟨hc3, hf3⟩ := bcell hb3 w.heap.size (by have := HS2.out; omega)
  have HB := Lib.hid (hb02.trans (hb3.mono hb02.size))
  have HFin := Lib.hid (rat_store (B := w2.heap.size) (B' := w.heap.size) (g := w.heap.size) (r := Rat.divInt n d) ⟨x', l', k', x, l, k, rfl, g1, g2, g3, g4⟩ (by have := HS2.out; omega) (by have := HS2.out; omega))
  clear g1 g2 g3 g4 hb3 hb02 hsz3
  generalize decide ((Rat.divInt n d).num < 0) = dn at *
  go_wp2_with fail
  exact bodyPost_ret (v := .tuple #[.agg #[.bool dn, .slice x' l' k', .slice x l k], .bool true]) (by simp [results, Tryz.results63, go_sem, hc3, hc2, hc1]) rfl ⟨_, rfl, HFin.out, HSz.out, ((HB.out.setCell (Nat.le_refl _) _).setCell (Nat.le_refl _) _).setCell (Nat.le_refl _) _⟩

theorem Num.rawN {w : World} {v : Value} {n L : Nat} (h : Num w v n) (hL : (digs n).length ≤ L) : NatRaw w v n L := by
  obtain ⟨a, len, cap, rfl, h⟩ := h
  exact ⟨a, len, cap, _, rfl, h, natOf_digs _, by rw [← h.1]; exact hL⟩
theorem rmul_raw (v u : Value) (m n L M : Nat) (w : World) (hv : NatRaw w v m L) (hu : NatRaw w u n M) (hm : (L + M) * 4 ≤ 281474976710656) :
    Calls Tryz.prog 69 #[v, u] w fun e w' => ∃ v, e = .returned v ∧ NatRaw w' v (m * n) (L + M) ∧ Below w.heap.size w w' := by
  obtain ⟨a, len, cap, ys, rfl, hy, rfl, hl⟩ := hv
  obtain ⟨a', len', cap', ys', rfl, hy', rfl, hl'⟩ := hu
  refine (rmul_any _ _ _ _ _ _ _ _ w hy hy' (by omega)).mono ?_
  rintro e w' ⟨v, rfl, h1, h2⟩
  have h3 := digs_mul_len (natOf ys) (natOf ys')
  have h4 := digs_length_of hy.2.1
  have h5 := digs_length_of hy'.2.1
  rw [hy.1] at h4
  rw [hy'.1] at h5
  exact ⟨v, rfl, h1.rawN (by omega), h2⟩
theorem ptN_len {p : Int} {q L : Nat} (h : (digs p.natAbs).length ≤ L) : (digs (ptN p q).natAbs).length ≤ L := by
  unfold ptN
  cases q == 0
  · exact h
  · simp [digs_zero]
theorem ptD_len {q L : Nat} (h : (digs q).length ≤ L) (hL : 1 ≤ L) : (digs (ptD q)).length ≤ L := by
  unfold ptD
  cases q == 0
  · exact h
  · exact Nat.le_trans (digs_length_le (k := 1) (by simp)) hL
theorem RatR.lens {w : World} {v : Value} {p : Int} {q L : Nat} (h : RatR w v p q L) : (digs p.natAbs).length ≤ L ∧ (digs q).length ≤ L := by
  obtain ⟨neg, a', len', cap', xs, a, len, cap, ys, rfl, hx, rfl, hlx, hy, rfl, hly⟩ := h
  refine ⟨?_, ?_⟩
  · rw [sgn_abs]; exact Nat.le_trans (digs_length_of hx.2.1) (by rw [hx.1]; exact hlx)
  · exact Nat.le_trans (digs_length_of hy.2.1) (by rw [hy.1]; exact hly)
theorem int_mul_len {y z : Int} {L M : Nat} (h1 : (digs y.natAbs).length ≤ L) (h2 : (digs z.natAbs).length ≤ M) : (digs (y * z).natAbs).length ≤ L + M := by
  rw [Int.natAbs_mul]
  have := digs_mul_len y.natAbs z.natAbs
  omega

set_option maxHeartbeats 2000000 in
theorem kmul_any (v u : Value) (r s : Rat) (L M : Nat) (w : World) (hv : RatV w v r L) (hu : RatV w u s M) (hL : 1 ≤ L) (hM : 1 ≤ M) (hm : (L + M) * 4 ≤ 140737488355328) :
    Calls Tryz.prog 38 #[v, u] w fun e w' => ∃ v, e = .returned v ∧ RatN w.heap.size w' v (r * s) ∧ Rsz (r * s) (L + M) ∧ Below w.heap.size w w' := by
  obtain ⟨p, q, hr, hpq⟩ := hv
  obtain ⟨p', q', hr', hpq'⟩ := hu
  have HR := Lib.hid hr
  have HR' := Lib.hid hr'
  have HRl := Lib.hid hr.lens
  have HRl' := Lib.hid hr'.lens
  have HS := Lib.hid (mk_mul (p := ptN p q) (s := ptN p' q') (q := ptD q) (t := ptD q'))
  rw [mk_pt, mk_pt, hpq, hpq'] at HS
  obtain ⟨neg, a', len', cap', xs, a, len, cap, ys, rfl, -, -, -, -, -, -⟩ := hr
  obtain ⟨neg', b', lem', cbp', xs', b, lem, cbp, ys', rfl, -, -, -, -, -, -⟩ := hr'
  have hb0 : Below w.heap.size w (((w.alloc (.cells #[.bool neg, .slice a' len' cap', .slice a len cap] 28)).alloc (.cells #[.bool neg', .slice b' lem' cbp', .slice b lem cbp] 28)).alloc (.cells #[.bool false, .slice none 0 0, .slice none 0 0] 28)) := ((((Below.refl _ _).alloc (Nat.le_refl _) _).alloc (by simp) _).alloc (by simp; omega) _)
  clear hpq hpq'
  go_enter Tryz.func38, Tryz.ntmps38
  go_wp2_with fail
  have g00 : (((w.alloc (.cells #[.bool neg, .slice a' len' cap', .slice a len cap] 28)).alloc (.cells #[.bool neg', .slice b' lem' cbp', .slice b lem cbp] 28)).alloc (.cells #[.bool false, .slice none 0 0, .slice none 0 0] 28)).cell? ⟨w.heap.size, 0, none⟩ = some (.bool neg) := by go_simp
  have g01 : (((w.alloc (.cells #[.bool neg, .slice a' len' cap', .slice a len cap] 28)).alloc (.cells #[.bool neg', .slice b' lem' cbp', .slice b lem cbp] 28)).alloc (.cells #[.bool false, .slice none 0 0, .slice none 0 0] 28)).cell? ⟨w.heap.size, 1, none⟩ = some (.slice a' len' cap') := by go_simp
  have g02 : (((w.alloc (.cells #[.bool neg, .slice a' len' cap', .slice a len cap] 28)).alloc (.cells #[.bool neg', .slice b' lem' cbp', .slice b lem cbp] 28)).alloc (.cells #[.bool false, .slice none 0 0, .slice none 0 0] 28)).cell? ⟨w.heap.size, 2, none⟩ = some (.slice a len cap) := by go_simp
  have g10 : (((w.alloc (.cells #[.bool neg, .slice a' len' cap', .slice a len cap] 28)).alloc (.cells #[.bool neg', .slice b' lem' cbp', .slice b lem cbp] 28)).alloc (.cells #[.bool false, .slice none 0 0, .slice none 0 0] 28)).cell? ⟨w.heap.size + 1, 0, none⟩ = some (.bool neg') := by go_simp
  have g11 : (((w.alloc (.cells #[.bool neg, .slice a' len' cap', .slice a len cap] 28)).alloc (.cells #[.bool neg', .slice b' lem' cbp', .slice b lem cbp] 28)).alloc (.cells #[.bool false, .slice none 0 0, .slice none 0 0] 28)).cell? ⟨w.heap.size + 1, 1, none⟩ = some (.slice b' lem' cbp') := by go_simp
  have g12 : (((w.alloc (.cells #[.bool neg, .slice a' len' cap', .slice a len cap] 28)).alloc (.cells #[.bool neg', .slice b' lem' cbp', .slice b lem cbp] 28)).alloc (.cells #[.bool false, .slice none 0 0, .slice none 0 0] 28)).cell? ⟨w.heap.size + 1, 2, none⟩ = some (.slice b lem cbp) := by go_simp
  have HR0 := Lib.hid (show (((w.alloc (.cells #[.bool neg, .slice a' len' cap', .slice a len cap] 28)).alloc (.cells #[.bool neg', .slice b' lem' cbp', .slice b lem cbp] 28)).alloc (.cells #[.bool false, .slice none 0 0, .slice none 0 0] 28)).cell? ⟨w.heap.size + 1 + 1, 0, none⟩ = some (.bool false) by go_simp)
  have HR1 := Lib.hid (show (((w.alloc (.cells #[.bool neg, .slice a' len' cap', .slice a len cap] 28)).alloc (.cells #[.bool neg', .slice b' lem' cbp', .slice b lem cbp] 28)).alloc (.cells #[.bool false, .slice none 0 0, .slice none 0 0] 28)).cell? ⟨w.heap.size + 1 + 1, 1, none⟩ = some (.slice none 0 0) by go_simp)
  have HR2 := Lib.hid (show (((w.alloc (.cells #[.bool neg, .slice a' len' cap', .slice a len cap] 28)).alloc (.cells #[.bool neg', .slice b' lem' cbp', .slice b lem cbp] 28)).alloc (.cells #[.bool false, .slice none 0 0, .slice none 0 0] 28)).cell? ⟨w.heap.size + 1 + 1, 2, none⟩ = some (.slice none 0 0) by go_simp)
  have HRf := Lib.hid (show ∀ o, (((w.alloc (.cells #[.bool neg, .slice a' len' cap', .slice a len cap] 28)).alloc (.cells #[.bool neg', .slice b' lem' cbp', .slice b lem cbp] 28)).alloc (.cells #[.bool false, .slice none 0 0, .slice none 0 0] 28)).frozen? ⟨w.heap.size + 1 + 1, o, none⟩ = false from fun o => by go_simp)
  have HSz := Lib.hid (show (((w.alloc (.cells #[.bool neg, .slice a' len' cap', .slice a len cap] 28)).alloc (.cells #[.bool neg', .slice b' lem' cbp', .slice b lem cbp] 28)).alloc (.cells #[.bool false, .slice none 0 0, .slice none 0 0] 28)).heap.size = w.heap.size + 3 by simp)
  generalize (((w.alloc (.cells #[.bool neg, .slice a' len' cap', .slice a len cap] 28)).alloc (.cells #[.bool neg', .slice b' lem' cbp', .slice b lem cbp] 28)).alloc (.cells #[.bool false, .slice none 0 0, .slice none 0 0] 28)) = w3 at *
  have e00 := box_ext (B := w.heap.size + 2) g00 (by omega)
  have e01 := box_ext (B := w.heap.size + 2) g01 (by omega)
  have e02 := box_ext (B := w.heap.size + 2) g02 (by omega)
  have e10 := box_ext (B := w.heap.size + 2) g10 (by omega)
  have e11 := box_ext (B := w.heap.size + 2) g11 (by omega)
  have e12 := box_ext (B := w.heap.size + 2) g12 (by omega)
  clear g00 g01 g02 g10 g11 g12
  refine wp_region_sched [(0, false), (2, false), (5, false), (7, false), (1, true), (3, true), (4, true), (6, true), (8, true), (9, true), (10, true), (11, true)] (fun w' => ∃ W : Ext (w.heap.size + 2) w3, w' = W.1) (by kernel_rfl) (by kernel_rfl) ⟨⟨w3.drew, (Below.refl _ _).drew⟩, rfl⟩ ?_
  repeat (refine wpSched_calm rfl (fun K hK => ?_); go_simp; refine hK _ ?_; clear hK K)
  clear e00 e01 e02 e10 e11 e12
  have HB3 := Lib.hid (show Below w3.heap.size w3 w3.drew from (Below.refl _ _).drew)
  have HBw := Lib.hid hb0
  clear hb0
  generalize w3.drew = wd at *
  refine wpSched_eff rfl rfl (fun K hK => ?_)
  go_simp
  refine (ktop_any _ p q L _ (HR.out.below (HBw.out.trans (HB3.out.mono HBw.out.size))) (by omega)).mono ?_
  rintro e w4 ⟨v4, rfl, hv4, hb4⟩
  have HB4 := Lib.hid (HB3.out.trans (hb4.mono HB3.out.size))
  have HV4 := Lib.hid (hv4.raw L (ptN_len HRl.out.1))
  clear hv4
  clear hb4
  refine hK _ _ ⟨⟨w4, HB4.out.mono (by have := HSz.out; omega)⟩, rfl⟩ ?_
  clear hK K
  refine wpSched_eff rfl rfl (fun K hK => ?_)
  go_simp
  refine (ktop_any _ p' q' M _ (HR'.out.below (HBw.out.trans (HB4.out.mono HBw.out.size))) (by omega)).mono ?_
  rintro e w5 ⟨v5, rfl, hv5, hb5⟩
  have HB5 := Lib.hid (HB4.out.trans (hb5.mono HB4.out.size))
  have HV5 := Lib.hid (hv5.raw M (ptN_len HRl'.out.1))
  have HV45 := Lib.hid (HV4.out.below hb5)
  clear hv5
  clear hb5
  refine hK _ _ ⟨⟨w5, HB5.out.mono (by have := HSz.out; omega)⟩, rfl⟩ ?_
  clear hK K
  refine wpSched_eff rfl rfl (fun K hK => ?_)
  go_simp
  refine (jmul_any v4 v5 _ _ L M w5 HV45.out HV5.out (by omega)).mono ?_
  rintro e w6 ⟨v6, rfl, hv6, hb6⟩
  have HB6 := Lib.hid (HB5.out.trans (hb6.mono HB5.out.size))
  have HV6 := Lib.hid (hv6.raw (L + M) (int_mul_len (ptN_len HRl.out.1) (ptN_len HRl'.out.1)))
  clear hv6
  clear hb6
  refine hK _ _ ⟨⟨w6, HB6.out.mono (by have := HSz.out; omega)⟩, rfl⟩ ?_
  clear hK K
  refine wpSched_eff rfl rfl (fun K hK => ?_)
  go_simp
  refine (klow_any _ p q L _ (HR.out.below (HBw.out.trans (HB6.out.mono HBw.out.size))) (by omega)).mono ?_
  rintro e w7 ⟨v7, rfl, hv7, hb7⟩
  have HB7 := Lib.hid (HB6.out.trans (hb7.mono HB6.out.size))
  have HV7 := Lib.hid (hv7.rawN (ptD_len HRl.out.2 hL))
  have HV67 := Lib.hid (HV6.out.below hb7)
  clear hv7
  clear hb7
  refine hK _ _ ⟨⟨w7, HB7.out.mono (by have := HSz.out; omega)⟩, rfl⟩ ?_
  clear hK K
  refine wpSched_eff rfl rfl (fun K hK => ?_)
  go_simp
  refine (klow_any _ p' q' M _ (HR'.out.below (HBw.out.trans (HB7.out.mono HBw.out.size))) (by omega)).mono ?_
  rintro e w8 ⟨v8, rfl, hv8, hb8⟩
  have HB8 := Lib.hid (HB7.out.trans (hb8.mono HB7.out.size))
  have HV8 := Lib.hid (hv8.rawN (ptD_len HRl'.out.2 hM))
  have HV78 := Lib.hid (HV7.out.below hb8)
  have HV68 := Lib.hid (HV67.out.below hb8)
  clear hv8
  clear hb8
  refine hK _ _ ⟨⟨w8, HB8.out.mono (by have := HSz.out; omega)⟩, rfl⟩ ?_
  clear hK K
  refine wpSched_eff rfl rfl (fun K hK => ?_)
  go_simp
  refine (rmul_raw v7 v8 _ _ L M w8 HV78.out HV8.out (by omega)).mono ?_
  rintro e w9 ⟨v9, rfl, hv9, hb9⟩
  have HB9 := Lib.hid (HB8.out.trans (hb9.mono HB8.out.size))
  have HV9 := Lib.hid hv9
  have HV69 := Lib.hid (HV68.out.below hb9)
  clear hv9
  clear hb9
  refine hK _ _ ⟨⟨w9, HB9.out.mono (by have := HSz.out; omega)⟩, rfl⟩ ?_
  clear hK K
  refine wpSched_eff rfl rfl (fun K hK => ?_)
  go_simp
  refine (kreduce_any v6 v9 _ _ (L + M) w9 HV69.out HV9.out (Nat.mul_ne_zero (ptD_ne q) (ptD_ne q')) (by omega) hm).mono ?_
  rintro e w10 ⟨v10, rfl, hv10, hsz10, hb10⟩
  rw [HS.out] at hv10 hsz10
  obtain ⟨x', l', k', x, l, k, rfl, h1, h2, h3, h4⟩ := hv10
  have HSzr := Lib.hid hsz10
  have hs9 : w.heap.size + 3 ≤ w9.heap.size := by have := HSz.out; have := HB9.out.size; omega
  have HFin := Lib.hid (rat_store (B := w9.heap.size) (B' := w.heap.size) (g := w.heap.size + 1 + 1) (r := r * s) ⟨x', l', k', x, l, k, rfl, h1, h2, h3, h4⟩ (by omega) (by omega))
  have hb13 := HB9.out.trans (hb10.mono HB9.out.size)
  obtain ⟨hc, hf⟩ := bcell hb13 (w.heap.size + 1 + 1) (by have := HSz.out; omega)
  have r0 : w10.cell? ⟨w.heap.size + 1 + 1, 0, none⟩ = some (.bool false) := by rw [hc]; exact HR0.out
  have r1 : w10.cell? ⟨w.heap.size + 1 + 1, 1, none⟩ = some (.slice none 0 0) := by rw [hc]; exact HR1.out
  have r2 : w10.cell? ⟨w.heap.size + 1 + 1, 2, none⟩ = some (.slice none 0 0) := by rw [hc]; exact HR2.out
  have f0 : w10.frozen? ⟨w.heap.size + 1 + 1, 0, none⟩ = false := by rw [hf]; exact HRf.out 0
  have f1 : w10.frozen? ⟨w.heap.size + 1 + 1, 1, none⟩ = false := by rw [hf]; exact HRf.out 1
  have f2 : w10.frozen? ⟨w.heap.size + 1 + 1, 2, none⟩ = false := by rw [hf]; exact HRf.out 2
  have HB := Lib.hid (HBw.out.trans (hb13.mono HBw.out.size))
  have HBx := Lib.hid (show Below (w.heap.size + 2) w3 w10 from hb13.mono (by have := HSz.out; omega))
  refine hK _ _ ⟨⟨w10, HBx.out⟩, rfl⟩ ?_
  clear hK K h1 h2 h3 h4 hb10 hc hf hb13 hsz10
  generalize decide ((r * s).num < 0) = dn at *
  refine wpSched_eff rfl rfl (fun K hK => ?_)
  go_simp
  refine hK _ _ ⟨⟨_, ((HBx.out.setCell (p := ⟨w.heap.size + 1 + 1, 0, none⟩) (by simp) _).setCell (p := ⟨w.heap.size + 1 + 1, 1, none⟩) (by simp) _).setCell (p := ⟨w.heap.size + 1 + 1, 2, none⟩) (by simp) _⟩, rfl⟩ ?_
  clear hK K
  refine wpSched_nil ?_
  go_wp2_with fail
  exact bodyPost_ret (v := .agg #[.bool dn, .slice x' l' k', .slice x l k]) (by simp [results, Tryz.results38, go_sem, r0, r1, r2]) rfl ⟨_, rfl, HFin.out, HSzr.out, ((HB.out.setCell (p := ⟨w.heap.size + 1 + 1, 0, none⟩) (by simp; omega) _).setCell (p := ⟨w.heap.size + 1 + 1, 1, none⟩) (by simp; omega) _).setCell (p := ⟨w.heap.size + 1 + 1, 2, none⟩) (by simp; omega) _⟩

theorem jmake_raw (v : Value) (q L : Nat) (w : World) (hv : NatRaw w v q L) (hm : L * 4 ≤ 281474976710656) :
    Calls Tryz.prog 66 #[.bool false, v] w fun e w' => ∃ v, e = .returned v ∧ IntR w' v (q : Int) L ∧ Below w.heap.size w w' := by
  obtain ⟨a, len, cap, ys, rfl, hy, rfl, hl⟩ := hv
  have h0 := digs_length_of hy.2.1
  rw [hy.1] at h0
  refine (jmake_any false ys a len cap w hy (by omega)).mono ?_
  rintro e w' ⟨v, rfl, h1, h2⟩
  exact ⟨v, rfl, h1.raw L (by rw [sgn_abs]; omega), h2⟩

set_option maxHeartbeats 2000000 in
theorem kcmp_any (v u : Value) (r s : Rat) (L M : Nat) (w : World) (hv : RatV w v r L) (hu : RatV w u s M) (hL : 1 ≤ L) (hM : 1 ≤ M) (hm : (L + M) * 4 ≤ 140737488355328) :
    Calls Tryz.prog 37 #[v, u] w fun e w' => e = .returned (.int .i64 (rcmpI r s)) ∧ Below w.heap.size w w' := by
  obtain ⟨p, q, hr, hpq⟩ := hv
  obtain ⟨p', q', hr', hpq'⟩ := hu
  have HR := Lib.hid hr
  have HR' := Lib.hid hr'
  have HRl := Lib.hid hr.lens
  have HRl' := Lib.hid hr'.lens
  have HS := Lib.hid (mk_cmp (p := ptN p q) (s := ptN p' q') (ptD_ne q) (ptD_ne q'))
  rw [mk_pt, mk_pt, hpq, hpq'] at HS
  obtain ⟨neg, a', len', cap', xs, a, len, cap, ys, rfl, -, -, -, -, -, -⟩ := hr
  obtain ⟨neg', b', lem', cbp', xs', b, lem, cbp, ys', rfl, -, -, -, -, -, -⟩ := hr'
  have hb0 : Below w.heap.size w ((w.alloc (.cells #[.bool neg, .slice a' len' cap', .slice a len cap] 28)).alloc (.cells #[.bool neg', .slice b' lem' cbp', .slice b lem cbp] 28)) := ((Below.refl _ _).alloc (Nat.le_refl _) _).alloc (by simp) _
  clear hpq hpq'
  go_enter Tryz.func37, Tryz.ntmps37
  go_wp2_with fail
  have g00 : ((w.alloc (.cells #[.bool neg, .slice a' len' cap', .slice a len cap] 28)).alloc (.cells #[.bool neg', .slice b' lem' cbp', .slice b lem cbp] 28)).cell? ⟨w.heap.size, 0, none⟩ = some (.bool neg) := by go_simp
  have g01 : ((w.alloc (.cells #[.bool neg, .slice a' len' cap', .slice a len cap] 28)).alloc (.cells #[.bool neg', .slice b' lem' cbp', .slice b lem cbp] 28)).cell? ⟨w.heap.size, 1, none⟩ = some (.slice a' len' cap') := by go_simp
  have g02 : ((w.alloc (.cells #[.bool neg, .slice a' len' cap', .slice a len cap] 28)).alloc (.cells #[.bool neg', .slice b' lem' cbp', .slice b lem cbp] 28)).cell? ⟨w.heap.size, 2, none⟩ = some (.slice a len cap) := by go_simp
  have g10 : ((w.alloc (.cells #[.bool neg, .slice a' len' cap', .slice a len cap] 28)).alloc (.cells #[.bool neg', .slice b' lem' cbp', .slice b lem cbp] 28)).cell? ⟨w.heap.size + 1, 0, none⟩ = some (.bool neg') := by go_simp
  have g11 : ((w.alloc (.cells #[.bool neg, .slice a' len' cap', .slice a len cap] 28)).alloc (.cells #[.bool neg', .slice b' lem' cbp', .slice b lem cbp] 28)).cell? ⟨w.heap.size + 1, 1, none⟩ = some (.slice b' lem' cbp') := by go_simp
  have g12 : ((w.alloc (.cells #[.bool neg, .slice a' len' cap', .slice a len cap] 28)).alloc (.cells #[.bool neg', .slice b' lem' cbp', .slice b lem cbp] 28)).cell? ⟨w.heap.size + 1, 2, none⟩ = some (.slice b lem cbp) := by go_simp
  have HSz := Lib.hid (show ((w.alloc (.cells #[.bool neg, .slice a' len' cap', .slice a len cap] 28)).alloc (.cells #[.bool neg', .slice b' lem' cbp', .slice b lem cbp] 28)).heap.size = w.heap.size + 2 by simp)
  generalize ((w.alloc (.cells #[.bool neg, .slice a' len' cap', .slice a len cap] 28)).alloc (.cells #[.bool neg', .slice b' lem' cbp', .slice b lem cbp] 28)) = w2 at *
  have e00 := box_ext (B := w2.heap.size) g00 (by have := HSz.out; omega)
  have e01 := box_ext (B := w2.heap.size) g01 (by have := HSz.out; omega)
  have e02 := box_ext (B := w2.heap.size) g02 (by have := HSz.out; omega)
  have e10 := box_ext (B := w2.heap.size) g10 (by have := HSz.out; omega)
  have e11 := box_ext (B := w2.heap.size) g11 (by have := HSz.out; omega)
  have e12 := box_ext (B := w2.heap.size) g12 (by have := HSz.out; omega)
  have HG00 := Lib.hid g00
  have HG01 := Lib.hid g01
  have HG02 := Lib.hid g02
  have HG10 := Lib.hid g10
  have HG11 := Lib.hid g11
  have HG12 := Lib.hid g12
  clear g00 g01 g02 g10 g11 g12
  have HBw := Lib.hid hb0
  clear hb0
  refine wp_region_float 6 [(0, false), (2, false), (1, true), (3, true), (4, true), (5, true)] [(7, true)] (fun w' => ∃ W : Ext w2.heap.size w2, w' = W.1) _ 5 (.cells #[.bool false, .slice none 0 0] 26) w2.heap.size (by kernel_rfl) rfl rfl rfl (fun a w => by simp [execOp, go_sem]) (fun w ⟨W, e⟩ => e ▸ W.2.size) (fun w ⟨W, e⟩ => ⟨⟨_, (e ▸ W.2).alloc (e ▸ W.2.size) _⟩, rfl⟩) (by kernel_rfl) ⟨⟨w2.drew, (Below.refl _ _).drew⟩, rfl⟩ ?_
  repeat (refine wpFl_calm rfl (fun K hK => ?_); go_simp; refine hK _ ?_; clear hK K)
  clear e00 e01 e02 e10 e11 e12
  have HBA2 := Lib.hid (show Below w2.heap.size w2 w2.drew from (Below.refl _ _).drew)
  generalize w2.drew = wA2 at *
  refine wpFl_eff rfl rfl (fun wA2' hC hgA2 K hK => ?_)
  obtain ⟨⟨wz, hEA2⟩, hwe⟩ := hC
  change wA2' = wz at hwe
  subst hwe
  go_simp
  refine (ktop_any _ p q L _ (HR.out.below (HBw.out.trans (hEA2.mono HBw.out.size))) (by omega)).mono ?_
  rintro e wA3 ⟨vA3, rfl, hvA3, hbA3⟩
  have hkA3 := hgA2.trans (hbA3.mono hgA2.size)
  have HBA3 := Lib.hid (hEA2.trans (hbA3.mono hEA2.size))
  have HVA3 := Lib.hid (hvA3.raw L (ptN_len HRl.out.1))
  clear hvA3
  refine hK _ _ ⟨⟨wA3, HBA3.out⟩, rfl⟩ hbA3 ?_
  clear hK K hbA3 hkA3 hgA2 hEA2
  refine wpFl_eff rfl rfl (fun wA3' hC hgA3 K hK => ?_)
  obtain ⟨⟨wz, hEA3⟩, hwe⟩ := hC
  change wA3' = wz at hwe
  subst hwe
  go_simp
  refine (klow_any _ p' q' M _ (HR'.out.below (HBw.out.trans (hEA3.mono HBw.out.size))) (by omega)).mono ?_
  rintro e wA4 ⟨vA4, rfl, hvA4, hbA4⟩
  have hkA4 := hgA3.trans (hbA4.mono hgA3.size)
  have HBA4 := Lib.hid (hEA3.trans (hbA4.mono hEA3.size))
  have HVA4 := Lib.hid (hvA4.rawN (ptD_len HRl'.out.2 hM))
  have HWA4 := Lib.hid (HVA3.out.below hkA4)
  clear hvA4
  refine hK _ _ ⟨⟨wA4, HBA4.out⟩, rfl⟩ hbA4 ?_
  clear hK K hbA4 hkA4 hgA3 hEA3
  refine wpFl_eff rfl rfl (fun wA4' hC hgA4 K hK => ?_)
  obtain ⟨⟨wz, hEA4⟩, hwe⟩ := hC
  change wA4' = wz at hwe
  subst hwe
  go_simp
  refine (jmake_raw vA4 _ M _ (HVA4.out.below hgA4) (by omega)).mono ?_
  rintro e wA5 ⟨vA5, rfl, hvA5, hbA5⟩
  have hkA5 := hgA4.trans (hbA5.mono hgA4.size)
  have HBA5 := Lib.hid (hEA4.trans (hbA5.mono hEA4.size))
  have HVA5 := Lib.hid hvA5
  have HWA5 := Lib.hid (HWA4.out.below hkA5)
  clear hvA5
  refine hK _ _ ⟨⟨wA5, HBA5.out⟩, rfl⟩ hbA5 ?_
  clear hK K hbA5 hkA5 hgA4 hEA4
  refine wpFl_eff rfl rfl (fun wA5' hC hgA5 K hK => ?_)
  obtain ⟨⟨wz, hEA5⟩, hwe⟩ := hC
  change wA5' = wz at hwe
  subst hwe
  go_simp
  refine (jmul_any vA3 vA5 _ _ L M _ (HWA5.out.below hgA5) (HVA5.out.below hgA5) (by omega)).mono ?_
  rintro e wA6 ⟨vA6, rfl, hvA6, hbA6⟩
  have hkA6 := hgA5.trans (hbA6.mono hgA5.size)
  have HBA6 := Lib.hid (hEA5.trans (hbA6.mono hEA5.size))
  have HVA6 := Lib.hid (hvA6.raw (L + M) (Nat.le_trans (int_mul_len (ptN_len HRl.out.1) (show (digs ((ptD q' : Nat) : Int).natAbs).length ≤ M by simpa using ptD_len HRl'.out.2 hM)) (by omega)))
  obtain ⟨aA6, nA6, cA6, rfl, -, -⟩ := hvA6
  refine hK _ _ ⟨⟨wA6, HBA6.out⟩, rfl⟩ hbA6 ?_
  clear hK K hbA6 hkA6 hgA5 hEA5
  generalize decide (ptN p q * ((ptD q' : Nat) : Int) < 0) = dA6 at *
  refine wpFl_nil fun gA wA7 hC hg hBgA hlgA => ?_
  obtain ⟨⟨wz, hEA7⟩, hwe⟩ := hC
  change wA7 = wz at hwe
  subst hwe
  have z0 := blk_cell hBgA 0
  have z1 := blk_cell hBgA 1
  have y0 := blk_free hBgA 0
  have y1 := blk_free hBgA 1
  simp at z0 z1
  refine wpSched_eff rfl rfl (fun K hK => ?_)
  go_simp
  refine hK _ _ ⟨⟨_, (hEA7.setCell (p := ⟨gA, 0, none⟩) hlgA _).setCell (p := ⟨gA, 1, none⟩) hlgA _⟩, rfl⟩ ?_
  clear hK K
  refine wpSched_nil ?_
  have HVA7 := Lib.hid ((HVA6.out.below hg).off hBgA zInt_no 0 (.bool dA6) 1 (.slice aA6 nA6 cA6))
  have i0A : ((wA7.setCell ⟨gA, 0, none⟩ (.bool dA6)).setCell ⟨gA, 1, none⟩ (.slice aA6 nA6 cA6)).cell? ⟨gA, 0, none⟩ = some (.bool dA6) := by go_simp
  have i1A : ((wA7.setCell ⟨gA, 0, none⟩ (.bool dA6)).setCell ⟨gA, 1, none⟩ (.slice aA6 nA6 cA6)).cell? ⟨gA, 1, none⟩ = some (.slice aA6 nA6 cA6) := by go_simp
  have hltA : gA < ((wA7.setCell ⟨gA, 0, none⟩ (.bool dA6)).setCell ⟨gA, 1, none⟩ (.slice aA6 nA6 cA6)).heap.size := by simpa using blk_lt hBgA
  have HBXA := Lib.hid ((hEA7.setCell (p := ⟨gA, 0, none⟩) hlgA (.bool dA6)).setCell (p := ⟨gA, 1, none⟩) hlgA (.slice aA6 nA6 cA6))
  clear z0 z1 y0 y1 hBgA hg hEA7
  go_wp2_with fail
  generalize ((wA7.setCell ⟨gA, 0, none⟩ (.bool dA6)).setCell ⟨gA, 1, none⟩ (.slice aA6 nA6 cA6)) = wXA at *
  have HBwX := Lib.hid (HBw.out.trans (HBXA.out.mono HBw.out.size))
  have e00 := box_ext (B := wXA.heap.size) (((bcell HBXA.out (w.heap.size) (by have := HSz.out; omega)).1 0).trans HG00.out) (by have := HSz.out; have := HBXA.out.size; omega)
  have e01 := box_ext (B := wXA.heap.size) (((bcell HBXA.out (w.heap.size) (by have := HSz.out; omega)).1 1).trans HG01.out) (by have := HSz.out; have := HBXA.out.size; omega)
  have e02 := box_ext (B := wXA.heap.size) (((bcell HBXA.out (w.heap.size) (by have := HSz.out; omega)).1 2).trans HG02.out) (by have := HSz.out; have := HBXA.out.size; omega)
  have e10 := box_ext (B := wXA.heap.size) (((bcell HBXA.out (w.heap.size + 1) (by have := HSz.out; omega)).1 0).trans HG10.out) (by have := HSz.out; have := HBXA.out.size; omega)
  have e11 := box_ext (B := wXA.heap.size) (((bcell HBXA.out (w.heap.size + 1) (by have := HSz.out; omega)).1 1).trans HG11.out) (by have := HSz.out; have := HBXA.out.size; omega)
  have e12 := box_ext (B := wXA.heap.size) (((bcell HBXA.out (w.heap.size + 1) (by have := HSz.out; omega)).1 2).trans HG12.out) (by have := HSz.out; have := HBXA.out.size; omega)
  refine wp_region_float 6 [(0, false), (2, false), (1, true), (3, true), (4, true), (5, true)] [(7, true)] (fun w' => ∃ W : Ext wXA.heap.size wXA, w' = W.1) _ 6 (.cells #[.bool false, .slice none 0 0] 26) wXA.heap.size (by kernel_rfl) rfl rfl rfl (fun a w => by simp [execOp, go_sem]) (fun w ⟨W, e⟩ => e ▸ W.2.size) (fun w ⟨W, e⟩ => ⟨⟨_, (e ▸ W.2).alloc (e ▸ W.2.size) _⟩, rfl⟩) (by kernel_rfl) ⟨⟨wXA.drew, (Below.refl _ _).drew⟩, rfl⟩ ?_
  repeat (refine wpFl_calm rfl (fun K hK => ?_); go_simp; refine hK _ ?_; clear hK K)
  clear e00 e01 e02 e10 e11 e12
  have HBC2 := Lib.hid (show Below wXA.heap.size wXA wXA.drew from (Below.refl _ _).drew)
  generalize wXA.drew = wC2 at *
  refine wpFl_eff rfl rfl (fun wC2' hC hgC2 K hK => ?_)
  obtain ⟨⟨wz, hEC2⟩, hwe⟩ := hC
  change wC2' = wz at hwe
  subst hwe
  go_simp
  refine (ktop_any _ p' q' M _ (HR'.out.below (HBwX.out.trans (hEC2.mono HBwX.out.size))) (by omega)).mono ?_
  rintro e wC3 ⟨vC3, rfl, hvC3, hbC3⟩
  have hkC3 := hgC2.trans (hbC3.mono hgC2.size)
  have HBC3 := Lib.hid (hEC2.trans (hbC3.mono hEC2.size))
  have HVC3 := Lib.hid (hvC3.raw M (ptN_len HRl'.out.1))
  clear hvC3
  refine hK _ _ ⟨⟨wC3, HBC3.out⟩, rfl⟩ hbC3 ?_
  clear hK K hbC3 hkC3 hgC2 hEC2
  refine wpFl_eff rfl rfl (fun wC3' hC hgC3 K hK => ?_)
  obtain ⟨⟨wz, hEC3⟩, hwe⟩ := hC
  change wC3' = wz at hwe
  subst hwe
  go_simp
  refine (klow_any _ p q L _ (HR.out.below (HBwX.out.trans (hEC3.mono HBwX.out.size))) (by omega)).mono ?_
  rintro e wC4 ⟨vC4, rfl, hvC4, hbC4⟩
  have hkC4 := hgC3.trans (hbC4.mono hgC3.size)
  have HBC4 := Lib.hid (hEC3.trans (hbC4.mono hEC3.size))
  have HVC4 := Lib.hid (hvC4.rawN (ptD_len HRl.out.2 hL))
  have HWC4 := Lib.hid (HVC3.out.below hkC4)
  clear hvC4
  refine hK _ _ ⟨⟨wC4, HBC4.out⟩, rfl⟩ hbC4 ?_
  clear hK K hbC4 hkC4 hgC3 hEC3
  refine wpFl_eff rfl rfl (fun wC4' hC hgC4 K hK => ?_)
  obtain ⟨⟨wz, hEC4⟩, hwe⟩ := hC
  change wC4' = wz at hwe
  subst hwe
  go_simp
  refine (jmake_raw vC4 _ L _ (HVC4.out.below hgC4) (by omega)).mono ?_
  rintro e wC5 ⟨vC5, rfl, hvC5, hbC5⟩
  have hkC5 := hgC4.trans (hbC5.mono hgC4.size)
  have HBC5 := Lib.hid (hEC4.trans (hbC5.mono hEC4.size))
  have HVC5 := Lib.hid hvC5
  have HWC5 := Lib.hid (HWC4.out.below hkC5)
  clear hvC5
  refine hK _ _ ⟨⟨wC5, HBC5.out⟩, rfl⟩ hbC5 ?_
  clear hK K hbC5 hkC5 hgC4 hEC4
  refine wpFl_eff rfl rfl (fun wC5' hC hgC5 K hK => ?_)
  obtain ⟨⟨wz, hEC5⟩, hwe⟩ := hC
  change wC5' = wz at hwe
  subst hwe
  go_simp
  refine (jmul_any vC3 vC5 _ _ M L _ (HWC5.out.below hgC5) (HVC5.out.below hgC5) (by omega)).mono ?_
  rintro e wC6 ⟨vC6, rfl, hvC6, hbC6⟩
  have hkC6 := hgC5.trans (hbC6.mono hgC5.size)
  have HBC6 := Lib.hid (hEC5.trans (hbC6.mono hEC5.size))
  have HVC6 := Lib.hid (hvC6.raw (L + M) (Nat.le_trans (int_mul_len (ptN_len HRl'.out.1) (show (digs ((ptD q : Nat) : Int).natAbs).length ≤ L by simpa using ptD_len HRl.out.2 hL)) (by omega)))
  obtain ⟨aC6, nC6, cC6, rfl, -, -⟩ := hvC6
  refine hK _ _ ⟨⟨wC6, HBC6.out⟩, rfl⟩ hbC6 ?_
  clear hK K hbC6 hkC6 hgC5 hEC5
  generalize decide (ptN p' q' * ((ptD q : Nat) : Int) < 0) = dC6 at *
  refine wpFl_nil fun gC wC7 hC hg hBgC hlgC => ?_
  obtain ⟨⟨wz, hEC7⟩, hwe⟩ := hC
  change wC7 = wz at hwe
  subst hwe
  have z0 := blk_cell hBgC 0
  have z1 := blk_cell hBgC 1
  have y0 := blk_free hBgC 0
  have y1 := blk_free hBgC 1
  simp at z0 z1
  refine wpSched_eff rfl rfl (fun K hK => ?_)
  go_simp
  refine hK _ _ ⟨⟨_, (hEC7.setCell (p := ⟨gC, 0, none⟩) hlgC _).setCell (p := ⟨gC, 1, none⟩) hlgC _⟩, rfl⟩ ?_
  clear hK K
  refine wpSched_nil ?_
  have HVC7 := Lib.hid ((HVC6.out.below hg).off hBgC zInt_no 0 (.bool dC6) 1 (.slice aC6 nC6 cC6))
  have i0C : ((wC7.setCell ⟨gC, 0, none⟩ (.bool dC6)).setCell ⟨gC, 1, none⟩ (.slice aC6 nC6 cC6)).cell? ⟨gC, 0, none⟩ = some (.bool dC6) := by go_simp
  have i1C : ((wC7.setCell ⟨gC, 0, none⟩ (.bool dC6)).setCell ⟨gC, 1, none⟩ (.slice aC6 nC6 cC6)).cell? ⟨gC, 1, none⟩ = some (.slice aC6 nC6 cC6) := by go_simp
  have hltC : gC < ((wC7.setCell ⟨gC, 0, none⟩ (.bool dC6)).setCell ⟨gC, 1, none⟩ (.slice aC6 nC6 cC6)).heap.size := by simpa using blk_lt hBgC
  have HBXC := Lib.hid ((hEC7.setCell (p := ⟨gC, 0, none⟩) hlgC (.bool dC6)).setCell (p := ⟨gC, 1, none⟩) hlgC (.slice aC6 nC6 cC6))
  have hcA := (bcell HBXC.out gA hltA).1
  have j0A := (hcA 0).trans i0A
  have j1A := (hcA 1).trans i1A
  clear z0 z1 y0 y1 hBgC hg hEC7 hcA
  go_wp2_with fail
  generalize ((wC7.setCell ⟨gC, 0, none⟩ (.bool dC6)).setCell ⟨gC, 1, none⟩ (.slice aC6 nC6 cC6)) = wXC at *
  have HVA8 := Lib.hid (HVA7.out.below HBXC.out)
  refine (jcmp_any _ _ _ _ (L + M) _ HVA8.out HVC7.out (by omega)).mono ?_
  rintro e wF ⟨rfl, hbF⟩
  rw [HS.out]
  have HBF := Lib.hid (HBXC.out.trans (hbF.mono HBXC.out.size))
  go_wp2_with fail
  go_ret
  exact ⟨rfl, HBwX.out.trans (HBF.out.mono HBwX.out.size)⟩

end Go.Proofs.YtahmndacoanfiaaGreat
