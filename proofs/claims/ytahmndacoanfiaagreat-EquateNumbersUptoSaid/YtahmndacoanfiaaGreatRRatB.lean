/- The reference's fractions: what examboardref03's reduce, Make, Of, Cmp and Mul return. Condition: the limbs can be read, and take at most 2^47 bytes. -/
import Derived.Test.YtahmndacoanfiaaGreatRRat
namespace Go.Proofs.YtahmndacoanfiaaGreat
set_option maxRecDepth 100000
open Go.RowKit

theorem mk_zero (q : Nat) : mkRat 0 q = 0 := by rw [Rat.mkRat_eq_div]; simp [Rat.div_def]

set_option maxHeartbeats 2000000 in
theorem kreduce_any (vi vd : Value) (p : Int) (q L : Nat) (w : World) (hi : IntR w vi p L) (hd : NatRaw w vd q L) (hq : q ≠ 0) (hL1 : 1 ≤ L) (hL : L * 4 ≤ 140737488355328) :
    Calls Tryz.prog 68 #[vi, vd] w fun e w' => ∃ v, e = .returned v ∧ RatN w.heap.size w' v (mkRat p q) ∧ Rsz (mkRat p q) L ∧ Below w.heap.size w w' := by
  have HI := Lib.hid hi
  obtain ⟨neg, a', len', cap', xs, rfl, hx, hp, hlx⟩ := hi
  obtain ⟨a, len, cap, ys, rfl, hy, hyq, hly⟩ := hd
  have hb0 : Below w.heap.size w ((w.alloc (.cells #[.bool neg, .slice a' len' cap'] 26)).alloc (.cells #[.bool false, .slice none 0 0, .slice none 0 0] 28)) := ((Below.refl _ _).alloc (Nat.le_refl _) _).alloc (by simp) _
  have HPl := Lib.hid (show (digs p.natAbs).length ≤ L by rw [← hp, sgn_abs]; exact Nat.le_trans (digs_length_of hx.2.1) (by rw [hx.1]; exact hlx))
  have HSz := Lib.hid (rsz_mk' p q L hq HPl.out (by rw [← hyq]; exact Nat.le_trans (digs_length_of hy.2.1) (by rw [hy.1]; exact hly)))
  have HNum := Lib.hid (mk_num (decide (p < 0)) p.natAbs q hq)
  have HDen := Lib.hid (mk_den (decide (p < 0)) p.natAbs q hq)
  rw [sgn_self] at HNum HDen
  have HG0 := Lib.hid (show Nat.gcd p.natAbs q ≠ 0 from fun h => hq (Nat.gcd_eq_zero_iff.1 h).2)
  have HY := Lib.hid (hy.below hb0)
  have HQ := Lib.hid hyq
  clear hx hy hp hyq hq
  go_enter Tryz.func68, Tryz.ntmps68
  go_wp2_with fail
  refine (jnorm_any _ p L _ (HI.out.below hb0) (by omega)).mono ?_
  rintro e w1 ⟨v1, rfl, hv1, hb1⟩
  obtain ⟨a1, n1, c1, rfl, hl1, -⟩ := hv1
  have hb01 := hb0.trans (hb1.mono (by simp; omega))
  obtain ⟨hd1, hg1⟩ := bcell hb1 (w.heap.size + 1) (by simp)
  have HS1 := Lib.hid (show w.heap.size + 2 ≤ w1.heap.size by have := hb1.size; simp at this; omega)
  generalize decide (p < 0) = ng at *
  have hb2 : Below w1.heap.size w1 (w1.alloc (.cells #[.bool ng, .slice a1 n1 c1] 26)) := (Below.refl _ _).alloc (Nat.le_refl _) _
  have hb02 := hb01.trans (hb2.mono hb01.size)
  have HM2 := Lib.hid (hl1.below hb2)
  have HY2 := Lib.hid ((HY.out.below hb1).below hb2)
  have hn1 : n1 ≤ L := by rw [← hl1.1]; exact HPl.out
  have hlt1 : w.heap.size + 1 < w1.heap.size := by have := HS1.out; omega
  clear hl1 hb1 hb2 hb01
  go_wp2_with fail
  refine (rbits_any _ _ _ _ _ HM2.out (by omega)).mono ?_
  rintro e w3 ⟨rfl, hb3⟩
  rw [natOf_digs]
  have hb03 := hb02.trans (hb3.mono hb02.size)
  have HM3 := Lib.hid (HM2.out.below hb3)
  have HY3 := Lib.hid (HY2.out.below hb3)
  have k0 : w3.cell? ⟨w1.heap.size, 0, none⟩ = some (.bool ng) := by rw [(bcell hb3 w1.heap.size (by simp)).1]; go_simp
  have k1 : w3.cell? ⟨w1.heap.size, 1, none⟩ = some (.slice a1 n1 c1) := by rw [(bcell hb3 w1.heap.size (by simp)).1]; go_simp
  have r0 : w3.cell? ⟨w.heap.size + 1, 0, none⟩ = some (.bool false) := by rw [(bcell hb3 (w.heap.size + 1) (by simp; omega)).1]; go_simp
  have r1 : w3.cell? ⟨w.heap.size + 1, 1, none⟩ = some (.slice none 0 0) := by rw [(bcell hb3 (w.heap.size + 1) (by simp; omega)).1]; go_simp
  have r2 : w3.cell? ⟨w.heap.size + 1, 2, none⟩ = some (.slice none 0 0) := by rw [(bcell hb3 (w.heap.size + 1) (by simp; omega)).1]; go_simp
  have f0 : w3.frozen? ⟨w.heap.size + 1, 0, none⟩ = false := by rw [(bcell hb3 (w.heap.size + 1) (by simp; omega)).2]; go_simp
  have f1 : w3.frozen? ⟨w.heap.size + 1, 1, none⟩ = false := by rw [(bcell hb3 (w.heap.size + 1) (by simp; omega)).2]; go_simp
  have f2 : w3.frozen? ⟨w.heap.size + 1, 2, none⟩ = false := by rw [(bcell hb3 (w.heap.size + 1) (by simp; omega)).2]; go_simp
  have hs3 : w1.heap.size + 1 ≤ w3.heap.size := by have := hb3.size; simp at this; omega
  clear hd1 hg1 hb3 hb02
  by_cases h0 : p.natAbs = 0
  · have hb' : ((blen p.natAbs : Int) == 0) = true := by rw [h0, blen_zero]; rfl
    have HR0 := Lib.hid (show mkRat p q = 0 by rw [show p = 0 by omega, mk_zero])
    clear h0
    generalize blen p.natAbs = bl at *
    go_wp2_with fail
    refine (kzero_any w3).mono ?_
    rintro e w4 ⟨v4, rfl, hv4, hb4⟩
    rw [← HR0.out] at hv4
    obtain ⟨x', l', k', x, l, k, rfl, q1, q2, q3, q4⟩ := hv4
    obtain ⟨hd4, hg4⟩ := bcell hb4 (w.heap.size + 1) (by omega)
    have HB := Lib.hid (hb03.trans (hb4.mono hb03.size))
    have HFin := Lib.hid (rat_store (B := w3.heap.size) (B' := w.heap.size) (g := w.heap.size + 1) (r := mkRat p q) ⟨x', l', k', x, l, k, rfl, q1, q2, q3, q4⟩ (by omega) (by omega))
    clear q1 q2 q3 q4 hb4 hb03
    generalize decide ((mkRat p q).num < 0) = dn at *
    go_wp2_with fail
    exact bodyPost_ret (v := .agg #[.bool dn, .slice x' l' k', .slice x l k]) (by simp [results, Tryz.results68, go_sem, hd4, r0, r1, r2]) rfl ⟨_, rfl, HFin.out, HSz.out, ((HB.out.setCell (p := ⟨w.heap.size + 1, 0, none⟩) (by simp) _).setCell (p := ⟨w.heap.size + 1, 1, none⟩) (by simp) _).setCell (p := ⟨w.heap.size + 1, 2, none⟩) (by simp) _⟩
  · have hb' : ((blen p.natAbs : Int) == 0) = false := by rw [beq_eq_false_iff_ne]; intro h; exact h0 (blen_eq_zero.1 (by omega))
    generalize blen p.natAbs = bl at *
    go_wp2_with fail
    refine (rgcd_any _ ys _ _ _ _ _ _ L _ HM3.out HY3.out hn1 hly hL).mono ?_
    rintro e w4 ⟨v4, rfl, ⟨a4, n4, c4, rfl, hv4⟩, hb4⟩
    rw [natOf_digs, HQ.out] at hv4
    have hgl : n4 ≤ L := by
      rw [← hv4.1]
      exact Nat.le_trans (digs_len_le' (Nat.gcd_le_left q (by omega))) HPl.out
    have hb04 := hb03.trans (hb4.mono hb03.size)
    have HM4 := Lib.hid (HM3.out.below hb4)
    have HY4 := Lib.hid (HY3.out.below hb4)
    have HV4 := Lib.hid hv4
    obtain ⟨m4, m4'⟩ := bcell hb4 w1.heap.size (by omega)
    obtain ⟨o4, o4'⟩ := bcell hb4 (w.heap.size + 1) (by omega)
    have hs4 := Nat.le_trans hs3 hb4.size
    clear hv4 hb4 hb03
    go_wp2_with fail
    refine (rdivmod_new _ _ _ _ _ _ _ _ w4 HM4.out HV4.out (by rw [natOf_digs]; exact HG0.out) (by omega) (by omega)).mono ?_
    rintro e w5 ⟨v5, u5, rfl, hv5, hu5, hb5⟩
    rw [natOf_digs, natOf_digs] at hv5
    have hb05 := hb04.trans (hb5.mono hb04.size)
    have HY5 := Lib.hid (HY4.out.below hb5)
    have HV5 := Lib.hid (HV4.out.below hb5)
    have HQm := Lib.hid hv5.1
    obtain ⟨m5, m5'⟩ := bcell hb5 w1.heap.size (by omega)
    obtain ⟨o5, o5'⟩ := bcell hb5 (w.heap.size + 1) (by omega)
    have hs5 := Nat.le_trans hs4 hb5.size
    clear hv5 hu5 hb5 hb04
    go_wp2_with fail
    refine (rdivmod_new ys _ _ _ _ _ _ _ w5 HY5.out HV5.out (by rw [natOf_digs]; exact HG0.out) (by omega) (by omega)).mono ?_
    rintro e w6 ⟨v6, u6, rfl, hv6, hu6, hb6⟩
    rw [natOf_digs, HQ.out] at hv6
    have hb06 := hb05.trans (hb6.mono hb05.size)
    have HQm6 := Lib.hid (HQm.out.below hb6)
    obtain ⟨⟨a6, n6, c6, rfl, hl6⟩, hn6⟩ := hv6
    have HL6 := Lib.hid hl6
    have HN6 := Lib.hid (hn6.mono (Nat.le_trans (show w.heap.size + 2 ≤ w1.heap.size + 1 by omega) hs5))
    obtain ⟨m6, m6'⟩ := bcell hb6 w1.heap.size (by omega)
    obtain ⟨o6, o6'⟩ := bcell hb6 (w.heap.size + 1) (by omega)
    have hs6 := Nat.le_trans hs5 hb6.size
    clear hl6 hn6 hu6 hb6 hb05
    go_wp2_with fail
    refine (jmake_num ng v5 _ w6 HQm6.out (by
      have h1 := digs_len_le' (Nat.div_le_self p.natAbs (Nat.gcd p.natAbs q))
      have h2 := HPl.out
      omega)).mono ?_
    rintro e w7 ⟨v7, rfl, hv7, hb7⟩
    rw [← HNum.out] at hv7
    obtain ⟨a7, n7, c7, rfl, hl7, hn7⟩ := hv7
    obtain ⟨o7, o7'⟩ := bcell hb7 (w.heap.size + 1) (by omega)
    have HB := Lib.hid (hb06.trans (hb7.mono hb06.size))
    have HFin := Lib.hid (rat_store (B := w.heap.size + 2) (B' := w.heap.size) (g := w.heap.size + 1) (r := mkRat p q) ⟨a7, n7, c7, a6, n6, c6, rfl, hl7, hn7.mono (by omega), by rw [HDen.out]; exact HL6.out.below hb7, HN6.out⟩ (by omega) (by omega))
    clear hl7 hn7 hb7 hb06
    generalize decide ((mkRat p q).num < 0) = dn at *
    go_wp2_with fail
    exact bodyPost_ret (v := .agg #[.bool dn, .slice a7 n7 c7, .slice a6 n6 c6]) (by simp [results, Tryz.results68, go_sem, o7, o6, o5, o4, r0, r1, r2]) rfl ⟨_, rfl, HFin.out, HSz.out, ((HB.out.setCell (p := ⟨w.heap.size + 1, 0, none⟩) (by simp) _).setCell (p := ⟨w.heap.size + 1, 1, none⟩) (by simp) _).setCell (p := ⟨w.heap.size + 1, 2, none⟩) (by simp) _⟩

theorem divInt_abs (p q : Int) : Rat.divInt p q = mkRat (if q < 0 then -p else p) q.natAbs := by
  have h := divInt_sgn (decide (p < 0)) (decide (q < 0)) p.natAbs q.natAbs
  rw [sgn_self, sgn_self] at h
  rw [h]
  congr 1
  by_cases h1 : p < 0 <;> by_cases h2 : q < 0 <;> simp [sgn, h1, h2] <;> omega

set_option maxHeartbeats 2000000 in
theorem kmake_any (vi vj : Value) (p q : Int) (L : Nat) (w : World) (hi : IntR w vi p L) (hj : IntR w vj q L) (hq0 : q ≠ 0) (hL1 : 1 ≤ L) (hL : L * 4 ≤ 140737488355328) :
    Calls Tryz.prog 90 #[vi, vj] w fun e w' => ∃ v, e = .returned (.tuple #[v, .bool true]) ∧ RatN w.heap.size w' v (Rat.divInt p q) ∧ Rsz (Rat.divInt p q) L ∧ Below w.heap.size w w' := by
  have HI := Lib.hid hi
  have HJ := Lib.hid hj
  obtain ⟨neg, a, len, cap, xs, rfl, hx, hp, hlx⟩ := hi
  obtain ⟨neg', a', len', cap', ys, rfl, hy, hq, hly⟩ := hj
  have hb0 : Below w.heap.size w (((w.alloc (.cells #[.bool neg, .slice a len cap] 26)).alloc (.cells #[.bool neg', .slice a' len' cap'] 26)).alloc (.cells #[.bool false, .slice none 0 0, .slice none 0 0] 28)) := ((((Below.refl _ _).alloc (Nat.le_refl _) _).alloc (by simp) _).alloc (by simp; omega) _)
  have HDv := Lib.hid (divInt_abs p q)
  have HQ0 := Lib.hid (show q.natAbs ≠ 0 by omega)
  have HPl := Lib.hid (show (digs p.natAbs).length ≤ L by rw [← hp, sgn_abs]; exact Nat.le_trans (digs_length_of hx.2.1) (by rw [hx.1]; exact hlx))
  have HQl := Lib.hid (show (digs q.natAbs).length ≤ L by rw [← hq, sgn_abs]; exact Nat.le_trans (digs_length_of hy.2.1) (by rw [hy.1]; exact hly))
  clear hx hy hp hq hq0
  go_enter Tryz.func90, Tryz.ntmps90
  go_wp2_with fail
  refine (jnorm_any _ q L _ (HJ.out.below hb0) (by omega)).mono ?_
  rintro e w1 ⟨v1, rfl, hv1, hb1⟩
  obtain ⟨a1, n1, c1, rfl, hl1, -⟩ := hv1
  have hb01 := hb0.trans (hb1.mono (by simp; omega))
  obtain ⟨hc1, hf1⟩ := bcell hb1 w.heap.size (by simp; omega)
  obtain ⟨hd1, hg1⟩ := bcell hb1 (w.heap.size + 1 + 1) (by simp)
  have HS1 := Lib.hid (show w.heap.size + 3 ≤ w1.heap.size by have := hb1.size; simp at this; omega)
  have HQn := Lib.hid (show decide (q < 0) = decide (q < 0) from rfl)
  generalize hng : decide (q < 0) = ng at *
  have HNg := Lib.hid hng
  clear hng HQn
  have hb2 : Below w1.heap.size w1 (w1.alloc (.cells #[.bool ng, .slice a1 n1 c1] 26)) := (Below.refl _ _).alloc (Nat.le_refl _) _
  have hb02 := hb01.trans (hb2.mono hb01.size)
  have HM2 := Lib.hid (hl1.below hb2)
  have hn1 : n1 ≤ L := by rw [← hl1.1]; exact HQl.out
  have hlt1 : w.heap.size + 1 + 1 < w1.heap.size := by have := HS1.out; omega
  have hlt0 : w.heap.size < w1.heap.size := by omega
  clear hl1 hb1 hb2 hb01
  go_wp2_with fail
  refine (rbits_any _ _ _ _ _ HM2.out (by omega)).mono ?_
  rintro e w3 ⟨rfl, hb3⟩
  rw [natOf_digs]
  have hb03 := hb02.trans (hb3.mono hb02.size)
  have HM3 := Lib.hid (HM2.out.below hb3)
  have k0 : w3.cell? ⟨w1.heap.size, 0, none⟩ = some (.bool ng) := by rw [(bcell hb3 w1.heap.size (by simp)).1]; go_simp
  have k1 : w3.cell? ⟨w1.heap.size, 1, none⟩ = some (.slice a1 n1 c1) := by rw [(bcell hb3 w1.heap.size (by simp)).1]; go_simp
  have x0 : w3.cell? ⟨w.heap.size, 0, none⟩ = some (.bool neg) := by rw [(bcell hb3 w.heap.size (by simp; omega)).1]; go_simp
  have x1 : w3.cell? ⟨w.heap.size, 1, none⟩ = some (.slice a len cap) := by rw [(bcell hb3 w.heap.size (by simp; omega)).1]; go_simp
  have r0 : w3.cell? ⟨w.heap.size + 1 + 1, 0, none⟩ = some (.bool false) := by rw [(bcell hb3 (w.heap.size + 1 + 1) (by simp; omega)).1]; go_simp
  have r1 : w3.cell? ⟨w.heap.size + 1 + 1, 1, none⟩ = some (.slice none 0 0) := by rw [(bcell hb3 (w.heap.size + 1 + 1) (by simp; omega)).1]; go_simp
  have r2 : w3.cell? ⟨w.heap.size + 1 + 1, 2, none⟩ = some (.slice none 0 0) := by rw [(bcell hb3 (w.heap.size + 1 + 1) (by simp; omega)).1]; go_simp
  have f0 : w3.frozen? ⟨w.heap.size + 1 + 1, 0, none⟩ = false := by rw [(bcell hb3 (w.heap.size + 1 + 1) (by simp; omega)).2]; go_simp
  have f1 : w3.frozen? ⟨w.heap.size + 1 + 1, 1, none⟩ = false := by rw [(bcell hb3 (w.heap.size + 1 + 1) (by simp; omega)).2]; go_simp
  have f2 : w3.frozen? ⟨w.heap.size + 1 + 1, 2, none⟩ = false := by rw [(bcell hb3 (w.heap.size + 1 + 1) (by simp; omega)).2]; go_simp
  have hs3 : w1.heap.size + 1 ≤ w3.heap.size := by have := hb3.size; simp at this; omega
  clear hd1 hg1 hc1 hf1 hb3 hb02
  have hbl : ((blen q.natAbs : Int) == 0) = false := by rw [beq_eq_false_iff_ne]; intro h; exact HQ0.out (blen_eq_zero.1 (by omega))
  generalize blen q.natAbs = bl at *
  go_wp2_with fail
  refine (jnorm_any _ p L _ (HI.out.below hb03) (by omega)).mono ?_
  rintro e w4 ⟨v4, rfl, hv4, hb4⟩
  have HV4 := Lib.hid (hv4.raw L HPl.out)
  obtain ⟨a4, n4, c4, rfl, hl4, -⟩ := hv4
  have hb04 := hb03.trans (hb4.mono hb03.size)
  have HM4 := Lib.hid (HM3.out.below hb4)
  obtain ⟨m4, m4'⟩ := bcell hb4 w1.heap.size (by omega)
  obtain ⟨o4, o4'⟩ := bcell hb4 (w.heap.size + 1 + 1) (by omega)
  have hs4 := Nat.le_trans hs3 hb4.size
  generalize decide (p < 0) = pg at *
  have hb5 : Below w4.heap.size w4 (w4.alloc (.cells #[.bool pg, .slice a4 n4 c4] 26)) := (Below.refl _ _).alloc (Nat.le_refl _) _
  have hb05 := hb04.trans (hb5.mono hb04.size)
  have HM5 := Lib.hid (HM4.out.below hb5)
  have HV5 := Lib.hid (HV4.out.below hb5)
  have hlt4 : w1.heap.size < w4.heap.size := by omega
  have hlt4' : w.heap.size + 1 + 1 < w4.heap.size := by omega
  clear hl4 hb4 hb5 hb03 hb04
  cases ng
  case false =>
    rw [if_neg (by simpa using HNg.out)] at HDv
    go_wp2_with fail
    refine (kreduce_any _ _ p q.natAbs L _ HV5.out ⟨_, _, _, _, rfl, HM5.out, natOf_digs _, hn1⟩ HQ0.out hL1 hL).mono ?_
    rintro e w6 ⟨v6, rfl, hv6, hsz6, hb6⟩
    rw [← HDv.out] at hv6 hsz6
    obtain ⟨x', l', k', x, l, k, rfl, q1, q2, q3, q4⟩ := hv6
    have HSz := Lib.hid hsz6
    have q0 : w6.cell? ⟨w.heap.size + 1 + 1, 0, none⟩ = some (.bool false) := by rw [(bcell hb6 (w.heap.size + 1 + 1) (by simp; omega)).1]; go_simp
    have q1' : w6.cell? ⟨w.heap.size + 1 + 1, 1, none⟩ = some (.slice none 0 0) := by rw [(bcell hb6 (w.heap.size + 1 + 1) (by simp; omega)).1]; go_simp
    have q2' : w6.cell? ⟨w.heap.size + 1 + 1, 2, none⟩ = some (.slice none 0 0) := by rw [(bcell hb6 (w.heap.size + 1 + 1) (by simp; omega)).1]; go_simp
    have g0 : w6.frozen? ⟨w.heap.size + 1 + 1, 0, none⟩ = false := by rw [(bcell hb6 (w.heap.size + 1 + 1) (by simp; omega)).2]; go_simp
    have g1 : w6.frozen? ⟨w.heap.size + 1 + 1, 1, none⟩ = false := by rw [(bcell hb6 (w.heap.size + 1 + 1) (by simp; omega)).2]; go_simp
    have g2 : w6.frozen? ⟨w.heap.size + 1 + 1, 2, none⟩ = false := by rw [(bcell hb6 (w.heap.size + 1 + 1) (by simp; omega)).2]; go_simp
    have HB := Lib.hid (hb05.trans (hb6.mono hb05.size))
    have HFin := Lib.hid (rat_store (B' := w.heap.size) (g := w.heap.size + 1 + 1) (r := Rat.divInt p q) ⟨x', l', k', x, l, k, rfl, q1, q2, q3, q4⟩ (by simp; omega) (by simp; omega))
    clear q1 q2 q3 q4 hb6 hb05 hsz6
    generalize decide ((Rat.divInt p q).num < 0) = dn at *
    go_wp2_with fail
    exact bodyPost_ret (v := .tuple #[.agg #[.bool dn, .slice x' l' k', .slice x l k], .bool true]) (by simp [results, Tryz.results90, go_sem, q0, q1', q2']) rfl ⟨_, rfl, HFin.out, HSz.out, ((HB.out.setCell (p := ⟨w.heap.size + 1 + 1, 0, none⟩) (by simp; omega) _).setCell (p := ⟨w.heap.size + 1 + 1, 1, none⟩) (by simp; omega) _).setCell (p := ⟨w.heap.size + 1 + 1, 2, none⟩) (by simp; omega) _⟩
  case true =>
    rw [if_pos (by simpa using HNg.out)] at HDv
    go_wp2_with fail
    refine (jneg_any _ p L _ HV5.out (by omega)).mono ?_
    rintro e w6 ⟨v6, rfl, hv6, hb6⟩
    obtain ⟨a6, n6, c6, rfl, hl6, hn6⟩ := hv6
    have hs6 : w4.heap.size + 1 ≤ w6.heap.size := by have := hb6.size; simp at this; omega
    have t0 : w6.cell? ⟨w4.heap.size, 0, none⟩ = some (.bool pg) := by rw [(bcell hb6 w4.heap.size (by simp)).1]; go_simp
    have t1 : w6.cell? ⟨w4.heap.size, 1, none⟩ = some (.slice a4 n4 c4) := by rw [(bcell hb6 w4.heap.size (by simp)).1]; go_simp
    have u0 : w6.frozen? ⟨w4.heap.size, 0, none⟩ = false := by rw [(bcell hb6 w4.heap.size (by simp)).2]; go_simp
    have u1 : w6.frozen? ⟨w4.heap.size, 1, none⟩ = false := by rw [(bcell hb6 w4.heap.size (by simp)).2]; go_simp
    have y0 : w6.cell? ⟨w1.heap.size, 0, none⟩ = some (.bool true) := by rw [(bcell hb6 w1.heap.size (by simp; omega)).1]; go_simp
    have y1 : w6.cell? ⟨w1.heap.size, 1, none⟩ = some (.slice a1 n1 c1) := by rw [(bcell hb6 w1.heap.size (by simp; omega)).1]; go_simp
    have q0 : w6.cell? ⟨w.heap.size + 1 + 1, 0, none⟩ = some (.bool false) := by rw [(bcell hb6 (w.heap.size + 1 + 1) (by simp; omega)).1]; go_simp
    have q1 : w6.cell? ⟨w.heap.size + 1 + 1, 1, none⟩ = some (.slice none 0 0) := by rw [(bcell hb6 (w.heap.size + 1 + 1) (by simp; omega)).1]; go_simp
    have q2 : w6.cell? ⟨w.heap.size + 1 + 1, 2, none⟩ = some (.slice none 0 0) := by rw [(bcell hb6 (w.heap.size + 1 + 1) (by simp; omega)).1]; go_simp
    have g0 : w6.frozen? ⟨w.heap.size + 1 + 1, 0, none⟩ = false := by rw [(bcell hb6 (w.heap.size + 1 + 1) (by simp; omega)).2]; go_simp
    have g1 : w6.frozen? ⟨w.heap.size + 1 + 1, 1, none⟩ = false := by rw [(bcell hb6 (w.heap.size + 1 + 1) (by simp; omega)).2]; go_simp
    have g2 : w6.frozen? ⟨w.heap.size + 1 + 1, 2, none⟩ = false := by rw [(bcell hb6 (w.heap.size + 1 + 1) (by simp; omega)).2]; go_simp
    clear m4 m4' o4 o4' k0 k1 r0 r1 r2 f0 f1 f2 x0 x1
    have hb06 := hb05.trans (hb6.mono hb05.size)
    have HOm := Lib.hid (HM4.out.offOld (g := w4.heap.size) (Nat.le_refl _))
    have HM6 := Lib.hid (((HM5.out.below hb6).off HOm.out 0 (.bool (decide (-p < 0)))).off HOm.out 1 (.slice a6 n6 c6))
    have HF6 := Lib.hid ((int_store (B' := w4.heap.size) (g := w4.heap.size) ⟨a6, n6, c6, rfl, hl6, hn6⟩ (by simp) (by simp)).raw L (by rw [Int.natAbs_neg]; exact HPl.out))
    have HB6 := Lib.hid ((hb06.setCell (p := ⟨w4.heap.size, 0, none⟩) (by simp; omega) (.bool (decide (-p < 0)))).setCell (p := ⟨w4.heap.size, 1, none⟩) (by simp; omega) (.slice a6 n6 c6))
    clear hl6 hn6 hb6 hb05 hb06
    generalize decide (-p < 0) = mg at *
    have hne1 : w1.heap.size ≠ w4.heap.size := by omega
    have hne2 : w.heap.size + 1 + 1 ≠ w4.heap.size := by omega
    go_wp2_with fail
    refine (kreduce_any _ _ (-p) q.natAbs L _ HF6.out ⟨_, _, _, _, rfl, HM6.out, natOf_digs _, hn1⟩ HQ0.out hL1 hL).mono ?_
    rintro e w7 ⟨v7, rfl, hv7, hsz7, hb7⟩
    rw [← HDv.out] at hv7 hsz7
    obtain ⟨x', l', k', x, l, k, rfl, s1, s2, s3, s4⟩ := hv7
    have HSz := Lib.hid hsz7
    obtain ⟨o7, o7'⟩ := bcell hb7 (w.heap.size + 1 + 1) (by simp; omega)
    have HB := Lib.hid (HB6.out.trans (hb7.mono HB6.out.size))
    have HFin := Lib.hid (rat_store (B' := w.heap.size) (g := w.heap.size + 1 + 1) (r := Rat.divInt p q) ⟨x', l', k', x, l, k, rfl, s1, s2, s3, s4⟩ (by simp; omega) (by simp; omega))
    clear s1 s2 s3 s4 hb7 hsz7
    generalize decide ((Rat.divInt p q).num < 0) = dn at *
    go_wp2_with fail
    exact bodyPost_ret (v := .tuple #[.agg #[.bool dn, .slice x' l' k', .slice x l k], .bool true]) (by simp [results, Tryz.results90, go_sem, o7, q0, q1, q2]) rfl ⟨_, rfl, HFin.out, HSz.out, ((HB.out.setCell (p := ⟨w.heap.size + 1 + 1, 0, none⟩) (by simp; omega) _).setCell (p := ⟨w.heap.size + 1 + 1, 1, none⟩) (by simp; omega) _).setCell (p := ⟨w.heap.size + 1 + 1, 2, none⟩) (by simp; omega) _⟩

end Go.Proofs.YtahmndacoanfiaaGreat
