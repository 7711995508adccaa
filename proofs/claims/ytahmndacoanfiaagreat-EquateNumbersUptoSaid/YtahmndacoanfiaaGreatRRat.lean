/- The reference's fractions: what examboardref01.Gcd and examboardref03's zero, top, low and reduce return. Condition: the limbs can be read, and take at most 2^47 bytes. -/
import Derived.Test.YtahmndacoanfiaaGreatRInt
import Derived.Test.YtahmndacoanfiaaGreatRatC
namespace Go.Proofs.YtahmndacoanfiaaGreat
set_option maxRecDepth 100000
open Go.RowKit

set_option maxHeartbeats 1000000 in
theorem rgcd_any (xs ys : List Nat) (a a' : Option Addr) (len cap len' cap' k : Nat) (w : World) (hx : Limbs w a len cap xs) (hy : Limbs w a' len' cap' ys) (hk1 : len ≤ k) (hk2 : len' ≤ k) (hbn : k * 4 ≤ 140737488355328) :
    Calls Tryz.prog 94 #[.slice a len cap, .slice a' len' cap'] w fun e w' => ∃ v, e = .returned v ∧ Num w' v (Nat.gcd (natOf xs) (natOf ys)) ∧ Below w.heap.size w w' := by
  have HX := Lib.hid hx
  have HY := Lib.hid hy
  have HP := Lib.hid (lim_lt_max hx.2.1 hx.1 hk1)
  have HQ := Lib.hid (lim_lt_max hy.2.1 hy.1 hk2)
  clear hx hy
  generalize hX : natOf xs = X at *
  generalize hY : natOf ys = Y at *
  go_enter Tryz.func94, Tryz.ntmps94
  go_wp2_with fail
  refine (rnorm_any xs a len cap _ HX.out (by omega)).mono ?_
  rintro e w1 ⟨v1, rfl, hv1, hb1⟩
  have HY1 := Lib.hid (HY.out.below hb1)
  rw [hX] at hv1
  have HV1 := Lib.hid hv1
  clear hv1
  go_wp2_with fail
  refine (rnorm_any ys a' len' cap' _ HY1.out (by omega)).mono ?_
  rintro e w2 ⟨v2, rfl, hv2, hb2⟩
  rw [hY] at hv2
  have HV1' := Lib.hid (HV1.out.below hb2)
  have HV2 := Lib.hid hv2
  clear hv2 HV1 HY1 HX HY
  go_wp2_with fail
  go_loopw [0, 1] (fun x y wr => ∃ p q : Nat, Hid (p < 4294967296 ^ k) ∧ Hid (q < 4294967296 ^ k) ∧ Hid (Num wr x p) ∧ Hid (Num wr y q) ∧ Hid (Nat.gcd p q = Nat.gcd X Y) ∧ Below w.heap.size w wr) (fun _ y wr => numOf wr y)
  case atStart => exact ⟨X, Y, HP, HQ, HV1', HV2, rfl, hb1.trans (hb2.mono hb1.size)⟩
  case round =>
    obtain ⟨p, q, Hp, Hq, HVx, HVy, HG, hb⟩ := hrel
    have HMe := Lib.hid (numOf_eq HVy.out)
    obtain ⟨ax, lx, cx, rfl, hLx⟩ := HVx.out
    obtain ⟨ay, ly, cy, rfl, hLy⟩ := HVy.out
    have hlx := gcd_len hLx Hp.out
    have hly := gcd_len hLy Hq.out
    by_cases h0 : ly = 0
    · have hq : q = 0 := digs_len_zero.1 (by rw [hLy.1]; exact h0)
      have HEnd := Lib.hid (show Num wr (.slice ax lx cx) (Nat.gcd X Y) by rw [← HG.out, hq, Nat.gcd_zero_right]; exact HVx.out)
      clear hLx hLy hq
      subst h0
      go_wp2_with fail
      go_ret
      exact ⟨_, rfl, HEnd.out, hb⟩
    · have hq : q ≠ 0 := fun h => h0 (by rw [← hLy.1]; exact digs_len_zero.2 h)
      have HDM := Lib.hid (rdivmod_any _ _ _ _ _ _ _ _ wr hLx hLy (by rw [natOf_digs]; exact hq) (by omega) (by omega))
      rw [natOf_digs, natOf_digs] at HDM
      have hl0 : 0 < ly := by omega
      have hml := Nat.mod_lt p (show 0 < q by omega)
      have HG' := Lib.hid (show Nat.gcd q (p % q) = Nat.gcd X Y by rw [← HG.out, Nat.gcd_comm p q, Nat.gcd_comm q (p % q), ← Nat.gcd_rec])
      have Hr := Lib.hid (Nat.lt_trans hml Hq.out)
      have HMl := Lib.hid hml
      clear hLx hLy h0 hml
      go_wp2_with fail
      refine HDM.out.mono ?_
      rintro e w3 ⟨v, u, rfl, hv, hu, hb3⟩
      have HU := Lib.hid hu
      have HVy' := Lib.hid (HVy.out.below hb3)
      clear hv hu
      go_wp2_with fail
      go_roundw
      case rel => exact ⟨q, p % q, Hq, Hr, HVy', HU, HG', hb.trans (hb3.mono hb.size)⟩
      case measure => rw [numOf_eq HU.out, HMe.out]; exact HMl.out

theorem rof_new (m : Nat) (hm : m < 18446744073709551616) (w : World) :
    Calls Tryz.prog 77 #[.int .u64 (m : Int)] w fun e w' => ∃ v, e = .returned v ∧ (Num w' v m ∧ New w.heap.size v) ∧ Below w.heap.size w w' := by
  go_enter Tryz.func77, Tryz.ntmps77
  go_wp2_with fail
  have hl := limbs_lit w 67 [m % 4294967296, m / 4294967296] (fun x hx => by simp at hx; omega) (by simp [maxLen])
  have hn : natOf [m % 4294967296, m / 4294967296] = m := by simp only [natOf]; omega
  rw [show ((m : Int) % 4294967296) = ((m % 4294967296 : Nat) : Int) by simp, show ((m : Int) / 4294967296) = ((m / 4294967296 : Nat) : Int) by simp]
  refine (rnorm_numN _ _ _ _ _ _ w.heap.size hl hn (by simp) (by simp)).mono ?_
  rintro e w1 ⟨v, rfl, hN, hb⟩
  have HN := Lib.hid hN
  clear hl hn hN
  go_wp2_with fail
  go_ret
  exact ⟨v, rfl, HN.out, ((Below.refl _ _).alloc (Nat.le_refl _) _).trans (hb.mono (by simp))⟩

set_option maxHeartbeats 400000 in
theorem kzero_any (w : World) : Calls Tryz.prog 93 #[] w fun e w' => ∃ v, e = .returned v ∧ RatN w.heap.size w' v 0 ∧ Below w.heap.size w w' := by
  have hb0 : Below w.heap.size w (w.alloc (.cells #[.bool false, .slice none 0 0, .slice none 0 0] 28)) := (Below.refl _ _).alloc (Nat.le_refl _) _
  go_enter Tryz.func93, Tryz.ntmps93
  go_wp2_with fail
  refine (rof_new 1 (by omega) _).mono ?_
  rintro e w1 ⟨v1, rfl, ⟨⟨a1, n1, c1, rfl, hv1⟩, hn1⟩, hb1⟩
  obtain ⟨hc, hf⟩ := bcell hb1 w.heap.size (by simp)
  have HB := Lib.hid (hb0.trans (hb1.mono (by simp)))
  have HFin := Lib.hid (rat_store (B' := w.heap.size) (g := w.heap.size) (r := 0) (b := false) (a' := none) (n' := 0) (c' := 0) ⟨none, 0, 0, a1, n1, c1, rfl, by rw [show (0 : Rat).num.natAbs = 0 from rfl, digs_zero]; exact limbs_nil _, new_none _ _ _, hv1, hn1⟩ (by simp) (by simp))
  clear hv1 hn1
  go_wp2_with fail
  exact bodyPost_ret (v := .agg #[.bool false, .slice none 0 0, .slice a1 n1 c1]) (by simp [results, Tryz.results93, go_sem, hc]) rfl ⟨_, rfl, HFin.out, ((HB.out.setCell (Nat.le_refl _) _).setCell (Nat.le_refl _) _).setCell (Nat.le_refl _) _⟩

theorem blen_eq_zero {n : Nat} : blen n = 0 ↔ n = 0 := by
  constructor
  · intro h
    rcases Nat.eq_zero_or_pos n with h0 | h0
    · exact h0
    · rw [blen_pos (by omega)] at h; omega
  · rintro rfl; exact blen_zero

set_option maxHeartbeats 1000000 in
theorem ktop_any (v : Value) (p : Int) (q L : Nat) (w : World) (hv : RatR w v p q L) (hm : L * 4 ≤ 140737488355328) :
    Calls Tryz.prog 65 #[v] w fun e w' => ∃ v, e = .returned v ∧ IntN w.heap.size w' v (ptN p q) ∧ Below w.heap.size w w' := by
  obtain ⟨neg, a', len', cap', xs, a, len, cap, ys, rfl, hx, hp, hlx, hy, hq, hly⟩ := hv
  have hb0 : Below w.heap.size w ((w.alloc (.cells #[.bool neg, .slice a' len' cap', .slice a len cap] 28)).alloc (.cells #[.bool false, .slice none 0 0] 26)) := ((Below.refl _ _).alloc (Nat.le_refl _) _).alloc (by simp) _
  have HX := Lib.hid (show IntR w (.agg #[.bool neg, .slice a' len' cap']) p L from ⟨neg, a', len', cap', xs, rfl, hx, hp, hlx⟩)
  have HY := Lib.hid (hy.below hb0)
  have HQ := Lib.hid hq
  clear hx hy hp hq
  go_enter Tryz.func65, Tryz.ntmps65
  go_wp2_with fail
  refine (rbits_any ys _ _ _ _ HY.out (by omega)).mono ?_
  rintro e w1 ⟨rfl, hb1⟩
  rw [HQ.out]
  obtain ⟨hc, hf⟩ := bcell hb1 w.heap.size (by simp; omega)
  obtain ⟨hc', hf'⟩ := bcell hb1 (w.heap.size + 1) (by simp)
  have hb01 := hb0.trans (hb1.mono (by simp; omega))
  have HS1 := Lib.hid (show w.heap.size + 2 ≤ w1.heap.size by have := hb1.size; simp at this; omega)
  clear hb1
  by_cases h0 : q = 0
  · have HQ0 := Lib.hid (show ptN p q = 0 by rw [h0]; rfl)
    rw [h0, blen_zero]
    go_wp2_with fail
    refine (jof_any 0 _ (by omega) (by omega)).mono ?_
    rintro e w2 ⟨v2, rfl, hv2, hb2⟩
    rw [← HQ0.out] at hv2
    obtain ⟨a2, n2, c2, rfl, hl2, hnew2⟩ := hv2
    obtain ⟨hd, hg⟩ := bcell hb2 (w.heap.size + 1) (by have := HS1.out; omega)
    have HB := Lib.hid (hb01.trans (hb2.mono hb01.size))
    have HFin := Lib.hid (int_store (B := w1.heap.size) (B' := w.heap.size) (g := w.heap.size + 1) ⟨a2, n2, c2, rfl, hl2, hnew2⟩ (by have := HS1.out; omega) (by have := HS1.out; omega))
    clear hl2 hnew2 hb2
    generalize decide (ptN p q < 0) = dn at *
    go_wp2_with fail
    exact bodyPost_ret (v := .agg #[.bool dn, .slice a2 n2 c2]) (by simp [results, Tryz.results65, go_sem, hd, hc']) rfl ⟨_, rfl, HFin.out, (HB.out.setCell (p := ⟨w.heap.size + 1, 0, none⟩) (by simp) _).setCell (p := ⟨w.heap.size + 1, 1, none⟩) (by simp) _⟩
  · have HQ0 := Lib.hid (show ptN p q = p by unfold ptN; rw [beq_eq_false_iff_ne.2 h0]; rfl)
    have d0 : ((blen q : Int) == 0) = false := by rw [beq_eq_false_iff_ne]; intro h; exact h0 (blen_eq_zero.1 (by omega))
    go_wp2_with fail
    refine (jnorm_any _ p L _ (HX.out.below hb01) (by omega)).mono ?_
    rintro e w2 ⟨v2, rfl, hv2, hb2⟩
    rw [← HQ0.out] at hv2
    obtain ⟨a2, n2, c2, rfl, hl2, hnew2⟩ := hv2
    obtain ⟨hd, hg⟩ := bcell hb2 (w.heap.size + 1) (by have := HS1.out; omega)
    have HB := Lib.hid (hb01.trans (hb2.mono hb01.size))
    have HFin := Lib.hid (int_store (B := w1.heap.size) (B' := w.heap.size) (g := w.heap.size + 1) ⟨a2, n2, c2, rfl, hl2, hnew2⟩ (by have := HS1.out; omega) (by have := HS1.out; omega))
    clear hl2 hnew2 hb2
    generalize decide (ptN p q < 0) = dn at *
    go_wp2_with fail
    exact bodyPost_ret (v := .agg #[.bool dn, .slice a2 n2 c2]) (by simp [results, Tryz.results65, go_sem, hd, hc']) rfl ⟨_, rfl, HFin.out, (HB.out.setCell (p := ⟨w.heap.size + 1, 0, none⟩) (by simp) _).setCell (p := ⟨w.heap.size + 1, 1, none⟩) (by simp) _⟩

set_option maxHeartbeats 1000000 in
theorem klow_any (v : Value) (p : Int) (q L : Nat) (w : World) (hv : RatR w v p q L) (hm : L * 4 ≤ 140737488355328) :
    Calls Tryz.prog 67 #[v] w fun e w' => ∃ v, e = .returned v ∧ Num w' v (ptD q) ∧ Below w.heap.size w w' := by
  obtain ⟨neg, a', len', cap', xs, a, len, cap, ys, rfl, hx, hp, hlx, hy, hq, hly⟩ := hv
  have hb0 : Below w.heap.size w (w.alloc (.cells #[.bool neg, .slice a' len' cap', .slice a len cap] 28)) := (Below.refl _ _).alloc (Nat.le_refl _) _
  have HY := Lib.hid (hy.below hb0)
  have HQ := Lib.hid hq
  clear hx hy hp hq
  go_enter Tryz.func67, Tryz.ntmps67
  go_wp2_with fail
  refine (rbits_any ys _ _ _ _ HY.out (by omega)).mono ?_
  rintro e w1 ⟨rfl, hb1⟩
  rw [HQ.out]
  have HY1 := Lib.hid (HY.out.below hb1)
  obtain ⟨hc, hf⟩ := bcell hb1 w.heap.size (by simp)
  have hb01 := hb0.trans (hb1.mono (by simp))
  clear hb1
  by_cases h0 : q = 0
  · have HQ0 := Lib.hid (show ptD q = 1 by rw [h0]; rfl)
    rw [h0, blen_zero]
    go_wp2_with fail
    refine (rof_any 1 (by omega) _).mono ?_
    rintro e w2 ⟨v2, rfl, hv2, hb2⟩
    have HV2 := Lib.hid hv2
    clear hv2
    go_wp2_with fail
    go_ret
    exact ⟨v2, rfl, by rw [HQ0.out]; exact HV2.out, hb01.trans (hb2.mono hb01.size)⟩
  · have HQ0 := Lib.hid (show ptD q = q by unfold ptD; rw [beq_eq_false_iff_ne.2 h0]; rfl)
    have d0 : ((blen q : Int) == 0) = false := by rw [beq_eq_false_iff_ne]; intro h; exact h0 (blen_eq_zero.1 (by omega))
    go_wp2_with fail
    refine (rnorm_num ys _ _ _ _ q HY1.out HQ.out (by omega)).mono ?_
    rintro e w2 ⟨v2, rfl, hv2, hb2⟩
    have HV2 := Lib.hid hv2
    clear hv2
    go_wp2_with fail
    go_ret
    exact ⟨v2, rfl, by rw [HQ0.out]; exact HV2.out, hb01.trans (hb2.mono hb01.size)⟩

end Go.Proofs.YtahmndacoanfiaaGreat
