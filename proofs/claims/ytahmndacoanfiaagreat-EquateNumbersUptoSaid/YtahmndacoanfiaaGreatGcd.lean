/- nat.Gcd. -/
import Derived.Test.YtahmndacoanfiaaGreatKnuD
namespace Go.Proofs.YtahmndacoanfiaaGreat
set_option maxRecDepth 100000
open Go.RowKit

theorem Num.unique {w : World} {v : Value} {m n : Nat} (h1 : Num w v m) (h2 : Num w v n) : m = n := by
  obtain ⟨a, len, cap, e, ha⟩ := h1
  obtain ⟨a', len', cap', e', hb⟩ := h2
  rw [e] at e'
  cases e'
  rw [← natOf_digs m, ← natOf_digs n]
  congr 1
  apply List.ext_getElem (by rw [ha.1, hb.1])
  intro i h1 h2
  have hi : i < len := by rw [← ha.1]; exact h1
  obtain ⟨b, off, rfl, _, hcc⟩ := ha.2.2.at hi
  obtain ⟨b', off', e2, _, hcc'⟩ := hb.2.2.at hi
  cases e2
  have c1 := hcc i hi w (Below.refl _ _)
  have c2 := hcc' i hi w (Below.refl _ _)
  rw [c1] at c2
  simp [List.getD, h1, h2] at c2
  exact Int.ofNat.inj c2
open Classical in
/-- the number that a slice holds -/
noncomputable def numOf (w : World) (v : Value) : Nat := if h : ∃ n, Num w v n then h.choose else 0
theorem numOf_eq {w : World} {v : Value} {n : Nat} (h : Num w v n) : numOf w v = n := by
  unfold numOf
  have h' : ∃ n, Num w v n := ⟨n, h⟩
  rw [dif_pos h']
  exact h'.choose_spec.unique h

theorem gcd_len {p k : Nat} {w : World} {a : Option Addr} {len cap : Nat} (h : Limbs w a len cap (digs p)) (hp : p < 4294967296 ^ k) : len ≤ k := by rw [← h.1]; exact digs_length_le hp
theorem lim_lt_max {xs : List Nat} (h : Lim xs) {len k : Nat} (hl : xs.length = len) (hk : len ≤ k) : natOf xs < 4294967296 ^ k := Nat.lt_of_lt_of_le (natOf_lt h) (Nat.pow_le_pow_right (by omega) (by omega))

set_option maxHeartbeats 1000000 in
theorem gcd_new (xs ys : List Nat) (a a' : Option Addr) (len cap len' cap' k : Nat) (w : World) (hx : Limbs w a len cap xs) (hy : Limbs w a' len' cap' ys) (hk1 : len ≤ k) (hk2 : len' ≤ k) (hbn : k * 4 ≤ 140737488355328) :
    Calls Tryz.prog 85 #[.slice a len cap, .slice a' len' cap'] w fun e w' => ∃ v, e = .returned v ∧ (Num w' v (Nat.gcd (natOf xs) (natOf ys)) ∧ New w.heap.size v) ∧ Below w.heap.size w w' := by
  have HX := Lib.hid hx
  have HY := Lib.hid hy
  have HP := Lib.hid (lim_lt_max hx.2.1 hx.1 hk1)
  have HQ := Lib.hid (lim_lt_max hy.2.1 hy.1 hk2)
  clear hx hy
  generalize hX : natOf xs = X at *
  generalize hY : natOf ys = Y at *
  go_enter Tryz.func85, Tryz.ntmps85
  go_wp2_with fail
  refine (norm_new xs a len cap _ HX.out (by omega)).mono ?_
  rintro e w1 ⟨v1, rfl, ⟨hv1, hn1⟩, hb1⟩
  have HY1 := Lib.hid (HY.out.below hb1)
  rw [hX] at hv1
  have HV1 := Lib.hid hv1
  have HN1 := Lib.hid hn1
  clear hv1 hn1
  go_wp2_with fail
  refine (norm_new ys a' len' cap' _ HY1.out (by omega)).mono ?_
  rintro e w2 ⟨v2, rfl, ⟨hv2, hn2⟩, hb2⟩
  rw [hY] at hv2
  have HV1' := Lib.hid (HV1.out.below hb2)
  have HV2 := Lib.hid hv2
  have HN2 := Lib.hid (hn2.mono hb1.size)
  clear hv2 hn2 HV1 HY1 HX HY
  go_wp2_with fail
  go_loopw [0, 1] (fun x y wr => ∃ p q : Nat, Hid (p < 4294967296 ^ k) ∧ Hid (q < 4294967296 ^ k) ∧ Hid (Num wr x p ∧ New w.heap.size x) ∧ Hid (Num wr y q ∧ New w.heap.size y) ∧ Hid (Nat.gcd p q = Nat.gcd X Y) ∧ Below w.heap.size w wr) (fun _ y wr => numOf wr y)
  case atStart => exact ⟨X, Y, HP, HQ, ⟨HV1'.out, HN1.out⟩, ⟨HV2.out, HN2.out⟩, rfl, hb1.trans (hb2.mono hb1.size)⟩
  case round =>
    obtain ⟨p, q, Hp, Hq, HVx, HVy, HG, hb⟩ := hrel
    have HMe := Lib.hid (numOf_eq HVy.out.1)
    obtain ⟨ax, lx, cx, rfl, hLx⟩ := HVx.out.1
    obtain ⟨ay, ly, cy, rfl, hLy⟩ := HVy.out.1
    have hlx := gcd_len hLx Hp.out
    have hly := gcd_len hLy Hq.out
    by_cases h0 : ly = 0
    · have hq : q = 0 := digs_len_zero.1 (by rw [hLy.1]; exact h0)
      have HEnd := Lib.hid (show Num wr (.slice ax lx cx) (Nat.gcd X Y) by rw [← HG.out, hq, Nat.gcd_zero_right]; exact HVx.out.1)
      clear hLx hLy hq
      subst h0
      go_wp2_with fail
      go_ret
      exact ⟨_, rfl, ⟨HEnd.out, HVx.out.2⟩, hb⟩
    · have hq : q ≠ 0 := fun h => h0 (by rw [← hLy.1]; exact digs_len_zero.2 h)
      have HDM := Lib.hid (divmod_new _ _ _ _ _ _ _ _ wr hLx hLy (by omega) (by rw [natOf_digs]; exact hq))
      rw [natOf_digs, natOf_digs] at HDM
      have hl0 : 0 < ly := by omega
      have hml := Nat.mod_lt p (show 0 < q by omega)
      have HG' := Lib.hid (show Nat.gcd q (p % q) = Nat.gcd X Y by rw [← HG.out, Nat.gcd_comm p q, Nat.gcd_comm q (p % q), ← Nat.gcd_rec])
      have Hr := Lib.hid (Nat.lt_trans hml Hq.out)
      have HMl := Lib.hid hml
      clear hLx hLy h0 hml
      go_wp2_with fail
      refine HDM.out.mono ?_
      rintro e w3 ⟨v, u, rfl, hv, hu, hb3⟩
      have HU := Lib.hid hu
      have HVy' := Lib.hid (HVy.out.1.below hb3)
      clear hv hu
      go_wp2_with fail
      go_roundw
      case rel => exact ⟨q, p % q, Hq, Hr, ⟨HVy'.out, HVy.out.2⟩, ⟨HU.out.1, HU.out.2.mono hb.size⟩, HG', hb.trans (hb3.mono hb.size)⟩
      case measure => rw [numOf_eq HU.out.1, HMe.out]; exact HMl.out

end Go.Proofs.YtahmndacoanfiaaGreat
