/- The reference's integers: what examboardref02's Norm, Make, Of, Sign, Cmp, Neg and Mul return. Condition: the limbs can be read, and take at most 2^47 bytes. -/
import Derived.Test.YtahmndacoanfiaaGreatInt
import Derived.Test.YtahmndacoanfiaaGreatNatU
namespace Go.Proofs.YtahmndacoanfiaaGreat
set_option maxRecDepth 100000
open Go.RowKit

set_option maxHeartbeats 400000 in
theorem jnorm_any (v : Value) (z : Int) (L : Nat) (w : World) (hv : IntR w v z L) (hm : L * 4 ≤ 281474976710656) :
    Calls Tryz.prog 78 #[v] w fun e w' => ∃ v, e = .returned v ∧ IntN w.heap.size w' v z ∧ Below w.heap.size w w' := by
  obtain ⟨neg, a, len, cap, xs, rfl, hl, hz, hlL⟩ := hv
  have hb0 : Below w.heap.size w ((w.alloc (.cells #[.bool neg, .slice a len cap] 26)).alloc (.cells #[.bool false, .slice none 0 0] 26)) := ((Below.refl _ _).alloc (Nat.le_refl _) _).alloc (by simp) _
  have HX := Lib.hid (hl.below hb0)
  have HZe := Lib.hid hz
  clear hl hz
  go_enter Tryz.func78, Tryz.ntmps78
  go_wp2_with fail
  refine (rnorm_new xs _ _ _ _ HX.out (by omega)).mono ?_
  rintro e w1 ⟨v1, rfl, ⟨⟨a1, n1, c1, rfl, hN⟩, hnew⟩, hb1⟩
  obtain ⟨hc0, hf0⟩ := bcell hb1 w.heap.size (by simp; omega)
  obtain ⟨hc, hf⟩ := bcell hb1 (w.heap.size + 1) (by simp)
  have HOff := Lib.hid (hnew.off (g := w.heap.size + 1) (by simp))
  have HNew := Lib.hid (hnew.mono (B' := w.heap.size) (by simp; omega))
  have HN := Lib.hid hN
  have HZ := Lib.hid (show decide (0 < n1) = decide (0 < natOf xs) by
    have h1 := hN.1
    have h2 := digs_len_zero (n := natOf xs)
    rw [h1] at h2
    by_cases h : n1 = 0
    · rw [h, h2.1 h]
    · have : natOf xs ≠ 0 := fun h' => h (h2.2 h')
      rw [decide_eq_true (by omega), decide_eq_true (by omega)])
  have HB := Lib.hid (hb0.trans (hb1.mono (by simp; omega)))
  have HFin := Lib.hid (show ∀ b, b = decide (sgn neg (natOf xs) < 0) → IntN w.heap.size ((w1.setCell ⟨w.heap.size + 1, 0, none⟩ (.bool b)).setCell ⟨w.heap.size + 1, 1, none⟩ (.slice a1 n1 c1)) (.agg #[.bool b, .slice a1 n1 c1]) z from fun b hb => ⟨a1, n1, c1, by rw [hb, HZe.out], by rw [← HZe.out, sgn_abs]; exact (HN.out.off HOff.out 0 _).off HOff.out 1 _, HNew.out⟩)
  have HSg := Lib.hid (sgn_neg neg (natOf xs))
  clear hN hnew
  cases neg
  · go_wp2_with fail
    refine bodyPost_ret (v := .agg #[.bool false, .slice a1 n1 c1]) (by simp [results, Tryz.results78, go_sem, hc]) rfl ⟨_, rfl, HFin.out false (by rw [HSg.out]; rfl), (HB.out.setCell (p := ⟨w.heap.size + 1, 0, none⟩) (by simp) _).setCell (p := ⟨w.heap.size + 1, 1, none⟩) (by simp) _⟩
  · go_wp2_with fail
    refine bodyPost_ret (v := .agg #[.bool (decide (0 < n1)), .slice a1 n1 c1]) (by simp [results, Tryz.results78, go_sem, hc]) rfl ⟨_, rfl, HFin.out _ (by rw [HSg.out, HZ.out]; rfl), (HB.out.setCell (p := ⟨w.heap.size + 1, 0, none⟩) (by simp) _).setCell (p := ⟨w.heap.size + 1, 1, none⟩) (by simp) _⟩

set_option maxHeartbeats 400000 in
theorem jmake_any (neg : Bool) (xs : List Nat) (a : Option Addr) (len cap : Nat) (w : World) (hx : Limbs w a len cap xs) (hm : len * 4 ≤ 281474976710656) :
    Calls Tryz.prog 66 #[.bool neg, .slice a len cap] w fun e w' => ∃ v, e = .returned v ∧ IntN w.heap.size w' v (sgn neg (natOf xs)) ∧ Below w.heap.size w w' := by
  have hb0 : Below w.heap.size w (w.alloc (.cells #[.bool false, .slice none 0 0] 26)) := (Below.refl _ _).alloc (Nat.le_refl _) _
  have HX := Lib.hid (show IntR (w.alloc (.cells #[.bool false, .slice none 0 0] 26)) (.agg #[.bool neg, .slice a len cap]) (sgn neg (natOf xs)) len from ⟨neg, a, len, cap, xs, rfl, hx.below hb0, rfl, Nat.le_refl _⟩)
  clear hx
  go_enter Tryz.func66, Tryz.ntmps66
  go_wp2_with fail
  refine (jnorm_any _ _ len _ HX.out hm).mono ?_
  rintro e w2 ⟨v2, rfl, hv2, hb2⟩
  obtain ⟨a2, n2, c2, rfl, hl2, hnew2⟩ := hv2
  obtain ⟨hc, hf⟩ := bcell hb2 w.heap.size (by simp)
  have HB := Lib.hid (hb0.trans (hb2.mono (by simp)))
  have HFin := Lib.hid (int_store (B' := w.heap.size) (g := w.heap.size) ⟨a2, n2, c2, rfl, hl2, hnew2⟩ (by simp) (by simp))
  clear hl2 hnew2
  generalize decide (sgn neg (natOf xs) < 0) = dn at *
  go_wp2_with fail
  exact bodyPost_ret (v := .agg #[.bool dn, .slice a2 n2 c2]) (by simp [results, Tryz.results66, go_sem, hc]) rfl ⟨_, rfl, HFin.out, (HB.out.setCell (Nat.le_refl _) _).setCell (Nat.le_refl _) _⟩

theorem jmake_num (neg : Bool) (v : Value) (n : Nat) (w : World) (hv : Num w v n) (hm : (digs n).length * 4 ≤ 281474976710656) :
    Calls Tryz.prog 66 #[.bool neg, v] w fun e w' => ∃ v, e = .returned v ∧ IntN w.heap.size w' v (sgn neg n) ∧ Below w.heap.size w w' := by
  obtain ⟨a, len, cap, rfl, hv⟩ := hv
  have := jmake_any neg _ _ _ _ w hv (by rw [← hv.1]; exact hm)
  rwa [natOf_digs] at this

set_option maxHeartbeats 400000 in
theorem jof_any (n : Int) (w : World) (h1 : -9223372036854775808 ≤ n) (h2 : n ≤ 9223372036854775807) :
    Calls Tryz.prog 48 #[.int .i64 n] w fun e w' => ∃ v, e = .returned v ∧ IntN w.heap.size w' v n ∧ Below w.heap.size w w' := by
  have hb0 : Below w.heap.size w (w.alloc (.cells #[.bool false, .slice none 0 0] 26)) := (Below.refl _ _).alloc (Nat.le_refl _) _
  by_cases hn : n < 0
  case' pos =>
    obtain ⟨m, hm⟩ : ∃ m : Nat, (m : Int) = -n := ⟨(-n).toNat, by omega⟩
    have HM := Lib.hid (show -(n + 1) + 1 = (m : Int) by omega)
    have HZ := Lib.hid (show sgn true m = n by simp [sgn]; omega)
    have hm2 : m < 18446744073709551616 := by omega
    clear hm
  case' neg =>
    obtain ⟨m, hm⟩ : ∃ m : Nat, (m : Int) = n := ⟨n.toNat, by omega⟩
    have HM := Lib.hid (show n = (m : Int) by omega)
    have HZ := Lib.hid (show sgn false m = n by simp [sgn]; omega)
    have hm2 : m < 18446744073709551616 := by omega
    clear hm
  all_goals
    go_enter Tryz.func48, Tryz.ntmps48
    go_wp2_with fail
    rw [HM.out]
    refine (rof_any m hm2 _).mono ?_
    rintro e w1 ⟨v1, rfl, hv1, hb1⟩
    have HV1 := Lib.hid hv1
    have HLn := Lib.hid (show (digs m).length ≤ 2 from digs_length_le (by simpa using hm2))
    clear hv1
    go_wp2_with fail
    refine (jmake_num _ v1 m _ HV1.out (by have := HLn.out; omega)).mono ?_
    rintro e w2 ⟨v2, rfl, hv2, hb2⟩
    rw [HZ.out] at hv2
    obtain ⟨a2, n2, c2, rfl, hl2, hnew2⟩ := hv2
    have hb12 := hb1.trans (hb2.mono hb1.size)
    obtain ⟨hc, hf⟩ := bcell hb12 w.heap.size (by simp)
    have HB := Lib.hid (hb0.trans (hb12.mono (by simp)))
    have HFin := Lib.hid (int_store (B' := w.heap.size) (g := w.heap.size) ⟨a2, n2, c2, rfl, hl2, hnew2⟩ (by have := hb1.size; simp at this; omega) (by have := hb1.size; simp at this; omega))
    clear hl2 hnew2
    generalize decide (n < 0) = dn at *
    go_wp2_with fail
    exact bodyPost_ret (v := .agg #[.bool dn, .slice a2 n2 c2]) (by simp [results, Tryz.results48, go_sem, hc]) rfl ⟨_, rfl, HFin.out, (HB.out.setCell (Nat.le_refl _) _).setCell (Nat.le_refl _) _⟩

theorem sign_of {z : Int} {n : Nat} (h : (digs z.natAbs).length = n) : z.sign = if n = 0 then 0 else if z < 0 then -1 else 1 := by
  by_cases h0 : n = 0
  · rw [if_pos h0]
    have := digs_len_zero.1 (h.trans h0)
    rw [show z = 0 by omega]; rfl
  · rw [if_neg h0]
    have : z.natAbs ≠ 0 := fun e => h0 (by rw [← h, e, digs_zero]; rfl)
    by_cases hz : z < 0
    · rw [if_pos hz]; exact Int.sign_eq_neg_one_of_neg hz
    · rw [if_neg hz]; exact Int.sign_eq_one_of_pos (by omega)

set_option maxHeartbeats 400000 in
theorem jsign_any (v : Value) (z : Int) (L : Nat) (w : World) (hv : IntR w v z L) (hm : L * 4 ≤ 281474976710656) :
    Calls Tryz.prog 72 #[v] w fun e w' => e = .returned (.int .i64 z.sign) ∧ Below w.heap.size w w' := by
  have HV := Lib.hid hv
  obtain ⟨neg, a, len, cap, xs, rfl, -, -, -⟩ := hv
  have hb0 : Below w.heap.size w (w.alloc (.cells #[.bool neg, .slice a len cap] 26)) := (Below.refl _ _).alloc (Nat.le_refl _) _
  go_enter Tryz.func72, Tryz.ntmps72
  go_wp2_with fail
  refine (jnorm_any _ z L _ (HV.out.below hb0) hm).mono ?_
  rintro e w1 ⟨v1, rfl, hv1, hb1⟩
  obtain ⟨a1, n1, c1, rfl, hl1, _⟩ := hv1
  have HS := Lib.hid (sign_of hl1.1)
  have hb01 := hb0.trans (hb1.mono (by simp))
  have hb2 := hb01.alloc hb01.size (.cells #[.bool (decide (z < 0)), .slice a1 n1 c1] 26)
  clear hl1 hb1
  by_cases h0 : n1 = 0
  · rw [if_pos h0] at HS
    subst h0
    go_wp2_with fail
    go_ret
    exact ⟨by rw [HS.out]; rfl, hb2⟩
  · rw [if_neg h0] at HS
    have d0 : ((n1 : Int) == 0) = false := by simp; omega
    by_cases hz : z < 0
    · rw [if_pos hz] at HS
      go_wp2_with fail
      go_ret
      exact ⟨by rw [HS.out]; rfl, by simpa [hz] using hb2⟩
    · rw [if_neg hz] at HS
      go_wp2_with fail
      go_ret
      exact ⟨by rw [HS.out]; rfl, by simpa [hz] using hb2⟩

set_option maxHeartbeats 1000000 in
theorem jcmp_any (v u : Value) (y z : Int) (L : Nat) (w : World) (hv : IntR w v y L) (hu : IntR w u z L) (hm : L * 4 ≤ 281474976710656) :
    Calls Tryz.prog 47 #[v, u] w fun e w' => e = .returned (.int .i64 (y - z).sign) ∧ Below w.heap.size w w' := by
  have HV := Lib.hid hv
  have HU := Lib.hid hu
  obtain ⟨neg, a, len, cap, xs, rfl, hl, hy, hlL⟩ := hv
  obtain ⟨neg', a', len', cap', xs', rfl, hl', hz, hlM⟩ := hu
  have hb0 : Below w.heap.size w ((w.alloc (.cells #[.bool neg, .slice a len cap] 26)).alloc (.cells #[.bool neg', .slice a' len' cap'] 26)) := (((Below.refl _ _).alloc (Nat.le_refl _) _).alloc (by simp) _)
  have HSame := Lib.hid (fun h => sign_same neg neg' (natOf xs) (natOf xs') h)
  rw [hy, hz] at HSame
  have HX := Lib.hid hl
  have HY := Lib.hid hl'
  have HNy := Lib.hid (show natOf xs = y.natAbs by rw [← hy, sgn_abs])
  have HNz := Lib.hid (show natOf xs' = z.natAbs by rw [← hz, sgn_abs])
  clear hl hl' hy hz
  go_enter Tryz.func47, Tryz.ntmps47
  go_wp2_with fail
  refine (jsign_any _ y L _ (HV.out.below hb0) hm).mono ?_
  rintro e w1 ⟨rfl, hb1⟩
  have hb01 := hb0.trans (hb1.mono (by simp; omega))
  obtain ⟨hc0, hf0⟩ := bcell hb1 w.heap.size (by simp; omega)
  obtain ⟨hc1, hf1⟩ := bcell hb1 (w.heap.size + 1) (by simp)
  have HS1 := Lib.hid (show w.heap.size + 2 ≤ w1.heap.size by have := hb1.size; simp at this; omega)
  have HU1 := Lib.hid (HU.out.below hb01)
  clear hb1
  go_wp2_with fail
  refine (jsign_any _ z L _ HU1.out hm).mono ?_
  rintro e w2 ⟨rfl, hb2⟩
  have hb02 := hb01.trans (hb2.mono hb01.size)
  obtain ⟨hd0, hg0⟩ := bcell hb2 w.heap.size (by have := HS1.out; omega)
  obtain ⟨hd1, hg1⟩ := bcell hb2 (w.heap.size + 1) (by have := HS1.out; omega)
  have HX2 := Lib.hid (HX.out.below hb02)
  have HY2 := Lib.hid (HY.out.below hb02)
  clear hb2 hb01 HU1 HV HU
  have hs1 := sign_bd y
  have hs2 := sign_bd z
  rcases Int.lt_trichotomy y.sign z.sign with h | h | h
  · have HF := Lib.hid (sign_lt h)
    go_wp2_with fail
    go_ret
    exact ⟨by rw [HF.out]; rfl, hb02⟩
  · have HF := Lib.hid (HSame.out h)
    have h1 : ¬ y.sign < z.sign := by omega
    have h2 : ¬ z.sign < y.sign := by omega
    by_cases h3 : y.sign < 0
    · have HF2 := Lib.hid (show (y - z).sign = cmpI (natOf xs') (natOf xs) by
        rw [← HF.out, show y.sign = -1 by omega]
        rcases cmpI_cases (natOf xs) (natOf xs') with ⟨e, h⟩ | ⟨e, h⟩ | ⟨e, h⟩
        · rw [e, cmpI_gt h]; rfl
        · rw [e, cmpI_lt h]; rfl
        · rw [e, cmpI_eq h.symm]; rfl)
      generalize y.sign = sy at *
      generalize z.sign = sz at *
      clear h HF HSame
      go_wp2_with fail
      refine (rcmp_any _ _ _ _ _ _ _ _ _ HY2.out HX2.out).mono ?_
      rintro e w3 ⟨rfl, rfl⟩
      go_wp2_with fail
      go_ret
      exact ⟨by rw [HF2.out]; rfl, hb02⟩
    · have HF2 := Lib.hid (show (y - z).sign = cmpI (natOf xs) (natOf xs') ∨ y.sign = 0 by
        rcases Int.lt_or_le 0 y.sign with h5 | h5
        · left; rw [← HF.out, show y.sign = 1 by omega, Int.one_mul]
        · right; omega)
      have HF3 := Lib.hid (show (y - z).sign = cmpI (natOf xs) (natOf xs') by
        rcases HF2.out with h5 | h5
        · exact h5
        · have hy0 : y = 0 := Int.sign_eq_zero_iff_zero.1 h5
          have hz0 : z = 0 := Int.sign_eq_zero_iff_zero.1 (by omega)
          rw [HNy.out, HNz.out, hy0, hz0]; rfl)
      generalize y.sign = sy at *
      generalize z.sign = sz at *
      clear h HF HSame HF2
      go_wp2_with fail
      refine (rcmp_any _ _ _ _ _ _ _ _ _ HX2.out HY2.out).mono ?_
      rintro e w3 ⟨rfl, rfl⟩
      go_wp2_with fail
      go_ret
      exact ⟨by rw [HF3.out]; rfl, hb02⟩
  · have HF := Lib.hid (show (y - z).sign = 1 by rw [sign_sub_swap z y, sign_lt h]; rfl)
    have h1 : ¬ y.sign < z.sign := by omega
    go_wp2_with fail
    go_ret
    exact ⟨by rw [HF.out]; rfl, hb02⟩

set_option maxHeartbeats 1000000 in
theorem jmul_any (v u : Value) (y z : Int) (L M : Nat) (w : World) (hv : IntR w v y L) (hu : IntR w u z M) (hm : (L + M) * 4 ≤ 281474976710656) :
    Calls Tryz.prog 64 #[v, u] w fun e w' => ∃ r, e = .returned r ∧ IntN w.heap.size w' r (y * z) ∧ Below w.heap.size w w' := by
  obtain ⟨neg, a, len, cap, xs, rfl, hl, rfl, hlL⟩ := hv
  obtain ⟨neg', a', len', cap', xs', rfl, hl', rfl, hlM⟩ := hu
  go_enter Tryz.func64, Tryz.ntmps64
  go_wp2_with fail
  have hsz : (((w.alloc (.cells #[.bool neg, .slice a len cap] 26)).alloc (.cells #[.bool neg', .slice a' len' cap'] 26)).alloc (.cells #[.bool false, .slice none 0 0] 26)).heap.size = w.heap.size + 3 := by simp
  have hb03 : Below w.heap.size w (((w.alloc (.cells #[.bool neg, .slice a len cap] 26)).alloc (.cells #[.bool neg', .slice a' len' cap'] 26)).alloc (.cells #[.bool false, .slice none 0 0] 26)) := ((((Below.refl _ _).alloc (Nat.le_refl _) _).alloc (by simp) _).alloc (by simp; omega) _)
  have g00 : (((w.alloc (.cells #[.bool neg, .slice a len cap] 26)).alloc (.cells #[.bool neg', .slice a' len' cap'] 26)).alloc (.cells #[.bool false, .slice none 0 0] 26)).cell? ⟨w.heap.size, 0, none⟩ = some (.bool neg) := by go_simp
  have g01 : (((w.alloc (.cells #[.bool neg, .slice a len cap] 26)).alloc (.cells #[.bool neg', .slice a' len' cap'] 26)).alloc (.cells #[.bool false, .slice none 0 0] 26)).cell? ⟨w.heap.size, 1, none⟩ = some (.slice a len cap) := by go_simp
  have g10 : (((w.alloc (.cells #[.bool neg, .slice a len cap] 26)).alloc (.cells #[.bool neg', .slice a' len' cap'] 26)).alloc (.cells #[.bool false, .slice none 0 0] 26)).cell? ⟨w.heap.size + 1, 0, none⟩ = some (.bool neg') := by go_simp
  have g11 : (((w.alloc (.cells #[.bool neg, .slice a len cap] 26)).alloc (.cells #[.bool neg', .slice a' len' cap'] 26)).alloc (.cells #[.bool false, .slice none 0 0] 26)).cell? ⟨w.heap.size + 1, 1, none⟩ = some (.slice a' len' cap') := by go_simp
  have r0 : (((w.alloc (.cells #[.bool neg, .slice a len cap] 26)).alloc (.cells #[.bool neg', .slice a' len' cap'] 26)).alloc (.cells #[.bool false, .slice none 0 0] 26)).cell? ⟨w.heap.size + 1 + 1, 0, none⟩ = some (.bool false) := by go_simp
  have r1 : (((w.alloc (.cells #[.bool neg, .slice a len cap] 26)).alloc (.cells #[.bool neg', .slice a' len' cap'] 26)).alloc (.cells #[.bool false, .slice none 0 0] 26)).cell? ⟨w.heap.size + 1 + 1, 1, none⟩ = some (.slice none 0 0) := by go_simp
  have rf : ∀ o, (((w.alloc (.cells #[.bool neg, .slice a len cap] 26)).alloc (.cells #[.bool neg', .slice a' len' cap'] 26)).alloc (.cells #[.bool false, .slice none 0 0] 26)).frozen? ⟨w.heap.size + 1 + 1, o, none⟩ = false := fun o => by go_simp
  generalize (((w.alloc (.cells #[.bool neg, .slice a len cap] 26)).alloc (.cells #[.bool neg', .slice a' len' cap'] 26)).alloc (.cells #[.bool false, .slice none 0 0] 26)) = w3 at *
  have e00 : ∀ W : Ext (w.heap.size + 2) w3, W.1.cell? ⟨w.heap.size, 0, none⟩ = some (.bool neg) := fun W => by rw [W.2.cell (p := ⟨w.heap.size, 0, none⟩) (by simp)]; exact g00
  have e01 : ∀ W : Ext (w.heap.size + 2) w3, W.1.cell? ⟨w.heap.size, 1, none⟩ = some (.slice a len cap) := fun W => by rw [W.2.cell (p := ⟨w.heap.size, 1, none⟩) (by simp)]; exact g01
  have e10 : ∀ W : Ext (w.heap.size + 2) w3, W.1.cell? ⟨w.heap.size + 1, 0, none⟩ = some (.bool neg') := fun W => by rw [W.2.cell (p := ⟨w.heap.size + 1, 0, none⟩) (by simp)]; exact g10
  have e11 : ∀ W : Ext (w.heap.size + 2) w3, W.1.cell? ⟨w.heap.size + 1, 1, none⟩ = some (.slice a' len' cap') := fun W => by rw [W.2.cell (p := ⟨w.heap.size + 1, 1, none⟩) (by simp)]; exact g11
  have HX := Lib.hid (hl.below hb03.drew)
  have HY := Lib.hid (hl'.below hb03.drew)
  have HSz := Lib.hid hsz
  have HR0 := Lib.hid r0
  have HR1 := Lib.hid r1
  have HRf := Lib.hid rf
  clear hl hl' g00 g01 g10 g11 r0 r1 rf hsz
  refine wp_region_sched [(0, false), (1, false), (2, false), (3, false), (4, false), (5, false), (6, false), (7, false), (8, false), (9, true), (10, true), (11, true)] (fun w' => ∃ W : Ext (w.heap.size + 2) w3, w' = W.1) (by kernel_rfl) (by kernel_rfl) ⟨⟨w3.drew, (Below.refl _ _).drew⟩, rfl⟩ ?_
  repeat (refine wpSched_calm rfl (fun K hK => ?_); go_simp; refine hK _ ?_; clear hK K)
  clear e00 e01 e10 e11
  have HBd := Lib.hid (show Below w3.heap.size w3 w3.drew from (Below.refl _ _).drew)
  generalize w3.drew = wd at *
  refine wpSched_eff rfl rfl (fun K hK => ?_)
  go_simp
  refine (rmul_any _ _ _ _ _ _ _ _ _ HX.out HY.out (by omega)).mono ?_
  rintro e w4 ⟨v4, rfl, hv4, hb4⟩
  have HV4 := Lib.hid hv4
  have HB4 := Lib.hid (HBd.out.trans (hb4.mono HBd.out.size))
  refine hK _ _ ⟨⟨w4, HB4.out.mono (by have := HSz.out; omega)⟩, rfl⟩ ?_
  clear hK K hv4 hb4
  have HPl := Lib.hid (show (digs (natOf xs * natOf xs')).length ≤ len + len' by
    refine digs_length_le ?_
    rw [Nat.pow_add]
    have h1 := natOf_lt HX.out.2.1
    have h2 := natOf_lt HY.out.2.1
    rw [HX.out.1] at h1
    rw [HY.out.1] at h2
    exact Nat.mul_lt_mul_of_lt_of_le h1 (Nat.le_of_lt h2) (by omega))
  refine wpSched_eff rfl rfl (fun K hK => ?_)
  go_simp
  refine (jmake_num _ _ _ _ HV4.out (by have := HPl.out; omega)).mono ?_
  rintro e w5 ⟨v5, rfl, hv5, hb5⟩
  rw [sgn_mul] at hv5
  obtain ⟨a5, n5, c5, rfl, hl5, hnew5⟩ := hv5
  have hs4 : w.heap.size + 3 ≤ w4.heap.size := by have := HSz.out; have := HB4.out.size; omega
  have HFin := Lib.hid (int_store (B' := w.heap.size) (g := w.heap.size + 1 + 1) ⟨a5, n5, c5, rfl, hl5, hnew5⟩ (by omega) (by omega))
  have hb35 := HB4.out.trans (hb5.mono HB4.out.size)
  obtain ⟨hc, hf⟩ := bcell hb35 (w.heap.size + 1 + 1) (by have := HSz.out; omega)
  have r0 : w5.cell? ⟨w.heap.size + 1 + 1, 0, none⟩ = some (.bool false) := by rw [hc]; exact HR0.out
  have r1 : w5.cell? ⟨w.heap.size + 1 + 1, 1, none⟩ = some (.slice none 0 0) := by rw [hc]; exact HR1.out
  have f0 : w5.frozen? ⟨w.heap.size + 1 + 1, 0, none⟩ = false := by rw [hf]; exact HRf.out 0
  have f1 : w5.frozen? ⟨w.heap.size + 1 + 1, 1, none⟩ = false := by rw [hf]; exact HRf.out 1
  have HB := Lib.hid (hb03.trans (hb35.mono hb03.size))
  have HBx := Lib.hid (show Below (w.heap.size + 2) w3 w5 from hb35.mono (by have := HSz.out; omega))
  refine hK _ _ ⟨⟨w5, HBx.out⟩, rfl⟩ ?_
  clear hK K hl5 hnew5 hb5 hc hf hb35
  generalize decide (sgn neg (natOf xs) * sgn neg' (natOf xs') < 0) = dn at *
  refine wpSched_eff rfl rfl (fun K hK => ?_)
  go_simp
  refine hK _ _ ⟨⟨_, (HBx.out.setCell (p := ⟨w.heap.size + 1 + 1, 0, none⟩) (by simp) _).setCell (p := ⟨w.heap.size + 1 + 1, 1, none⟩) (by simp) _⟩, rfl⟩ ?_
  clear hK K
  refine wpSched_nil ?_
  go_wp2_with fail
  exact bodyPost_ret (v := .agg #[.bool dn, .slice a5 n5 c5]) (by simp [results, Tryz.results64, go_sem, r0, r1]) rfl ⟨_, rfl, HFin.out, (HB.out.setCell (p := ⟨w.heap.size + 1 + 1, 0, none⟩) (by simp; omega) _).setCell (p := ⟨w.heap.size + 1 + 1, 1, none⟩) (by simp; omega) _⟩

set_option maxHeartbeats 400000 in
theorem jneg_any (v : Value) (z : Int) (L : Nat) (w : World) (hv : IntR w v z L) (hm : L * 4 ≤ 281474976710656) :
    Calls Tryz.prog 96 #[v] w fun e w' => ∃ v, e = .returned v ∧ IntN w.heap.size w' v (-z) ∧ Below w.heap.size w w' := by
  obtain ⟨neg, a, len, cap, xs, rfl, hl, hz, hlL⟩ := hv
  have hb0 : Below w.heap.size w ((w.alloc (.cells #[.bool neg, .slice a len cap] 26)).alloc (.cells #[.bool false, .slice none 0 0] 26)) := ((Below.refl _ _).alloc (Nat.le_refl _) _).alloc (by simp) _
  have HX := Lib.hid (hl.below hb0)
  have HZe := Lib.hid (show sgn (!neg) (natOf xs) = -z by rw [← hz]; cases neg <;> simp [sgn])
  clear hl hz
  go_enter Tryz.func96, Tryz.ntmps96
  go_wp2_with fail
  refine (jmake_any (!neg) xs _ _ _ _ HX.out (by omega)).mono ?_
  rintro e w1 ⟨v1, rfl, hv1, hb1⟩
  rw [HZe.out] at hv1
  obtain ⟨a2, n2, c2, rfl, hl2, hnew2⟩ := hv1
  obtain ⟨hc, hf⟩ := bcell hb1 (w.heap.size + 1) (by simp)
  have HB := Lib.hid (hb0.trans (hb1.mono (by simp; omega)))
  have HFin := Lib.hid (int_store (B' := w.heap.size) (g := w.heap.size + 1) ⟨a2, n2, c2, rfl, hl2, hnew2⟩ (by simp) (by simp; omega))
  clear hl2 hnew2
  generalize decide (-z < 0) = dn at *
  go_wp2_with fail
  exact bodyPost_ret (v := .agg #[.bool dn, .slice a2 n2 c2]) (by simp [results, Tryz.results96, go_sem, hc]) rfl ⟨_, rfl, HFin.out, (HB.out.setCell (p := ⟨w.heap.size + 1, 0, none⟩) (by simp) _).setCell (p := ⟨w.heap.size + 1, 1, none⟩) (by simp) _⟩

end Go.Proofs.YtahmndacoanfiaaGreat
