/- Rounding: what decimal.validPlaces, validMode, power(0) and higher return. -/
import Derived.Test.YtahmndacoanfiaaGreatIntU
import Derived.Test.YtahmndacoanfiaaGreatRoundP
namespace Go.Proofs.YtahmndacoanfiaaGreat
set_option maxRecDepth 100000
open Go.RowKit

theorem places_zero (w : World) : Calls Tryz.prog 99 #[.int .i64 0] w fun e w' => e = .returned (.bool true) ∧ w = w' := by
  go_enter Tryz.func99, Tryz.ntmps99
  go_wp2_with fail
  go_ret
  exact ⟨rfl, rfl⟩
theorem mode_ok (m : Int) (w : World) (h1 : 1 ≤ m) (h2 : m ≤ 7) : Calls Tryz.prog 100 #[.int .i64 m] w fun e w' => e = .returned (.bool true) ∧ w = w' := by
  go_enter Tryz.func100, Tryz.ntmps100
  go_wp2_with fail
  go_ret
  exact ⟨by simp, rfl⟩

theorem odd_digs {f : Int} {b : Nat} {xs : List Nat} (h : xs = digs f.natAbs) (hb : xs.getD 0 0 = b) (hne : xs.length ≠ 0) : oddI f = ((b : Int) % 2 == 1) := by
  have h0 : f.natAbs ≠ 0 := fun e => hne (by rw [h, e, digs_zero]; rfl)
  rw [h, digs_pos h0] at hb
  simp only [List.getD_cons_zero] at hb
  unfold oddI
  rw [← hb]
  have : (f.natAbs % 4294967296) % 2 = f.natAbs % 2 := by omega
  rw [Bool.eq_iff_iff]; simp; omega

set_option maxHeartbeats 2000000 in
theorem higher_any (B : Nat) (v : Value) (f half : Int) (neg : Bool) (m : Int) (w : World) (hv : IntN B w v f) (hh1 : -1 ≤ half) (hh2 : half ≤ 1) (h1 : 1 ≤ m) (h2 : m ≤ 7) :
    Calls Tryz.prog 103 #[v, .int .i64 half, .bool neg, .int .i64 m] w fun e w' => e = .returned (.bool (upM m half neg (oddI f))) ∧ Below w.heap.size w w' := by
  obtain ⟨a, len, cap, rfl, hl, -⟩ := hv
  have hb0 : Below w.heap.size w (w.alloc (.cells #[.bool (decide (f < 0)), .slice a len cap] 26)) := (Below.refl _ _).alloc (Nat.le_refl _) _
  generalize decide (f < 0) = dn at *
  have hlen := hl.1
  have HL := Lib.hid (hl.below hb0)
  have hlm := hl.2.2.2.1
  have hlc := hl.2.2.1
  unfold maxLen at hlm
  clear hl
  rcases (show m = 1 ∨ m = 2 ∨ m = 3 ∨ m = 4 ∨ m = 5 ∨ m = 6 ∨ m = 7 by omega) with rfl | rfl | rfl | rfl | rfl | rfl | rfl
  · by_cases hz : half = 0
    · subst hz
      by_cases h0 : len = 0
      · have HO := Lib.hid (show oddI f = false by
          unfold oddI
          have : f.natAbs = 0 := digs_len_zero.1 (by rw [hlen]; exact h0)
          rw [this]; rfl)
        subst h0
        clear hlen
        go_enter Tryz.func103, Tryz.ntmps103
        go_wp2_with fail
        go_ret
        exact ⟨by rw [HO.out]; rfl, hb0⟩
      · obtain ⟨b, off, rfl, _, hcc⟩ := HL.out.2.2.at (k := 0) (by omega)
        have c0 := hcc 0 (by omega) _ (Below.refl _ _)
        rw [Nat.add_zero] at c0
        have HO := Lib.hid (odd_digs (f := f) rfl rfl (by rw [hlen]; exact h0))
        have hlim := (lim_digs f.natAbs).getD 0
        have h0' : 0 < len := by omega
        have d0 : decide (0 < len) = true := by simp; omega
        generalize (digs f.natAbs).getD 0 0 = x at *
        clear hcc hlen h0
        go_enter Tryz.func103, Tryz.ntmps103
        go_wp2_with fail
        go_ret
        exact ⟨by rw [HO.out]; rfl, hb0⟩
    · have d0 : (half == 0) = false := by simpa using hz
      have HU := Lib.hid (show upM 1 half neg (oddI f) = decide (0 < half) by unfold upM; simp [d0, bne])
      clear hlen hz
      go_enter Tryz.func103, Tryz.ntmps103
      go_wp2_with fail
      go_ret
      exact ⟨by rw [HU.out]; rfl, hb0⟩
  · by_cases hz : half = 0
    · subst hz
      cases neg
      all_goals
        clear hlen
        go_enter Tryz.func103, Tryz.ntmps103
        go_wp2_with fail
        go_ret
        exact ⟨rfl, hb0⟩
    · have d0 : (half == 0) = false := by simpa using hz
      have HU := Lib.hid (show upM 2 half neg (oddI f) = decide (0 < half) by unfold upM; simp [d0, bne])
      clear hlen hz
      go_enter Tryz.func103, Tryz.ntmps103
      go_wp2_with fail
      go_ret
      exact ⟨by rw [HU.out]; rfl, hb0⟩
  · by_cases hz : half = 0
    · subst hz
      cases neg
      all_goals
        clear hlen
        go_enter Tryz.func103, Tryz.ntmps103
        go_wp2_with fail
        go_ret
        exact ⟨rfl, hb0⟩
    · have d0 : (half == 0) = false := by simpa using hz
      have HU := Lib.hid (show upM 3 half neg (oddI f) = decide (0 < half) by unfold upM; simp [d0, bne])
      clear hlen hz
      go_enter Tryz.func103, Tryz.ntmps103
      go_wp2_with fail
      go_ret
      exact ⟨by rw [HU.out]; rfl, hb0⟩
  all_goals
    clear hlen
    go_enter Tryz.func103, Tryz.ntmps103
    go_wp2_with fail
    go_ret
    exact ⟨rfl, hb0⟩

set_option maxHeartbeats 400000 in
theorem power_none (w : World) : Calls Tryz.prog 102 #[.int .i64 0] w fun e w' => ∃ v, e = .returned v ∧ IntN w.heap.size w' v 1 ∧ Below w.heap.size w w' := by
  have hb0 : Below w.heap.size w (w.alloc (.cells #[.bool false, .slice none 0 0] 26)) := (Below.refl _ _).alloc (Nat.le_refl _) _
  go_enter Tryz.func102, Tryz.ntmps102
  go_wp2_with fail
  refine (of_any 10 (by omega) _).mono ?_
  rintro e w1 ⟨v1, rfl, hv1, hb1⟩
  obtain ⟨a1, n1, c1, rfl, hl1⟩ := hv1
  have hn1 : n1 ≤ 1 := by rw [← hl1.1]; exact digs_length_le (by simp)
  have HL1 := Lib.hid hl1
  clear hl1
  obtain ⟨hc1, hf1⟩ := bcell hb1 w.heap.size (by simp)
  have hb01 := hb0.trans (hb1.mono (by simp))
  have HS1 := Lib.hid (show w.heap.size + 1 ≤ w1.heap.size by have := hb1.size; simp at this; omega)
  clear hb1
  go_wp2_with fail
  refine (pow_none _ _ _ _ _ HL1.out (by omega)).mono ?_
  rintro e w2 ⟨v2, rfl, hv2, hb2⟩
  have HV2 := Lib.hid hv2
  clear hv2
  obtain ⟨hc2, hf2⟩ := bcell hb2 w.heap.size (by have := HS1.out; omega)
  have hb02 := hb01.trans (hb2.mono hb01.size)
  have HS2 := Lib.hid (Nat.le_trans HS1.out hb2.size)
  clear hb2
  go_wp2_with fail
  refine (imake_num false v2 1 _ HV2.out (by have := digs_length_le (n := 1) (k := 1) (by simp); omega)).mono ?_
  rintro e w3 ⟨v3, rfl, hv3, hb3⟩
  rw [show sgn false 1 = 1 from rfl] at hv3
  obtain ⟨a3, n3, c3, rfl, h3, h4⟩ := hv3
  obtain ⟨hc3, hf3⟩ := bcell hb3 w.heap.size (by have := HS2.out; omega)
  have HB := Lib.hid (hb02.trans (hb3.mono hb02.size))
  have HFin := Lib.hid (int_store (B' := w.heap.size) (g := w.heap.size) ⟨a3, n3, c3, rfl, h3, h4⟩ (by have := HS2.out; omega) (by have := HS2.out; omega))
  clear h3 h4 hb3
  generalize decide ((1 : Int) < 0) = dn at *
  go_wp2_with fail
  exact bodyPost_ret (v := .agg #[.bool dn, .slice a3 n3 c3]) (by simp [results, Tryz.results102, go_sem, hc3, hc2, hc1]) rfl ⟨_, rfl, HFin.out, (HB.out.setCell (Nat.le_refl _) _).setCell (Nat.le_refl _) _⟩

end Go.Proofs.YtahmndacoanfiaaGreat
