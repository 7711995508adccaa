/- The law DrawsRanges, for arguments of bulk at most 1048576: numbers are below their bound and do not fall when it rises; a greater probability never turns an event off; certain and impossible events are certain and impossible. -/
import Derived.Test.YtfkijcimddbjoaaDrA
import Derived.Test.YtfkijcimddbjoaaRatO
namespace Go.Proofs.Ytfkijcimddbjoaa
open Go.ChangeShapes Go.WideShapes Go.ChangeAt Go.RowKit
open Go.RowKit

theorem belD_mono {d : UInt64} {n m : Int} (h1 : 1 ≤ n) (h2 : n ≤ m) (h3 : m ≤ 2147483648) : belD d n ≤ belD d m := by
  rw [belD_yes (badN_no h1 (by omega)), belD_yes (badN_no (by omega) h3)]
  exact Int.ediv_le_ediv (by omega) (Int.mul_le_mul_of_nonneg_left h2 (by omega))
def shareD (d : UInt64) : Rat := Rat.divInt (hiD d) 4294967296
theorem rcmpI_neg {r s : Rat} : rcmpI r s < 0 ↔ r < s := by
  unfold rcmpI
  by_cases h : r < s
  · simp [h]
  · rw [if_neg h]; split <;> simp [h]
theorem rcmpI_le {r s : Rat} : rcmpI r s ≤ 0 ↔ r ≤ s := by
  unfold rcmpI
  by_cases h : r < s
  · simp [h, Rat.le_of_lt h]
  · rw [if_neg h]
    by_cases h2 : s < r
    · rw [if_pos h2]; simp [Rat.not_le.2 h2]
    · rw [if_neg h2]; simp [Rat.not_lt.1 h2]
theorem rcmpI_ge {r s : Rat} : 0 ≤ rcmpI r s ↔ s ≤ r := by
  have := rcmpI_neg (r := r) (s := s)
  rw [← Rat.not_lt, ← this]; omega
theorem rsgI_le {r : Rat} : rsgI r ≤ 0 ↔ r ≤ 0 := by
  unfold rsgI
  rw [← Rat.not_lt, Rat.lt_iff]
  simp
theorem share_bd (d : UInt64) : 0 ≤ shareD d ∧ shareD d < 1 := by
  unfold shareD
  have h := hiD_lt d
  rw [Rat.divInt_eq_div]
  have hp : (0 : Rat) < ((4294967296 : Int) : Rat) := by decide +kernel
  refine ⟨?_, ?_⟩
  · rw [← Rat.not_lt, Rat.div_lt_iff hp, Rat.zero_mul, Rat.intCast_neg_iff]; omega
  · rw [Rat.div_lt_iff hp, Rat.one_mul, Rat.intCast_lt_intCast]; omega
theorem chB_iff (d : UInt64) (r : Rat) : chB d r = true ↔ shareD d < r := by
  unfold chB shareD
  rw [decide_eq_true_iff, rcmpI_neg]
theorem ch_up {d : UInt64} {r s : Rat} (h : chB d r = true) (hle : rcmpI r s ≤ 0) : chB d s = true := by
  rw [chB_iff] at h ⊢
  have := rcmpI_le.1 hle
  rw [Rat.lt_iff_le_and_ne] at h ⊢
  grind
theorem ch_pos {d : UInt64} {r : Rat} (h : chB d r = true) : decide (rsgI r ≤ 0) = false := by
  rw [chB_iff] at h
  rw [decide_eq_false_iff_not, rsgI_le]
  have := (share_bd d).1
  grind
theorem ch_one {d : UInt64} {r : Rat} (h : chB d r = false) : decide (0 ≤ rcmpI r (Rat.divInt 1 1)) = false := by
  rw [decide_eq_false_iff_not, rcmpI_ge, show Rat.divInt 1 1 = 1 by decide +kernel]
  intro hr
  have h2 := (share_bd d).2
  have : chB d r = true := by rw [chB_iff]; grind
  rw [this] at h; cases h

set_option maxHeartbeats 4000000 in
theorem drRanges_a (d : UInt64) (n m : Int) (v u : Value) (r s : Rat) (w : World) (hv : RatV w v r 1048576) (hu : RatV w u s 1048576) (h1 : n < 1) :
    Calls Try.prog 7 #[.int .u64 (d.toNat : Int), .int .i64 n, .int .i64 m, v, u] w fun e w' => e = .returned (.bool true) ∧ Below w.heap.size w w' := by
  have HV := Lib.hid hv
  have HU := Lib.hid hu
  obtain ⟨p, q, ⟨neg, a', len', cap', xs, a, len, cap, ys, rfl, -, -, -, -, -, -⟩, -⟩ := hv
  obtain ⟨p', q', ⟨neg', b', lem', cbp', xs', b, lem, cbp, ys', rfl, -, -, -, -, -, -⟩, -⟩ := hu
  have hb0 : Below w.heap.size w ((w.alloc (.cells #[.bool neg, .slice a' len' cap', .slice a len cap] 29)).alloc (.cells #[.bool neg', .slice b' lem' cbp', .slice b lem cbp] 29)) := ((Below.refl _ _).alloc (Nat.le_refl _) _).alloc (by simp) _
  have HU1 := Lib.hid (fun (h : chB d r = true) (h2 : rcmpI r s ≤ 0) => ch_up h h2)
  have HU2 := Lib.hid (fun (h : chB d r = true) => ch_pos h)
  have HU3 := Lib.hid (fun (h : chB d r = false) => ch_one h)
  have E1 := Lib.hid (belD_no (d := d) (badN_of (n := n) (.inl h1)))
  have E2 := Lib.hid (belS_no (d := d) (badN_of (n := n) (.inl h1)))
  go_enter Try.func7, Try.ntmps7
  go_wp2_with fail
  refine (next_draw d _).mono ?_
  rintro e w' ⟨rfl, rfl⟩
  go_wp2_with fail
  refine (below_draw d n _).mono ?_
  rintro e w' ⟨rfl, rfl⟩
  rw [E1.out, E2.out]
  go_wp2_with fail
  refine (below_draw d m _).mono ?_
  rintro e w' ⟨rfl, rfl⟩
  go_wp2_with fail
  refine (qof_any 1 1 _ (by omega) (by omega) (by omega) (by omega) (by omega)).mono ?_
  rintro e w1 ⟨v1, rfl, hv1, hsz1, hb1⟩
  have HV1 := Lib.hid (hv1.raw hsz1)
  obtain ⟨x', l', k', y, l, k, rfl, -, -, -, -⟩ := hv1
  have hb01 := hb0.trans (hb1.mono (by simp; omega))
  have k00 : w1.cell? ⟨w.heap.size, 0, none⟩ = some (.bool neg) := by rw [(bcell hb1 w.heap.size (by simp; omega)).1]; go_simp
  have k01 : w1.cell? ⟨w.heap.size, 1, none⟩ = some (.slice a' len' cap') := by rw [(bcell hb1 w.heap.size (by simp; omega)).1]; go_simp
  have k02 : w1.cell? ⟨w.heap.size, 2, none⟩ = some (.slice a len cap) := by rw [(bcell hb1 w.heap.size (by simp; omega)).1]; go_simp
  have k10 : w1.cell? ⟨w.heap.size + 1, 0, none⟩ = some (.bool neg') := by rw [(bcell hb1 (w.heap.size + 1) (by simp)).1]; go_simp
  have k11 : w1.cell? ⟨w.heap.size + 1, 1, none⟩ = some (.slice b' lem' cbp') := by rw [(bcell hb1 (w.heap.size + 1) (by simp)).1]; go_simp
  have k12 : w1.cell? ⟨w.heap.size + 1, 2, none⟩ = some (.slice b lem cbp) := by rw [(bcell hb1 (w.heap.size + 1) (by simp)).1]; go_simp
  have hlt0 : w.heap.size < w1.heap.size := by have := hb1.size; simp at this; omega
  have hlt1 : w.heap.size + 1 < w1.heap.size := by have := hb1.size; simp at this; omega
  generalize decide ((Rat.divInt 1 1).num < 0) = dn at *
  have hb2 : Below w1.heap.size w1 (w1.alloc (.cells #[.bool dn, .slice x' l' k', .slice y l k] 29)) := (Below.refl _ _).alloc (Nat.le_refl _) _
  have HV2 := Lib.hid (HV1.out.below hb2)
  have hb02 := hb01.trans (hb2.mono hb01.size)
  have HP2 := Lib.hid (HV.out.below hb02)
  clear hsz1 hb1 hb01
  go_wp2_with fail
  refine (chance_draw d _ r _ _ HP2.out (by omega) (by omega)).mono ?_
  rintro e w3 ⟨rfl, hb3⟩
  have hb03 := hb02.trans (hb3.mono hb02.size)
  have HV3 := Lib.hid (HV2.out.below hb3)
  have m00 : w3.cell? ⟨w.heap.size, 0, none⟩ = some (.bool neg) := by rw [(bcell hb3 w.heap.size (by simp; omega)).1]; go_simp
  have m01 : w3.cell? ⟨w.heap.size, 1, none⟩ = some (.slice a' len' cap') := by rw [(bcell hb3 w.heap.size (by simp; omega)).1]; go_simp
  have m02 : w3.cell? ⟨w.heap.size, 2, none⟩ = some (.slice a len cap) := by rw [(bcell hb3 w.heap.size (by simp; omega)).1]; go_simp
  have m10 : w3.cell? ⟨w.heap.size + 1, 0, none⟩ = some (.bool neg') := by rw [(bcell hb3 (w.heap.size + 1) (by simp; omega)).1]; go_simp
  have m11 : w3.cell? ⟨w.heap.size + 1, 1, none⟩ = some (.slice b' lem' cbp') := by rw [(bcell hb3 (w.heap.size + 1) (by simp; omega)).1]; go_simp
  have m12 : w3.cell? ⟨w.heap.size + 1, 2, none⟩ = some (.slice b lem cbp) := by rw [(bcell hb3 (w.heap.size + 1) (by simp; omega)).1]; go_simp
  have m20 : w3.cell? ⟨w1.heap.size, 0, none⟩ = some (.bool dn) := by rw [(bcell hb3 w1.heap.size (by simp)).1]; go_simp
  have m21 : w3.cell? ⟨w1.heap.size, 1, none⟩ = some (.slice x' l' k') := by rw [(bcell hb3 w1.heap.size (by simp)).1]; go_simp
  have m22 : w3.cell? ⟨w1.heap.size, 2, none⟩ = some (.slice y l k) := by rw [(bcell hb3 w1.heap.size (by simp)).1]; go_simp
  have hs3 : w1.heap.size < w3.heap.size := by have := hb3.size; simp at this; omega
  clear k00 k01 k02 k10 k11 k12 hb3 hb02 hb2 HP2 HV2
  have HP3 := Lib.hid (HV.out.below hb03)
  have HQ3 := Lib.hid (HU.out.below hb03)
  go_wp2_with fail
  refine (chance_draw d _ s _ _ HQ3.out (by omega) (by omega)).mono ?_
  rintro e w4 ⟨rfl, hb4⟩
  obtain ⟨c0, f0⟩ := bcell hb4 w.heap.size (by omega)
  obtain ⟨c1, f1⟩ := bcell hb4 (w.heap.size + 1) (by omega)
  obtain ⟨c2, f2⟩ := bcell hb4 w1.heap.size (by omega)
  have hb04 := hb03.trans (hb4.mono hb03.size)
  have HV4 := Lib.hid (HV3.out.below hb4)
  have HP4 := Lib.hid (HP3.out.below hb4)
  have HQ4 := Lib.hid (HQ3.out.below hb4)
  have hs4 := Nat.lt_of_lt_of_le hs3 hb4.size
  clear hb4 hb03 HV3 HP3 HQ3
  cases hA : chB d r
  · have z3 := HU3.out hA
    clear HU1 HU2 HU3 hA
    go_wp2_with fail
    refine (qsign_any _ r _ _ HP4.out (by omega)).mono ?_
    rintro e w5 ⟨rfl, hb5⟩
    obtain ⟨o0, g0⟩ := bcell hb5 w.heap.size (by omega)
    obtain ⟨o2, g2⟩ := bcell hb5 w1.heap.size (by omega)
    have hb05 := hb04.trans (hb5.mono hb04.size)
    have HV5 := Lib.hid (HV4.out.below hb5)
    have HP5 := Lib.hid (HP4.out.below hb5)
    clear hb5 hb04
    generalize decide (rsgI r ≤ 0) = zs at *
    by_cases hz : rsgI r ≤ 0
    all_goals
      go_wp2_with fail
      refine (qcmp_any _ _ r _ 1048576 2 _ HP5.out HV5.out (by omega) (by omega) (by omega)).mono ?_
      rintro e w6 ⟨rfl, hb6⟩
      have hb06 := hb05.trans (hb6.mono hb05.size)
      generalize rcmpI r (Rat.divInt 1 1) = cv at *
      go_wp2_with fail
      refine (awake_any _).mono ?_
      rintro e w7 ⟨rfl, hb7⟩
      go_wp2_with fail
      go_ret
      exact ⟨rfl, hb06.trans (hb7.mono hb06.size)⟩
  · have z2 := HU2.out hA
    have HU4 := Lib.hid (HU1.out hA)
    clear HU1 HU2 HU3 hA
    go_wp2_with fail
    refine (qcmp_any _ _ r s 1048576 1048576 _ HP4.out HQ4.out (by omega) (by omega) (by omega)).mono ?_
    rintro e w5 ⟨rfl, hb5⟩
    obtain ⟨o0, g0⟩ := bcell hb5 w.heap.size (by omega)
    obtain ⟨o2, g2⟩ := bcell hb5 w1.heap.size (by omega)
    have hb05 := hb04.trans (hb5.mono hb04.size)
    have HV5 := Lib.hid (HV4.out.below hb5)
    have HP5 := Lib.hid (HP4.out.below hb5)
    have hs5 := Nat.lt_of_lt_of_le hs4 hb5.size
    clear hb5 hb04
    by_cases hc : rcmpI r s ≤ 0
    case' pos =>
      rw [HU4.out hc]
    case' neg =>
      skip
    all_goals
      clear HU4
      generalize rcmpI r s = cv1 at *
      go_wp2_with fail
      refine (qsign_any _ r _ _ HP5.out (by omega)).mono ?_
      rintro e w6 ⟨rfl, hb6⟩
      obtain ⟨p0, q0⟩ := bcell hb6 w.heap.size (by omega)
      obtain ⟨p2, q2⟩ := bcell hb6 w1.heap.size (by omega)
      have hb06 := hb05.trans (hb6.mono hb05.size)
      have HV6 := Lib.hid (HV5.out.below hb6)
      have HP6 := Lib.hid (HP5.out.below hb6)
      clear hb6 hb05
      generalize rsgI r = sg at *
      go_wp2_with fail
      refine (qcmp_any _ _ r _ 1048576 2 _ HP6.out HV6.out (by omega) (by omega) (by omega)).mono ?_
      rintro e w7 ⟨rfl, hb7⟩
      have hb07 := hb06.trans (hb7.mono hb06.size)
      generalize rcmpI r (Rat.divInt 1 1) = cv at *
      by_cases hcv : 0 ≤ cv
      all_goals
        go_wp2_with fail
        refine (awake_any _).mono ?_
        rintro e w8 ⟨rfl, hb8⟩
        go_wp2_with fail
        go_ret
        exact ⟨rfl, hb07.trans (hb8.mono hb07.size)⟩
set_option maxHeartbeats 4000000 in
theorem drRanges_b (d : UInt64) (n m : Int) (v u : Value) (r s : Rat) (w : World) (hv : RatV w v r 1048576) (hu : RatV w u s 1048576) (h1 : 2147483648 < n) :
    Calls Try.prog 7 #[.int .u64 (d.toNat : Int), .int .i64 n, .int .i64 m, v, u] w fun e w' => e = .returned (.bool true) ∧ Below w.heap.size w w' := by
  have HV := Lib.hid hv
  have HU := Lib.hid hu
  obtain ⟨p, q, ⟨neg, a', len', cap', xs, a, len, cap, ys, rfl, -, -, -, -, -, -⟩, -⟩ := hv
  obtain ⟨p', q', ⟨neg', b', lem', cbp', xs', b, lem, cbp, ys', rfl, -, -, -, -, -, -⟩, -⟩ := hu
  have hb0 : Below w.heap.size w ((w.alloc (.cells #[.bool neg, .slice a' len' cap', .slice a len cap] 29)).alloc (.cells #[.bool neg', .slice b' lem' cbp', .slice b lem cbp] 29)) := ((Below.refl _ _).alloc (Nat.le_refl _) _).alloc (by simp) _
  have HU1 := Lib.hid (fun (h : chB d r = true) (h2 : rcmpI r s ≤ 0) => ch_up h h2)
  have HU2 := Lib.hid (fun (h : chB d r = true) => ch_pos h)
  have HU3 := Lib.hid (fun (h : chB d r = false) => ch_one h)
  have E1 := Lib.hid (belD_no (d := d) (badN_of (n := n) (.inr h1)))
  have E2 := Lib.hid (belS_no (d := d) (badN_of (n := n) (.inr h1)))
  have h2 : ¬ n < 1 := by omega
  go_enter Try.func7, Try.ntmps7
  go_wp2_with fail
  refine (next_draw d _).mono ?_
  rintro e w' ⟨rfl, rfl⟩
  go_wp2_with fail
  refine (below_draw d n _).mono ?_
  rintro e w' ⟨rfl, rfl⟩
  rw [E1.out, E2.out]
  go_wp2_with fail
  refine (below_draw d m _).mono ?_
  rintro e w' ⟨rfl, rfl⟩
  go_wp2_with fail
  refine (qof_any 1 1 _ (by omega) (by omega) (by omega) (by omega) (by omega)).mono ?_
  rintro e w1 ⟨v1, rfl, hv1, hsz1, hb1⟩
  have HV1 := Lib.hid (hv1.raw hsz1)
  obtain ⟨x', l', k', y, l, k, rfl, -, -, -, -⟩ := hv1
  have hb01 := hb0.trans (hb1.mono (by simp; omega))
  have k00 : w1.cell? ⟨w.heap.size, 0, none⟩ = some (.bool neg) := by rw [(bcell hb1 w.heap.size (by simp; omega)).1]; go_simp
  have k01 : w1.cell? ⟨w.heap.size, 1, none⟩ = some (.slice a' len' cap') := by rw [(bcell hb1 w.heap.size (by simp; omega)).1]; go_simp
  have k02 : w1.cell? ⟨w.heap.size, 2, none⟩ = some (.slice a len cap) := by rw [(bcell hb1 w.heap.size (by simp; omega)).1]; go_simp
  have k10 : w1.cell? ⟨w.heap.size + 1, 0, none⟩ = some (.bool neg') := by rw [(bcell hb1 (w.heap.size + 1) (by simp)).1]; go_simp
  have k11 : w1.cell? ⟨w.heap.size + 1, 1, none⟩ = some (.slice b' lem' cbp') := by rw [(bcell hb1 (w.heap.size + 1) (by simp)).1]; go_simp
  have k12 : w1.cell? ⟨w.heap.size + 1, 2, none⟩ = some (.slice b lem cbp) := by rw [(bcell hb1 (w.heap.size + 1) (by simp)).1]; go_simp
  have hlt0 : w.heap.size < w1.heap.size := by have := hb1.size; simp at this; omega
  have hlt1 : w.heap.size + 1 < w1.heap.size := by have := hb1.size; simp at this; omega
  generalize decide ((Rat.divInt 1 1).num < 0) = dn at *
  have hb2 : Below w1.heap.size w1 (w1.alloc (.cells #[.bool dn, .slice x' l' k', .slice y l k] 29)) := (Below.refl _ _).alloc (Nat.le_refl _) _
  have HV2 := Lib.hid (HV1.out.below hb2)
  have hb02 := hb01.trans (hb2.mono hb01.size)
  have HP2 := Lib.hid (HV.out.below hb02)
  clear hsz1 hb1 hb01
  go_wp2_with fail
  refine (chance_draw d _ r _ _ HP2.out (by omega) (by omega)).mono ?_
  rintro e w3 ⟨rfl, hb3⟩
  have hb03 := hb02.trans (hb3.mono hb02.size)
  have HV3 := Lib.hid (HV2.out.below hb3)
  have m00 : w3.cell? ⟨w.heap.size, 0, none⟩ = some (.bool neg) := by rw [(bcell hb3 w.heap.size (by simp; omega)).1]; go_simp
  have m01 : w3.cell? ⟨w.heap.size, 1, none⟩ = some (.slice a' len' cap') := by rw [(bcell hb3 w.heap.size (by simp; omega)).1]; go_simp
  have m02 : w3.cell? ⟨w.heap.size, 2, none⟩ = some (.slice a len cap) := by rw [(bcell hb3 w.heap.size (by simp; omega)).1]; go_simp
  have m10 : w3.cell? ⟨w.heap.size + 1, 0, none⟩ = some (.bool neg') := by rw [(bcell hb3 (w.heap.size + 1) (by simp; omega)).1]; go_simp
  have m11 : w3.cell? ⟨w.heap.size + 1, 1, none⟩ = some (.slice b' lem' cbp') := by rw [(bcell hb3 (w.heap.size + 1) (by simp; omega)).1]; go_simp
  have m12 : w3.cell? ⟨w.heap.size + 1, 2, none⟩ = some (.slice b lem cbp) := by rw [(bcell hb3 (w.heap.size + 1) (by simp; omega)).1]; go_simp
  have m20 : w3.cell? ⟨w1.heap.size, 0, none⟩ = some (.bool dn) := by rw [(bcell hb3 w1.heap.size (by simp)).1]; go_simp
  have m21 : w3.cell? ⟨w1.heap.size, 1, none⟩ = some (.slice x' l' k') := by rw [(bcell hb3 w1.heap.size (by simp)).1]; go_simp
  have m22 : w3.cell? ⟨w1.heap.size, 2, none⟩ = some (.slice y l k) := by rw [(bcell hb3 w1.heap.size (by simp)).1]; go_simp
  have hs3 : w1.heap.size < w3.heap.size := by have := hb3.size; simp at this; omega
  clear k00 k01 k02 k10 k11 k12 hb3 hb02 hb2 HP2 HV2
  have HP3 := Lib.hid (HV.out.below hb03)
  have HQ3 := Lib.hid (HU.out.below hb03)
  go_wp2_with fail
  refine (chance_draw d _ s _ _ HQ3.out (by omega) (by omega)).mono ?_
  rintro e w4 ⟨rfl, hb4⟩
  obtain ⟨c0, f0⟩ := bcell hb4 w.heap.size (by omega)
  obtain ⟨c1, f1⟩ := bcell hb4 (w.heap.size + 1) (by omega)
  obtain ⟨c2, f2⟩ := bcell hb4 w1.heap.size (by omega)
  have hb04 := hb03.trans (hb4.mono hb03.size)
  have HV4 := Lib.hid (HV3.out.below hb4)
  have HP4 := Lib.hid (HP3.out.below hb4)
  have HQ4 := Lib.hid (HQ3.out.below hb4)
  have hs4 := Nat.lt_of_lt_of_le hs3 hb4.size
  clear hb4 hb03 HV3 HP3 HQ3
  cases hA : chB d r
  · have z3 := HU3.out hA
    clear HU1 HU2 HU3 hA
    go_wp2_with fail
    refine (qsign_any _ r _ _ HP4.out (by omega)).mono ?_
    rintro e w5 ⟨rfl, hb5⟩
    obtain ⟨o0, g0⟩ := bcell hb5 w.heap.size (by omega)
    obtain ⟨o2, g2⟩ := bcell hb5 w1.heap.size (by omega)
    have hb05 := hb04.trans (hb5.mono hb04.size)
    have HV5 := Lib.hid (HV4.out.below hb5)
    have HP5 := Lib.hid (HP4.out.below hb5)
    clear hb5 hb04
    generalize decide (rsgI r ≤ 0) = zs at *
    by_cases hz : rsgI r ≤ 0
    all_goals
      go_wp2_with fail
      refine (qcmp_any _ _ r _ 1048576 2 _ HP5.out HV5.out (by omega) (by omega) (by omega)).mono ?_
      rintro e w6 ⟨rfl, hb6⟩
      have hb06 := hb05.trans (hb6.mono hb05.size)
      generalize rcmpI r (Rat.divInt 1 1) = cv at *
      go_wp2_with fail
      refine (awake_any _).mono ?_
      rintro e w7 ⟨rfl, hb7⟩
      go_wp2_with fail
      go_ret
      exact ⟨rfl, hb06.trans (hb7.mono hb06.size)⟩
  · have z2 := HU2.out hA
    have HU4 := Lib.hid (HU1.out hA)
    clear HU1 HU2 HU3 hA
    go_wp2_with fail
    refine (qcmp_any _ _ r s 1048576 1048576 _ HP4.out HQ4.out (by omega) (by omega) (by omega)).mono ?_
    rintro e w5 ⟨rfl, hb5⟩
    obtain ⟨o0, g0⟩ := bcell hb5 w.heap.size (by omega)
    obtain ⟨o2, g2⟩ := bcell hb5 w1.heap.size (by omega)
    have hb05 := hb04.trans (hb5.mono hb04.size)
    have HV5 := Lib.hid (HV4.out.below hb5)
    have HP5 := Lib.hid (HP4.out.below hb5)
    have hs5 := Nat.lt_of_lt_of_le hs4 hb5.size
    clear hb5 hb04
    by_cases hc : rcmpI r s ≤ 0
    case' pos =>
      rw [HU4.out hc]
    case' neg =>
      skip
    all_goals
      clear HU4
      generalize rcmpI r s = cv1 at *
      go_wp2_with fail
      refine (qsign_any _ r _ _ HP5.out (by omega)).mono ?_
      rintro e w6 ⟨rfl, hb6⟩
      obtain ⟨p0, q0⟩ := bcell hb6 w.heap.size (by omega)
      obtain ⟨p2, q2⟩ := bcell hb6 w1.heap.size (by omega)
      have hb06 := hb05.trans (hb6.mono hb05.size)
      have HV6 := Lib.hid (HV5.out.below hb6)
      have HP6 := Lib.hid (HP5.out.below hb6)
      clear hb6 hb05
      generalize rsgI r = sg at *
      go_wp2_with fail
      refine (qcmp_any _ _ r _ 1048576 2 _ HP6.out HV6.out (by omega) (by omega) (by omega)).mono ?_
      rintro e w7 ⟨rfl, hb7⟩
      have hb07 := hb06.trans (hb7.mono hb06.size)
      generalize rcmpI r (Rat.divInt 1 1) = cv at *
      by_cases hcv : 0 ≤ cv
      all_goals
        go_wp2_with fail
        refine (awake_any _).mono ?_
        rintro e w8 ⟨rfl, hb8⟩
        go_wp2_with fail
        go_ret
        exact ⟨rfl, hb07.trans (hb8.mono hb07.size)⟩
set_option maxHeartbeats 4000000 in
theorem drRanges_c (d : UInt64) (n m : Int) (v u : Value) (r s : Rat) (w : World) (hv : RatV w v r 1048576) (hu : RatV w u s 1048576) (h1 : 1 ≤ n) (h2 : n ≤ 2147483648) (h3 : n ≤ m) (h4 : m ≤ 2147483648) :
    Calls Try.prog 7 #[.int .u64 (d.toNat : Int), .int .i64 n, .int .i64 m, v, u] w fun e w' => e = .returned (.bool true) ∧ Below w.heap.size w w' := by
  have HV := Lib.hid hv
  have HU := Lib.hid hu
  obtain ⟨p, q, ⟨neg, a', len', cap', xs, a, len, cap, ys, rfl, -, -, -, -, -, -⟩, -⟩ := hv
  obtain ⟨p', q', ⟨neg', b', lem', cbp', xs', b, lem, cbp, ys', rfl, -, -, -, -, -, -⟩, -⟩ := hu
  have hb0 : Below w.heap.size w ((w.alloc (.cells #[.bool neg, .slice a' len' cap', .slice a len cap] 29)).alloc (.cells #[.bool neg', .slice b' lem' cbp', .slice b lem cbp] 29)) := ((Below.refl _ _).alloc (Nat.le_refl _) _).alloc (by simp) _
  have HU1 := Lib.hid (fun (h : chB d r = true) (h2 : rcmpI r s ≤ 0) => ch_up h h2)
  have HU2 := Lib.hid (fun (h : chB d r = true) => ch_pos h)
  have HU3 := Lib.hid (fun (h : chB d r = false) => ch_one h)
  have E2 := Lib.hid (belS_yes (d := d) (badN_no (n := n) h1 h2))
  have hbd := belD_bd (d := d) h1 h2
  have hbm := belD_mono (d := d) (n := n) (m := m)
  have hle := hbm h1 h3 h4
  clear hbm
  go_enter Try.func7, Try.ntmps7
  go_wp2_with fail
  refine (next_draw d _).mono ?_
  rintro e w' ⟨rfl, rfl⟩
  go_wp2_with fail
  refine (below_draw d n _).mono ?_
  rintro e w' ⟨rfl, rfl⟩
  rw [E2.out]
  generalize belD d n = x at *
  go_wp2_with fail
  refine (below_draw d m _).mono ?_
  rintro e w' ⟨rfl, rfl⟩
  generalize belD d m = yy at *
  go_wp2_with fail
  refine (qof_any 1 1 _ (by omega) (by omega) (by omega) (by omega) (by omega)).mono ?_
  rintro e w1 ⟨v1, rfl, hv1, hsz1, hb1⟩
  have HV1 := Lib.hid (hv1.raw hsz1)
  obtain ⟨x', l', k', y, l, k, rfl, -, -, -, -⟩ := hv1
  have hb01 := hb0.trans (hb1.mono (by simp; omega))
  have k00 : w1.cell? ⟨w.heap.size, 0, none⟩ = some (.bool neg) := by rw [(bcell hb1 w.heap.size (by simp; omega)).1]; go_simp
  have k01 : w1.cell? ⟨w.heap.size, 1, none⟩ = some (.slice a' len' cap') := by rw [(bcell hb1 w.heap.size (by simp; omega)).1]; go_simp
  have k02 : w1.cell? ⟨w.heap.size, 2, none⟩ = some (.slice a len cap) := by rw [(bcell hb1 w.heap.size (by simp; omega)).1]; go_simp
  have k10 : w1.cell? ⟨w.heap.size + 1, 0, none⟩ = some (.bool neg') := by rw [(bcell hb1 (w.heap.size + 1) (by simp)).1]; go_simp
  have k11 : w1.cell? ⟨w.heap.size + 1, 1, none⟩ = some (.slice b' lem' cbp') := by rw [(bcell hb1 (w.heap.size + 1) (by simp)).1]; go_simp
  have k12 : w1.cell? ⟨w.heap.size + 1, 2, none⟩ = some (.slice b lem cbp) := by rw [(bcell hb1 (w.heap.size + 1) (by simp)).1]; go_simp
  have hlt0 : w.heap.size < w1.heap.size := by have := hb1.size; simp at this; omega
  have hlt1 : w.heap.size + 1 < w1.heap.size := by have := hb1.size; simp at this; omega
  generalize decide ((Rat.divInt 1 1).num < 0) = dn at *
  have hb2 : Below w1.heap.size w1 (w1.alloc (.cells #[.bool dn, .slice x' l' k', .slice y l k] 29)) := (Below.refl _ _).alloc (Nat.le_refl _) _
  have HV2 := Lib.hid (HV1.out.below hb2)
  have hb02 := hb01.trans (hb2.mono hb01.size)
  have HP2 := Lib.hid (HV.out.below hb02)
  clear hsz1 hb1 hb01
  go_wp2_with fail
  refine (chance_draw d _ r _ _ HP2.out (by omega) (by omega)).mono ?_
  rintro e w3 ⟨rfl, hb3⟩
  have hb03 := hb02.trans (hb3.mono hb02.size)
  have HV3 := Lib.hid (HV2.out.below hb3)
  have m00 : w3.cell? ⟨w.heap.size, 0, none⟩ = some (.bool neg) := by rw [(bcell hb3 w.heap.size (by simp; omega)).1]; go_simp
  have m01 : w3.cell? ⟨w.heap.size, 1, none⟩ = some (.slice a' len' cap') := by rw [(bcell hb3 w.heap.size (by simp; omega)).1]; go_simp
  have m02 : w3.cell? ⟨w.heap.size, 2, none⟩ = some (.slice a len cap) := by rw [(bcell hb3 w.heap.size (by simp; omega)).1]; go_simp
  have m10 : w3.cell? ⟨w.heap.size + 1, 0, none⟩ = some (.bool neg') := by rw [(bcell hb3 (w.heap.size + 1) (by simp; omega)).1]; go_simp
  have m11 : w3.cell? ⟨w.heap.size + 1, 1, none⟩ = some (.slice b' lem' cbp') := by rw [(bcell hb3 (w.heap.size + 1) (by simp; omega)).1]; go_simp
  have m12 : w3.cell? ⟨w.heap.size + 1, 2, none⟩ = some (.slice b lem cbp) := by rw [(bcell hb3 (w.heap.size + 1) (by simp; omega)).1]; go_simp
  have m20 : w3.cell? ⟨w1.heap.size, 0, none⟩ = some (.bool dn) := by rw [(bcell hb3 w1.heap.size (by simp)).1]; go_simp
  have m21 : w3.cell? ⟨w1.heap.size, 1, none⟩ = some (.slice x' l' k') := by rw [(bcell hb3 w1.heap.size (by simp)).1]; go_simp
  have m22 : w3.cell? ⟨w1.heap.size, 2, none⟩ = some (.slice y l k) := by rw [(bcell hb3 w1.heap.size (by simp)).1]; go_simp
  have hs3 : w1.heap.size < w3.heap.size := by have := hb3.size; simp at this; omega
  clear k00 k01 k02 k10 k11 k12 hb3 hb02 hb2 HP2 HV2
  have HP3 := Lib.hid (HV.out.below hb03)
  have HQ3 := Lib.hid (HU.out.below hb03)
  go_wp2_with fail
  refine (chance_draw d _ s _ _ HQ3.out (by omega) (by omega)).mono ?_
  rintro e w4 ⟨rfl, hb4⟩
  obtain ⟨c0, f0⟩ := bcell hb4 w.heap.size (by omega)
  obtain ⟨c1, f1⟩ := bcell hb4 (w.heap.size + 1) (by omega)
  obtain ⟨c2, f2⟩ := bcell hb4 w1.heap.size (by omega)
  have hb04 := hb03.trans (hb4.mono hb03.size)
  have HV4 := Lib.hid (HV3.out.below hb4)
  have HP4 := Lib.hid (HP3.out.below hb4)
  have HQ4 := Lib.hid (HQ3.out.below hb4)
  have hs4 := Nat.lt_of_lt_of_le hs3 hb4.size
  clear hb4 hb03 HV3 HP3 HQ3
  cases hA : chB d r
  · have z3 := HU3.out hA
    clear HU1 HU2 HU3 hA
    go_wp2_with fail
    refine (qsign_any _ r _ _ HP4.out (by omega)).mono ?_
    rintro e w5 ⟨rfl, hb5⟩
    obtain ⟨o0, g0⟩ := bcell hb5 w.heap.size (by omega)
    obtain ⟨o2, g2⟩ := bcell hb5 w1.heap.size (by omega)
    have hb05 := hb04.trans (hb5.mono hb04.size)
    have HV5 := Lib.hid (HV4.out.below hb5)
    have HP5 := Lib.hid (HP4.out.below hb5)
    clear hb5 hb04
    generalize decide (rsgI r ≤ 0) = zs at *
    by_cases hz : rsgI r ≤ 0
    all_goals
      go_wp2_with fail
      refine (qcmp_any _ _ r _ 1048576 2 _ HP5.out HV5.out (by omega) (by omega) (by omega)).mono ?_
      rintro e w6 ⟨rfl, hb6⟩
      have hb06 := hb05.trans (hb6.mono hb05.size)
      generalize rcmpI r (Rat.divInt 1 1) = cv at *
      go_wp2_with fail
      refine (awake_any _).mono ?_
      rintro e w7 ⟨rfl, hb7⟩
      go_wp2_with fail
      go_ret
      exact ⟨rfl, hb06.trans (hb7.mono hb06.size)⟩
  · have z2 := HU2.out hA
    have HU4 := Lib.hid (HU1.out hA)
    clear HU1 HU2 HU3 hA
    go_wp2_with fail
    refine (qcmp_any _ _ r s 1048576 1048576 _ HP4.out HQ4.out (by omega) (by omega) (by omega)).mono ?_
    rintro e w5 ⟨rfl, hb5⟩
    obtain ⟨o0, g0⟩ := bcell hb5 w.heap.size (by omega)
    obtain ⟨o2, g2⟩ := bcell hb5 w1.heap.size (by omega)
    have hb05 := hb04.trans (hb5.mono hb04.size)
    have HV5 := Lib.hid (HV4.out.below hb5)
    have HP5 := Lib.hid (HP4.out.below hb5)
    have hs5 := Nat.lt_of_lt_of_le hs4 hb5.size
    clear hb5 hb04
    by_cases hc : rcmpI r s ≤ 0
    case' pos =>
      rw [HU4.out hc]
    case' neg =>
      skip
    all_goals
      clear HU4
      generalize rcmpI r s = cv1 at *
      go_wp2_with fail
      refine (qsign_any _ r _ _ HP5.out (by omega)).mono ?_
      rintro e w6 ⟨rfl, hb6⟩
      obtain ⟨p0, q0⟩ := bcell hb6 w.heap.size (by omega)
      obtain ⟨p2, q2⟩ := bcell hb6 w1.heap.size (by omega)
      have hb06 := hb05.trans (hb6.mono hb05.size)
      have HV6 := Lib.hid (HV5.out.below hb6)
      have HP6 := Lib.hid (HP5.out.below hb6)
      clear hb6 hb05
      generalize rsgI r = sg at *
      go_wp2_with fail
      refine (qcmp_any _ _ r _ 1048576 2 _ HP6.out HV6.out (by omega) (by omega) (by omega)).mono ?_
      rintro e w7 ⟨rfl, hb7⟩
      have hb07 := hb06.trans (hb7.mono hb06.size)
      generalize rcmpI r (Rat.divInt 1 1) = cv at *
      by_cases hcv : 0 ≤ cv
      all_goals
        go_wp2_with fail
        refine (awake_any _).mono ?_
        rintro e w8 ⟨rfl, hb8⟩
        go_wp2_with fail
        go_ret
        exact ⟨rfl, hb07.trans (hb8.mono hb07.size)⟩
set_option maxHeartbeats 4000000 in
theorem drRanges_d (d : UInt64) (n m : Int) (v u : Value) (r s : Rat) (w : World) (hv : RatV w v r 1048576) (hu : RatV w u s 1048576) (h1 : 1 ≤ n) (h2 : n ≤ 2147483648) (h3 : n ≤ m) (h4 : ¬ m ≤ 2147483648) :
    Calls Try.prog 7 #[.int .u64 (d.toNat : Int), .int .i64 n, .int .i64 m, v, u] w fun e w' => e = .returned (.bool true) ∧ Below w.heap.size w w' := by
  have HV := Lib.hid hv
  have HU := Lib.hid hu
  obtain ⟨p, q, ⟨neg, a', len', cap', xs, a, len, cap, ys, rfl, -, -, -, -, -, -⟩, -⟩ := hv
  obtain ⟨p', q', ⟨neg', b', lem', cbp', xs', b, lem, cbp, ys', rfl, -, -, -, -, -, -⟩, -⟩ := hu
  have hb0 : Below w.heap.size w ((w.alloc (.cells #[.bool neg, .slice a' len' cap', .slice a len cap] 29)).alloc (.cells #[.bool neg', .slice b' lem' cbp', .slice b lem cbp] 29)) := ((Below.refl _ _).alloc (Nat.le_refl _) _).alloc (by simp) _
  have HU1 := Lib.hid (fun (h : chB d r = true) (h2 : rcmpI r s ≤ 0) => ch_up h h2)
  have HU2 := Lib.hid (fun (h : chB d r = true) => ch_pos h)
  have HU3 := Lib.hid (fun (h : chB d r = false) => ch_one h)
  have E2 := Lib.hid (belS_yes (d := d) (badN_no (n := n) h1 h2))
  have hbd := belD_bd (d := d) h1 h2
  have hbm := belD_mono (d := d) (n := n) (m := m)
  clear hbm
  go_enter Try.func7, Try.ntmps7
  go_wp2_with fail
  refine (next_draw d _).mono ?_
  rintro e w' ⟨rfl, rfl⟩
  go_wp2_with fail
  refine (below_draw d n _).mono ?_
  rintro e w' ⟨rfl, rfl⟩
  rw [E2.out]
  generalize belD d n = x at *
  go_wp2_with fail
  refine (below_draw d m _).mono ?_
  rintro e w' ⟨rfl, rfl⟩
  generalize belD d m = yy at *
  go_wp2_with fail
  refine (qof_any 1 1 _ (by omega) (by omega) (by omega) (by omega) (by omega)).mono ?_
  rintro e w1 ⟨v1, rfl, hv1, hsz1, hb1⟩
  have HV1 := Lib.hid (hv1.raw hsz1)
  obtain ⟨x', l', k', y, l, k, rfl, -, -, -, -⟩ := hv1
  have hb01 := hb0.trans (hb1.mono (by simp; omega))
  have k00 : w1.cell? ⟨w.heap.size, 0, none⟩ = some (.bool neg) := by rw [(bcell hb1 w.heap.size (by simp; omega)).1]; go_simp
  have k01 : w1.cell? ⟨w.heap.size, 1, none⟩ = some (.slice a' len' cap') := by rw [(bcell hb1 w.heap.size (by simp; omega)).1]; go_simp
  have k02 : w1.cell? ⟨w.heap.size, 2, none⟩ = some (.slice a len cap) := by rw [(bcell hb1 w.heap.size (by simp; omega)).1]; go_simp
  have k10 : w1.cell? ⟨w.heap.size + 1, 0, none⟩ = some (.bool neg') := by rw [(bcell hb1 (w.heap.size + 1) (by simp)).1]; go_simp
  have k11 : w1.cell? ⟨w.heap.size + 1, 1, none⟩ = some (.slice b' lem' cbp') := by rw [(bcell hb1 (w.heap.size + 1) (by simp)).1]; go_simp
  have k12 : w1.cell? ⟨w.heap.size + 1, 2, none⟩ = some (.slice b lem cbp) := by rw [(bcell hb1 (w.heap.size + 1) (by simp)).1]; go_simp
  have hlt0 : w.heap.size < w1.heap.size := by have := hb1.size; simp at this; omega
  have hlt1 : w.heap.size + 1 < w1.heap.size := by have := hb1.size; simp at this; omega
  generalize decide ((Rat.divInt 1 1).num < 0) = dn at *
  have hb2 : Below w1.heap.size w1 (w1.alloc (.cells #[.bool dn, .slice x' l' k', .slice y l k] 29)) := (Below.refl _ _).alloc (Nat.le_refl _) _
  have HV2 := Lib.hid (HV1.out.below hb2)
  have hb02 := hb01.trans (hb2.mono hb01.size)
  have HP2 := Lib.hid (HV.out.below hb02)
  clear hsz1 hb1 hb01
  go_wp2_with fail
  refine (chance_draw d _ r _ _ HP2.out (by omega) (by omega)).mono ?_
  rintro e w3 ⟨rfl, hb3⟩
  have hb03 := hb02.trans (hb3.mono hb02.size)
  have HV3 := Lib.hid (HV2.out.below hb3)
  have m00 : w3.cell? ⟨w.heap.size, 0, none⟩ = some (.bool neg) := by rw [(bcell hb3 w.heap.size (by simp; omega)).1]; go_simp
  have m01 : w3.cell? ⟨w.heap.size, 1, none⟩ = some (.slice a' len' cap') := by rw [(bcell hb3 w.heap.size (by simp; omega)).1]; go_simp
  have m02 : w3.cell? ⟨w.heap.size, 2, none⟩ = some (.slice a len cap) := by rw [(bcell hb3 w.heap.size (by simp; omega)).1]; go_simp
  have m10 : w3.cell? ⟨w.heap.size + 1, 0, none⟩ = some (.bool neg') := by rw [(bcell hb3 (w.heap.size + 1) (by simp; omega)).1]; go_simp
  have m11 : w3.cell? ⟨w.heap.size + 1, 1, none⟩ = some (.slice b' lem' cbp') := by rw [(bcell hb3 (w.heap.size + 1) (by simp; omega)).1]; go_simp
  have m12 : w3.cell? ⟨w.heap.size + 1, 2, none⟩ = some (.slice b lem cbp) := by rw [(bcell hb3 (w.heap.size + 1) (by simp; omega)).1]; go_simp
  have m20 : w3.cell? ⟨w1.heap.size, 0, none⟩ = some (.bool dn) := by rw [(bcell hb3 w1.heap.size (by simp)).1]; go_simp
  have m21 : w3.cell? ⟨w1.heap.size, 1, none⟩ = some (.slice x' l' k') := by rw [(bcell hb3 w1.heap.size (by simp)).1]; go_simp
  have m22 : w3.cell? ⟨w1.heap.size, 2, none⟩ = some (.slice y l k) := by rw [(bcell hb3 w1.heap.size (by simp)).1]; go_simp
  have hs3 : w1.heap.size < w3.heap.size := by have := hb3.size; simp at this; omega
  clear k00 k01 k02 k10 k11 k12 hb3 hb02 hb2 HP2 HV2
  have HP3 := Lib.hid (HV.out.below hb03)
  have HQ3 := Lib.hid (HU.out.below hb03)
  go_wp2_with fail
  refine (chance_draw d _ s _ _ HQ3.out (by omega) (by omega)).mono ?_
  rintro e w4 ⟨rfl, hb4⟩
  obtain ⟨c0, f0⟩ := bcell hb4 w.heap.size (by omega)
  obtain ⟨c1, f1⟩ := bcell hb4 (w.heap.size + 1) (by omega)
  obtain ⟨c2, f2⟩ := bcell hb4 w1.heap.size (by omega)
  have hb04 := hb03.trans (hb4.mono hb03.size)
  have HV4 := Lib.hid (HV3.out.below hb4)
  have HP4 := Lib.hid (HP3.out.below hb4)
  have HQ4 := Lib.hid (HQ3.out.below hb4)
  have hs4 := Nat.lt_of_lt_of_le hs3 hb4.size
  clear hb4 hb03 HV3 HP3 HQ3
  cases hA : chB d r
  · have z3 := HU3.out hA
    clear HU1 HU2 HU3 hA
    go_wp2_with fail
    refine (qsign_any _ r _ _ HP4.out (by omega)).mono ?_
    rintro e w5 ⟨rfl, hb5⟩
    obtain ⟨o0, g0⟩ := bcell hb5 w.heap.size (by omega)
    obtain ⟨o2, g2⟩ := bcell hb5 w1.heap.size (by omega)
    have hb05 := hb04.trans (hb5.mono hb04.size)
    have HV5 := Lib.hid (HV4.out.below hb5)
    have HP5 := Lib.hid (HP4.out.below hb5)
    clear hb5 hb04
    generalize decide (rsgI r ≤ 0) = zs at *
    by_cases hz : rsgI r ≤ 0
    all_goals
      go_wp2_with fail
      refine (qcmp_any _ _ r _ 1048576 2 _ HP5.out HV5.out (by omega) (by omega) (by omega)).mono ?_
      rintro e w6 ⟨rfl, hb6⟩
      have hb06 := hb05.trans (hb6.mono hb05.size)
      generalize rcmpI r (Rat.divInt 1 1) = cv at *
      go_wp2_with fail
      refine (awake_any _).mono ?_
      rintro e w7 ⟨rfl, hb7⟩
      go_wp2_with fail
      go_ret
      exact ⟨rfl, hb06.trans (hb7.mono hb06.size)⟩
  · have z2 := HU2.out hA
    have HU4 := Lib.hid (HU1.out hA)
    clear HU1 HU2 HU3 hA
    go_wp2_with fail
    refine (qcmp_any _ _ r s 1048576 1048576 _ HP4.out HQ4.out (by omega) (by omega) (by omega)).mono ?_
    rintro e w5 ⟨rfl, hb5⟩
    obtain ⟨o0, g0⟩ := bcell hb5 w.heap.size (by omega)
    obtain ⟨o2, g2⟩ := bcell hb5 w1.heap.size (by omega)
    have hb05 := hb04.trans (hb5.mono hb04.size)
    have HV5 := Lib.hid (HV4.out.below hb5)
    have HP5 := Lib.hid (HP4.out.below hb5)
    have hs5 := Nat.lt_of_lt_of_le hs4 hb5.size
    clear hb5 hb04
    by_cases hc : rcmpI r s ≤ 0
    case' pos =>
      rw [HU4.out hc]
    case' neg =>
      skip
    all_goals
      clear HU4
      generalize rcmpI r s = cv1 at *
      go_wp2_with fail
      refine (qsign_any _ r _ _ HP5.out (by omega)).mono ?_
      rintro e w6 ⟨rfl, hb6⟩
      obtain ⟨p0, q0⟩ := bcell hb6 w.heap.size (by omega)
      obtain ⟨p2, q2⟩ := bcell hb6 w1.heap.size (by omega)
      have hb06 := hb05.trans (hb6.mono hb05.size)
      have HV6 := Lib.hid (HV5.out.below hb6)
      have HP6 := Lib.hid (HP5.out.below hb6)
      clear hb6 hb05
      generalize rsgI r = sg at *
      go_wp2_with fail
      refine (qcmp_any _ _ r _ 1048576 2 _ HP6.out HV6.out (by omega) (by omega) (by omega)).mono ?_
      rintro e w7 ⟨rfl, hb7⟩
      have hb07 := hb06.trans (hb7.mono hb06.size)
      generalize rcmpI r (Rat.divInt 1 1) = cv at *
      by_cases hcv : 0 ≤ cv
      all_goals
        go_wp2_with fail
        refine (awake_any _).mono ?_
        rintro e w8 ⟨rfl, hb8⟩
        go_wp2_with fail
        go_ret
        exact ⟨rfl, hb07.trans (hb8.mono hb07.size)⟩
set_option maxHeartbeats 4000000 in
theorem drRanges_e (d : UInt64) (n m : Int) (v u : Value) (r s : Rat) (w : World) (hv : RatV w v r 1048576) (hu : RatV w u s 1048576) (h1 : 1 ≤ n) (h2 : n ≤ 2147483648) (h3 : ¬ n ≤ m) :
    Calls Try.prog 7 #[.int .u64 (d.toNat : Int), .int .i64 n, .int .i64 m, v, u] w fun e w' => e = .returned (.bool true) ∧ Below w.heap.size w w' := by
  have HV := Lib.hid hv
  have HU := Lib.hid hu
  obtain ⟨p, q, ⟨neg, a', len', cap', xs, a, len, cap, ys, rfl, -, -, -, -, -, -⟩, -⟩ := hv
  obtain ⟨p', q', ⟨neg', b', lem', cbp', xs', b, lem, cbp, ys', rfl, -, -, -, -, -, -⟩, -⟩ := hu
  have hb0 : Below w.heap.size w ((w.alloc (.cells #[.bool neg, .slice a' len' cap', .slice a len cap] 29)).alloc (.cells #[.bool neg', .slice b' lem' cbp', .slice b lem cbp] 29)) := ((Below.refl _ _).alloc (Nat.le_refl _) _).alloc (by simp) _
  have HU1 := Lib.hid (fun (h : chB d r = true) (h2 : rcmpI r s ≤ 0) => ch_up h h2)
  have HU2 := Lib.hid (fun (h : chB d r = true) => ch_pos h)
  have HU3 := Lib.hid (fun (h : chB d r = false) => ch_one h)
  have E2 := Lib.hid (belS_yes (d := d) (badN_no (n := n) h1 h2))
  have hbd := belD_bd (d := d) h1 h2
  have hbm := belD_mono (d := d) (n := n) (m := m)
  clear hbm
  go_enter Try.func7, Try.ntmps7
  go_wp2_with fail
  refine (next_draw d _).mono ?_
  rintro e w' ⟨rfl, rfl⟩
  go_wp2_with fail
  refine (below_draw d n _).mono ?_
  rintro e w' ⟨rfl, rfl⟩
  rw [E2.out]
  generalize belD d n = x at *
  go_wp2_with fail
  refine (below_draw d m _).mono ?_
  rintro e w' ⟨rfl, rfl⟩
  generalize belD d m = yy at *
  go_wp2_with fail
  refine (qof_any 1 1 _ (by omega) (by omega) (by omega) (by omega) (by omega)).mono ?_
  rintro e w1 ⟨v1, rfl, hv1, hsz1, hb1⟩
  have HV1 := Lib.hid (hv1.raw hsz1)
  obtain ⟨x', l', k', y, l, k, rfl, -, -, -, -⟩ := hv1
  have hb01 := hb0.trans (hb1.mono (by simp; omega))
  have k00 : w1.cell? ⟨w.heap.size, 0, none⟩ = some (.bool neg) := by rw [(bcell hb1 w.heap.size (by simp; omega)).1]; go_simp
  have k01 : w1.cell? ⟨w.heap.size, 1, none⟩ = some (.slice a' len' cap') := by rw [(bcell hb1 w.heap.size (by simp; omega)).1]; go_simp
  have k02 : w1.cell? ⟨w.heap.size, 2, none⟩ = some (.slice a len cap) := by rw [(bcell hb1 w.heap.size (by simp; omega)).1]; go_simp
  have k10 : w1.cell? ⟨w.heap.size + 1, 0, none⟩ = some (.bool neg') := by rw [(bcell hb1 (w.heap.size + 1) (by simp)).1]; go_simp
  have k11 : w1.cell? ⟨w.heap.size + 1, 1, none⟩ = some (.slice b' lem' cbp') := by rw [(bcell hb1 (w.heap.size + 1) (by simp)).1]; go_simp
  have k12 : w1.cell? ⟨w.heap.size + 1, 2, none⟩ = some (.slice b lem cbp) := by rw [(bcell hb1 (w.heap.size + 1) (by simp)).1]; go_simp
  have hlt0 : w.heap.size < w1.heap.size := by have := hb1.size; simp at this; omega
  have hlt1 : w.heap.size + 1 < w1.heap.size := by have := hb1.size; simp at this; omega
  generalize decide ((Rat.divInt 1 1).num < 0) = dn at *
  have hb2 : Below w1.heap.size w1 (w1.alloc (.cells #[.bool dn, .slice x' l' k', .slice y l k] 29)) := (Below.refl _ _).alloc (Nat.le_refl _) _
  have HV2 := Lib.hid (HV1.out.below hb2)
  have hb02 := hb01.trans (hb2.mono hb01.size)
  have HP2 := Lib.hid (HV.out.below hb02)
  clear hsz1 hb1 hb01
  go_wp2_with fail
  refine (chance_draw d _ r _ _ HP2.out (by omega) (by omega)).mono ?_
  rintro e w3 ⟨rfl, hb3⟩
  have hb03 := hb02.trans (hb3.mono hb02.size)
  have HV3 := Lib.hid (HV2.out.below hb3)
  have m00 : w3.cell? ⟨w.heap.size, 0, none⟩ = some (.bool neg) := by rw [(bcell hb3 w.heap.size (by simp; omega)).1]; go_simp
  have m01 : w3.cell? ⟨w.heap.size, 1, none⟩ = some (.slice a' len' cap') := by rw [(bcell hb3 w.heap.size (by simp; omega)).1]; go_simp
  have m02 : w3.cell? ⟨w.heap.size, 2, none⟩ = some (.slice a len cap) := by rw [(bcell hb3 w.heap.size (by simp; omega)).1]; go_simp
  have m10 : w3.cell? ⟨w.heap.size + 1, 0, none⟩ = some (.bool neg') := by rw [(bcell hb3 (w.heap.size + 1) (by simp; omega)).1]; go_simp
  have m11 : w3.cell? ⟨w.heap.size + 1, 1, none⟩ = some (.slice b' lem' cbp') := by rw [(bcell hb3 (w.heap.size + 1) (by simp; omega)).1]; go_simp
  have m12 : w3.cell? ⟨w.heap.size + 1, 2, none⟩ = some (.slice b lem cbp) := by rw [(bcell hb3 (w.heap.size + 1) (by simp; omega)).1]; go_simp
  have m20 : w3.cell? ⟨w1.heap.size, 0, none⟩ = some (.bool dn) := by rw [(bcell hb3 w1.heap.size (by simp)).1]; go_simp
  have m21 : w3.cell? ⟨w1.heap.size, 1, none⟩ = some (.slice x' l' k') := by rw [(bcell hb3 w1.heap.size (by simp)).1]; go_simp
  have m22 : w3.cell? ⟨w1.heap.size, 2, none⟩ = some (.slice y l k) := by rw [(bcell hb3 w1.heap.size (by simp)).1]; go_simp
  have hs3 : w1.heap.size < w3.heap.size := by have := hb3.size; simp at this; omega
  clear k00 k01 k02 k10 k11 k12 hb3 hb02 hb2 HP2 HV2
  have HP3 := Lib.hid (HV.out.below hb03)
  have HQ3 := Lib.hid (HU.out.below hb03)
  go_wp2_with fail
  refine (chance_draw d _ s _ _ HQ3.out (by omega) (by omega)).mono ?_
  rintro e w4 ⟨rfl, hb4⟩
  obtain ⟨c0, f0⟩ := bcell hb4 w.heap.size (by omega)
  obtain ⟨c1, f1⟩ := bcell hb4 (w.heap.size + 1) (by omega)
  obtain ⟨c2, f2⟩ := bcell hb4 w1.heap.size (by omega)
  have hb04 := hb03.trans (hb4.mono hb03.size)
  have HV4 := Lib.hid (HV3.out.below hb4)
  have HP4 := Lib.hid (HP3.out.below hb4)
  have HQ4 := Lib.hid (HQ3.out.below hb4)
  have hs4 := Nat.lt_of_lt_of_le hs3 hb4.size
  clear hb4 hb03 HV3 HP3 HQ3
  cases hA : chB d r
  · have z3 := HU3.out hA
    clear HU1 HU2 HU3 hA
    go_wp2_with fail
    refine (qsign_any _ r _ _ HP4.out (by omega)).mono ?_
    rintro e w5 ⟨rfl, hb5⟩
    obtain ⟨o0, g0⟩ := bcell hb5 w.heap.size (by omega)
    obtain ⟨o2, g2⟩ := bcell hb5 w1.heap.size (by omega)
    have hb05 := hb04.trans (hb5.mono hb04.size)
    have HV5 := Lib.hid (HV4.out.below hb5)
    have HP5 := Lib.hid (HP4.out.below hb5)
    clear hb5 hb04
    generalize decide (rsgI r ≤ 0) = zs at *
    by_cases hz : rsgI r ≤ 0
    all_goals
      go_wp2_with fail
      refine (qcmp_any _ _ r _ 1048576 2 _ HP5.out HV5.out (by omega) (by omega) (by omega)).mono ?_
      rintro e w6 ⟨rfl, hb6⟩
      have hb06 := hb05.trans (hb6.mono hb05.size)
      generalize rcmpI r (Rat.divInt 1 1) = cv at *
      go_wp2_with fail
      refine (awake_any _).mono ?_
      rintro e w7 ⟨rfl, hb7⟩
      go_wp2_with fail
      go_ret
      exact ⟨rfl, hb06.trans (hb7.mono hb06.size)⟩
  · have z2 := HU2.out hA
    have HU4 := Lib.hid (HU1.out hA)
    clear HU1 HU2 HU3 hA
    go_wp2_with fail
    refine (qcmp_any _ _ r s 1048576 1048576 _ HP4.out HQ4.out (by omega) (by omega) (by omega)).mono ?_
    rintro e w5 ⟨rfl, hb5⟩
    obtain ⟨o0, g0⟩ := bcell hb5 w.heap.size (by omega)
    obtain ⟨o2, g2⟩ := bcell hb5 w1.heap.size (by omega)
    have hb05 := hb04.trans (hb5.mono hb04.size)
    have HV5 := Lib.hid (HV4.out.below hb5)
    have HP5 := Lib.hid (HP4.out.below hb5)
    have hs5 := Nat.lt_of_lt_of_le hs4 hb5.size
    clear hb5 hb04
    by_cases hc : rcmpI r s ≤ 0
    case' pos =>
      rw [HU4.out hc]
    case' neg =>
      skip
    all_goals
      clear HU4
      generalize rcmpI r s = cv1 at *
      go_wp2_with fail
      refine (qsign_any _ r _ _ HP5.out (by omega)).mono ?_
      rintro e w6 ⟨rfl, hb6⟩
      obtain ⟨p0, q0⟩ := bcell hb6 w.heap.size (by omega)
      obtain ⟨p2, q2⟩ := bcell hb6 w1.heap.size (by omega)
      have hb06 := hb05.trans (hb6.mono hb05.size)
      have HV6 := Lib.hid (HV5.out.below hb6)
      have HP6 := Lib.hid (HP5.out.below hb6)
      clear hb6 hb05
      generalize rsgI r = sg at *
      go_wp2_with fail
      refine (qcmp_any _ _ r _ 1048576 2 _ HP6.out HV6.out (by omega) (by omega) (by omega)).mono ?_
      rintro e w7 ⟨rfl, hb7⟩
      have hb07 := hb06.trans (hb7.mono hb06.size)
      generalize rcmpI r (Rat.divInt 1 1) = cv at *
      by_cases hcv : 0 ≤ cv
      all_goals
        go_wp2_with fail
        refine (awake_any _).mono ?_
        rintro e w8 ⟨rfl, hb8⟩
        go_wp2_with fail
        go_ret
        exact ⟨rfl, hb07.trans (hb8.mono hb07.size)⟩
theorem drRanges_calls (d : UInt64) (n m : Int) (v u : Value) (r s : Rat) (w : World) (hv : RatV w v r 1048576) (hu : RatV w u s 1048576) :
    Calls Try.prog 7 #[.int .u64 (d.toNat : Int), .int .i64 n, .int .i64 m, v, u] w fun e w' => e = .returned (.bool true) ∧ Below w.heap.size w w' := by
  by_cases h1 : n < 1
  · exact drRanges_a d n m v u r s w hv hu h1
  by_cases h2 : 2147483648 < n
  · exact drRanges_b d n m v u r s w hv hu h2
  by_cases h3 : n ≤ m
  · by_cases h4 : m ≤ 2147483648
    · exact drRanges_c d n m v u r s w hv hu (by omega) (by omega) h3 h4
    · exact drRanges_d d n m v u r s w hv hu (by omega) (by omega) h3 h4
  · exact drRanges_e d n m v u r s w hv hu (by omega) (by omega) h3

theorem drawsRanges_walk {H : Type} {enc : TypeId × Value → H} (W : World) (base : Nat) (args : Array Value) (ds gs : List (DataW H)) (before : List MemPlace)
    (hval : ∀ (j : Nat) t v, Try.f7.params[j]? = some t → args[j]? = some v → Value.okWide Try.prog W .any base t v)
    (hW : DataW.Whole enc Try.prog Try.f7.params.toList Rows.drawsRangesSpec.vars false W args.toList ds gs before)
    (hk : Rows.uptoSmall H (ds ++ gs) = true)
    (_hsz : (DataW.weightsEach Try.prog (Try.f7.params.toList ++ (Rows.OpenSpec.upto Rows.drawsRangesSpec).bare.plain.varTypes Try.prog) (ds ++ gs)).all (· ≤ reachBytes) = true) :
    Calls Try.prog 7 args W fun e w' => e = .returned (.bool true) ∧ Below W.heap.size W w' := by
  obtain ⟨p, q, hA, hV, -, -, -⟩ := hW
  obtain ⟨rfl, -⟩ := trodVars_none hV
  rw [Try.params7] at hA hval
  obtain ⟨v0, vs0, d0, ds0, p0, q0, hargs, rfl, rfl, h0, r0⟩ := trodAll_cons hA
  obtain ⟨v1, vs1, d1, ds1, p1, q1, rfl, rfl, rfl, h1, r1⟩ := trodAll_cons r0
  obtain ⟨v2, vs2, d2, ds2, p2, q2, rfl, rfl, rfl, h2, r2⟩ := trodAll_cons r1
  obtain ⟨v3, vs3, d3, ds3, p3, q3, rfl, rfl, rfl, h3, r3⟩ := trodAll_cons r2
  obtain ⟨v4, vs4, d4, ds4, p4, q4, rfl, rfl, rfl, h4, r4⟩ := trodAll_cons r3
  obtain ⟨rfl, rfl, rfl⟩ := trodAll_nil r4
  obtain rfl : args = #[v0, v1, v2, v3, v4] := by cases args; simp_all
  obtain ⟨d, rfl, -, wd⟩ := open_num Try.underlying23 (hval 0 _ _ rfl rfl) h0
  obtain ⟨n, rfl, -, wn⟩ := open_num Try.underlying3 (hval 1 _ _ rfl rfl) h1
  obtain ⟨m, rfl, -, wm⟩ := open_num Try.underlying3 (hval 2 _ _ rfl rfl) h2
  obtain ⟨r, L, hR, -, hB⟩ := open_ratio (hval 3 _ _ rfl rfl) h3
  obtain ⟨s, M, hS, -, hB'⟩ := open_ratio (hval 4 _ _ rfl rfl) h4
  obtain ⟨d', rfl⟩ := u64_of d wd
  have hk' := of_decide_eq_true hk
  simp only [List.append_nil, Rows.uptoBulkAll] at hk'
  exact drRanges_calls d' n m v3 v4 r s W (hR.mono (by omega)) (hS.mono (by omega))

set_option maxRecDepth 100000 in
theorem drawsRanges_lifted (os : Os) (started : os.Started) (H : Type) (enc : TypeId × Value → H) (F : Stop.Interp) :
    ReturnsInHanded {} Try.checked os 7 .any ((Rows.OpenSpec.upto Rows.drawsRangesSpec).pre6 enc Try.prog Try.f7 Rows.drawsRangesUptoRow.domain false) (((Rows.OpenSpec.upto Rows.drawsRangesSpec).at F).post enc Try.prog Try.f7 false true false false) := by
  refine returnsInHanded_of_cond_sized (C := Try.checked) (s := Rows.OpenSpec.upto Rows.drawsRangesSpec) (k := Rows.uptoSmall) rfl own started (by kernel_rfl) Try.func7
    (OpenSpec.witness (enc := enc) (C := Try.checked) (s := Rows.OpenSpec.upto Rows.drawsRangesSpec) (k := Rows.uptoSmall) rfl false ⟨#[], #[.int .u64 0, .int .i64 0, .int .i64 0, .agg #[.bool false, .slice none 0 0, .slice none 0 0], .agg #[.bool false, .slice none 0 0, .slice none 0 0]], []⟩ 8 (by kernel_rfl) (by kernel_rfl) (by kernel_rfl)
      (x := ([.lit (.int .u64 0), .lit (.int .i64 0), .lit (.int .i64 0), .agg [.agg [.lit (.bool false), .nil], .nil], .agg [.agg [.lit (.bool false), .nil], .nil]], [], [])) (by kernel_rfl) rfl (by kernel_rfl)) ?_
  intro W base args ds gs before hval hW _ hk hsz _
  exact law_post (s := Rows.drawsRangesSpec) rfl (by kernel_rfl) (by kernel_rfl) (fun ds h => match ds, h with | [d0, d1, d2, d3, d4], _ => ⟨rfl, rfl, rfl⟩) hW (drawsRanges_walk W base args ds gs before hval hW hk hsz)

theorem drawsRanges_over : Rows.drawsRangesUptoRow.holds Try.pinned (Rows.OpenSpec.upto Rows.drawsRangesSpec) :=
  OpenClaim.holds_of_cond 7 Try.f7 rfl rfl rfl rfl rfl rfl rfl ⟨rfl, rfl, rfl, rfl, rfl⟩ rfl rfl rfl rfl rfl (by kernel_rfl) Try.func7 (by kernel_rfl)
    (of_decide_eq_true (by kernel_rfl)) (by unfold Func.isWrapper; first | (rw [if_pos (by decide +kernel)]; kernel_rfl) | (rw [if_neg (by decide +kernel)]; exact ⟨rfl, rfl⟩))
    (fun os started H enc _ F => drawsRanges_lifted os started H enc F)

theorem drawsRanges_proved : Rows.DrawsRangesUptoSaid := drawsRanges_over

end Go.Proofs.Ytfkijcimddbjoaa
