/- Counting: what combin.choose, Factorial, Choose and the reference's return, for all arguments. -/
import Derived.Test.YtjmdcabbglappaaNum
namespace Go.Proofs.Ytjmdcabbglappaa
open Go.RowKit

theorem inRange_any (n : Int) (w : World) (b : Bool) (hb : b = decide (0 ≤ n ∧ n ≤ 200)) :
    Calls Try.prog 35 #[.int .i64 n] w fun e w' => e = .returned (.bool b) ∧ w = w' := by
  have HB := Lib.hid hb
  clear hb
  by_cases h1 : 0 ≤ n
  · have d1 : decide (0 ≤ n) = true := by simpa using h1
    have HB2 := Lib.hid (show b = decide (n ≤ 200) by rw [HB.out]; simp [h1])
    clear h1
    go_enter Try.func35, Try.ntmps35
    go_wp2_with fail
    go_ret
    exact ⟨by rw [HB2.out]; rfl, rfl⟩
  · have d1 : decide (0 ≤ n) = false := by simpa using h1
    have HB2 := Lib.hid (show b = false by rw [HB.out]; simp [h1])
    clear h1
    go_enter Try.func35, Try.ntmps35
    go_wp2_with fail
    go_ret
    exact ⟨by rw [HB2.out]; rfl, rfl⟩

theorem chI_nat {n k : Nat} (h : k ≤ n) : chI (n : Int) (k : Int) = ch n k := by
  unfold chI
  rw [if_neg (by omega)]; simp

set_option maxHeartbeats 1000000 in
theorem choose_any (n k : Int) (w : World) (hn0 : 0 ≤ n) (hn : n ≤ 200) :
    Calls Try.prog 32 #[.int .i64 n, .int .i64 k] w fun e w' => ∃ v, e = .returned v ∧ Num w' v (chI n k) ∧ Below w.heap.size w w' := by
  by_cases h1 : k < 0
  · have HZ := Lib.hid (show chI n k = 0 by simp [chI, h1])
    go_enter Try.func32, Try.ntmps32
    go_wp2_with fail
    go_ret
    exact ⟨.slice none 0 0, rfl, by rw [HZ.out]; exact num_nil _, Below.refl _ _⟩
  by_cases h2 : n < k
  · have HZ := Lib.hid (show chI n k = 0 by simp [chI, h2])
    have d1 : decide (k < 0) = false := by simpa using h1
    clear h1
    go_enter Try.func32, Try.ntmps32
    go_wp2_with fail
    go_ret
    exact ⟨.slice none 0 0, rfl, by rw [HZ.out]; exact num_nil _, Below.refl _ _⟩
  obtain ⟨N, rfl⟩ : ∃ N : Nat, n = N := ⟨n.toNat, by omega⟩
  obtain ⟨K, rfl⟩ : ∃ K : Nat, k = K := ⟨k.toNat, by omega⟩
  have hK : K ≤ N := by omega
  have hN : N ≤ 200 := by omega
  have HC := Lib.hid (chI_nat hK)
  clear h1 h2 hn0 hn
  go_enter Try.func32, Try.ntmps32
  go_wp2_with fail
  refine (of_any 1 (by omega) _).mono ?_
  rintro e w1 ⟨v1, rfl, hv1, hb1⟩
  have HV1 := Lib.hid hv1
  clear hv1
  go_wp2_with fail
  go_loopw [5, 6] (fun v i wr => ∃ j : Nat, j ≤ K ∧ i = .int .i64 j ∧ Hid (Num wr v (ch N j)) ∧ Below w.heap.size w wr) (fun _ i _ => K - (intOf i).toNat)
  case atStart => exact ⟨0, by omega, rfl, by unfold Hid; rw [ch_zero]; exact HV1.out, hb1⟩
  case round =>
    obtain ⟨j, hj, rfl, HV, hb⟩ := hrel
    by_cases hlt : j < K
    · have HS1 := Lib.hid (sm_fact' hN (ch_le_fact (n := N) (k := j)))
      have HS2 := Lib.hid (sm_small (n := N - j) (by omega))
      have HS3 : Hid (Sm (ch N j * (N - j))) := by
        unfold Hid
        rw [← ch_mul]
        exact sm_fact (Nat.mul_le_mul (Nat.le_trans ch_le_fact (fact_mono hN)) (by omega))
      have HM := Lib.hid (show ch N j * (N - j) / (j + 1) = ch N (j + 1) by rw [← ch_mul, Nat.mul_div_cancel _ (by omega)])
      have q1 : ((N : Int) - (j : Int)) = ((N - j : Nat) : Int) := by omega
      go_wp2_with fail
      refine (of_any (N - j) (by omega) _).mono ?_
      rintro e w2 ⟨v2, rfl, hv2, hb2⟩
      have HV2 := Lib.hid hv2
      have HVa := Lib.hid (HV.out.below hb2)
      clear hv2
      go_wp2_with fail
      refine (mul_num HVa.out HV2.out HS1.out HS2.out).mono ?_
      rintro e w3 ⟨v3, rfl, hv3, hb3⟩
      have HV3 := Lib.hid hv3
      clear hv3
      go_wp2_with fail
      rw [show ((j : Int) + 1) = ((j + 1 : Nat) : Int) by omega]
      refine (of_any (j + 1) (by omega) _).mono ?_
      rintro e w4 ⟨v4, rfl, hv4, hb4⟩
      have HV4 := Lib.hid hv4
      have HV34 := Lib.hid (HV3.out.below hb4)
      clear hv4
      go_wp2_with fail
      refine (div_num HV34.out HV4.out HS3.out (by omega) (.inr (by omega))).mono ?_
      rintro e w5 ⟨v5, v6, rfl, hv5, _, hb5⟩
      rw [HM.out] at hv5
      have HV5 := Lib.hid hv5
      clear hv5
      have hbn := hb.trans (((hb2.trans (hb3.mono hb2.size)).trans ((hb4.trans (hb5.mono hb4.size)).mono (Nat.le_trans hb2.size hb3.size))).mono hb.size)
      clear q1
      go_wp2_with fail
      go_roundw
      case rel => exact ⟨j + 1, by omega, by go_num, HV5, hbn⟩
      case measure => simp [intOf]; omega
    · obtain rfl : j = K := by omega
      go_wp2_with fail
      go_ret
      exact ⟨u5, rfl, by rw [HC.out]; exact HV.out, hb⟩

theorem Choose_no (n k : Int) (w : World) (h : ¬ (0 ≤ n ∧ n ≤ 200)) :
    Calls Try.prog 16 #[.int .i64 n, .int .i64 k] w fun e w' => e = .returned (.tuple #[.slice none 0 0, .bool false]) ∧ w = w' := by
  have HH := Lib.hid h
  clear h
  go_enter Try.func16, Try.ntmps16
  go_wp2_with fail
  refine (inRange_any n _ false (by simp only [HH.out, decide_false])).mono ?_
  rintro e w1 ⟨rfl, rfl⟩
  go_wp2_with fail
  go_ret2
  exact ⟨rfl, rfl⟩
theorem Choose_any (n k : Int) (w : World) (h1 : 0 ≤ n) (h2 : n ≤ 200) :
    Calls Try.prog 16 #[.int .i64 n, .int .i64 k] w fun e w' => ∃ v, e = .returned (.tuple #[v, .bool true]) ∧ Num w' v (chI n k) ∧ Below w.heap.size w w' := by
  go_enter Try.func16, Try.ntmps16
  go_wp2_with fail
  refine (inRange_any n _ true (by simp [h1, h2])).mono ?_
  rintro e w1 ⟨rfl, rfl⟩
  go_wp2_with fail
  refine (choose_any n k _ h1 h2).mono ?_
  rintro e w1 ⟨v, rfl, hv, hb⟩
  have HV := Lib.hid hv
  clear hv
  go_wp2_with fail
  go_ret2
  exact ⟨v, rfl, HV.out, hb⟩

theorem Factorial_no (n : Int) (w : World) (h : ¬ (0 ≤ n ∧ n ≤ 200)) :
    Calls Try.prog 14 #[.int .i64 n] w fun e w' => e = .returned (.tuple #[.slice none 0 0, .bool false]) ∧ w = w' := by
  have HH := Lib.hid h
  clear h
  go_enter Try.func14, Try.ntmps14
  go_wp2_with fail
  refine (inRange_any n _ false (by simp only [HH.out, decide_false])).mono ?_
  rintro e w1 ⟨rfl, rfl⟩
  go_wp2_with fail
  go_ret2
  exact ⟨rfl, rfl⟩
set_option maxHeartbeats 1000000 in
theorem Factorial_any (n : Nat) (w : World) (hn : n ≤ 200) :
    Calls Try.prog 14 #[.int .i64 (n : Int)] w fun e w' => ∃ v, e = .returned (.tuple #[v, .bool true]) ∧ Num w' v (fact n) ∧ Below w.heap.size w w' := by
  go_enter Try.func14, Try.ntmps14
  go_wp2_with fail
  refine (inRange_any n _ true (by simp; omega)).mono ?_
  rintro e w1 ⟨rfl, rfl⟩
  go_wp2_with fail
  refine (of_any 1 (by omega) _).mono ?_
  rintro e w1 ⟨v1, rfl, hv1, hb1⟩
  have HV1 := Lib.hid hv1
  clear hv1
  go_wp2_with fail
  go_loopw [4, 5] (fun v i wr => ∃ j : Nat, 1 ≤ j ∧ (j ≤ n ∨ j = 1) ∧ i = .int .i64 ((j + 1 : Nat) : Int) ∧ Hid (Num wr v (fact j)) ∧ Below w.heap.size w wr) (fun _ i _ => n + 1 - (intOf i).toNat)
  case atStart => exact ⟨1, by omega, by omega, rfl, HV1.out, hb1⟩
  case round =>
    obtain ⟨j, hj1, hj, rfl, HV, hb⟩ := hrel
    by_cases hlt : j + 1 ≤ n
    · have HS1 := Lib.hid (sm_fact' (n := j) (by omega) (Nat.le_refl _))
      have HS2 := Lib.hid (sm_small (n := j + 1) (by omega))
      have hj' : j ≤ 200 := by omega
      clear hj
      go_wp2_with fail
      rw [show ((j : Int) + 1) = ((j + 1 : Nat) : Int) by omega]
      refine (of_any (j + 1) (by omega) _).mono ?_
      rintro e w2 ⟨v2, rfl, hv2, hb2⟩
      have HV2 := Lib.hid hv2
      have HVa := Lib.hid (HV.out.below hb2)
      clear hv2
      go_wp2_with fail
      refine (mul_num HVa.out HV2.out HS1.out HS2.out).mono ?_
      rintro e w3 ⟨v3, rfl, hv3, hb3⟩
      have HV3 := Lib.hid hv3
      clear hv3
      have hbn := hb.trans ((hb2.trans (hb3.mono hb2.size)).mono hb.size)
      go_wp2_with fail
      go_roundw
      case rel => exact ⟨j + 1, by omega, by omega, by go_num, HV3, hbn⟩
      case measure => simp [intOf]; omega
    · have HE : Hid (fact j = fact n) := by
        unfold Hid
        rcases hj with hj | hj
        · rw [show j = n by omega]
        · subst hj
          rcases Nat.lt_or_ge n 1 with h | h
          · rw [show n = 0 by omega]; rfl
          · rw [show n = 1 by omega]
      clear hj
      go_wp2_with fail
      go_ret2
      exact ⟨u4, rfl, by rw [← HE.out]; exact HV.out, hb⟩

/-! ### The reference -/
theorem one_any (w : World) : Calls Try.prog 46 #[] w fun e w' => ∃ v, e = .returned v ∧ Num w' v 1 ∧ Below w.heap.size w w' := by
  go_enter Try.func46, Try.ntmps46
  go_wp2_with fail
  refine (rof_any 1 (by omega) _).mono ?_
  rintro e w1 ⟨v1, rfl, hv1, hb1⟩
  have HV1 := Lib.hid hv1
  clear hv1
  go_wp2_with fail
  go_ret
  exact ⟨v1, rfl, HV1.out, hb1⟩
set_option maxHeartbeats 1000000 in
theorem product_any (lo m hi : Nat) (w : World) (hm : lo + m = hi + 1) (hlo : 1 ≤ lo) (hs : hi ≤ 200) :
    Calls Try.prog 33 #[.int .i64 (lo : Int), .int .i64 (hi : Int)] w fun e w' => ∃ v, e = .returned v ∧ Num w' v (rise lo m) ∧ Below w.heap.size w w' := by
  have HSm : Hid (∀ j, j ≤ m → Sm (rise lo j)) := fun j hj => by
    have h := rise_le (n := hi) (k := m) hj (by omega)
    rw [show hi - m + 1 = lo by omega] at h
    exact sm_fact' hs h
  go_enter Try.func33, Try.ntmps33
  go_wp2_with fail
  refine (one_any _).mono ?_
  rintro e w1 ⟨v1, rfl, hv1, hb1⟩
  have HV1 := Lib.hid hv1
  clear hv1
  go_wp2_with fail
  go_loopw [5, 6] (fun v i wr => ∃ j : Nat, j ≤ m ∧ i = .int .i64 ((lo + j : Nat) : Int) ∧ Hid (Num wr v (rise lo j)) ∧ Below w.heap.size w wr) (fun _ i _ => hi + 1 - (intOf i).toNat)
  case atStart => exact ⟨0, by omega, rfl, HV1.out, hb1⟩
  case round =>
    obtain ⟨j, hj, rfl, HV, hb⟩ := hrel
    by_cases hlt : j < m
    · have HS1 := Lib.hid (HSm.out j hj)
      have HS2 := Lib.hid (sm_small (n := lo + j) (by omega))
      have hle : lo + j ≤ hi := by omega
      have HM := Lib.hid hm
      clear hm
      go_wp2_with fail
      rw [show ((lo : Int) + j) = ((lo + j : Nat) : Int) by omega]
      refine (rof_any (lo + j) (by omega) _).mono ?_
      rintro e w2 ⟨v2, rfl, hv2, hb2⟩
      have HV2 := Lib.hid hv2
      have HVa := Lib.hid (HV.out.below hb2)
      clear hv2
      go_wp2_with fail
      refine (rmul_num HVa.out HV2.out HS1.out HS2.out).mono ?_
      rintro e w3 ⟨v3, rfl, hv3, hb3⟩
      have HV3 := Lib.hid hv3
      clear hv3
      have hbn := hb.trans ((hb2.trans (hb3.mono hb2.size)).mono hb.size)
      go_wp2_with fail
      go_roundw
      case rel => exact ⟨j + 1, by omega, by go_num, HV3, hbn⟩
      case measure => simp [intOf]; omega
    · obtain rfl : j = m := by omega
      have hgt : ¬ lo + j ≤ hi := by omega
      have HM := Lib.hid hm
      clear hm
      go_wp2_with fail
      go_ret
      exact ⟨u5, rfl, HV.out, hb⟩

theorem rFactorial_no (n : Int) (w : World) (h : ¬ (0 ≤ n ∧ n ≤ 200)) :
    Calls Try.prog 15 #[.int .i64 n] w fun e w' => e = .returned (.tuple #[.slice none 0 0, .bool false]) ∧ w = w' := by
  by_cases h1 : n < 0
  · clear h
    go_enter Try.func15, Try.ntmps15
    go_wp2_with fail
    go_ret2
    exact ⟨rfl, rfl⟩
  · have h2 : 200 < n := by omega
    have d1 : decide (n < 0) = false := by simpa using h1
    clear h h1
    go_enter Try.func15, Try.ntmps15
    go_wp2_with fail
    go_ret2
    exact ⟨rfl, rfl⟩
theorem rFactorial_any (n : Nat) (w : World) (hn : n ≤ 200) :
    Calls Try.prog 15 #[.int .i64 (n : Int)] w fun e w' => ∃ v, e = .returned (.tuple #[v, .bool true]) ∧ Num w' v (fact n) ∧ Below w.heap.size w w' := by
  have d1 : decide ((n : Int) < 0) = false := decide_eq_false (by omega)
  have d2 : decide ((200 : Int) < n) = false := decide_eq_false (by omega)
  go_enter Try.func15, Try.ntmps15
  go_wp2_with fail
  refine (product_any 1 n n _ (by omega) (by omega) hn).mono ?_
  rintro e w1 ⟨v1, rfl, hv1, hb1⟩
  rw [rise_one] at hv1
  have HV1 := Lib.hid hv1
  clear hv1
  go_wp2_with fail
  go_ret2
  exact ⟨v1, rfl, HV1.out, hb1⟩

theorem rChoose_no (n k : Int) (w : World) (h : ¬ (0 ≤ n ∧ n ≤ 200)) :
    Calls Try.prog 17 #[.int .i64 n, .int .i64 k] w fun e w' => e = .returned (.tuple #[.slice none 0 0, .bool false]) ∧ w = w' := by
  by_cases h1 : n < 0
  · clear h
    go_enter Try.func17, Try.ntmps17
    go_wp2_with fail
    go_ret2
    exact ⟨rfl, rfl⟩
  · have h2 : 200 < n := by omega
    have d1 : decide (n < 0) = false := by simpa using h1
    clear h h1
    go_enter Try.func17, Try.ntmps17
    go_wp2_with fail
    go_ret2
    exact ⟨rfl, rfl⟩
set_option maxHeartbeats 1000000 in
theorem rChoose_any (n k : Int) (w : World) (hn0 : 0 ≤ n) (hn : n ≤ 200) :
    Calls Try.prog 17 #[.int .i64 n, .int .i64 k] w fun e w' => ∃ v, e = .returned (.tuple #[v, .bool true]) ∧ Num w' v (chI n k) ∧ Below w.heap.size w w' := by
  have d1 : decide (n < 0) = false := by simpa using hn0
  have d2 : decide (200 < n) = false := by simpa using hn
  by_cases h1 : k < 0
  · have HZ := Lib.hid (show chI n k = 0 by simp [chI, h1])
    go_enter Try.func17, Try.ntmps17
    go_wp2_with fail
    go_ret2
    exact ⟨.slice none 0 0, rfl, by rw [HZ.out]; exact num_nil _, Below.refl _ _⟩
  have d3 : decide (k < 0) = false := by simpa using h1
  by_cases h2 : n < k
  · have HZ := Lib.hid (show chI n k = 0 by simp [chI, h2])
    clear h1
    go_enter Try.func17, Try.ntmps17
    go_wp2_with fail
    go_ret2
    exact ⟨.slice none 0 0, rfl, by rw [HZ.out]; exact num_nil _, Below.refl _ _⟩
  have d4 : decide (n < k) = false := by simpa using h2
  obtain ⟨N, rfl⟩ : ∃ N : Nat, n = N := ⟨n.toNat, by omega⟩
  obtain ⟨K, rfl⟩ : ∃ K : Nat, k = K := ⟨k.toNat, by omega⟩
  have hK : K ≤ N := by omega
  have hN : N ≤ 200 := by omega
  have HC := Lib.hid (show chI (N : Int) (K : Int) = rise (N - K + 1) K / rise 1 K by rw [rise_div hK, chI_nat hK])
  have HS1 : Hid (Sm (rise (N - K + 1) K)) := sm_fact' hN (rise_le (Nat.le_refl _) hK)
  have HS2 : Hid (Sm (rise 1 K)) := by unfold Hid; rw [rise_one]; exact sm_fact' (n := K) (by omega) (Nat.le_refl _)
  have H0 : Hid (rise 1 K ≠ 0) := by unfold Hid; rw [rise_one]; have := fact_pos K; omega
  clear h1 h2 hn0 hn
  have Q1 := Lib.hid (show ((N : Int) - (K : Int) + 1) = ((N - K + 1 : Nat) : Int) by omega)
  go_enter Try.func17, Try.ntmps17
  go_wp2_with fail
  rw [Q1.out]
  refine (product_any (N - K + 1) K N _ (by omega) (by omega) hN).mono ?_
  rintro e w1 ⟨v1, rfl, hv1, hb1⟩
  have HV1 := Lib.hid hv1
  clear hv1
  go_wp2_with fail
  refine (product_any 1 K K _ (by omega) (by omega) (by omega)).mono ?_
  rintro e w2 ⟨v2, rfl, hv2, hb2⟩
  have HV2 := Lib.hid hv2
  have HV12 := Lib.hid (HV1.out.below hb2)
  clear hv2
  go_wp2_with fail
  refine (rdiv_num HV12.out HV2.out HS1.out HS2.out H0.out).mono ?_
  rintro e w3 ⟨v3, v4, rfl, hv3, _, hb3⟩
  rw [← HC.out] at hv3
  have HV3 := Lib.hid hv3
  clear hv3
  go_wp2_with fail
  go_ret2
  exact ⟨v3, rfl, HV3.out, hb1.trans ((hb2.trans (hb3.mono hb2.size)).mono hb1.size)⟩

/-! ### The law's comparison -/
set_option maxHeartbeats 400000 in
theorem limbs_same (v u : Value) (n : Nat) (w : World) (hv : Num w v n) (hu : Num w u n) :
    Calls Try.prog 13 #[v, u] w fun e w' => e = .returned (.bool true) ∧ Below w.heap.size w w' := by
  obtain ⟨a, len, cap, rfl, hv⟩ := hv
  obtain ⟨a', len', cap', rfl, hu⟩ := hu
  obtain rfl : len' = len := by rw [← hv.1, hu.1]
  have hm1 := hv.2.2.1
  have hm2 := hv.2.2.2.1
  unfold maxLen at hm2
  have HV := Lib.hid hv
  have HU := Lib.hid hu
  clear hv hu
  go_enter Try.func13, Try.ntmps13
  go_wp2_with fail
  go_loopw [5] (fun i wr => ∃ k : Nat, k ≤ len' ∧ i = .int .i64 k ∧ Below w.heap.size w wr) (fun i _ => len' - (intOf i).toNat)
  case atStart => exact ⟨0, by omega, rfl, Below.refl _ _⟩
  case round =>
    obtain ⟨k, hk, rfl, hb⟩ := hrel
    by_cases hlt : k < len'
    · obtain ⟨b, off, rfl, _, hcc⟩ := HV.out.2.2.at (k := k) hlt
      obtain ⟨b', off', rfl, _, hcc'⟩ := HU.out.2.2.at (k := k) hlt
      have c1 := hcc k hlt wr hb
      have c2 := hcc' k hlt wr hb
      clear hcc hcc'
      generalize (digs n).getD k 0 = x at *
      go_wp2_with fail
      go_quiet (fail)
      go_wp2_with fail
      go_roundw
      case rel => exact ⟨k + 1, by omega, by go_num, below_drewN hb _⟩
      case measure => simp [intOf]; omega
    · go_wp2_with fail
      go_ret
      exact ⟨rfl, hb⟩

end Go.Proofs.Ytjmdcabbglappaa
