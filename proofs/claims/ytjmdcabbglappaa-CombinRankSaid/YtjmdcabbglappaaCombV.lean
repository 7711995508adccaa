/- Ranking subsets: what the reference's subset and Rank, and the law's rising and ints, return, for all arguments. -/
import Derived.Test.YtjmdcabbglappaaCombT
namespace Go.Proofs.Ytjmdcabbglappaa
open Go.RowKit

def lastOf (l : List Int) (k : Nat) : Int := if k = 0 then -1 else l.getD (k - 1) 0
theorem lastOf_s (l : List Int) (k : Nat) : lastOf l (k + 1) = l.getD k 0 := by simp [lastOf]

theorem rsubset_no (n : Int) (a : Option Addr) (len cap : Nat) (w : World) (h : ¬ (0 ≤ n ∧ n ≤ 200)) :
    Calls Try.prog 43 #[.int .i64 n, .slice a len cap] w fun e w' => e = .returned (.bool false) ∧ w = w' := by
  by_cases h1 : n < 0
  · clear h
    go_enter Try.func43, Try.ntmps43
    go_wp2_with fail
    go_ret
    exact ⟨rfl, rfl⟩
  · have h2 : 200 < n := by omega
    have d1 : decide (n < 0) = false := by simpa using h1
    clear h h1
    go_enter Try.func43, Try.ntmps43
    go_wp2_with fail
    go_ret
    exact ⟨rfl, rfl⟩

set_option maxHeartbeats 1000000 in
theorem rsubset_any (n : Int) (l : List Int) (a : Option Addr) (len cap : Nat) (w : World) (hx : Row .i64 w a len cap l) (h0 : 0 ≤ n) (h200 : n ≤ 200) (b : Bool) (hbb : b = subB n (-1) l) :
    Calls Try.prog 43 #[.int .i64 n, .slice a len cap] w fun e w' => e = .returned (.bool b) ∧ Below w.heap.size w w' := by
  have HX := Lib.hid hx
  have HL := Lib.hid hx.1
  have hm := hx.2.2.1
  have hm2 := hx.2.2.2.1
  unfold maxLen at hm2
  have HB := Lib.hid hbb
  clear hx hbb
  have e1 : decide (n < 0) = false := decide_eq_false (by omega)
  have e2 : decide (200 < n) = false := decide_eq_false (by omega)
  go_enter Try.func43, Try.ntmps43
  go_wp2_with fail
  go_loopw [5] (fun i wr => ∃ (k : Nat), k ≤ len ∧ i = .int .i64 k ∧ -1 ≤ lastOf l k ∧ Hid (b = subB n (lastOf l k) (l.drop k)) ∧ Below w.heap.size w wr) (fun i _ => len - (intOf i).toNat)
  case atStart => exact ⟨0, by omega, rfl, by simp [lastOf], HB.out, Below.refl _ _⟩
  case round =>
    obtain ⟨k, hk, rfl, hlast, HD, hb⟩ := hrel
    by_cases hlt : k < len
    · obtain ⟨bb, off, rfl, _, hcc⟩ := HX.out.2.2.at (k := k) hlt
      have c1 := hcc k hlt wr hb
      have HCp := Lib.hid (fun h : 1 ≤ k => hcc (k - 1) (by omega) wr hb)
      clear hcc
      have HLs := Lib.hid (lastOf_s l k)
      have HLp := Lib.hid (fun h : 1 ≤ k => show lastOf l k = l.getD (k - 1) 0 by simp [lastOf, show k ≠ 0 by omega])
      have HL0 := Lib.hid (fun h : k = 0 => show lastOf l k = -1 by simp [lastOf, h])
      generalize hX1 : l.getD k 0 = x at *
      generalize hY1 : lastOf l k = last at *
      by_cases hy : last < x ∧ x < n
      · have HN := Lib.hid (sub_next (by rw [HL.out]; exact hlt) hX1 hy HD.out)
        have hx1 : 0 ≤ x := by omega
        have d1 : decide (x < 0) = false := decide_eq_false (by omega)
        have d2 : decide (n ≤ x) = false := decide_eq_false (by omega)
        by_cases hk0 : k = 0
        · have d3 : decide (0 < k) = false := decide_eq_false (by omega)
          clear hX1 hY1 hy hk0
          go_wp2_with fail
          go_quiet (fail)
          go_wp2_with fail
          go_roundw
          case rel => exact ⟨k + 1, by omega, by go_num, by rw [HLs.out]; omega, by unfold Hid; rw [HLs.out]; exact HN.out, below_drewN hb _⟩
          case measure => simp [intOf]; omega
        · have hk1 : 1 ≤ k := by omega
          have d3 : decide (0 < k) = true := decide_eq_true (by omega)
          have c2 := HCp.out hk1
          rw [← HLp.out hk1] at c2
          have d4 : decide (x ≤ last) = false := decide_eq_false (by omega)
          have q1 : IntKind.i64.wrap ((k : Int) - 1) = (k : Int) - 1 := IntWalk.i64_in _ (by omega)
          have q2 : 0 ≤ (k : Int) - 1 := by omega
          have q3 : ((k : Int) - 1).toNat = k - 1 := by omega
          have q4 : (k : Int) - 1 < len := by omega
          clear hX1 hY1 hy hk0
          go_wp2_with fail
          go_quiet (fail)
          clear q1 q2 q3 q4
          go_wp2_with fail
          go_roundw
          case rel => exact ⟨k + 1, by omega, by go_num, by rw [HLs.out]; omega, by unfold Hid; rw [HLs.out]; exact HN.out, below_drewN hb _⟩
          case measure => simp [intOf]; omega
      · have HF := Lib.hid (sub_stop (by rw [HL.out]; exact hlt) hX1 hy HD.out)
        by_cases hx0 : x < 0
        · have d1 : decide (x < 0) = true := decide_eq_true hx0
          clear hX1 hY1 hy hx0
          go_wp2_with fail
          go_quiet (fail)
          go_wp2_with fail
          go_ret
          exact ⟨by rw [HF.out]; rfl, below_drewN hb _⟩
        · have d1 : decide (x < 0) = false := decide_eq_false hx0
          by_cases hxn : n ≤ x
          · have d2 : decide (n ≤ x) = true := decide_eq_true hxn
            clear hX1 hY1 hy hx0 hxn
            go_wp2_with fail
            go_quiet (fail)
            go_wp2_with fail
            go_ret
            exact ⟨by rw [HF.out]; rfl, below_drewN hb _⟩
          · have d2 : decide (n ≤ x) = false := decide_eq_false hxn
            have hk1 : 1 ≤ k := by
              rcases Nat.eq_zero_or_pos k with h | h
              · have := HL0.out h; omega
              · exact h
            have d3 : decide (0 < k) = true := decide_eq_true (by omega)
            have c2 := HCp.out hk1
            rw [← HLp.out hk1] at c2
            have d4 : decide (x ≤ last) = true := decide_eq_true (by omega)
            have q1 : IntKind.i64.wrap ((k : Int) - 1) = (k : Int) - 1 := IntWalk.i64_in _ (by omega)
            have q2 : 0 ≤ (k : Int) - 1 := by omega
            have q3 : ((k : Int) - 1).toNat = k - 1 := by omega
            have q4 : (k : Int) - 1 < len := by omega
            clear hX1 hY1 hy hx0 hxn
            go_wp2_with fail
            go_quiet (fail)
            clear q1 q2 q3 q4
            go_wp2_with fail
            go_ret
            exact ⟨by rw [HF.out]; rfl, below_drewN hb _⟩
    · have HF := Lib.hid (sub_end' (by rw [HL.out]; omega) HD.out)
      go_wp2_with fail
      go_ret
      exact ⟨by rw [HF.out]; rfl, hb⟩

set_option maxHeartbeats 1000000 in
theorem rising_any (n : Int) (l : List Int) (a : Option Addr) (len cap : Nat) (w : World) (hx : Row .i64 w a len cap l) (b : Bool) (hbb : b = subB n (-1) l) :
    Calls Try.prog 25 #[.int .i64 n, .int .i64 (len : Int), .slice a len cap] w fun e w' => e = .returned (.bool b) ∧ Below w.heap.size w w' := by
  have HX := Lib.hid hx
  have HL := Lib.hid hx.1
  have hm := hx.2.2.1
  have hm2 := hx.2.2.2.1
  unfold maxLen at hm2
  have HB := Lib.hid hbb
  clear hx hbb
  go_enter Try.func25, Try.ntmps25
  go_wp2_with fail
  go_loopw [7] (fun i wr => ∃ (k : Nat), k ≤ len ∧ i = .int .i64 k ∧ -1 ≤ lastOf l k ∧ Hid (b = subB n (lastOf l k) (l.drop k)) ∧ Below w.heap.size w wr) (fun i _ => len - (intOf i).toNat)
  case atStart => exact ⟨0, by omega, rfl, by simp [lastOf], HB.out, Below.refl _ _⟩
  case round =>
    obtain ⟨k, hk, rfl, hlast, HD, hb⟩ := hrel
    by_cases hlt : k < len
    · obtain ⟨bb, off, rfl, _, hcc⟩ := HX.out.2.2.at (k := k) hlt
      have c1 := hcc k hlt wr hb
      have HCp := Lib.hid (fun h : 1 ≤ k => hcc (k - 1) (by omega) wr hb)
      clear hcc
      have HLs := Lib.hid (lastOf_s l k)
      have HLp := Lib.hid (fun h : 1 ≤ k => show lastOf l k = l.getD (k - 1) 0 by simp [lastOf, show k ≠ 0 by omega])
      have HL0 := Lib.hid (fun h : k = 0 => show lastOf l k = -1 by simp [lastOf, h])
      generalize hX1 : l.getD k 0 = x at *
      generalize hY1 : lastOf l k = last at *
      by_cases hy : last < x ∧ x < n
      · have HN := Lib.hid (sub_next (by rw [HL.out]; exact hlt) hX1 hy HD.out)
        have hx1 : 0 ≤ x := by omega
        have d1 : decide (x < 0) = false := decide_eq_false (by omega)
        have d2 : decide (n ≤ x) = false := decide_eq_false (by omega)
        by_cases hk0 : k = 0
        · have d3 : decide (0 < k) = false := decide_eq_false (by omega)
          clear hX1 hY1 hy hk0
          go_wp2_with fail
          go_quiet (fail)
          go_wp2_with fail
          go_roundw
          case rel => exact ⟨k + 1, by omega, by go_num, by rw [HLs.out]; omega, by unfold Hid; rw [HLs.out]; exact HN.out, below_drewN hb _⟩
          case measure => simp [intOf]; omega
        · have hk1 : 1 ≤ k := by omega
          have d3 : decide (0 < k) = true := decide_eq_true (by omega)
          have c2 := HCp.out hk1
          rw [← HLp.out hk1] at c2
          have d4 : decide (x ≤ last) = false := decide_eq_false (by omega)
          have q1 : IntKind.i64.wrap ((k : Int) - 1) = (k : Int) - 1 := IntWalk.i64_in _ (by omega)
          have q2 : 0 ≤ (k : Int) - 1 := by omega
          have q3 : ((k : Int) - 1).toNat = k - 1 := by omega
          have q4 : (k : Int) - 1 < len := by omega
          clear hX1 hY1 hy hk0
          go_wp2_with fail
          go_quiet (fail)
          clear q1 q2 q3 q4
          go_wp2_with fail
          go_roundw
          case rel => exact ⟨k + 1, by omega, by go_num, by rw [HLs.out]; omega, by unfold Hid; rw [HLs.out]; exact HN.out, below_drewN hb _⟩
          case measure => simp [intOf]; omega
      · have HF := Lib.hid (sub_stop (by rw [HL.out]; exact hlt) hX1 hy HD.out)
        by_cases hx0 : x < 0
        · have d1 : decide (x < 0) = true := decide_eq_true hx0
          clear hX1 hY1 hy hx0
          go_wp2_with fail
          go_quiet (fail)
          go_wp2_with fail
          go_ret
          exact ⟨by rw [HF.out]; rfl, below_drewN hb _⟩
        · have d1 : decide (x < 0) = false := decide_eq_false hx0
          by_cases hxn : n ≤ x
          · have d2 : decide (n ≤ x) = true := decide_eq_true hxn
            clear hX1 hY1 hy hx0 hxn
            go_wp2_with fail
            go_quiet (fail)
            go_wp2_with fail
            go_ret
            exact ⟨by rw [HF.out]; rfl, below_drewN hb _⟩
          · have d2 : decide (n ≤ x) = false := decide_eq_false hxn
            have hk1 : 1 ≤ k := by
              rcases Nat.eq_zero_or_pos k with h | h
              · have := HL0.out h; omega
              · exact h
            have d3 : decide (0 < k) = true := decide_eq_true (by omega)
            have c2 := HCp.out hk1
            rw [← HLp.out hk1] at c2
            have d4 : decide (x ≤ last) = true := decide_eq_true (by omega)
            have q1 : IntKind.i64.wrap ((k : Int) - 1) = (k : Int) - 1 := IntWalk.i64_in _ (by omega)
            have q2 : 0 ≤ (k : Int) - 1 := by omega
            have q3 : ((k : Int) - 1).toNat = k - 1 := by omega
            have q4 : (k : Int) - 1 < len := by omega
            clear hX1 hY1 hy hx0 hxn
            go_wp2_with fail
            go_quiet (fail)
            clear q1 q2 q3 q4
            go_wp2_with fail
            go_ret
            exact ⟨by rw [HF.out]; rfl, below_drewN hb _⟩
    · have HF := Lib.hid (sub_end' (by rw [HL.out]; omega) HD.out)
      go_wp2_with fail
      go_ret
      exact ⟨by rw [HF.out]; rfl, hb⟩

theorem rising_len (n k : Int) (a : Option Addr) (len cap : Nat) (w : World) (h : (len : Int) ≠ k) :
    Calls Try.prog 25 #[.int .i64 n, .int .i64 k, .slice a len cap] w fun e w' => e = .returned (.bool false) ∧ w = w' := by
  have d1 : ((len : Int) != k) = true := by simpa using h
  clear h
  go_enter Try.func25, Try.ntmps25
  go_wp2_with fail
  go_ret
  exact ⟨rfl, rfl⟩

theorem rRank_no (n : Int) (l : List Int) (a : Option Addr) (len cap : Nat) (w : World) (hx : Row .i64 w a len cap l) (h : ¬ (0 ≤ n ∧ n ≤ 200) ∨ subB n (-1) l = false) :
    Calls Try.prog 28 #[.int .i64 n, .slice a len cap] w fun e w' => e = .returned (.tuple #[.slice none 0 0, .bool false]) ∧ Below w.heap.size w w' := by
  have HX := Lib.hid hx
  have HH := Lib.hid h
  clear hx h
  by_cases hr : 0 ≤ n ∧ n ≤ 200
  · have HS := Lib.hid (HH.out.resolve_left (fun h => h hr))
    go_enter Try.func28, Try.ntmps28
    go_wp2_with fail
    refine (rsubset_any n l _ _ _ _ HX.out hr.1 hr.2 false (by rw [HS.out])).mono ?_
    rintro e w1 ⟨rfl, hb1⟩
    go_wp2_with fail
    go_ret2
    exact ⟨rfl, hb1⟩
  · have HR := Lib.hid hr
    clear hr
    go_enter Try.func28, Try.ntmps28
    go_wp2_with fail
    refine (rsubset_no n _ _ _ _ HR.out).mono ?_
    rintro e w1 ⟨rfl, rfl⟩
    go_wp2_with fail
    go_ret2
    exact ⟨rfl, Below.refl _ _⟩

set_option maxHeartbeats 1000000 in
theorem rRank_any (N : Nat) (L : List Nat) (a : Option Addr) (len cap : Nat) (w : World) (hx : Row .i64 w a len cap (nl L)) (hN : N ≤ 200) (hA : asc N 0 L) :
    Calls Try.prog 28 #[.int .i64 (N : Int), .slice a len cap] w fun e w' => ∃ v, e = .returned (.tuple #[v, .bool true]) ∧ Num w' v (rankL N 0 L) ∧ Below w.heap.size w w' := by
  have HX := Lib.hid hx
  have HL := Lib.hid (show L.length = len by rw [← nl_length]; exact hx.1)
  have hm := hx.2.2.1
  have hm2 := hx.2.2.2.1
  unfold maxLen at hm2
  have HA := Lib.hid hA
  have HSub := Lib.hid (show true = subB N (-1) (nl L) by have := asc_subB 0 L hA; simpa using this.symm)
  clear hx hA
  go_enter Try.func28, Try.ntmps28
  go_wp2_with fail
  refine (rsubset_any N _ _ _ _ _ HX.out (by omega) (by omega) true HSub.out).mono ?_
  rintro e w1 ⟨rfl, hb1⟩
  go_wp2_with fail
  go_loopw [6, 7, 8] (fun v t i wr => ∃ (k lo r : Nat), k ≤ len ∧ i = .int .i64 k ∧ t = .int .i64 lo ∧ lo ≤ N ∧ Hid (r ≤ fact 200 * lo) ∧ Hid (r + rankL N lo (L.drop k) = rankL N 0 L) ∧ Hid (asc N lo (L.drop k)) ∧ Hid (Num wr v r) ∧ Below w.heap.size w wr) (fun _ _ i _ => len - (intOf i).toNat)
  case atStart => exact ⟨0, 0, 0, by omega, rfl, rfl, by omega, by simp [Hid], by simp [Hid], HA.out, num_nil _, hb1⟩
  case round =>
    obtain ⟨k, lo, r, hk, rfl, rfl, hlo, HRb, HR, HAk, HV, hb⟩ := hrel
    by_cases hlt : k < len
    · obtain ⟨bb, off, rfl, _, hcc⟩ := HX.out.2.2.at (k := k) hlt
      have HC1 := Lib.hid (hcc k hlt)
      rw [nl_at] at HC1
      clear hcc
      generalize hX1 : L.getD k 0 = x at *
      have HR1 := Lib.hid (rank_out (by rw [HL.out]; exact hlt) hX1 HR.out)
      obtain ⟨hxlo, hxN, hA1⟩ := asc_out (by rw [HL.out]; exact hlt) hX1 HAk.out
      have HA1 := Lib.hid hA1
      rw [HL.out] at HR1
      clear hX1 hA1
      obtain ⟨wo, rfl⟩ : ∃ wo : World, wo = wr := ⟨_, rfl⟩
      go_wp2_with fail
      go_loopw [6, 9] (fun v t wr => ∃ (y r' : Nat), lo ≤ y ∧ y ≤ x ∧ t = .int .i64 y ∧ Hid (r' ≤ fact 200 * y) ∧ Hid (r' + skipS N (len - 1 - k) y (x - y) = r + skipS N (len - 1 - k) lo (x - lo)) ∧ Hid (Num wr v r') ∧ Below w.heap.size w wr) (fun _ t _ => x - (intOf t).toNat)
      case atStart => exact ⟨lo, r, Nat.le_refl _, hxlo, rfl, HRb, rfl, HV, hb⟩
      case round =>
        obtain ⟨y, r', hy1, hy2, rfl, HB, HE, HV', hb'⟩ := hrel
        have c1 := HC1.out wr hb'
        by_cases hyl : y < x
        · have HE1 := Lib.hid (skip_in hyl HE.out)
          have HB1 := Lib.hid (acc_bound (N := len - 1 - k) (a := N - 1 - y) HB.out (by omega))
          have HS1 := Lib.hid (acc_sm HB.out (by omega))
          have HS2 := Lib.hid (sm_fact' (n := N - 1 - y) (by omega) (ch_le_fact (k := len - 1 - k)))
          have HC := Lib.hid (chI_any (N - 1 - y) (len - 1 - k))
          have Q1 := Lib.hid (show ((N : Int) - 1 - y) = ((N - 1 - y : Nat) : Int) by omega)
          have Q2 := Lib.hid (show ((len : Int) - 1 - k) = ((len - 1 - k : Nat) : Int) by omega)
          go_wp2_with fail
          rw [Q1.out, Q2.out]
          refine (rChoose_any _ _ _ (by omega) (by omega)).mono ?_
          rintro e w2 ⟨v2, rfl, hv2, hb2⟩
          rw [HC.out] at hv2
          have HV2 := Lib.hid hv2
          have HVa := Lib.hid (HV'.out.below hb2)
          clear hv2
          go_wp2_with fail
          refine (radd_num HVa.out HV2.out HS1.out HS2.out).mono ?_
          rintro e w3 ⟨v3, rfl, hv3, hb3⟩
          have HV3 := Lib.hid hv3
          clear hv3
          have hbn := hb'.trans ((hb2.trans (hb3.mono hb2.size)).mono hb'.size)
          go_wp2_with fail
          go_roundw
          case rel => exact ⟨y + 1, r' + ch (N - 1 - y) (len - 1 - k), by omega, by omega, by go_num, HB1, HE1, HV3, hbn⟩
          case measure => simp [intOf]; omega
        · obtain rfl : y = x := by omega
          have HE2 := Lib.hid (show r' + rankL N (y + 1) (L.drop (k + 1)) = rankL N 0 L by
            have h1 := HE.out
            rw [Nat.sub_self, skipS, Nat.add_zero] at h1
            rw [h1]; exact HR1.out)
          have HB2 := Lib.hid (show r' ≤ fact 200 * (y + 1) from Nat.le_trans HB.out (Nat.mul_le_mul_left _ (by omega)))
          go_wp2_with fail
          exact ⟨⟨k + 1, y + 1, r', by omega, by go_num, by go_num, by omega, HB2, HE2, HA1, HV', hb'⟩, by simp [intOf]; omega⟩
    · have HE := Lib.hid (show r = rankL N 0 L by have := HR.out; rw [List.drop_of_length_le (by rw [HL.out]; omega)] at this; simpa [rankL] using this)
      go_wp2_with fail
      go_ret2
      exact ⟨u6, rfl, by rw [← HE.out]; exact HV.out, hb⟩

set_option maxHeartbeats 400000 in
theorem ints_same (l : List Int) (a a' : Option Addr) (len cap len' cap' : Nat) (w : World) (hv : Row .i64 w a len cap l) (hu : Row .i64 w a' len' cap' l) :
    Calls Try.prog 23 #[.slice a len cap, .slice a' len' cap'] w fun e w' => e = .returned (.bool true) ∧ Below w.heap.size w w' := by
  obtain rfl : len' = len := by rw [← hv.1, hu.1]
  have hm1 := hv.2.2.1
  have hm2 := hv.2.2.2.1
  unfold maxLen at hm2
  have HV := Lib.hid hv
  have HU := Lib.hid hu
  clear hv hu
  go_enter Try.func23, Try.ntmps23
  go_wp2_with fail
  go_loopw [5] (fun i wr => ∃ k : Nat, k ≤ len' ∧ i = .int .i64 k ∧ Below w.heap.size w wr) (fun i _ => len' - (intOf i).toNat)
  case atStart => exact ⟨0, by omega, rfl, Below.refl _ _⟩
  case round =>
    obtain ⟨k, hk, rfl, hb⟩ := hrel
    by_cases hlt : k < len'
    · obtain ⟨b, off, rfl, _, hcc⟩ := HV.out.2.2.at (k := k) hlt
      obtain ⟨b', off', rfl, _, hcc'⟩ := HU.out.2.2.at (k := k) hlt
      have c1 := hcc k hlt wr hb
      have c2 := hcc' k hlt wr hb
      clear hcc hcc'
      generalize l.getD k 0 = x at *
      go_wp2_with fail
      go_quiet (fail)
      go_wp2_with fail
      go_roundw
      case rel => exact ⟨k + 1, by omega, by go_num, below_drewN hb _⟩
      case measure => simp [intOf]; omega
    · go_wp2_with fail
      go_ret
      exact ⟨rfl, hb⟩

end Go.Proofs.Ytjmdcabbglappaa
