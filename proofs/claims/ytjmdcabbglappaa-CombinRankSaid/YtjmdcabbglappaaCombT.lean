/- Ranking subsets: what combin.isSubset and Rank, and the reference's, return, for all arguments. -/
import Derived.Test.YtjmdcabbglappaaComb
import Derived.Test.YtjmdcabbglappaaCombS
namespace Go.Proofs.Ytjmdcabbglappaa
open Go.RowKit

theorem sub_next {n last x : Int} {l : List Int} {k : Nat} {b : Bool} (hk : k < l.length) (hx : l.getD k 0 = x) (hy : last < x ∧ x < n) (h : b = subB n last (l.drop k)) : b = subB n x (l.drop (k + 1)) := by
  rw [drop_cons l k 0 hk, hx, subB, decide_eq_true hy, Bool.true_and] at h; exact h
theorem sub_stop {n last x : Int} {l : List Int} {k : Nat} {b : Bool} (hk : k < l.length) (hx : l.getD k 0 = x) (hy : ¬ (last < x ∧ x < n)) (h : b = subB n last (l.drop k)) : b = false := by
  rw [drop_cons l k 0 hk, hx, subB, decide_eq_false hy, Bool.false_and] at h; exact h
theorem sub_end' {n last : Int} {l : List Int} {k : Nat} {b : Bool} (hk : l.length ≤ k) (h : b = subB n last (l.drop k)) : b = true := by
  rw [List.drop_of_length_le hk] at h; exact h

set_option maxHeartbeats 400000 in
theorem isSubset_any (n : Int) (l : List Int) (a : Option Addr) (len cap : Nat) (w : World) (hx : Row .i64 w a len cap l) (b : Bool) (hb : b = subB n (-1) l) :
    Calls Try.prog 42 #[.int .i64 n, .slice a len cap] w fun e w' => e = .returned (.bool b) ∧ w = w' := by
  have HX := Lib.hid hx
  have HL := Lib.hid hx.1
  have hm := hx.2.2.1
  have hm2 := hx.2.2.2.1
  unfold maxLen at hm2
  have HB := Lib.hid hb
  clear hx hb
  go_enter Try.func42, Try.ntmps42
  go_wp2_with fail
  go_loop [5, 10] (fun t i => ∃ (k : Nat) (last : Int), k ≤ len ∧ i = .int .i64 k ∧ t = .int .i64 last ∧ Hid (b = subB n last (l.drop k))) (fun _ i => len - (intOf i).toNat)
  case atStart => exact ⟨0, -1, by omega, rfl, rfl, HB.out⟩
  case round =>
    obtain ⟨k, last, hk, rfl, rfl, HD⟩ := hrel
    by_cases hlt : k < len
    · obtain ⟨bb, off, rfl, _, hcc⟩ := HX.out.2.2.at (k := k) hlt
      have c1 := hcc k hlt w (Below.refl _ _)
      clear hcc
      generalize hX1 : l.getD k 0 = x at *
      by_cases hy : last < x ∧ x < n
      · have HN := Lib.hid (sub_next (by rw [HL.out]; exact hlt) hX1 hy HD.out)
        have d1 : decide (x ≤ last) = false := decide_eq_false (by omega)
        have d2 : decide (n ≤ x) = false := decide_eq_false (by omega)
        clear hX1 hy
        go_wp2_with fail
        go_round
        case rel => exact ⟨k + 1, x, by omega, by go_num, rfl, HN⟩
        case measure => simp [intOf]; omega
      · have HF := Lib.hid (sub_stop (by rw [HL.out]; exact hlt) hX1 hy HD.out)
        by_cases h1 : x ≤ last
        case' pos =>
          have d1 : decide (x ≤ last) = true := decide_eq_true h1
          clear hX1 hy h1
        case' neg =>
          have d1 : decide (x ≤ last) = false := decide_eq_false h1
          have d2 : decide (n ≤ x) = true := decide_eq_true (by omega)
          clear hX1 hy h1
        all_goals
          go_wp2_with fail
          go_ret
          exact ⟨by rw [HF.out]; rfl, rfl⟩
    · have HF := Lib.hid (sub_end' (by rw [HL.out]; omega) HD.out)
      go_wp2_with fail
      go_ret
      exact ⟨by rw [HF.out]; rfl, rfl⟩

/-! ### Rank -/
theorem Rank_no (n : Int) (l : List Int) (a : Option Addr) (len cap : Nat) (w : World) (hx : Row .i64 w a len cap l) (h : ¬ (0 ≤ n ∧ n ≤ 200) ∨ subB n (-1) l = false) :
    Calls Try.prog 26 #[.int .i64 n, .slice a len cap] w fun e w' => e = .returned (.tuple #[.slice none 0 0, .bool false]) ∧ w = w' := by
  have HX := Lib.hid hx
  have HH := Lib.hid h
  clear hx h
  by_cases hr : 0 ≤ n ∧ n ≤ 200
  · have HS := Lib.hid (HH.out.resolve_left (fun h => h hr))
    go_enter Try.func26, Try.ntmps26
    go_wp2_with fail
    refine (inRange_any n _ true (by simp [hr])).mono ?_
    rintro e w1 ⟨rfl, rfl⟩
    go_wp2_with fail
    refine (isSubset_any n l _ _ _ _ HX.out false (by rw [HS.out])).mono ?_
    rintro e w1 ⟨rfl, rfl⟩
    go_wp2_with fail
    go_ret2
    exact ⟨rfl, rfl⟩
  · have HR := Lib.hid hr
    clear hr
    go_enter Try.func26, Try.ntmps26
    go_wp2_with fail
    refine (inRange_any n _ false (by simp only [HR.out, decide_false])).mono ?_
    rintro e w1 ⟨rfl, rfl⟩
    go_wp2_with fail
    go_ret2
    exact ⟨rfl, rfl⟩

theorem rank_out {N lo k R r : Nat} {L : List Nat} {x : Nat} (hk : k < L.length) (hx : L.getD k 0 = x) (h : r + rankL N lo (L.drop k) = R) : r + skipS N (L.length - 1 - k) lo (x - lo) + rankL N (x + 1) (L.drop (k + 1)) = R := by
  rw [drop_cons L k 0 hk, hx, rankL, List.length_drop, ← Nat.add_assoc] at h
  rw [show L.length - 1 - k = L.length - (k + 1) by omega]; exact h
theorem asc_out {N lo k : Nat} {L : List Nat} {x : Nat} (hk : k < L.length) (hx : L.getD k 0 = x) (h : asc N lo (L.drop k)) : lo ≤ x ∧ x < N ∧ asc N (x + 1) (L.drop (k + 1)) := by
  rw [drop_cons L k 0 hk, hx] at h; exact h
theorem skip_in {N j v x r R : Nat} (hv : v < x) (h : r + skipS N j v (x - v) = R) : r + ch (N - 1 - v) j + skipS N j (v + 1) (x - (v + 1)) = R := by
  rw [show x - v = (x - (v + 1)) + 1 by omega, skipS, ← Nat.add_assoc] at h; exact h
theorem chI_any (n k : Nat) : chI (n : Int) (k : Int) = ch n k := by
  by_cases h : k ≤ n
  · exact chI_nat h
  · rw [chI, if_pos (by omega), ch_lt n k (by omega)]
theorem acc_bound {r v N a : Nat} (h : r ≤ fact 200 * v) (ha : a ≤ 200) : r + ch a N ≤ fact 200 * (v + 1) := by
  have := Nat.le_trans (ch_le_fact (n := a) (k := N)) (fact_mono ha)
  rw [Nat.mul_add]; omega
theorem acc_sm {r v : Nat} (h : r ≤ fact 200 * v) (hv : v ≤ 200) : Sm r := sm_fact (Nat.le_trans h (Nat.mul_le_mul_left _ hv))

set_option maxHeartbeats 1000000 in
theorem Rank_any (N : Nat) (L : List Nat) (a : Option Addr) (len cap : Nat) (w : World) (hx : Row .i64 w a len cap (nl L)) (hN : N ≤ 200) (hA : asc N 0 L) :
    Calls Try.prog 26 #[.int .i64 (N : Int), .slice a len cap] w fun e w' => ∃ v, e = .returned (.tuple #[v, .bool true]) ∧ Num w' v (rankL N 0 L) ∧ Below w.heap.size w w' := by
  have HX := Lib.hid hx
  have HL := Lib.hid (show L.length = len by rw [← nl_length]; exact hx.1)
  have hm := hx.2.2.1
  have hm2 := hx.2.2.2.1
  unfold maxLen at hm2
  have HA := Lib.hid hA
  have HSub := Lib.hid (show true = subB N (-1) (nl L) by have := asc_subB 0 L hA; simpa using this.symm)
  clear hx hA
  go_enter Try.func26, Try.ntmps26
  go_wp2_with fail
  refine (inRange_any N _ true (by simp; omega)).mono ?_
  rintro e w1 ⟨rfl, rfl⟩
  go_wp2_with fail
  refine (isSubset_any N _ _ _ _ _ HX.out true HSub.out).mono ?_
  rintro e w1 ⟨rfl, rfl⟩
  go_wp2_with fail
  go_loopw [6, 7, 21] (fun v t i wr => ∃ (k lo r : Nat), k ≤ len ∧ i = .int .i64 k ∧ t = .int .i64 lo ∧ lo ≤ N ∧ Hid (r ≤ fact 200 * lo) ∧ Hid (r + rankL N lo (L.drop k) = rankL N 0 L) ∧ Hid (asc N lo (L.drop k)) ∧ Hid (Num wr v r) ∧ Below w.heap.size w wr) (fun _ _ i _ => len - (intOf i).toNat)
  case atStart => exact ⟨0, 0, 0, by omega, rfl, rfl, by omega, by simp [Hid], by simp [Hid], HA.out, num_nil _, Below.refl _ _⟩
  case round =>
    obtain ⟨k, lo, r, hk, rfl, rfl, hlo, HRb, HR, HAk, HV, hb⟩ := hrel
    by_cases hlt : k < len
    · obtain ⟨bb, off, rfl, _, hcc⟩ := HX.out.2.2.at (k := k) hlt
      have c1 := hcc k hlt wr hb
      rw [nl_at] at c1
      clear hcc
      generalize hX1 : L.getD k 0 = x at *
      have HR1 := Lib.hid (rank_out (by rw [HL.out]; exact hlt) hX1 HR.out)
      obtain ⟨hxlo, hxN, hA1⟩ := asc_out (by rw [HL.out]; exact hlt) hX1 HAk.out
      have HA1 := Lib.hid hA1
      rw [HL.out] at HR1
      clear hX1 hA1
      obtain ⟨wo, rfl⟩ : ∃ wo : World, wo = wr := ⟨_, rfl⟩
      go_wp2_with fail
      go_loopw [6, 7] (fun v t wr => ∃ (y r' : Nat), lo ≤ y ∧ y ≤ x ∧ t = .int .i64 y ∧ Hid (r' ≤ fact 200 * y) ∧ Hid (r' + skipS N (len - 1 - k) y (x - y) = r + skipS N (len - 1 - k) lo (x - lo)) ∧ Hid (Num wr v r') ∧ Below w.heap.size w wr) (fun _ t _ => x - (intOf t).toNat)
      case atStart => exact ⟨lo, r, Nat.le_refl _, hxlo, rfl, HRb, rfl, HV, hb⟩
      case round =>
        obtain ⟨y, r', hy1, hy2, rfl, HB, HE, HV', hb'⟩ := hrel
        by_cases hyl : y < x
        · have HE1 := Lib.hid (skip_in hyl HE.out)
          have HB1 := Lib.hid (acc_bound (N := len - 1 - k) (a := N - 1 - y) HB.out (by omega))
          have HS1 := Lib.hid (acc_sm HB.out (by omega))
          have HS2 := Lib.hid (sm_fact' (n := N - 1 - y) (by omega) (ch_le_fact (k := len - 1 - k)))
          have HC := Lib.hid (chI_any (N - 1 - y) (len - 1 - k))
          have Q1 := Lib.hid (show ((N : Int) - 1 - y) = ((N - 1 - y : Nat) : Int) by omega)
          have Q2 := Lib.hid (show ((len : Int) - 1 - k) = ((len - 1 - k : Nat) : Int) by omega)
          go_wp2_with fail
          rw [Q1.out, Q2.out]
          refine (choose_any _ _ _ (by omega) (by omega)).mono ?_
          rintro e w2 ⟨v2, rfl, hv2, hb2⟩
          rw [HC.out] at hv2
          have HV2 := Lib.hid hv2
          have HVa := Lib.hid (HV'.out.below hb2)
          clear hv2
          go_wp2_with fail
          refine (add_num HVa.out HV2.out HS1.out HS2.out).mono ?_
          rintro e w3 ⟨v3, rfl, hv3, hb3⟩
          have HV3 := Lib.hid hv3
          clear hv3
          have hbn := hb'.trans ((hb2.trans (hb3.mono hb2.size)).mono hb'.size)
          go_wp2_with fail
          go_roundw
          case rel => exact ⟨y + 1, r' + ch (N - 1 - y) (len - 1 - k), by omega, by omega, by go_num, HB1, HE1, HV3, hbn⟩
          case measure => simp [intOf]; omega
        · obtain rfl : y = x := by omega
          have HE2 := Lib.hid (show r' + rankL N (y + 1) (L.drop (k + 1)) = rankL N 0 L by
            have h1 := HE.out
            rw [Nat.sub_self, skipS, Nat.add_zero] at h1
            rw [h1]; exact HR1.out)
          have HB2 := Lib.hid (show r' ≤ fact 200 * (y + 1) from Nat.le_trans HB.out (Nat.mul_le_mul_left _ (by omega)))
          go_wp2_with fail
          exact ⟨⟨k + 1, y + 1, r', by omega, by go_num, by go_num, by omega, HB2, HE2, HA1, HV', hb'⟩, by simp [intOf]; omega⟩
    · have HE := Lib.hid (show r = rankL N 0 L by have := HR.out; rw [List.drop_of_length_le (by rw [HL.out]; omega)] at this; simpa [rankL] using this)
      go_wp2_with fail
      go_ret2
      exact ⟨u6, rfl, by rw [← HE.out]; exact HV.out, hb⟩

end Go.Proofs.Ytjmdcabbglappaa
