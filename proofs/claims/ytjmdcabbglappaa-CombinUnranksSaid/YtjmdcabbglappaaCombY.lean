/- Unranking subsets: what the reference's Unrank returns, for all arguments. -/
import Derived.Test.YtjmdcabbglappaaCombX
namespace Go.Proofs.Ytjmdcabbglappaa
open Go.RowKit

set_option maxHeartbeats 400000 in
theorem rUnrank_no (n k : Int) (v : Value) (R : Nat) (w : World) (hv : Lv w v R) (h : UnBad n k R) :
    Calls Try.prog 22 #[.int .i64 n, .int .i64 k, v] w fun e w' => e = .returned (.tuple #[.slice none 0 0, .bool false]) ∧ Below w.heap.size w w' := by
  have HV := Lib.hid hv
  clear hv
  by_cases h1 : n < 0
  · clear h
    go_enter Try.func22, Try.ntmps22
    go_wp2_with fail
    go_ret2
    exact ⟨rfl, Below.refl _ _⟩
  have d1 : decide (n < 0) = false := by simpa using h1
  by_cases h2 : 200 < n
  · clear h
    go_enter Try.func22, Try.ntmps22
    go_wp2_with fail
    go_ret2
    exact ⟨rfl, Below.refl _ _⟩
  have d2 : decide (200 < n) = false := by simpa using h2
  by_cases h3 : k < 0
  · clear h
    go_enter Try.func22, Try.ntmps22
    go_wp2_with fail
    go_ret2
    exact ⟨rfl, Below.refl _ _⟩
  have d3 : decide (k < 0) = false := by simpa using h3
  by_cases h4 : n < k
  · clear h
    go_enter Try.func22, Try.ntmps22
    go_wp2_with fail
    go_ret2
    exact ⟨rfl, Below.refl _ _⟩
  have d4 : decide (n < k) = false := by simpa using h4
  have h5 : chI n k ≤ R := by
    rcases h with h | h | h | h
    · exact absurd ⟨by omega, by omega⟩ h
    · exact absurd h h3
    · exact absurd h h4
    · exact h
  have HC := Lib.hid (show decide (0 ≤ cmpI R (chI n k)) = true by
    rcases cmpI_cases R (chI n k) with ⟨h, h'⟩ | ⟨h, h'⟩ | ⟨h, h'⟩
    · omega
    · rw [h]; rfl
    · rw [h]; rfl)
  have HS := Lib.hid (sm_chI (n := n) (k := k) (by omega))
  have hr1 : 0 ≤ n := by omega
  have hr2 : n ≤ 200 := by omega
  clear h h1 h2 h3 h4 h5
  go_enter Try.func22, Try.ntmps22
  go_wp2_with fail
  refine (rChoose_any n k _ hr1 hr2).mono ?_
  rintro e w1 ⟨v1, rfl, hv1, hb1⟩
  have HV1 := Lib.hid (hv1.lv HS.out)
  have HVa := Lib.hid (HV.out.below hb1)
  clear hv1
  go_wp2_with fail
  refine (rcmp_lv HVa.out HV1.out).mono ?_
  rintro e w2 ⟨rfl, rfl⟩
  have dc := HC.out
  generalize cmpI R (chI n k) = cv at *
  go_wp2_with fail
  go_ret2
  exact ⟨rfl, hb1⟩

set_option maxHeartbeats 2000000 in
theorem rUnrank_any (N K : Nat) (v : Value) (R : Nat) (w : World) (hv : Lv w v R) (hN : N ≤ 200) (hK : K ≤ N) (hR : R < ch N K) :
    Calls Try.prog 22 #[.int .i64 (N : Int), .int .i64 (K : Int), v] w fun e w' => ∃ a n cap, e = .returned (.tuple #[.slice a n cap, .bool true]) ∧ Row .i64 w' a n cap (nl (un N 0 K R)) ∧ Below w.heap.size w w' := by
  have HV := Lib.hid hv
  have HR := Lib.hid hR
  have HF := Lib.hid (un_facts N N 0 K R (by omega) hR)
  have HLt := Lib.hid (asc_lt 0 _ HF.out.1)
  have d0 : decide ((N : Int) < 0) = false := decide_eq_false (by omega)
  have d0' : decide ((200 : Int) < N) = false := decide_eq_false (by omega)
  have d1 : decide ((K : Int) < 0) = false := decide_eq_false (by omega)
  have d2 : decide (N < K) = false := decide_eq_false (by omega)
  have HC := Lib.hid (show cmpI R (chI (N : Int) (K : Int)) = -1 by rw [chI_any]; exact cmpI_lt hR)
  have HS := Lib.hid (sm_chI (n := (N : Int)) (k := (K : Int)) (by omega))
  have HSR := Lib.hid hv.sm
  clear hv hR
  go_enter Try.func22, Try.ntmps22
  go_wp2_with fail
  refine (rChoose_any N K _ (by omega) (by omega)).mono ?_
  rintro e w1 ⟨v1, rfl, hv1, hb1⟩
  have HV1 := Lib.hid (hv1.lv HS.out)
  have HVa := Lib.hid (HV.out.below hb1)
  clear hv1
  go_wp2_with fail
  refine (rcmp_lv HVa.out HV1.out).mono ?_
  rintro e w2 ⟨rfl, rfl⟩
  rw [HC.out]
  go_wp2_with fail
  refine (rnorm_lv HVa.out).mono ?_
  rintro e w2 ⟨v2, rfl, hv2, hb2⟩
  have HVb := Lib.hid (hv2.lv HSR.out)
  have h02 := hb1.trans (hb2.mono hb1.size)
  clear hv2 HV HVa hb1 hb2
  go_wp2_with fail
  go_loopw [10, 11, 12] (fun rk sv t wr => ∃ (x j r : Nat) (acc : List Nat), x ≤ N ∧ j ≤ K ∧ t = .int .i64 x ∧ Hid (acc.length = K - j) ∧ Hid (r < ch (N - x) j) ∧ Hid (un N 0 K R = acc ++ un (N - x) x j r) ∧ Hid (Lv wr rk r) ∧ Hid (Owns wr w2.heap.size 3 sv (nvs acc)) ∧ Hid (∀ g, sv.ownBlock = some g → Off g rk) ∧ Below w2.heap.size w2 wr) (fun _ _ t _ => N - (intOf t).toNat)
  case atStart => exact ⟨0, K, R, [], by omega, by omega, rfl, by simp [Hid], HR, by simp [Hid], HVb, Owns.nil _ _ _, (fun g hg => by cases hg), Below.refl _ _⟩
  case round =>
    obtain ⟨x, j, r, acc, hx, hj, rfl, HAl, HRl, HU, HLv, HOw, HOff, hb⟩ := hrel
    have hsz := hb.size
    obtain ⟨ac, cc, ev, _⟩ := HOw.out.form
    rw [nvs_length, HAl.out] at ev
    subst ev
    cases j with
    | zero =>
      have HE := Lib.hid (show un N 0 K R = acc by rw [HU.out, un_zero, List.append_nil])
      obtain ⟨a2, n2, c2, ev2, hrow⟩ := Owns.nrow HOw.out (fun y hy => by have := HLt.out y (by rw [HE.out]; exact hy); omega)
      cases ev2
      have HRow := Lib.hid hrow
      clear hrow HOw
      have dk : decide (K - 0 < K) = false := decide_eq_false (by omega)
      by_cases hxN : x < N
      case' pos =>
        have dx : decide (x < N) = true := decide_eq_true hxN
      case' neg =>
        have dx : decide (x < N) = false := decide_eq_false hxN
      all_goals
        go_wp2_with fail
        go_ret2
        exact ⟨_, _, _, rfl, by rw [HE.out]; exact HRow.out, h02.trans (hb.mono h02.size)⟩
    | succ j =>
      have hxN : x < N := by
        rcases Nat.lt_or_ge x N with h | h
        · exact h
        · have := HRl.out
          rw [show N - x = 0 by omega, ch_lt 0 (j + 1) (by omega)] at this
          omega
      obtain ⟨m, hm⟩ : ∃ m, N - x = m + 1 := ⟨N - x - 1, by omega⟩
      have HRl' := HRl
      have HU' := HU
      rw [hm] at HRl' HU'
      have hmm : m = N - 1 - x := by omega
      have HCh := Lib.hid (chI_any m j)
      have HSm := Lib.hid (sm_fact' (n := m) (by omega) (ch_le_fact (k := j)))
      have Q1 := Lib.hid (show ((N : Int) - 1 - x) = (m : Int) by omega)
      have Q2 := Lib.hid (show ((K : Int) - 1 - ((K - (j + 1) : Nat) : Int)) = (j : Int) by omega)
      have hkl : K - (j + 1) < K := by omega
      have hm200 : m ≤ 200 := by omega
      have hmx : N - (x + 1) = m := by omega
      have HMx := Lib.hid hmx
      clear hm hmm HRl HU hmx
      go_wp2_with fail
      rw [Q1.out, Q2.out]
      refine (rChoose_any _ _ _ (by omega) (by omega)).mono ?_
      rintro e w4 ⟨v4, rfl, hv4, hb4⟩
      rw [HCh.out] at hv4
      have HV4 := Lib.hid (hv4.lv HSm.out)
      have HLv4 := Lib.hid (HLv.out.below hb4)
      have HOw4 := Lib.hid (HOw.out.later hb4)
      have hb24 := hb.trans (hb4.mono hb.size)
      clear hv4 HLv HOw
      by_cases hc : ch m j ≤ r
      · have HU1 := Lib.hid (show un N 0 K R = acc ++ un m (x + 1) (j + 1) (r - ch m j) by rw [HU'.out, un_take hc])
        have HR1 := Lib.hid (un_lt1 HRl'.out hc)
        have HSr := Lib.hid (HLv4.out.sm.le (Nat.sub_le r (ch m j)))
        have HCm := Lib.hid (show decide (cmpI r (ch m j) < 0) = false by
          rcases cmpI_cases r (ch m j) with ⟨h, h'⟩ | ⟨h, h'⟩ | ⟨h, h'⟩
          · omega
          · rw [h]; rfl
          · rw [h]; rfl)
        go_wp2_with fail
        refine (rcmp_lv HLv4.out HV4.out).mono ?_
        rintro e w5 ⟨rfl, rfl⟩
        have dcm := HCm.out
        generalize cmpI r (ch m j) = cv at *
        go_wp2_with fail
        refine (rsub_lv HLv4.out HV4.out hc).mono ?_
        rintro e w5 ⟨v5, rfl, ⟨hv5, hnew5⟩, hb5⟩
        have HOff5 := Lib.hid (show ∀ g, (Value.slice ac (K - (j + 1)) cc).ownBlock = some g → Off g v5 from fun g hg => hnew5.off (HOw4.out.in g hg))
        have HV5 := Lib.hid (hv5.lv HSr.out)
        have HOw5 := Lib.hid (HOw4.out.later hb5)
        have hbn := hb24.trans (hb5.mono hb24.size)
        clear hv5 hnew5
        go_wp2_with fail
        go_roundw
        case rel => exact ⟨x + 1, j + 1, r - ch m j, acc, by omega, hj, by go_num, HAl, by unfold Hid; rw [HMx.out]; exact HR1.out, by unfold Hid; rw [HMx.out]; exact HU1.out, HV5, HOw5, HOff5, hbn⟩
        case measure => simp [intOf]; omega
      · have HU1 := Lib.hid (show un N 0 K R = (acc ++ [x]) ++ un m (x + 1) j r by rw [HU'.out, un_add hc]; simp)
        have HR1 := Lib.hid (show r < ch m j by omega)
        have HN := Lib.hid (show ((nvs acc).length + 1) * 8 ≤ 140737488355328 ∧ (nvs acc).length + 1 ≤ maxLen by rw [nvs_length, HAl.out]; simp only [maxLen]; omega)
        have HCm := Lib.hid (cmpI_lt (show r < ch m j by omega))
        have hsz4 := hb24.size
        go_wp2_with fail
        refine (rcmp_lv HLv4.out HV4.out).mono ?_
        rintro e w5 ⟨rfl, rfl⟩
        rw [HCm.out]
        go_wp2_with (at_builtin; go_must (refine wpList_app1 rfl _ _ 22 rfl w2.heap.size 3 (.int .i64 0) 8 Try.underlying22 infoInt rfl (.slice ac (K - (j + 1)) cc) (nvs acc) rfl (.int .i64 (x : Int)) rfl HOw4.out rfl HN.out.1 HN.out.2 hsz4 fun v' w' h1 h2 => ?_))
        have hbn := hb24.trans (h2.below hsz4 HOw4.out.lt)
        have HO1 := Lib.hid (show Owns w' w2.heap.size 3 v' (nvs (acc ++ [x])) by rw [nvs_append]; exact h1)
        have HLv6 := Lib.hid (HLv4.out.grew h2 HOff.out)
        have HOff6 := Lib.hid (off_grew HLv4.out h2 HOff.out)
        clear h1 h2
        go_wp2_with fail
        go_roundw
        case rel => exact ⟨x + 1, j, r, acc ++ [x], by omega, by omega, by go_num, by unfold Hid; rw [List.length_append, HAl.out]; simp; omega, by unfold Hid; rw [HMx.out]; exact HR1.out, by unfold Hid; rw [HMx.out]; exact HU1.out, HLv6, HO1, HOff6, hbn⟩
        case measure => simp [intOf]; omega

end Go.Proofs.Ytjmdcabbglappaa
