/- Unranking subsets, plain; and numbers whose limbs need no normal form. -/
import Derived.Test.YtjmdcabbglappaaCombW
namespace Go.Proofs.Ytjmdcabbglappaa
open Go.RowKit

/-! ### Plain -/
/-- the subset of size j of the numbers from x on, m of them, at position r -/
def un : Nat → Nat → Nat → Nat → List Nat
  | 0, _, _, _ => []
  | _ + 1, _, 0, _ => []
  | m + 1, x, j + 1, r => if ch m j ≤ r then un m (x + 1) (j + 1) (r - ch m j) else x :: un m (x + 1) j r
theorem un_zero (m x r : Nat) : un m x 0 r = [] := by cases m <;> rfl
theorem rank_skip {N x j : Nat} {l : List Nat} (hl : l.length = j + 1) (ha : asc N (x + 1) l) : rankL N x l = ch (N - 1 - x) j + rankL N (x + 1) l := by
  cases l with
  | nil => simp at hl
  | cons y ys =>
    simp only [List.length_cons] at hl
    have h1 := ha.1
    simp only [rankL]
    rw [show y - x = (y - (x + 1)) + 1 by omega, skipS, show ys.length = j by omega, Nat.add_assoc]
theorem un_facts (N : Nat) : ∀ (m x j r : Nat), m + x = N → r < ch m j → asc N x (un m x j r) ∧ (un m x j r).length = j ∧ rankL N x (un m x j r) = r
  | 0, x, 0, r, _, h => by
    obtain rfl : r = 0 := by simp [ch] at h; exact h
    exact ⟨trivial, rfl, rfl⟩
  | 0, x, j + 1, r, _, h => by simp [ch] at h
  | m + 1, x, 0, r, _, h => by
    obtain rfl : r = 0 := by simp [ch] at h; exact h
    exact ⟨trivial, rfl, rfl⟩
  | m + 1, x, j + 1, r, hm, h => by
    rw [ch] at h
    rw [un]
    by_cases hc : ch m j ≤ r
    · rw [if_pos hc]
      obtain ⟨h1, h2, h3⟩ := un_facts N m (x + 1) (j + 1) (r - ch m j) (by omega) (by omega)
      refine ⟨asc_mono h1 (by omega), h2, ?_⟩
      rw [rank_skip h2 h1, h3, show N - 1 - x = m by omega]
      omega
    · rw [if_neg hc]
      obtain ⟨h1, h2, h3⟩ := un_facts N m (x + 1) j r (by omega) (by omega)
      refine ⟨⟨Nat.le_refl _, by omega, h1⟩, by simp [h2], ?_⟩
      simp only [rankL, Nat.sub_self, skipS, Nat.zero_add]
      exact h3
theorem un_take {m x j r : Nat} (h : ch m j ≤ r) : un (m + 1) x (j + 1) r = un m (x + 1) (j + 1) (r - ch m j) := by rw [un, if_pos h]
theorem un_add {m x j r : Nat} (h : ¬ ch m j ≤ r) : un (m + 1) x (j + 1) r = x :: un m (x + 1) j r := by rw [un, if_neg h]
theorem un_lt1 {m j r : Nat} (h : r < ch (m + 1) (j + 1)) (hc : ch m j ≤ r) : r - ch m j < ch m (j + 1) := by rw [ch] at h; omega

/-! ### Limbs in any form -/
def Lv (w : World) (v : Value) (r : Nat) : Prop := ∃ a len cap ys, v = .slice a len cap ∧ Limbs w a len cap ys ∧ natOf ys = r ∧ len ≤ 1000
theorem Lv.below {w w' : World} {v : Value} {r : Nat} (h : Lv w v r) (hb : Below w.heap.size w w') : Lv w' v r := by
  obtain ⟨a, len, cap, ys, h1, h2, h3, h4⟩ := h
  exact ⟨a, len, cap, ys, h1, h2.below hb, h3, h4⟩
theorem Num.lv {w : World} {v : Value} {r : Nat} (h : Num w v r) (hs : Sm r) : Lv w v r := by
  obtain ⟨a, len, cap, rfl, h⟩ := h
  exact ⟨a, len, cap, _, rfl, h, natOf_digs r, Num.sm h hs⟩
section
variable {w : World} {v u : Value} {m n : Nat}
theorem cmp_lv (hv : Lv w v m) (hu : Lv w u n) : Calls Try.prog 27 #[v, u] w fun e w' => e = .returned (.int .i64 (cmpI m n)) ∧ Below w.heap.size w w' := by
  obtain ⟨a, len, cap, ys, rfl, hv, rfl, _⟩ := hv
  obtain ⟨a', len', cap', ys', rfl, hu, rfl, _⟩ := hu
  exact cmp_any _ _ _ _ _ _ _ _ w hv hu
theorem rcmp_lv (hv : Lv w v m) (hu : Lv w u n) : Calls Try.prog 39 #[v, u] w fun e w' => e = .returned (.int .i64 (cmpI m n)) ∧ w = w' := by
  obtain ⟨a, len, cap, ys, rfl, hv, rfl, _⟩ := hv
  obtain ⟨a', len', cap', ys', rfl, hu, rfl, _⟩ := hu
  exact rcmp_any _ _ _ _ _ _ _ _ w hv hu
theorem sub_lv (hv : Lv w v m) (hu : Lv w u n) (h : n ≤ m) : Calls Try.prog 38 #[v, u] w fun e w' => ∃ r, e = .returned (.tuple #[r, .bool true]) ∧ (Num w' r (m - n) ∧ New w.heap.size r) ∧ Below w.heap.size w w' := by
  obtain ⟨a, len, cap, ys, rfl, hv, rfl, hl⟩ := hv
  obtain ⟨a', len', cap', ys', rfl, hu, rfl, _⟩ := hu
  exact sub_new _ _ _ _ _ _ _ _ w hv hu (by omega) h
theorem rsub_lv (hv : Lv w v m) (hu : Lv w u n) (h : n ≤ m) : Calls Try.prog 41 #[v, u] w fun e w' => ∃ r, e = .returned (.tuple #[r, .bool true]) ∧ (Num w' r (m - n) ∧ New w.heap.size r) ∧ Below w.heap.size w w' := by
  obtain ⟨a, len, cap, ys, rfl, hv, rfl, hl⟩ := hv
  obtain ⟨a', len', cap', ys', rfl, hu, rfl, _⟩ := hu
  exact rsub_new _ _ _ _ _ _ _ _ w hv hu (by omega) h
theorem subless_lv (hv : Lv w v m) (hu : Lv w u n) (h : m < n) : Calls Try.prog 38 #[v, u] w fun e w' => e = .returned (.tuple #[.slice none 0 0, .bool false]) ∧ Below w.heap.size w w' := by
  obtain ⟨a, len, cap, ys, rfl, hv, rfl, hl⟩ := hv
  obtain ⟨a', len', cap', ys', rfl, hu, rfl, _⟩ := hu
  exact sub_less _ _ _ _ _ _ _ _ w hv hu h
theorem add_lv (hv : Lv w v m) (hu : Lv w u n) : Calls Try.prog 24 #[v, u] w fun e w' => ∃ r, e = .returned r ∧ Num w' r (m + n) ∧ Below w.heap.size w w' := by
  obtain ⟨a, len, cap, ys, rfl, hv, rfl, hl⟩ := hv
  obtain ⟨a', len', cap', ys', rfl, hu, rfl, hl'⟩ := hu
  exact add_any _ _ _ _ _ _ _ _ w hv hu (by omega) (by omega)
theorem norm_lv (hv : Lv w v m) : Calls Try.prog 31 #[v] w fun e w' => ∃ r, e = .returned r ∧ Num w' r m ∧ Below w.heap.size w w' := by
  obtain ⟨a, len, cap, ys, rfl, hv, rfl, hl⟩ := hv
  exact norm_any _ _ _ _ w hv (by omega)
theorem rnorm_lv (hv : Lv w v m) : Calls Try.prog 40 #[v] w fun e w' => ∃ r, e = .returned r ∧ Num w' r m ∧ Below w.heap.size w w' := by
  obtain ⟨a, len, cap, ys, rfl, hv, rfl, hl⟩ := hv
  exact rnorm_any _ _ _ _ w hv (by omega)
end
/-- what grows elsewhere leaves a number alone -/
theorem Lv.grew {w w' : World} {v v' u : Value} {r : Nat} (h : Lv w u r) (hg : Grew w w' v v') (ho : ∀ g, v.ownBlock = some g → Off g u) : Lv w' u r := by
  obtain ⟨a, len, cap, ys, rfl, ⟨h1, h2, h3, h4, h5, h6⟩, hr, hl⟩ := h
  refine ⟨a, len, cap, ys, rfl, ⟨h1, h2, h3, h4, h5, ?_⟩, hr, hl⟩
  rcases h6 with h6 | ⟨b, off, rfl, hlt, hc⟩
  · exact .inl h6
  · refine .inr ⟨b, off, rfl, Nat.lt_of_lt_of_le hlt hg.1.size, fun i hi => ?_⟩
    rw [← hc i hi]
    have hb := hg.1.block b hlt (fun e => ho b e.symm _ _ _ rfl (by omega) rfl)
    simp only [World.cell?, hb]
theorem Lv.offOld {w : World} {u : Value} {r g : Nat} (h : Lv w u r) (hg : w.heap.size ≤ g) : Off g u := by
  obtain ⟨a, len, cap, ys, rfl, h, _, _⟩ := h
  exact h.offOld hg
/-- the growing slice and the number stay apart -/
theorem off_grew {w w' : World} {v v' u : Value} {r : Nat} (h : Lv w u r) (hg : Grew w w' v v') (ho : ∀ g, v.ownBlock = some g → Off g u) : ∀ g, v'.ownBlock = some g → Off g u := fun g hg' => by
  rcases hg.2 with e | e
  · exact ho g (by rw [← e]; exact hg')
  · exact h.offOld (e g hg')
theorem Lv.sm {w : World} {v : Value} {r : Nat} (h : Lv w v r) : Sm r := by
  obtain ⟨a, len, cap, ys, _, h2, rfl, h4⟩ := h
  have := digs_length_of h2.2.1
  rw [h2.1] at this
  exact Nat.le_trans this h4

/-! ### The program -/
def UnBad (n k : Int) (R : Nat) : Prop := ¬ (0 ≤ n ∧ n ≤ 200) ∨ k < 0 ∨ n < k ∨ chI n k ≤ R

set_option maxHeartbeats 400000 in
theorem Unrank_no (n k : Int) (v : Value) (R : Nat) (w : World) (hv : Lv w v R) (h : UnBad n k R) :
    Calls Try.prog 21 #[.int .i64 n, .int .i64 k, v] w fun e w' => e = .returned (.tuple #[.slice none 0 0, .bool false]) ∧ Below w.heap.size w w' := by
  have HV := Lib.hid hv
  clear hv
  by_cases hr : 0 ≤ n ∧ n ≤ 200
  case neg =>
    have HR := Lib.hid hr
    clear hr h
    go_enter Try.func21, Try.ntmps21
    go_wp2_with fail
    refine (inRange_any n _ false (by simp only [HR.out, decide_false])).mono ?_
    rintro e w1 ⟨rfl, rfl⟩
    go_wp2_with fail
    go_ret2
    exact ⟨rfl, Below.refl _ _⟩
  by_cases h1 : k < 0
  · clear h
    go_enter Try.func21, Try.ntmps21
    go_wp2_with fail
    refine (inRange_any n _ true (by simp [hr])).mono ?_
    rintro e w1 ⟨rfl, rfl⟩
    go_wp2_with fail
    go_ret2
    exact ⟨rfl, Below.refl _ _⟩
  have d1 : decide (k < 0) = false := by simpa using h1
  by_cases h2 : n < k
  · clear h
    go_enter Try.func21, Try.ntmps21
    go_wp2_with fail
    refine (inRange_any n _ true (by simp [hr])).mono ?_
    rintro e w1 ⟨rfl, rfl⟩
    go_wp2_with fail
    go_ret2
    exact ⟨rfl, Below.refl _ _⟩
  have d2 : decide (n < k) = false := by simpa using h2
  have h3 : chI n k ≤ R := by
    rcases h with h | h | h | h
    · exact absurd hr h
    · exact absurd h h1
    · exact absurd h h2
    · exact h
  have HC := Lib.hid (show decide (0 ≤ cmpI R (chI n k)) = true by
    rcases cmpI_cases R (chI n k) with ⟨h, h'⟩ | ⟨h, h'⟩ | ⟨h, h'⟩
    · omega
    · rw [h]; rfl
    · rw [h]; rfl)
  have HS := Lib.hid (sm_chI (n := n) (k := k) hr.2)
  obtain ⟨hr1, hr2⟩ := hr
  clear h h1 h2 h3
  go_enter Try.func21, Try.ntmps21
  go_wp2_with fail
  refine (inRange_any n _ true (by simp [hr1, hr2])).mono ?_
  rintro e w1 ⟨rfl, rfl⟩
  go_wp2_with fail
  refine (choose_any n k _ hr1 hr2).mono ?_
  rintro e w1 ⟨v1, rfl, hv1, hb1⟩
  have HV1 := Lib.hid (hv1.lv HS.out)
  have HVa := Lib.hid (HV.out.below hb1)
  clear hv1
  go_wp2_with fail
  refine (cmp_lv HVa.out HV1.out).mono ?_
  rintro e w2 ⟨rfl, hb2⟩
  have dc := HC.out
  generalize cmpI R (chI n k) = cv at *
  go_wp2_with fail
  go_ret2
  exact ⟨rfl, hb1.trans (hb2.mono hb1.size)⟩

set_option maxHeartbeats 2000000 in
theorem Unrank_any (N K : Nat) (v : Value) (R : Nat) (w : World) (hv : Lv w v R) (hN : N ≤ 200) (hK : K ≤ N) (hR : R < ch N K) :
    Calls Try.prog 21 #[.int .i64 (N : Int), .int .i64 (K : Int), v] w fun e w' => ∃ a n cap, e = .returned (.tuple #[.slice a n cap, .bool true]) ∧ Row .i64 w' a n cap (nl (un N 0 K R)) ∧ Below w.heap.size w w' := by
  have HV := Lib.hid hv
  have HR := Lib.hid hR
  have HF := Lib.hid (un_facts N N 0 K R (by omega) hR)
  have HLt := Lib.hid (asc_lt 0 _ HF.out.1)
  have d1 : decide ((K : Int) < 0) = false := decide_eq_false (by omega)
  have d2 : decide (N < K) = false := decide_eq_false (by omega)
  have HC := Lib.hid (show cmpI R (chI (N : Int) (K : Int)) = -1 by rw [chI_any]; exact cmpI_lt hR)
  have HS := Lib.hid (sm_chI (n := (N : Int)) (k := (K : Int)) (by omega))
  clear hv hR
  go_enter Try.func21, Try.ntmps21
  go_wp2_with fail
  refine (inRange_any N _ true (by simp; omega)).mono ?_
  rintro e w1 ⟨rfl, rfl⟩
  go_wp2_with fail
  refine (choose_any N K _ (by omega) (by omega)).mono ?_
  rintro e w1 ⟨v1, rfl, hv1, hb1⟩
  have HV1 := Lib.hid (hv1.lv HS.out)
  have HVa := Lib.hid (HV.out.below hb1)
  clear hv1
  go_wp2_with fail
  refine (cmp_lv HVa.out HV1.out).mono ?_
  rintro e w2 ⟨rfl, hb2⟩
  rw [HC.out]
  have HVb := Lib.hid (HVa.out.below hb2)
  have h02 := hb1.trans (hb2.mono hb1.size)
  clear HV HVa hb1 hb2
  go_wp2_with (at_make; refine wpList_mk0 rfl _ _ 22 rfl 3 (.int .i64 0) 8 Try.underlying22 infoInt _ _ _ K rfl rfl rfl (by omega) (by simp only [maxLen]; omega) fun w3 h1 h2 => ?_)
  have HO := Lib.hid h1
  have HVc := Lib.hid (HVb.out.below h2)
  clear h1
  go_wp2_with fail
  go_loopw [2, 8, 9] (fun rk sv t wr => ∃ (x j r : Nat) (acc : List Nat), x ≤ N ∧ j ≤ K ∧ t = .int .i64 x ∧ Hid (acc.length = K - j) ∧ Hid (r < ch (N - x) j) ∧ Hid (un N 0 K R = acc ++ un (N - x) x j r) ∧ Hid (Lv wr rk r) ∧ Hid (Owns wr w2.heap.size 3 sv (nvs acc)) ∧ Hid (∀ g, sv.ownBlock = some g → Off g rk) ∧ Below w2.heap.size w2 wr) (fun _ _ t _ => N - (intOf t).toNat)
  case atStart => exact ⟨0, K, R, [], by omega, by omega, rfl, by simp [Hid], HR, by simp [Hid], HVc, HO, fun g hg => by cases hg; exact HVb.out.offOld (Nat.le_refl _), h2⟩
  case round =>
    obtain ⟨x, j, r, acc, hx, hj, rfl, HAl, HRl, HU, HLv, HOw, HOff, hb⟩ := hrel
    have hsz := hb.size
    obtain ⟨ac, cc, ev, _⟩ := HOw.out.form
    rw [nvs_length, HAl.out] at ev
    subst ev
    cases j with
    | zero =>
      have HE := Lib.hid (show un N 0 K R = acc by rw [HU.out, un_zero, List.append_nil])
      obtain ⟨a2, n2, c2, ev2, hrow⟩ := Owns.nrow HOw.out (fun y hy => by have := HLt.out y (by rw [HE.out]; exact hy); omega)
      cases ev2
      have HRow := Lib.hid hrow
      clear hrow HOw
      go_wp2_with fail
      go_ret2
      exact ⟨_, _, _, rfl, by rw [HE.out]; exact HRow.out, h02.trans (hb.mono h02.size)⟩
    | succ j =>
      have hxN : x < N := by
        rcases Nat.lt_or_ge x N with h | h
        · exact h
        · have := HRl.out
          rw [show N - x = 0 by omega, ch_lt 0 (j + 1) (by omega)] at this
          omega
      obtain ⟨m, hm⟩ : ∃ m, N - x = m + 1 := ⟨N - x - 1, by omega⟩
      have HRl' := HRl
      have HU' := HU
      rw [hm] at HRl' HU'
      have hmm : m = N - 1 - x := by omega
      have HCh := Lib.hid (chI_any m j)
      have HSm := Lib.hid (sm_fact' (n := m) (by omega) (ch_le_fact (k := j)))
      have Q1 := Lib.hid (show ((N : Int) - 1 - x) = (m : Int) by omega)
      have Q2 := Lib.hid (show ((K : Int) - 1 - ((K - (j + 1) : Nat) : Int)) = (j : Int) by omega)
      have hkl : K - (j + 1) < K := by omega
      have hm200 : m ≤ 200 := by omega
      have hmx : N - (x + 1) = m := by omega
      have HMx := Lib.hid hmx
      clear hm hmm HRl HU hmx
      go_wp2_with fail
      rw [Q1.out, Q2.out]
      refine (choose_any _ _ _ (by omega) (by omega)).mono ?_
      rintro e w4 ⟨v4, rfl, hv4, hb4⟩
      rw [HCh.out] at hv4
      have HV4 := Lib.hid (hv4.lv HSm.out)
      have HLv4 := Lib.hid (HLv.out.below hb4)
      have HOw4 := Lib.hid (HOw.out.later hb4)
      have hb24 := hb.trans (hb4.mono hb.size)
      clear hv4 HLv HOw
      by_cases hc : ch m j ≤ r
      · have HU1 := Lib.hid (show un N 0 K R = acc ++ un m (x + 1) (j + 1) (r - ch m j) by rw [HU'.out, un_take hc])
        have HR1 := Lib.hid (un_lt1 HRl'.out hc)
        have HSr := Lib.hid (HLv4.out.sm.le (Nat.sub_le r (ch m j)))
        go_wp2_with fail
        refine (sub_lv HLv4.out HV4.out hc).mono ?_
        rintro e w5 ⟨v5, rfl, ⟨hv5, hnew5⟩, hb5⟩
        have HOff5 := Lib.hid (show ∀ g, (Value.slice ac (K - (j + 1)) cc).ownBlock = some g → Off g v5 from fun g hg => hnew5.off (HOw4.out.in g hg))
        have HV5 := Lib.hid (hv5.lv HSr.out)
        have HOw5 := Lib.hid (HOw4.out.later hb5)
        have hbn := hb24.trans (hb5.mono hb24.size)
        clear hv5 hnew5
        go_wp2_with fail
        go_roundw
        case rel => exact ⟨x + 1, j + 1, r - ch m j, acc, by omega, hj, by go_num, HAl, by unfold Hid; rw [HMx.out]; exact HR1.out, by unfold Hid; rw [HMx.out]; exact HU1.out, HV5, HOw5, HOff5, hbn⟩
        case measure => simp [intOf]; omega
      · have HU1 := Lib.hid (show un N 0 K R = (acc ++ [x]) ++ un m (x + 1) j r by rw [HU'.out, un_add hc]; simp)
        have HR1 := Lib.hid (show r < ch m j by omega)
        have HN := Lib.hid (show ((nvs acc).length + 1) * 8 ≤ 140737488355328 ∧ (nvs acc).length + 1 ≤ maxLen by rw [nvs_length, HAl.out]; simp only [maxLen]; omega)
        go_wp2_with fail
        refine (subless_lv HLv4.out HV4.out (by omega)).mono ?_
        rintro e w5 ⟨rfl, hb5⟩
        have HOw5 := Lib.hid (HOw4.out.later hb5)
        have HLv5 := Lib.hid (HLv4.out.below hb5)
        have hb25 := hb24.trans (hb5.mono hb24.size)
        have hsz5 := hb25.size
        go_wp2_with (at_builtin; go_must (refine wpList_app1 rfl _ _ 22 rfl w2.heap.size 3 (.int .i64 0) 8 Try.underlying22 infoInt rfl (.slice ac (K - (j + 1)) cc) (nvs acc) rfl (.int .i64 (x : Int)) rfl HOw5.out rfl HN.out.1 HN.out.2 hsz5 fun v' w' h1 h2 => ?_))
        have hbn := hb25.trans (h2.below hsz5 HOw5.out.lt)
        have HO1 := Lib.hid (show Owns w' w2.heap.size 3 v' (nvs (acc ++ [x])) by rw [nvs_append]; exact h1)
        have HLv6 := Lib.hid (HLv5.out.grew h2 HOff.out)
        have HOff6 := Lib.hid (off_grew HLv5.out h2 HOff.out)
        clear h1 h2
        go_wp2_with fail
        go_roundw
        case rel => exact ⟨x + 1, j, r, acc ++ [x], by omega, by omega, by go_num, by unfold Hid; rw [List.length_append, HAl.out]; simp; omega, by unfold Hid; rw [HMx.out]; exact HR1.out, by unfold Hid; rw [HMx.out]; exact HU1.out, HLv6, HO1, HOff6, hbn⟩
        case measure => simp [intOf]; omega

end Go.Proofs.Ytjmdcabbglappaa
