/- Long division, plain: one step of the quotient, its beginning and its end. No program here. -/
import Derived.Test.YtahmndacoanfiaaGreatKnuP
namespace Go.Proofs.YtahmndacoanfiaaGreat
set_option maxRecDepth 100000
open Go.RowKit

/-- a number by its lower limbs and the others -/
theorem natOf_cut (l : List Nat) (k : Nat) : natOf l = natOf (l.take k) + 4294967296 ^ k * natOf (l.drop k) := by
  have e := natOf_append (l.take k) (l.drop k)
  rw [List.take_append_drop, List.length_take] at e
  by_cases hk : k ≤ l.length
  · rwa [Nat.min_eq_left hk] at e
  · rw [List.drop_of_length_le (by omega)] at e ⊢
    simp [natOf] at e ⊢
    exact e
/-- three highest limbs -/
theorem top3 {P : List Nat} {n : Nat} (hn : 2 ≤ n) (hP : P.length = n + 1) : natOf P = ((P.getD n 0 * 4294967296 + P.getD (n - 1) 0) * 4294967296 + P.getD (n - 2) 0) * 4294967296 ^ (n - 2) + natOf (P.take (n - 2)) := by
  rw [natOf_cut P (n - 2), natOf_drop_s, show n - 2 + 1 = n - 1 by omega, natOf_drop_s, show n - 1 + 1 = n by omega, natOf_drop_s, List.drop_of_length_le (by omega)]
  simp only [natOf, Nat.mul_zero, Nat.add_zero]
  rw [Nat.add_comm, Nat.mul_comm (4294967296 ^ (n - 2))]
  congr 2
  omega
theorem top2 {D : List Nat} {n : Nat} (hn : 2 ≤ n) (hD : D.length = n) : natOf D = (D.getD (n - 1) 0 * 4294967296 + D.getD (n - 2) 0) * 4294967296 ^ (n - 2) + natOf (D.take (n - 2)) := by
  rw [natOf_cut D (n - 2), natOf_drop_s, show n - 2 + 1 = n - 1 by omega, natOf_drop_s, List.drop_of_length_le (by omega)]
  simp only [natOf, Nat.mul_zero, Nat.add_zero]
  rw [Nat.add_comm, Nat.mul_comm (4294967296 ^ (n - 2))]
  congr 2
  omega
theorem lim_low {P : List Nat} (h : Lim P) (k : Nat) : natOf (P.take k) < 4294967296 ^ k :=
  Nat.lt_of_lt_of_le (natOf_lt (h.take k)) (Nat.pow_le_pow_right (by omega) (by rw [List.length_take]; omega))
/-- the estimate's conditions -/
theorem est_of {P D : List Nat} {n : Nat} (hn : 2 ≤ n) (hP : P.length = n + 1) (hD : D.length = n) (hPl : Lim P) (hDl : Lim D) (hnorm : 2147483648 ≤ D.getD (n - 1) 0) (hlt : natOf (P.drop 1) < natOf D) :
    Est (P.getD n 0) (P.getD (n - 1) 0) (P.getD (n - 2) 0) (D.getD (n - 1) 0) (D.getD (n - 2) 0) := by
  refine ⟨hPl.getD _, hPl.getD _, hPl.getD _, hDl.getD _, hDl.getD _, hnorm, ?_⟩
  have e1 := natOf_cut (P.drop 1) (n - 1)
  have e2 := natOf_cut D (n - 1)
  rw [List.drop_drop, show 1 + (n - 1) = n by omega, natOf_drop_s P n, List.drop_of_length_le (by omega : P.length ≤ n + 1)] at e1
  rw [natOf_drop_s D (n - 1), List.drop_of_length_le (by omega : D.length ≤ n - 1 + 1)] at e2
  simp only [natOf, Nat.mul_zero, Nat.add_zero] at e1 e2
  have h2 := lim_low hDl (n - 1)
  rcases Nat.lt_or_ge (D.getD (n - 1) 0) (P.getD n 0) with h | h
  · have h3 : 4294967296 ^ (n - 1) * (D.getD (n - 1) 0 + 1) ≤ 4294967296 ^ (n - 1) * P.getD n 0 := Nat.mul_le_mul_left _ h
    rw [Nat.mul_add] at h3
    omega
  · exact h
/-- the digit that the estimate yields -/
theorem est_digit {P D : List Nat} {n q : Nat} (hn : 2 ≤ n) (hP : P.length = n + 1) (hD : D.length = n) (hPl : Lim P) (hDl : Lim D) (hnorm : 2147483648 ≤ D.getD (n - 1) 0) (hV : natOf P < 4294967296 * natOf D)
    (hq : EstEnd (P.getD n 0) (P.getD (n - 1) 0) (P.getD (n - 2) 0) (D.getD (n - 1) 0) (D.getD (n - 2) 0) q) : q < 4294967296 ∧ natOf P / natOf D ≤ q ∧ q ≤ natOf P / natOf D + 1 := by
  obtain ⟨h1, h2, h3⟩ := hq
  refine ⟨h1, knuth (n := n - 2) (top3 hn hP) (top2 hn hD) (lim_low hPl _) (lim_low hDl _) (by omega) h1 h2 h3 hV⟩
/-- the multiple has been subtracted, and was not too great -/
theorem digit_exact {V D B q x : Nat} (hD : 0 < D) (hx : x < B) (neg : Bool) (h : x + q * D = V + B * (if neg then 1 else 0)) (h1 : V / D ≤ q) (h2 : q ≤ V / D + 1) :
    (neg = false → q = V / D ∧ x = V % D) ∧ (neg = true → 1 ≤ q ∧ q - 1 = V / D ∧ V < q * D) := by
  have hdm := Nat.div_add_mod V D
  have hm := Nat.mod_lt V hD
  have hc : D * (V / D) = V / D * D := Nat.mul_comm _ _
  generalize V / D = t at *
  have hq : q = t ∨ q = t + 1 := by omega
  constructor
  · rintro rfl
    simp only [Bool.false_eq_true, if_false, Nat.mul_zero, Nat.add_zero] at h
    rcases hq with rfl | rfl
    · exact ⟨rfl, by omega⟩
    · rw [Nat.add_mul] at h; omega
  · rintro rfl
    simp only [if_true, Nat.mul_one] at h
    rcases hq with rfl | rfl
    · omega
    · rw [Nat.add_mul] at h ⊢; omega
/-- adding back once sets it right -/
theorem back_exact {V D B q x y c : Nat} (hD : 0 < D) (hDB : D ≤ B) (hy : y < B) (h : x + q * D = V + B) (h1 : 1 ≤ q) (h2 : q - 1 = V / D) (hb : y + B * c = x + D) : y = V % D := by
  have hdm := Nat.div_add_mod V D
  have hm := Nat.mod_lt V hD
  have hc : D * (V / D) = V / D * D := Nat.mul_comm _ _
  generalize V / D = t at *
  obtain rfl : q = t + 1 := by omega
  rw [Nat.add_mul] at h
  have hc1 : c = 1 := by
    rcases Nat.eq_zero_or_pos c with h0 | h0
    · subst h0; omega
    · rcases Nat.lt_or_ge c 2 with h3 | h3
      · omega
      · have : B * 2 ≤ B * c := Nat.mul_le_mul_left _ h3
        omega
  subst hc1
  omega
/-- the row behind a step -/
theorem row_step {R L P P' H Q : List Nat} {j n A D q : Nat} (hR : R = L ++ P ++ H) (hL : L.length = j) (hP : P.length = n + 1) (hP' : P'.length = n + 1) (hH : natOf H = 0)
    (hv : natOf P = D * q + natOf P') (hj : j < Q.length) (hQ : Q.getD j 0 = 0) (h : A = natOf R + D * natOf Q) :
    A = natOf (L ++ P' ++ H) + D * natOf (Q.set j q) ∧ natOf ((L ++ P' ++ H).drop j) = natOf P' := by
  have e1 : ∀ X : List Nat, X.length = n + 1 → natOf (L ++ X ++ H) = natOf L + 4294967296 ^ j * natOf X := fun X hX => by
    rw [natOf_append, natOf_append, hL, hH]; simp
  have e2 := natOf_set Q j q hj
  rw [hQ, Nat.mul_zero, Nat.add_zero] at e2
  constructor
  · rw [h, hR, e1 P hP, e1 P' hP', e2, hv, Nat.mul_add, Nat.mul_add, Nat.mul_left_comm D]
    omega
  · rw [List.append_assoc, List.drop_left' hL, natOf_append, hH]; simp
theorem head_zero {R : List Nat} {j n D : Nat} (hlt : natOf (R.drop (j + 1)) < D) (hD : D < 4294967296 ^ n) (hR : Lim R) : natOf (R.drop (j + (n + 1))) = 0 ∧ natOf ((R.drop j).take (n + 1)) < 4294967296 * D ∧ natOf (((R.drop j).take (n + 1)).drop 1) < D := by
  have e1 := natOf_cut (R.drop (j + 1)) n
  rw [List.drop_drop, show j + 1 + n = j + (n + 1) by omega] at e1
  have h0 : natOf (R.drop (j + (n + 1))) = 0 := by
    rcases Nat.eq_zero_or_pos (natOf (R.drop (j + (n + 1)))) with h | h
    · exact h
    · have : 4294967296 ^ n * 1 ≤ 4294967296 ^ n * natOf (R.drop (j + (n + 1))) := Nat.mul_le_mul_left _ h
      omega
  have e2 : ((R.drop j).take (n + 1)).drop 1 = (R.drop (j + 1)).take n := by rw [List.drop_take, List.drop_drop]; simp
  rw [h0, Nat.mul_zero, Nat.add_zero] at e1
  refine ⟨h0, ?_, by rw [e2]; omega⟩
  have e3 := natOf_drop_s ((R.drop j).take (n + 1)) 0
  rw [List.drop_zero, Nat.zero_add, e2] at e3
  have h4 : ((R.drop j).take (n + 1)).getD 0 0 < 4294967296 := ((hR.drop j).take (n + 1)).getD 0
  omega
/-- the end -/
theorem long_end {X Y s A D r Q : Nat} (hA : A = X * 2 ^ s) (hD : D = Y * 2 ^ s) (h : A = r + D * Q) (hr : r < D) : Q = X / Y ∧ r / 2 ^ s = X % Y := by
  have hp : 0 < 2 ^ s := Nat.pow_pos (by omega)
  generalize 2 ^ s = m at *
  have h1 := div_end hr (X := A) (Q := Q) (by rw [h, Nat.mul_comm D Q, Nat.add_comm])
  rw [hA, hD, Nat.mul_div_mul_right _ _ hp, Nat.mul_mod_mul_right] at h1
  exact ⟨h1.1, by rw [h1.2, Nat.mul_div_cancel _ hp]⟩

end Go.Proofs.YtahmndacoanfiaaGreat
