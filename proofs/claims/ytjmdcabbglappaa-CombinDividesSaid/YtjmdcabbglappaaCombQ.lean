/- Multinomial coefficients, plain. No program here. -/
import Derived.Test.YtjmdcabbglappaaCombP
namespace Go.Proofs.Ytjmdcabbglappaa
open Go.RowKit

def partsOk : Nat → List Int → Bool
  | _, [] => true
  | s, x :: xs => decide (0 ≤ x ∧ x ≤ 200 - (s : Int)) && partsOk (s + x.toNat) xs
def mult : Nat → List Int → Nat
  | _, [] => 1
  | s, x :: xs => ch (s + x.toNat) x.toNat * mult (s + x.toNat) xs
def multOk (xs : List Int) : Bool := decide (xs.length ≤ 201) && partsOk 0 xs
def multV (xs : List Int) : Nat := if multOk xs = true then mult 0 xs else 0
def prodF : List Int → Nat
  | [] => 1
  | x :: xs => fact x.toNat * prodF xs
def sumN : List Int → Nat
  | [] => 0
  | x :: xs => x.toNat + sumN xs
theorem prodF_pos : ∀ xs : List Int, 0 < prodF xs
  | [] => by simp [prodF]
  | x :: xs => by rw [prodF]; exact Nat.mul_pos (fact_pos _) (prodF_pos xs)
theorem mult_fact : ∀ (s : Nat) (xs : List Int), mult s xs * prodF xs * fact s = fact (s + sumN xs)
  | s, [] => by simp [mult, prodF, sumN]
  | s, x :: xs => by
    have ih := mult_fact (s + x.toNat) xs
    have h := ch_fact (s + x.toNat) x.toNat (by omega)
    rw [show s + x.toNat - x.toNat = s by omega] at h
    rw [mult, prodF, sumN, ← Nat.add_assoc, ← ih, ← h]
    ac_rfl
theorem partsOk_sum : ∀ (s : Nat) (xs : List Int), s ≤ 200 → partsOk s xs = true → s + sumN xs ≤ 200
  | s, [], h, _ => by simpa [sumN] using h
  | s, x :: xs, h, ho => by
    simp only [partsOk, Bool.and_eq_true, decide_eq_true_eq] at ho
    have := partsOk_sum (s + x.toNat) xs (by omega) ho.2
    rw [sumN]; omega
theorem partsOk_nonneg : ∀ (s : Nat) (xs : List Int), partsOk s xs = true → ∀ x ∈ xs, 0 ≤ x
  | _, [], _ => by simp
  | s, x :: xs, ho => by
    simp only [partsOk, Bool.and_eq_true, decide_eq_true_eq] at ho
    intro y hy
    rcases List.mem_cons.1 hy with rfl | hy
    · exact ho.1.1
    · exact partsOk_nonneg _ xs ho.2 y hy
theorem partsOk_of : ∀ (s : Nat) (xs : List Int), (∀ x ∈ xs, 0 ≤ x) → s + sumN xs ≤ 200 → partsOk s xs = true
  | _, [], _, _ => rfl
  | s, x :: xs, h, hs => by
    rw [sumN] at hs
    have h0 := h x (by simp)
    simp only [partsOk, Bool.and_eq_true, decide_eq_true_eq]
    exact ⟨by omega, partsOk_of (s + x.toNat) xs (fun y hy => h y (by simp [hy])) (by omega)⟩
theorem sumN_append : ∀ xs ys : List Int, sumN (xs ++ ys) = sumN xs + sumN ys
  | [], ys => by simp [sumN]
  | x :: xs, ys => by simp only [List.cons_append, sumN]; rw [sumN_append xs ys]; omega
theorem prodF_append : ∀ xs ys : List Int, prodF (xs ++ ys) = prodF xs * prodF ys
  | [], ys => by simp [prodF]
  | x :: xs, ys => by simp only [List.cons_append, prodF]; rw [prodF_append xs ys, Nat.mul_assoc]
theorem sumN_reverse : ∀ xs : List Int, sumN xs.reverse = sumN xs
  | [] => rfl
  | x :: xs => by rw [List.reverse_cons, sumN_append, sumN_reverse xs]; simp [sumN]; omega
theorem prodF_reverse : ∀ xs : List Int, prodF xs.reverse = prodF xs
  | [] => rfl
  | x :: xs => by rw [List.reverse_cons, prodF_append, prodF_reverse xs]; simp [prodF]; rw [Nat.mul_comm]
theorem mult_reverse (xs : List Int) : mult 0 xs.reverse = mult 0 xs := by
  have h1 := mult_fact 0 xs
  have h2 := mult_fact 0 xs.reverse
  rw [sumN_reverse, prodF_reverse, ← h1] at h2
  simp only [fact, Nat.mul_one] at h2
  exact Nat.eq_of_mul_eq_mul_right (prodF_pos xs) h2
theorem multOk_reverse (xs : List Int) (h : multOk xs = true) : multOk xs.reverse = true := by
  simp only [multOk, Bool.and_eq_true, decide_eq_true_eq] at h ⊢
  have h1 := partsOk_nonneg 0 xs h.2
  have h2 := partsOk_sum 0 xs (by omega) h.2
  exact ⟨by simpa using h.1, partsOk_of 0 _ (fun x hx => h1 x (by simpa using hx)) (by rw [sumN_reverse]; exact h2)⟩
theorem mult_pos (xs : List Int) : 0 < mult 0 xs := by
  have h1 := mult_fact 0 xs
  have h2 := fact_pos (0 + sumN xs)
  rw [← h1] at h2
  rcases Nat.eq_zero_or_pos (mult 0 xs) with h | h
  · rw [h] at h2; simp at h2
  · exact h
/-- one more part -/
theorem mult_next {xs : List Int} {s k p M : Nat} {x : Int} (hk : k < xs.length) (hx : xs.getD k 0 = x) (h : p * mult s (xs.drop k) = M) : p * ch (s + x.toNat) x.toNat * mult (s + x.toNat) (xs.drop (k + 1)) = M := by
  rw [drop_cons xs k 0 hk, hx, mult, ← Nat.mul_assoc] at h
  exact h
theorem ok_next {xs : List Int} {s k : Nat} {x : Int} {b : Bool} (hk : k < xs.length) (hx : xs.getD k 0 = x) (hy : 0 ≤ x ∧ x ≤ 200 - (s : Int)) (h : b = partsOk s (xs.drop k)) : b = partsOk (s + x.toNat) (xs.drop (k + 1)) := by
  rw [drop_cons xs k 0 hk, hx, partsOk, decide_eq_true hy, Bool.true_and] at h
  exact h
theorem ok_stop {xs : List Int} {s k : Nat} {x : Int} {b : Bool} (hk : k < xs.length) (hx : xs.getD k 0 = x) (hy : ¬ (0 ≤ x ∧ x ≤ 200 - (s : Int))) (h : b = partsOk s (xs.drop k)) : b = false := by
  rw [drop_cons xs k 0 hk, hx, partsOk, decide_eq_false hy, Bool.false_and] at h
  exact h
theorem ok_end {xs : List Int} {s k : Nat} {b : Bool} (hk : xs.length ≤ k) (h : b = partsOk s (xs.drop k)) : b = true := by
  rw [List.drop_of_length_le hk] at h; exact h
theorem sumN_next {xs : List Int} {s k : Nat} {x : Int} (hk : k < xs.length) (hx : xs.getD k 0 = x) {S : Nat} (h : s + sumN (xs.drop k) = S) : s + x.toNat + sumN (xs.drop (k + 1)) = S := by
  rw [drop_cons xs k 0 hk, hx, sumN] at h; omega
theorem fact_next {p s a : Nat} (h : p ≤ fact s) : p * ch (s + a) a ≤ fact (s + a) := by
  have h1 := ch_fact (s + a) a (by omega)
  rw [show s + a - a = s by omega] at h1
  rw [← h1, Nat.mul_comm]
  have h2 : ch (s + a) a * p ≤ ch (s + a) a * fact s := Nat.mul_le_mul_left _ h
  refine Nat.le_trans h2 ?_
  rw [Nat.mul_right_comm]
  exact Nat.le_mul_of_pos_right _ (fact_pos a)
theorem prodF_next {xs : List Int} {k M : Nat} {x : Int} (hk : k < xs.length) (hx : xs.getD k 0 = x) : M * prodF (xs.drop k) / fact x.toNat = M * prodF (xs.drop (k + 1)) := by
  rw [drop_cons xs k 0 hk, hx, prodF, Nat.mul_left_comm, Nat.mul_div_cancel_left _ (fact_pos _)]
theorem prodF_le {xs : List Int} {k : Nat} : mult 0 xs * prodF (xs.drop k) ≤ fact (sumN xs) := by
  have h1 := mult_fact 0 xs
  simp only [fact, Nat.mul_one, Nat.zero_add] at h1
  have h2 := prodF_append (xs.take k) (xs.drop k)
  rw [List.take_append_drop] at h2
  rw [← h1, h2]
  refine Nat.mul_le_mul_left _ ?_
  exact Nat.le_mul_of_pos_left _ (prodF_pos _)

end Go.Proofs.Ytjmdcabbglappaa
