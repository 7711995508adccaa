/- Counting, plain: factorials, binomial and multinomial coefficients. No program here. -/
import Derived.Test.YtjmdcabbglappaaNatQ
namespace Go.Proofs.Ytjmdcabbglappaa
open Go.RowKit

def fact : Nat → Nat
  | 0 => 1
  | n + 1 => fact n * (n + 1)
def ch : Nat → Nat → Nat
  | _, 0 => 1
  | 0, _ + 1 => 0
  | n + 1, k + 1 => ch n k + ch n (k + 1)
theorem ch_zero (n : Nat) : ch n 0 = 1 := by cases n <;> rfl
theorem ch_lt : ∀ (n k : Nat), n < k → ch n k = 0
  | 0, k + 1, _ => rfl
  | n + 1, k + 1, h => by rw [ch, ch_lt n k (by omega), ch_lt n (k + 1) (by omega)]
theorem ch_self : ∀ n : Nat, ch n n = 1
  | 0 => rfl
  | n + 1 => by rw [ch, ch_self n, ch_lt n (n + 1) (by omega)]
theorem ch_mul : ∀ (n k : Nat), ch n (k + 1) * (k + 1) = ch n k * (n - k)
  | 0, k => by simp [ch]
  | n + 1, 0 => by
    have h := ch_mul n 0
    rw [ch_zero] at h
    show (ch n 0 + ch n (0 + 1)) * (0 + 1) = ch (n + 1) 0 * (n + 1 - 0)
    rw [ch_zero, ch_zero]
    omega
  | n + 1, k + 1 => by
    have h1 := ch_mul n k
    have h2 := ch_mul n (k + 1)
    rw [show ch (n + 1) (k + 1 + 1) = ch n (k + 1) + ch n (k + 1 + 1) from rfl, show ch (n + 1) (k + 1) = ch n k + ch n (k + 1) from rfl]
    rw [Nat.add_mul, h2, Nat.add_mul, show n + 1 - (k + 1) = n - k by omega, ← h1]
    by_cases hk : k + 1 ≤ n
    · rw [← Nat.mul_add, ← Nat.mul_add]
      congr 1
      omega
    · rw [ch_lt n (k + 1) (by omega)]; simp
theorem fact_pos : ∀ n : Nat, 0 < fact n
  | 0 => by simp [fact]
  | n + 1 => by rw [fact]; exact Nat.mul_pos (fact_pos n) (by omega)
theorem fact_mono : ∀ {m n : Nat}, m ≤ n → fact m ≤ fact n := by
  intro m n h
  induction h with
  | refl => exact Nat.le_refl _
  | step _ ih => exact Nat.le_trans ih (by rw [fact]; exact Nat.le_mul_of_pos_right _ (by omega))
theorem ch_fact : ∀ (n k : Nat), k ≤ n → ch n k * fact k * fact (n - k) = fact n
  | n, 0, _ => by simp [ch_zero, fact]
  | n, k + 1, h => by
    have h1 := ch_fact n k (by omega)
    have h2 := ch_mul n k
    rw [show n - k = n - (k + 1) + 1 by omega, fact] at h1
    rw [show n - k = n - (k + 1) + 1 by omega] at h2
    rw [← h1, fact]
    calc ch n (k + 1) * (fact k * (k + 1)) * fact (n - (k + 1)) = (ch n (k + 1) * (k + 1)) * (fact k * fact (n - (k + 1))) := by
          rw [Nat.mul_comm (fact k) (k + 1), ← Nat.mul_assoc, Nat.mul_assoc (ch n (k + 1) * (k + 1))]
      _ = ch n k * fact k * (fact (n - (k + 1)) * (n - (k + 1) + 1)) := by
          rw [h2, Nat.mul_assoc, Nat.mul_assoc]
          congr 1
          rw [Nat.mul_comm (n - (k + 1) + 1), Nat.mul_assoc]
theorem ch_le_fact {n k : Nat} : ch n k ≤ fact n := by
  by_cases h : k ≤ n
  · rw [← ch_fact n k h, Nat.mul_assoc]
    exact Nat.le_mul_of_pos_right _ (Nat.mul_pos (fact_pos _) (fact_pos _))
  · rw [ch_lt n k (by omega)]; omega
theorem ch_sym {n k : Nat} (h : k ≤ n) : ch n (n - k) = ch n k := by
  have h1 := ch_fact n k h
  have h2 := ch_fact n (n - k) (by omega)
  rw [show n - (n - k) = k by omega] at h2
  have h3 : ch n (n - k) * (fact k * fact (n - k)) = ch n k * (fact k * fact (n - k)) := by
    rw [← Nat.mul_assoc, ← Nat.mul_assoc, h1, Nat.mul_right_comm, h2]
  exact Nat.eq_of_mul_eq_mul_right (Nat.mul_pos (fact_pos _) (fact_pos _)) h3
/-- lo · (lo + 1) · .. , m factors -/
def rise (lo : Nat) : Nat → Nat
  | 0 => 1
  | m + 1 => rise lo m * (lo + m)
theorem rise_fact (lo m : Nat) : rise (lo + 1) m * fact lo = fact (lo + m) := by
  induction m with
  | zero => simp [rise]
  | succ m ih => rw [rise, Nat.mul_right_comm, ih, ← Nat.add_assoc, fact]; congr 1; omega
theorem rise_one (m : Nat) : rise 1 m = fact m := by have := rise_fact 0 m; simpa [fact] using this
theorem rise_ch {n k : Nat} (h : k ≤ n) : rise (n - k + 1) k = ch n k * fact k := by
  have h1 := rise_fact (n - k) k
  rw [show n - k + k = n by omega, ← ch_fact n k h] at h1
  exact Nat.eq_of_mul_eq_mul_right (fact_pos _) h1
theorem rise_div {n k : Nat} (h : k ≤ n) : rise (n - k + 1) k / rise 1 k = ch n k := by
  rw [rise_ch h, rise_one, Nat.mul_div_cancel _ (fact_pos k)]
theorem rise_le {n k j : Nat} (hj : j ≤ k) (h : k ≤ n) : rise (n - k + 1) j ≤ fact n := by
  have h1 := rise_fact (n - k) j
  have h2 : fact (n - k + j) ≤ fact n := fact_mono (by omega)
  have h3 : rise (n - k + 1) j * 1 ≤ rise (n - k + 1) j * fact (n - k) := Nat.mul_le_mul_left _ (fact_pos _)
  omega
/-- numbers that are small enough for every operation -/
def Sm (n : Nat) : Prop := (digs n).length ≤ 1000
theorem digs_len_mono {m n : Nat} (h : m ≤ n) : (digs m).length ≤ (digs n).length := digs_length_le (Nat.lt_of_le_of_lt h (lt_of_digs_length (Nat.le_refl _)))
theorem Sm.le {m n : Nat} (h : Sm n) (hm : m ≤ n) : Sm m := Nat.le_trans (digs_len_mono hm) h
theorem pow40_fact : fact 200 * 200 < 4294967296 ^ 40 := by decide +kernel
theorem sm_fact {n : Nat} (h : n ≤ fact 200 * 200) : Sm n := Nat.le_trans (digs_length_le (Nat.lt_of_le_of_lt h pow40_fact)) (by omega)
theorem sm_fact' {n m : Nat} (hn : n ≤ 200) (h : m ≤ fact n) : Sm m := sm_fact (Nat.le_trans h (Nat.le_trans (fact_mono hn) (by omega)))
theorem sm_small {n : Nat} (h : n < 4294967296) : Sm n := Nat.le_trans (digs_length_le (k := 1) (by simpa using h)) (by omega)
/-- the binomial coefficient for all integers -/
def chI (n k : Int) : Nat := if k < 0 ∨ n < k then 0 else ch n.toNat k.toNat
theorem sm_chI {n k : Int} (h : n ≤ 200) : Sm (chI n k) := by
  unfold chI
  split
  · exact sm_small (by omega)
  · exact sm_fact' (n := n.toNat) (by omega) ch_le_fact

end Go.Proofs.Ytjmdcabbglappaa
