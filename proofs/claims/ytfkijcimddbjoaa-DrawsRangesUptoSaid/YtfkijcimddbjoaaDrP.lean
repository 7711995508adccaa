/- Draws in plain numbers: the transition, numbers below a bound, shuffles and picks. Plain lemmas, no condition. -/
import Derived.Test.YtfkijcimddbjoaaBase
namespace Go.Proofs.Ytfkijcimddbjoaa
open Go.RowKit

def stepD (d : UInt64) : UInt64 := d * 6364136223846793005 + 1442695040888963407
/-- the 32 bits that are drawn -/
def hiD (d : UInt64) : Nat := (stepD d).toNat / 4294967296
theorem hiD_lt (d : UInt64) : hiD d < 4294967296 := by have := (stepD d).toNat_lt; unfold hiD; omega
def badN (n : Int) : Bool := decide (n < 1) || decide (2147483648 < n)
def belD (d : UInt64) (n : Int) : Int := bif badN n then 0 else (hiD d : Int) * n / 4294967296
def belS (d : UInt64) (n : Int) : UInt64 := bif badN n then d else stepD d
theorem badN_of {n : Int} (h : n < 1 ∨ 2147483648 < n) : badN n = true := by simpa [badN] using h
theorem badN_no {n : Int} (h1 : 1 ≤ n) (h2 : n ≤ 2147483648) : badN n = false := by simp [badN]; omega
theorem belD_no {d : UInt64} {n : Int} (h : badN n = true) : belD d n = 0 := by simp [belD, h]
theorem belS_no {d : UInt64} {n : Int} (h : badN n = true) : belS d n = d := by simp [belS, h]
theorem belD_yes {d : UInt64} {n : Int} (h : badN n = false) : belD d n = (hiD d : Int) * n / 4294967296 := by simp [belD, h]
theorem belS_yes {d : UInt64} {n : Int} (h : badN n = false) : belS d n = stepD d := by simp [belS, h]
theorem belD_bd {d : UInt64} {n : Int} (h1 : 1 ≤ n) (h2 : n ≤ 2147483648) : 0 ≤ belD d n ∧ belD d n < n := by
  rw [belD_yes (badN_no h1 h2)]
  have h := hiD_lt d
  refine ⟨Int.ediv_nonneg (Int.mul_nonneg (by omega) (by omega)) (by omega), ?_⟩
  refine Int.ediv_lt_of_lt_mul (by omega) ?_
  rw [Int.mul_comm n]
  exact Int.mul_lt_mul_of_pos_right (by omega) (by omega)

/-- the state after k draws -/
def itD : Nat → UInt64 → UInt64
  | 0, d => d
  | k + 1, d => stepD (itD k d)
theorem itD_add (j k : Nat) (d : UInt64) : itD k (itD j d) = itD (j + k) d := by
  induction k with
  | zero => rfl
  | succ k ih => show stepD (itD k (itD j d)) = stepD (itD (j + k) d); rw [ih]
def skipN (n : Int) : Nat := (min n 9999999).toNat

/-- the exchange of two elements -/
def swapL (l : List Int) (i k : Nat) : List Int := (l.set i (l.getD k 0)).set k (l.getD i 0)
theorem swapL_length (l : List Int) (i k : Nat) : (swapL l i k).length = l.length := by simp [swapL]
/-- a shuffle from index i down to 1 -/
def shufL : Nat → UInt64 → List Int → List Int
  | 0, _, l => l
  | i + 1, d, l => shufL i (belS d ((i : Int) + 2)) (swapL l (i + 1) (belD d ((i : Int) + 2)).toNat)
def shufS : Nat → UInt64 → UInt64
  | 0, d => d
  | i + 1, d => shufS i (belS d ((i : Int) + 2))
theorem shufS_it (i : Nat) (h : i ≤ 1024) : ∀ d, shufS i d = itD i d := by
  induction i with
  | zero => intro d; rfl
  | succ i ih =>
    intro d
    rw [shufS, belS_yes (badN_no (by omega) (by omega)), ih (by omega)]
    rw [show stepD d = itD 1 d from rfl, itD_add, Nat.add_comm]
theorem shufL_length (i : Nat) : ∀ d l, (shufL i d l).length = l.length := by
  induction i with
  | zero => intro d l; rfl
  | succ i ih => intro d l; rw [shufL, ih, swapL_length]
def rangeL (n : Nat) : List Int := (List.range n).map (fun i : Nat => (i : Int))
theorem rangeL_length (n : Nat) : (rangeL n).length = n := by simp [rangeL]
theorem rangeL_succ (n : Nat) : rangeL (n + 1) = rangeL n ++ [(n : Int)] := by simp [rangeL, List.range_succ]
def badM (n : Int) : Bool := decide (n < 0) || decide (1024 < n)

/-! ### Picks -/
def isum (l : List Int) : Int := l.foldl (· + ·) 0
theorem isum_snoc (l : List Int) (x : Int) : isum (l ++ [x]) = isum l + x := by simp [isum]
theorem isum_nil : isum [] = 0 := rfl
def wOk (l : List Int) : Bool := l.all fun x => decide (0 ≤ x) && decide (x ≤ 1000000)
theorem isum_take_succ (l : List Int) (k : Nat) (h : k < l.length) : isum (l.take (k + 1)) = isum (l.take k) + l.getD k 0 := by
  rw [take_snoc l k 0 h, isum_snoc]
theorem wOk_at {l : List Int} (h : wOk l = true) (k : Nat) : 0 ≤ l.getD k 0 ∧ l.getD k 0 ≤ 1000000 := by
  by_cases hk : k < l.length
  · have := (List.all_eq_true.1 h) (l.getD k 0) (by simp [List.getD, hk])
    simpa using this
  · simp [List.getD, List.getElem?_eq_none (by omega : l.length ≤ k)]
theorem isum_bd {l : List Int} (h : wOk l = true) : ∀ k, 0 ≤ isum (l.take k) ∧ isum (l.take k) ≤ 1000000 * k := by
  intro k
  induction k with
  | zero => simp [isum]
  | succ k ih =>
    by_cases hk : k < l.length
    · rw [isum_take_succ l k hk]; have := wOk_at h k; omega
    · rw [List.take_of_length_le (by omega)] at ih ⊢; omega
theorem isum_mono {l : List Int} (h : wOk l = true) {j k : Nat} (hjk : j ≤ k) : isum (l.take j) ≤ isum (l.take k) := by
  induction k with
  | zero => have : j = 0 := by omega
            subst this; exact Int.le_refl _
  | succ k ih =>
    by_cases hj : j = k + 1
    · subst hj; exact Int.le_refl _
    · refine Int.le_trans (ih (by omega)) ?_
      by_cases hk : k < l.length
      · rw [isum_take_succ l k hk]; have := wOk_at h k; omega
      · rw [List.take_of_length_le (by omega), List.take_of_length_le (by omega)]; exact Int.le_refl _
/-- the first index whose part of the sum exceeds x -/
def firstAbove (l : List Int) (x : Int) : Nat → Nat → Nat
  | 0, k => k
  | f + 1, k => bif decide (x < isum (l.take (k + 1))) then k else firstAbove l x f (k + 1)
def pickI (d : UInt64) (l : List Int) : Int := bif (decide (l.length < 1) || decide (1024 < l.length)) || (!wOk l || decide (isum l = 0)) then -1 else (firstAbove l (belD d (isum l)) l.length 0 : Int)
def pickS (d : UInt64) (l : List Int) : UInt64 := bif (decide (l.length < 1) || decide (1024 < l.length)) || (!wOk l || decide (isum l = 0)) then d else stepD d
theorem firstAbove_at {l : List Int} {x : Int} : ∀ (f k j : Nat), k ≤ j → j < k + f → (∀ i, k ≤ i → i < j → isum (l.take (i + 1)) ≤ x) → x < isum (l.take (j + 1)) → firstAbove l x f k = j
  | 0, k, j, h1, h2, _, _ => by omega
  | f + 1, k, j, h1, h2, h3, h4 => by
    unfold firstAbove
    by_cases hk : k = j
    · subst hk; simp [h4]
    · have := h3 k (Nat.le_refl _) (by omega)
      rw [decide_eq_false (by omega)]
      exact firstAbove_at f (k + 1) j (by omega) (by omega) (fun i hi hij => h3 i (by omega) hij) h4

theorem step_forms (d : UInt64) : IntKind.u64.wrap (IntKind.u64.wrap ((d.toNat : Int) * 6364136223846793005) + 1442695040888963407) = ((stepD d).toNat : Int) := by
  have h1 := wrap_mul_u64 d 6364136223846793005
  have h2 := wrap_add_u64 (d * 6364136223846793005) 1442695040888963407
  rw [show ((6364136223846793005 : UInt64).toNat : Int) = 6364136223846793005 from rfl] at h1
  rw [show ((1442695040888963407 : UInt64).toNat : Int) = 1442695040888963407 from rfl] at h2
  rw [h1, h2]; rfl

end Go.Proofs.Ytfkijcimddbjoaa
