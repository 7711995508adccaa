/- Natural numbers as limbs of 32 bits, plain: what a list of limbs denotes, its normal form. No program here. -/
import Derived.Test.YtahmndacoanfiaaGreatBase
namespace Go.Proofs.YtahmndacoanfiaaGreat
set_option maxRecDepth 100000
open Go.RowKit

def natOf : List Nat → Nat
  | [] => 0
  | x :: xs => x + 4294967296 * natOf xs
def Lim (xs : List Nat) : Prop := ∀ x ∈ xs, x < 4294967296
def trimL : List Nat → List Nat
  | [] => []
  | x :: xs => match trimL xs with
    | [] => if x = 0 then [] else [x]
    | y :: ys => x :: y :: ys
def digs (n : Nat) : List Nat := if h : n = 0 then [] else n % 4294967296 :: digs (n / 4294967296)
termination_by n
decreasing_by omega

theorem digs_zero : digs 0 = [] := by unfold digs; simp
theorem digs_pos {n : Nat} (h : n ≠ 0) : digs n = n % 4294967296 :: digs (n / 4294967296) := by
  rw [digs]; simp [h]
theorem natOf_digs : ∀ n : Nat, natOf (digs n) = n := by
  intro n
  induction n using Nat.strongRecOn with
  | ind n ih =>
    by_cases h : n = 0
    · subst h; rw [digs_zero]; rfl
    · rw [digs_pos h, natOf, ih (n / 4294967296) (by omega)]; omega
theorem lim_digs : ∀ n : Nat, Lim (digs n) := by
  intro n
  induction n using Nat.strongRecOn with
  | ind n ih =>
    by_cases h : n = 0
    · subst h; rw [digs_zero]; intro x hx; cases hx
    · rw [digs_pos h]
      intro x hx
      rcases List.mem_cons.1 hx with rfl | hx
      · omega
      · exact ih (n / 4294967296) (by omega) x hx
theorem Lim.tail {x : Nat} {xs : List Nat} (h : Lim (x :: xs)) : Lim xs := fun y hy => h y (by simp [hy])
theorem Lim.head {x : Nat} {xs : List Nat} (h : Lim (x :: xs)) : x < 4294967296 := h x (by simp)
theorem Lim.getD {xs : List Nat} (h : Lim xs) (k : Nat) : xs.getD k 0 < 4294967296 := by
  by_cases hk : k < xs.length
  · exact h _ (by simp [List.getD, hk])
  · simp [List.getD, List.getElem?_eq_none (by omega : xs.length ≤ k)]
theorem Lim.take {xs : List Nat} (h : Lim xs) (k : Nat) : Lim (xs.take k) := fun x hx => h x (List.mem_of_mem_take hx)
theorem Lim.drop {xs : List Nat} (h : Lim xs) (k : Nat) : Lim (xs.drop k) := fun x hx => h x (List.mem_of_mem_drop hx)
theorem Lim.append {xs ys : List Nat} (h : Lim xs) (h' : Lim ys) : Lim (xs ++ ys) := fun x hx => by
  rcases List.mem_append.1 hx with hx | hx
  · exact h x hx
  · exact h' x hx
theorem digs_ne {n : Nat} (h : n ≠ 0) : digs n ≠ [] := by rw [digs_pos h]; simp
theorem trimL_digs : ∀ {xs : List Nat}, Lim xs → trimL xs = digs (natOf xs)
  | [], _ => by rw [natOf, digs_zero]; rfl
  | x :: xs, h => by
    have ih := trimL_digs h.tail
    have hx := h.head
    simp only [trimL, natOf]
    by_cases h0 : natOf xs = 0
    · rw [ih, h0, digs_zero]
      by_cases hx0 : x = 0
      · simp [hx0, digs_zero]
      · simp only [hx0, if_false]
        rw [digs_pos (by omega), show (x + 4294967296 * 0) / 4294967296 = 0 by omega, digs_zero, show (x + 4294967296 * 0) % 4294967296 = x by omega]
    · rw [ih, digs_pos (n := x + 4294967296 * natOf xs) (by omega), show (x + 4294967296 * natOf xs) % 4294967296 = x by omega, show (x + 4294967296 * natOf xs) / 4294967296 = natOf xs by omega]
      have := digs_ne h0
      cases hd : digs (natOf xs) with
      | nil => exact absurd hd this
      | cons y ys => rfl
theorem trimL_snoc_zero : ∀ l : List Nat, trimL (l ++ [0]) = trimL l
  | [] => rfl
  | x :: l => by simp only [List.cons_append, trimL]; rw [trimL_snoc_zero l]
theorem trimL_snoc (x : Nat) (hx : x ≠ 0) : ∀ l : List Nat, trimL (l ++ [x]) = l ++ [x]
  | [] => by simp [trimL, hx]
  | y :: l => by
    simp only [List.cons_append, trimL]
    rw [trimL_snoc x hx l]
    cases l <;> rfl
/-- the walk of trim: one high limb less -/
theorem trimL_less (xs : List Nat) (k : Nat) (hk : k < xs.length) (h : xs.getD k 0 = 0) : trimL (xs.take (k + 1)) = trimL (xs.take k) := by
  rw [take_snoc xs k 0 hk, h, trimL_snoc_zero]
theorem trimL_done (xs : List Nat) (k : Nat) (hk : k < xs.length) (h : xs.getD k 0 ≠ 0) : trimL (xs.take (k + 1)) = xs.take (k + 1) := by
  rw [take_snoc xs k 0 hk, trimL_snoc _ h]
theorem natOf_append : ∀ xs ys : List Nat, natOf (xs ++ ys) = natOf xs + 4294967296 ^ xs.length * natOf ys
  | [], ys => by simp [natOf]
  | x :: xs, ys => by
    simp only [List.cons_append, natOf, List.length_cons, Nat.pow_succ]
    rw [natOf_append xs ys, Nat.mul_add, Nat.add_assoc, ← Nat.mul_assoc, Nat.mul_comm 4294967296 (4294967296 ^ xs.length)]
theorem natOf_lt : ∀ {xs : List Nat}, Lim xs → natOf xs < 4294967296 ^ xs.length
  | [], _ => by simp [natOf]
  | x :: xs, h => by
    have ih := natOf_lt h.tail
    have hx := h.head
    simp only [natOf, List.length_cons, Nat.pow_succ]
    omega
theorem natOf_replicate (n : Nat) : natOf (List.replicate n 0) = 0 := by
  induction n with
  | zero => rfl
  | succ n ih => simp [List.replicate_succ, natOf, ih]
theorem natOf_snoc (xs : List Nat) (x : Nat) : natOf (xs ++ [x]) = natOf xs + 4294967296 ^ xs.length * x := by
  rw [natOf_append]; simp [natOf]
theorem natOf_take_succ (xs : List Nat) (k : Nat) (hk : k < xs.length) : natOf (xs.take (k + 1)) = natOf (xs.take k) + 4294967296 ^ k * xs.getD k 0 := by
  rw [take_snoc xs k 0 hk, natOf_snoc, List.length_take, Nat.min_eq_left (by omega)]
theorem natOf_take_end (xs : List Nat) (k : Nat) (hk : xs.length ≤ k) : natOf (xs.take k) = natOf xs := by rw [List.take_of_length_le hk]
theorem digs_length_le {n k : Nat} (h : n < 4294967296 ^ k) : (digs n).length ≤ k := by
  induction k generalizing n with
  | zero => obtain rfl : n = 0 := by simpa using h
            rw [digs_zero]; simp
  | succ k ih =>
    by_cases h0 : n = 0
    · subst h0; rw [digs_zero]; simp
    · rw [digs_pos h0]
      have := ih (n := n / 4294967296) (by rw [Nat.pow_succ] at h; exact Nat.div_lt_of_lt_mul (by rw [Nat.mul_comm]; exact h))
      simp; omega
theorem lt_of_digs_length {n k : Nat} (h : (digs n).length ≤ k) : n < 4294967296 ^ k := by
  have := natOf_lt (lim_digs n)
  rw [natOf_digs] at this
  exact Nat.lt_of_lt_of_le this (Nat.pow_le_pow_right (by omega) h)
/-- the normal form of a list is its beginning -/
theorem digs_take {xs : List Nat} (h : Lim xs) : digs (natOf xs) = xs.take (digs (natOf xs)).length := by
  rw [← trimL_digs h]
  clear h
  induction xs with
  | nil => rfl
  | cons x xs ih =>
    simp only [trimL]
    cases ht : trimL xs with
    | nil => by_cases hx : x = 0 <;> simp [hx]
    | cons y ys => rw [ht] at ih; simp only [List.length_cons, List.take_succ_cons] at ih ⊢; rw [← ih]
theorem digs_length_of {xs : List Nat} (h : Lim xs) : (digs (natOf xs)).length ≤ xs.length := digs_length_le (natOf_lt h)

/-! ### In memory -/
/-- a slice of limbs, only read -/
def Limbs (w : World) (a : Option Addr) (len cap : Nat) (xs : List Nat) : Prop :=
  xs.length = len ∧ Lim xs ∧ Cells w a len cap (fun i => .int .u32 ((xs.getD i 0 : Nat) : Int))
theorem Limbs.below {w w' : World} {a : Option Addr} {len cap : Nat} {xs : List Nat} (h : Limbs w a len cap xs) (hb : Below w.heap.size w w') : Limbs w' a len cap xs := ⟨h.1, h.2.1, h.2.2.below hb⟩
theorem Limbs.pre {w : World} {a : Option Addr} {len cap : Nat} {xs : List Nat} (h : Limbs w a len cap xs) (n : Nat) (hn : n ≤ len) : Limbs w a n cap (xs.take n) :=
  ⟨by rw [List.length_take, h.1]; omega, h.2.1.take n, (h.2.2.pre n hn).congr fun i hi => by simp [List.getD, hi]⟩
theorem limbs_nil (w : World) : Limbs w none 0 0 [] := ⟨rfl, (fun x hx => by cases hx), Nat.le_refl _, by simp [maxLen], by simp, .inl rfl⟩
/-- a number in its normal form -/
def Num (w : World) (v : Value) (n : Nat) : Prop := ∃ a len cap, v = .slice a len cap ∧ Limbs w a len cap (digs n)
theorem Num.below {w w' : World} {v : Value} {n : Nat} (h : Num w v n) (hb : Below w.heap.size w w') : Num w' v n := by
  obtain ⟨a, len, cap, e, h⟩ := h
  exact ⟨a, len, cap, e, h.below hb⟩
theorem num_nil (w : World) : Num w (.slice none 0 0) 0 := ⟨none, 0, 0, rfl, by rw [digs_zero]; exact limbs_nil w⟩
def lv (x : Nat) : Value := .int .u32 (x : Int)
def lvs (xs : List Nat) : List Value := xs.map lv
theorem lvs_length (xs : List Nat) : (lvs xs).length = xs.length := by simp [lvs]
theorem lvs_set (xs : List Nat) (j : Nat) (y : Nat) : (lvs xs).set j (lv y) = lvs (xs.set j y) := by simp [lvs, List.map_set]
theorem lvs_at (xs : List Nat) (j : Nat) (h : j < xs.length) : (lvs xs).getD j .nilFunc = lv (xs.getD j 0) := by simp [lvs, List.getD, h]
theorem lvs_one (xs : List Nat) : ∀ u ∈ lvs xs, u.oneCell' = true := by intro u hu; simp [lvs] at hu; obtain ⟨x, _, rfl⟩ := hu; rfl
theorem lvs_append (xs ys : List Nat) : lvs (xs ++ ys) = lvs xs ++ lvs ys := by simp [lvs]
theorem Limbs.vals {w : World} {a : Option Addr} {len cap : Nat} {xs : List Nat} (h : Limbs w a len cap xs) : Cells w a len cap (fun i => (lvs xs).getD i .nilFunc) :=
  h.2.2.congr fun i hi => by rw [lvs_at xs i (by rw [h.1]; exact hi)]; rfl
theorem Owns.limbs {w : World} {B : Nat} {e : TypeId} {v : Value} {xs : List Nat} (h : Owns w B e v (lvs xs)) (hl : Lim xs) : ∃ a n cap, v = .slice a n cap ∧ Limbs w a n cap xs := by
  obtain ⟨a, cap, e, hc⟩ := h.form
  rw [lvs_length] at e hc
  exact ⟨a, xs.length, cap, e, rfl, hl, hc.congr fun i hi => by rw [lvs_at xs i hi]; rfl⟩

end Go.Proofs.YtahmndacoanfiaaGreat
