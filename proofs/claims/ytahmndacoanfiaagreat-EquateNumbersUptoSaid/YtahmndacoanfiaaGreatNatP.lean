/- Natural numbers as limbs of 32 bits, plain: one step of addition, subtraction, multiplication, division, comparison and shifting. No program here. -/
import Derived.Test.YtahmndacoanfiaaGreatNat
namespace Go.Proofs.YtahmndacoanfiaaGreat
set_option maxRecDepth 100000
open Go.RowKit

theorem natOf_take_s (xs : List Nat) (k : Nat) : natOf (xs.take (k + 1)) = natOf (xs.take k) + 4294967296 ^ k * xs.getD k 0 := by
  by_cases hk : k < xs.length
  · exact natOf_take_succ xs k hk
  · rw [List.take_of_length_le (by omega), List.take_of_length_le (by omega)]
    simp [List.getD, List.getElem?_eq_none (by omega : xs.length ≤ k)]
theorem natOf_drop_s (xs : List Nat) (k : Nat) : natOf (xs.drop k) = xs.getD k 0 + 4294967296 * natOf (xs.drop (k + 1)) := by
  by_cases hk : k < xs.length
  · rw [drop_cons xs k 0 hk, natOf]
  · rw [List.drop_of_length_le (by omega), List.drop_of_length_le (by omega)]
    simp [List.getD, List.getElem?_eq_none (by omega : xs.length ≤ k), natOf]
theorem natOf_set : ∀ (xs : List Nat) (k v : Nat), k < xs.length → natOf (xs.set k v) + 4294967296 ^ k * xs.getD k 0 = natOf xs + 4294967296 ^ k * v
  | [], _, _, h => by simp at h
  | x :: xs, 0, v, _ => by simp [natOf]; omega
  | x :: xs, k + 1, v, h => by
    have ih := natOf_set xs k v (by simpa using h)
    simp only [List.set_cons_succ, natOf, List.getD_cons_succ, Nat.pow_succ]
    have e1 : 4294967296 ^ k * 4294967296 * xs.getD k 0 = 4294967296 * (4294967296 ^ k * xs.getD k 0) := by rw [Nat.mul_comm (4294967296 ^ k), Nat.mul_assoc]
    have e2 : 4294967296 ^ k * 4294967296 * v = 4294967296 * (4294967296 ^ k * v) := by rw [Nat.mul_comm (4294967296 ^ k), Nat.mul_assoc]
    rw [e1, e2]
    omega
theorem Lim.set {xs : List Nat} (h : Lim xs) (k v : Nat) (hv : v < 4294967296) : Lim (xs.set k v) := fun x hx => by
  rcases List.mem_or_eq_of_mem_set hx with hx | rfl
  · exact h x hx
  · exact hv
theorem lim_replicate (n : Nat) : Lim (List.replicate n 0) := fun x hx => by
  rw [List.mem_replicate] at hx; omega
theorem Lim.snoc {xs : List Nat} (h : Lim xs) {x : Nat} (hx : x < 4294967296) : Lim (xs ++ [x]) := h.append fun y hy => by simp at hy; omega
theorem lim_nil : Lim [] := fun x hx => by cases hx
theorem lset_fill (l : List Nat) (m : Nat) (y : Nat) : (l ++ List.replicate (m + 1) 0).set l.length y = (l ++ [y]) ++ List.replicate m 0 := by
  rw [List.set_append_right _ _ (Nat.le_refl _)]; simp [List.replicate_succ]
/-- two lists of limbs of one number in its normal form are one -/
theorem digs_inj {a b : Nat} (h : digs a = digs b) : a = b := by have := congrArg natOf h; rwa [natOf_digs, natOf_digs] at this
theorem digs_len_zero {n : Nat} : (digs n).length = 0 ↔ n = 0 := by
  constructor
  · intro h
    by_cases h0 : n = 0
    · exact h0
    · exact absurd (List.eq_nil_of_length_eq_zero h) (digs_ne h0)
  · rintro rfl; rw [digs_zero]; rfl
/-- the highest limb of a normal form is not 0 -/
theorem digs_last (n : Nat) (h : n ≠ 0) : (digs n).getD ((digs n).length - 1) 0 ≠ 0 := by
  induction n using Nat.strongRecOn with
  | ind n ih =>
    rw [digs_pos h]
    by_cases h1 : n / 4294967296 = 0
    · rw [h1, digs_zero]
      simp
      omega
    · have := ih (n / 4294967296) (by omega) h1
      have hl : (digs (n / 4294967296)).length ≠ 0 := fun h => h1 (digs_len_zero.1 h)
      rw [List.length_cons, show (digs (n / 4294967296)).length + 1 - 1 = ((digs (n / 4294967296)).length - 1) + 1 by omega, List.getD_cons_succ]
      exact this
theorem digs_len_lt {n k : Nat} (h : k < (digs n).length) : 4294967296 ^ k ≤ n := by
  rcases Nat.lt_or_ge n (4294967296 ^ k) with h' | h'
  · have := digs_length_le h'; omega
  · exact h'
/-- fewer limbs: less -/
theorem lt_of_len {a b : Nat} (h : (digs a).length < (digs b).length) : a < b :=
  Nat.lt_of_lt_of_le (lt_of_digs_length (Nat.le_refl _)) (digs_len_lt h)
/-- a list of limbs whose highest one is not 0 is a normal form -/
theorem digs_of_last {xs : List Nat} (hl : Lim xs) (h : xs = [] ∨ xs.getD (xs.length - 1) 0 ≠ 0) : digs (natOf xs) = xs := by
  rw [← trimL_digs hl]
  rcases h with rfl | h
  · rfl
  · by_cases h0 : xs.length = 0
    · rw [List.eq_nil_of_length_eq_zero h0]; rfl
    · have := trimL_done xs (xs.length - 1) (by omega) h
      rw [show xs.length - 1 + 1 = xs.length by omega, List.take_length] at this
      exact this

/-! ### Addition -/
theorem add_step {xs zs ys : List Nat} {k c t : Nat} (hy : ys.length = k) (h : natOf ys + 4294967296 ^ k * c = natOf (xs.take k) + natOf (zs.take k)) (ht : t = xs.getD k 0 + c + zs.getD k 0) :
    natOf (ys ++ [t % 4294967296]) + 4294967296 ^ (k + 1) * (t / 4294967296) = natOf (xs.take (k + 1)) + natOf (zs.take (k + 1)) := by
  rw [natOf_snoc, natOf_take_s, natOf_take_s, hy]
  have e : 4294967296 ^ k * (t % 4294967296) + 4294967296 ^ (k + 1) * (t / 4294967296) = 4294967296 ^ k * t := by
    rw [Nat.pow_succ, Nat.mul_assoc, ← Nat.mul_add, Nat.mod_add_div]
  have e2 : 4294967296 ^ k * t = 4294967296 ^ k * xs.getD k 0 + 4294967296 ^ k * c + 4294967296 ^ k * zs.getD k 0 := by rw [ht, Nat.mul_add, Nat.mul_add]
  omega

/-! ### Subtraction -/
theorem sub_step {xs zs ys : List Nat} {k c d c' : Nat} (hy : ys.length = k) (h : natOf ys + natOf (zs.take k) = natOf (xs.take k) + 4294967296 ^ k * c) (hd : d + zs.getD k 0 + c = xs.getD k 0 + 4294967296 * c') :
    natOf (ys ++ [d]) + natOf (zs.take (k + 1)) = natOf (xs.take (k + 1)) + 4294967296 ^ (k + 1) * c' := by
  rw [natOf_snoc, natOf_take_s, natOf_take_s, hy]
  have e : 4294967296 ^ k * d + 4294967296 ^ k * zs.getD k 0 + 4294967296 ^ k * c = 4294967296 ^ k * xs.getD k 0 + 4294967296 ^ (k + 1) * c' := by
    rw [← Nat.mul_add, ← Nat.mul_add, hd, Nat.mul_add, Nat.pow_succ, Nat.mul_assoc]
  omega
/-- no borrow is left at the end, and the difference is right -/
theorem sub_end {xs zs ys : List Nat} {k c : Nat} (hyl : Lim ys) (hy : ys.length = k) (hk : xs.length = k) (hz : zs.length ≤ k) (hle : natOf zs ≤ natOf xs) (h : natOf ys + natOf (zs.take k) = natOf (xs.take k) + 4294967296 ^ k * c) : natOf ys = natOf xs - natOf zs := by
  rw [List.take_of_length_le hz, List.take_of_length_le (by omega)] at h
  have h1 := natOf_lt hyl
  rw [hy] at h1
  have : c = 0 := by
    rcases Nat.eq_zero_or_pos c with h0 | h0
    · exact h0
    · have : 4294967296 ^ k * 1 ≤ 4294967296 ^ k * c := Nat.mul_le_mul_left _ h0
      omega
  subst this
  omega

/-! ### Comparison -/
/-- what is known when the limbs from k on agree -/
theorem cmp_less {xs zs : List Nat} {k : Nat} (hx : Lim xs) (hk : k < xs.length) (hl : xs.length = zs.length) (he : natOf (xs.drop (k + 1)) = natOf (zs.drop (k + 1))) (h : xs.getD k 0 < zs.getD k 0) : natOf xs < natOf zs := by
  have e1 := natOf_append (xs.take k) (xs.drop k)
  have e2 := natOf_append (zs.take k) (zs.drop k)
  rw [List.take_append_drop, List.length_take, Nat.min_eq_left (by omega), natOf_drop_s] at e1 e2
  have h1 := natOf_lt (hx.take k)
  rw [List.length_take, Nat.min_eq_left (by omega)] at h1
  rw [e1, e2, he]
  have h2 : 4294967296 ^ k * (xs.getD k 0 + 4294967296 * natOf (zs.drop (k + 1)) + 1) ≤ 4294967296 ^ k * (zs.getD k 0 + 4294967296 * natOf (zs.drop (k + 1))) := Nat.mul_le_mul_left _ (by omega)
  rw [Nat.mul_add] at h2
  omega

/-! ### Multiplication -/
theorem mul_step {P : List Nat} {i j c x y t : Nat} (hi : i + j < P.length) (ht : t = x * y + P.getD (i + j) 0 + c) {S : Nat} {zs : List Nat} (hy : zs.getD j 0 = y)
    (h : natOf P + 4294967296 ^ (i + j) * c = S + 4294967296 ^ i * (x * natOf (zs.take j))) :
    natOf (P.set (i + j) (t % 4294967296)) + 4294967296 ^ (i + (j + 1)) * (t / 4294967296) = S + 4294967296 ^ i * (x * natOf (zs.take (j + 1))) := by
  have h1 := natOf_set P (i + j) (t % 4294967296) hi
  have e : 4294967296 ^ (i + j) * (t % 4294967296) + 4294967296 ^ (i + (j + 1)) * (t / 4294967296) = 4294967296 ^ (i + j) * t := by
    rw [show i + (j + 1) = i + j + 1 by omega, Nat.pow_succ, Nat.mul_assoc, ← Nat.mul_add, Nat.mod_add_div]
  have e2 : 4294967296 ^ (i + j) * t = 4294967296 ^ (i + j) * (x * y) + 4294967296 ^ (i + j) * P.getD (i + j) 0 + 4294967296 ^ (i + j) * c := by rw [ht, Nat.mul_add, Nat.mul_add]
  have e3 : 4294967296 ^ i * (x * natOf (zs.take (j + 1))) = 4294967296 ^ i * (x * natOf (zs.take j)) + 4294967296 ^ (i + j) * (x * y) := by
    rw [natOf_take_s, hy, Nat.mul_add, Nat.mul_add, Nat.pow_add]
    congr 1
    rw [Nat.mul_left_comm x, ← Nat.mul_assoc]
  omega
theorem mul_carry {x y p c : Nat} (hx : x < 4294967296) (hy : y < 4294967296) (hp : p < 4294967296) (hc : c < 4294967296) : x * y + p + c < 18446744073709551616 ∧ (x * y + p + c) / 4294967296 < 4294967296 := by
  have h : x * y ≤ 4294967295 * 4294967295 := Nat.mul_le_mul (by omega) (by omega)
  constructor <;> omega
theorem mul_bound {x y p c : Nat} (hx : x < 4294967296) (hy : y < 4294967296) (hp : p < 4294967296) (hc : c < 4294967296) : x * y < 18446744073709551616 ∧ x * y + p < 18446744073709551616 ∧ x * y + p + c < 18446744073709551616 := by
  have h : x * y ≤ 4294967295 * 4294967295 := Nat.mul_le_mul (by omega) (by omega)
  omega
/-- a row's end: the last carry goes into a limb that was 0 -/
theorem mul_row {P : List Nat} {i n c x S : Nat} {zs : List Nat} (hi : i + n < P.length) (hn : zs.length ≤ n) (h0 : P.getD (i + n) 0 = 0)
    (h : natOf P + 4294967296 ^ (i + n) * c = S + 4294967296 ^ i * (x * natOf (zs.take n))) : natOf (P.set (i + n) c) = S + 4294967296 ^ i * (x * natOf zs) := by
  have h1 := natOf_set P (i + n) c hi
  rw [h0] at h1
  rw [List.take_of_length_le hn] at h
  omega
theorem mul_rows {xs zs : List Nat} {i : Nat} : natOf (xs.take i) * natOf zs + 4294967296 ^ i * (xs.getD i 0 * natOf zs) = natOf (xs.take (i + 1)) * natOf zs := by
  rw [natOf_take_s, Nat.add_mul, Nat.mul_assoc]

/-! ### Division by a limb -/
theorem div_step {xs Q : List Nat} {k d r t : Nat} (hQ : k < Q.length) (ht : t = r * 4294967296 + xs.getD k 0)
    (h : natOf (xs.drop (k + 1)) = natOf (Q.drop (k + 1)) * d + r) :
    natOf (xs.drop k) = natOf ((Q.set k (t / d)).drop k) * d + t % d := by
  rw [natOf_drop_s xs k, h, natOf_drop_s (Q.set k (t / d)) k]
  have e1 : (Q.set k (t / d)).getD k 0 = t / d := by simp [List.getD, hQ]
  have e2 : (Q.set k (t / d)).drop (k + 1) = Q.drop (k + 1) := by rw [List.drop_set_of_lt (by omega)]
  rw [e1, e2]
  have h2 := Nat.div_add_mod t d
  have h3 : 4294967296 * (natOf (Q.drop (k + 1)) * d) = 4294967296 * natOf (Q.drop (k + 1)) * d := by rw [Nat.mul_assoc]
  have h4 : t / d * d = d * (t / d) := Nat.mul_comm _ _
  rw [Nat.add_mul, Nat.mul_add]
  omega
theorem div_digit {d r x t : Nat} (hd : d < 4294967296) (hr : r < d) (hx : x < 4294967296) (ht : t = r * 4294967296 + x) : t / d < 4294967296 ∧ t < 18446744073709551616 := by
  have h1 : r * 4294967296 + 4294967296 ≤ d * 4294967296 := by
    have : (r + 1) * 4294967296 ≤ d * 4294967296 := Nat.mul_le_mul_right _ hr
    omega
  constructor
  · exact Nat.div_lt_of_lt_mul (by omega)
  · omega
theorem div_end {X Q d r : Nat} (hr : r < d) (h : X = Q * d + r) : Q = X / d ∧ r = X % d := by
  have hd : 0 < d := by omega
  subst h
  constructor
  · rw [Nat.add_comm, Nat.add_mul_div_right _ _ hd, Nat.div_eq_of_lt hr]; omega
  · rw [Nat.add_comm, Nat.add_mul_mod_self_right, Nat.mod_eq_of_lt hr]

end Go.Proofs.YtahmndacoanfiaaGreat
