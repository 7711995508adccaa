/- Natural numbers, plain: bit lengths, shifts, halves, division by shifted subtraction. No program here. -/
import Derived.Test.YtahmndacoanfiaaGreatNatP
namespace Go.Proofs.YtahmndacoanfiaaGreat
set_option maxRecDepth 100000
open Go.RowKit

/-! ### Bit lengths -/
def blen (n : Nat) : Nat := if h : n = 0 then 0 else blen (n / 2) + 1
termination_by n
decreasing_by omega
theorem blen_zero : blen 0 = 0 := by unfold blen; simp
theorem blen_pos {n : Nat} (h : n ≠ 0) : blen n = blen (n / 2) + 1 := by rw [blen]; simp [h]
theorem lt_blen : ∀ n : Nat, n < 2 ^ blen n := by
  intro n
  induction n using Nat.strongRecOn with
  | ind n ih =>
    by_cases h : n = 0
    · subst h; simp [blen_zero]
    · rw [blen_pos h, Nat.pow_succ]; have := ih (n / 2) (by omega); omega
theorem blen_ge : ∀ n : Nat, n ≠ 0 → 2 ^ (blen n - 1) ≤ n := by
  intro n
  induction n using Nat.strongRecOn with
  | ind n ih =>
    intro h
    rw [blen_pos h, Nat.add_sub_cancel]
    by_cases h2 : n / 2 = 0
    · rw [h2, blen_zero]; simp; omega
    · have := ih (n / 2) (by omega) h2
      have h3 : blen (n / 2) = (blen (n / 2) - 1) + 1 := by rw [blen_pos h2]; omega
      rw [h3, Nat.pow_succ]; omega
theorem blen_unique {n k : Nat} (h1 : 2 ^ (k - 1) ≤ n) (h2 : n < 2 ^ k) (hk : 1 ≤ k) : blen n = k := by
  have hn : n ≠ 0 := by have : 0 < 2 ^ (k - 1) := Nat.pow_pos (by omega); omega
  have h3 := lt_blen n
  have h4 := blen_ge n hn
  have h5 : blen n ≠ 0 := by rw [blen_pos hn]; omega
  rcases Nat.lt_trichotomy (blen n) k with h | h | h
  · have : 2 ^ blen n ≤ 2 ^ (k - 1) := Nat.pow_le_pow_right (by omega) (by omega)
    omega
  · exact h
  · have : 2 ^ k ≤ 2 ^ (blen n - 1) := Nat.pow_le_pow_right (by omega) (by omega)
    omega
theorem pow32 (k : Nat) : 4294967296 ^ k = 2 ^ (32 * k) := by rw [Nat.pow_mul]
/-- the bit length of a number in its normal form: that of its highest limb, and 32 for each other -/
theorem blen_digs {n : Nat} (h : n ≠ 0) : blen n = 32 * ((digs n).length - 1) + blen ((digs n).getD ((digs n).length - 1) 0) := by
  have hl : (digs n).length ≠ 0 := fun h' => h (digs_len_zero.1 h')
  generalize ht : (digs n).getD ((digs n).length - 1) 0 = t
  have ht0 : t ≠ 0 := by rw [← ht]; exact digs_last n h
  have e := natOf_take_s (digs n) ((digs n).length - 1)
  rw [show (digs n).length - 1 + 1 = (digs n).length by omega, List.take_length, natOf_digs, ht] at e
  have hlow := natOf_lt ((lim_digs n).take ((digs n).length - 1))
  rw [List.length_take, Nat.min_eq_left (by omega)] at hlow
  generalize natOf ((digs n).take ((digs n).length - 1)) = low at *
  generalize (digs n).length - 1 = k at *
  have h1 := lt_blen t
  have h2 := blen_ge t ht0
  have h3 : 1 ≤ blen t := by rw [blen_pos ht0]; omega
  rw [pow32] at *
  refine blen_unique ?_ ?_ (by omega)
  · rw [show 32 * k + blen t - 1 = 32 * k + (blen t - 1) by omega, Nat.pow_add]
    have := Nat.mul_le_mul_left (2 ^ (32 * k)) h2
    omega
  · rw [Nat.pow_add]
    have : 2 ^ (32 * k) * (t + 1) ≤ 2 ^ (32 * k) * 2 ^ blen t := Nat.mul_le_mul_left _ h1
    rw [Nat.mul_add] at this
    omega
theorem blen_le_len {n k : Nat} (h : (digs n).length ≤ k) : blen n ≤ 32 * k := by
  have h1 := lt_of_digs_length h
  by_cases h0 : n = 0
  · subst h0; rw [blen_zero]; omega
  · have h2 := blen_ge n h0
    rw [pow32] at h1
    rcases Nat.lt_or_ge (32 * k) (blen n) with h3 | h3
    · have : 2 ^ (32 * k) ≤ 2 ^ (blen n - 1) := Nat.pow_le_pow_right (by omega) (by omega)
      omega
    · exact h3
theorem blen_limb {t : Nat} (h : t < 4294967296) : blen t ≤ 32 := by
  by_cases h0 : t = 0
  · subst h0; rw [blen_zero]; omega
  · have h2 := blen_ge t h0
    rcases Nat.lt_or_ge 32 (blen t) with h3 | h3
    · have : 2 ^ 32 ≤ 2 ^ (blen t - 1) := Nat.pow_le_pow_right (by omega) (by omega)
      omega
    · exact h3

/-! ### Shifting to the left -/
theorem or_add {x y s : Nat} (hy : y < 2 ^ s) (hx : x % 2 ^ s = 0) : x ||| y = x + y := by
  have h := Nat.two_pow_add_eq_or_of_lt hy (x / 2 ^ s)
  rw [show 2 ^ s * (x / 2 ^ s) = x by have := Nat.div_add_mod x (2 ^ s); omega] at h
  exact h.symm
theorem shl_lo {x s : Nat} (hs : s ≤ 32) : (x * 2 ^ s) % 4294967296 % 2 ^ s = 0 := by
  rw [show 4294967296 = 2 ^ (32 - s) * 2 ^ s by rw [← Nat.pow_add, show 32 - s + s = 32 by omega], Nat.mul_mod_mul_right, Nat.mul_mod_left]
theorem shl_hi {x s : Nat} (hx : x < 4294967296) : (x * 2 ^ s) / 4294967296 < 2 ^ s := by
  have h : x * 2 ^ s < 4294967296 * 2 ^ s := Nat.mul_lt_mul_of_pos_right hx (Nat.pow_pos (by omega))
  exact Nat.div_lt_of_lt_mul h
/-- one limb, shifted into its place -/
theorem shl_step {R : List Nat} {i q s x n S : Nat} (hi : i + q + 1 < R.length) (hs : s < 32) (hn : 4294967296 ^ q * 2 ^ s = 2 ^ n) (hp : R.getD (i + q) 0 < 2 ^ s) (h0 : R.getD (i + q + 1) 0 = 0)
    (h : natOf R = S * 2 ^ n) : natOf ((R.set (i + q) (R.getD (i + q) 0 ||| (x * 2 ^ s) % 4294967296)).set (i + q + 1) ((x * 2 ^ s) / 4294967296)) = (S + 4294967296 ^ i * x) * 2 ^ n := by
  have e0 : R.getD (i + q) 0 ||| (x * 2 ^ s) % 4294967296 = (x * 2 ^ s) % 4294967296 + R.getD (i + q) 0 := by
    rw [Nat.or_comm]; exact or_add hp (shl_lo (by omega))
  rw [e0]
  have h1 := natOf_set R (i + q) ((x * 2 ^ s) % 4294967296 + R.getD (i + q) 0) (by omega)
  have h2 := natOf_set (R.set (i + q) ((x * 2 ^ s) % 4294967296 + R.getD (i + q) 0)) (i + q + 1) ((x * 2 ^ s) / 4294967296) (by rw [List.length_set]; exact hi)
  have h3 : (R.set (i + q) ((x * 2 ^ s) % 4294967296 + R.getD (i + q) 0)).getD (i + q + 1) 0 = 0 := by
    simp only [List.getD] at h0 ⊢
    rw [List.getElem?_set_ne (by omega)]; exact h0
  rw [h3] at h2
  rw [Nat.mul_add] at h1
  have e1 : 4294967296 ^ (i + q) * (x * 2 ^ s % 4294967296) + 4294967296 ^ (i + q + 1) * (x * 2 ^ s / 4294967296) = 4294967296 ^ (i + q) * (x * 2 ^ s) := by
    rw [Nat.pow_succ, Nat.mul_assoc, ← Nat.mul_add, Nat.mod_add_div]
  have e2 : 4294967296 ^ (i + q) * (x * 2 ^ s) = 4294967296 ^ i * x * 2 ^ n := by
    rw [Nat.pow_add, ← hn, Nat.mul_assoc, Nat.mul_left_comm (4294967296 ^ q), Nat.mul_assoc]
  rw [Nat.add_mul]
  omega
theorem pow_split (n : Nat) : 4294967296 ^ (n / 32) * 2 ^ (n % 32) = 2 ^ n := by
  rw [pow32, ← Nat.pow_add, Nat.div_add_mod]

/-! ### Halves -/
theorem half_step {xs zs : List Nat} {k y : Nat} (hz : zs.length = k) (hy : y = xs.getD k 0 / 2 + xs.getD (k + 1) 0 % 2 * 2147483648)
    (h : 2 * natOf zs + xs.getD 0 0 % 2 = natOf (xs.take k) + 4294967296 ^ k * (xs.getD k 0 % 2)) :
    2 * natOf (zs ++ [y]) + xs.getD 0 0 % 2 = natOf (xs.take (k + 1)) + 4294967296 ^ (k + 1) * (xs.getD (k + 1) 0 % 2) := by
  rw [natOf_snoc, natOf_take_s, hz, hy, Nat.mul_add, Nat.pow_succ]
  have e : 2 * (4294967296 ^ k * (xs.getD k 0 / 2 + xs.getD (k + 1) 0 % 2 * 2147483648)) = 4294967296 ^ k * (2 * (xs.getD k 0 / 2)) + 4294967296 ^ k * 4294967296 * (xs.getD (k + 1) 0 % 2) := by
    rw [Nat.mul_left_comm, Nat.mul_assoc, ← Nat.mul_add]; congr 1; omega
  have e2 : 4294967296 ^ k * (2 * (xs.getD k 0 / 2)) + 4294967296 ^ k * (xs.getD k 0 % 2) = 4294967296 ^ k * xs.getD k 0 := by
    rw [← Nat.mul_add]; congr 1; omega
  omega
theorem half_end {xs zs : List Nat} {k : Nat} (hk : xs.length ≤ k) (h : 2 * natOf zs + xs.getD 0 0 % 2 = natOf (xs.take k) + 4294967296 ^ k * (xs.getD k 0 % 2)) : natOf zs = natOf xs / 2 := by
  rw [List.take_of_length_le hk, show xs.getD k 0 = 0 by simp [List.getD, List.getElem?_eq_none hk]] at h
  simp at h
  omega
theorem half_limb {x y : Nat} (hx : x < 4294967296) : (y * 4294967296 + x) / 2 % 4294967296 = x / 2 + y % 2 * 2147483648 := by omega

/-! ### Division by shifted subtraction -/
/-- a bit set in a quotient whose bits up to it are 0 -/
theorem bit_limb {R : List Nat} {i : Nat} (hR : Lim R) (h : natOf R % 2 ^ (i + 1) = 0) : R.getD (i / 32) 0 % 2 ^ (i % 32 + 1) = 0 := by
  generalize hj : i / 32 = j
  generalize hr : i % 32 = r
  have hi : i + 1 = 32 * j + (r + 1) := by omega
  have e1 := natOf_append (R.take j) (R.drop j)
  rw [List.take_append_drop, List.length_take] at e1
  by_cases hjl : j ≤ R.length
  · rw [Nat.min_eq_left hjl, natOf_drop_s, pow32] at e1
    have hlow := natOf_lt (hR.take j)
    rw [List.length_take, Nat.min_eq_left hjl, pow32] at hlow
    rw [hi, Nat.pow_add] at h
    have hd : 2 ^ (32 * j) * 2 ^ (r + 1) ∣ natOf R := Nat.dvd_of_mod_eq_zero h
    obtain ⟨c, hc⟩ := hd
    have h0 : natOf (R.take j) = 0 := by
      have : natOf R % 2 ^ (32 * j) = 0 := by rw [hc, Nat.mul_assoc, Nat.mul_mod_right]
      rw [e1, Nat.add_mul_mod_self_left, Nat.mod_eq_of_lt hlow] at this
      exact this
    rw [h0, Nat.zero_add] at e1
    have h1 : R.getD j 0 + 4294967296 * natOf (R.drop (j + 1)) = 2 ^ (r + 1) * c := by
      rw [e1, Nat.mul_assoc] at hc
      exact Nat.eq_of_mul_eq_mul_left (Nat.pow_pos (by omega)) hc
    have h2 : (4294967296 : Nat) = 2 ^ (r + 1) * 2 ^ (31 - r) := by rw [← Nat.pow_add, show r + 1 + (31 - r) = 32 by omega]
    have h3 : (R.getD j 0 + 4294967296 * natOf (R.drop (j + 1))) % 2 ^ (r + 1) = 0 := by rw [h1, Nat.mul_mod_right]
    rw [h2, Nat.mul_assoc, Nat.add_mul_mod_self_left] at h3
    exact h3
  · simp [List.getD, List.getElem?_eq_none (show R.length ≤ j by omega)]
theorem bit_or {R : List Nat} {i : Nat} (hR : Lim R) (hi : i / 32 < R.length) (h : natOf R % 2 ^ (i + 1) = 0) :
    natOf (R.set (i / 32) (R.getD (i / 32) 0 ||| 2 ^ (i % 32))) = natOf R + 2 ^ i ∧ R.getD (i / 32) 0 ||| 2 ^ (i % 32) < 4294967296 := by
  have h1 := bit_limb hR h
  have e0 : R.getD (i / 32) 0 ||| 2 ^ (i % 32) = R.getD (i / 32) 0 + 2 ^ (i % 32) := or_add (Nat.pow_lt_pow_right (by omega) (by omega)) h1
  have h2 := natOf_set R (i / 32) (R.getD (i / 32) 0 + 2 ^ (i % 32)) hi
  have h3 : R.getD (i / 32) 0 < 2 ^ 32 := hR.getD _
  have h4 : 2 ^ (i % 32) < 2 ^ 32 := Nat.pow_lt_pow_right (by omega) (by omega)
  refine ⟨?_, Nat.or_lt_two_pow (n := 32) h3 h4⟩
  rw [e0]
  rw [Nat.mul_add, pow_split] at h2
  omega
/-- one step of the long division -/
theorem dm_yes {A a b Q k d : Nat} (hd : d = b * 2 ^ k) (h : A = a + b * Q) (hlt : a < b * 2 ^ (k + 1)) (hge : d ≤ a) : A = (a - d) + b * (Q + 2 ^ k) ∧ a - d < b * 2 ^ k := by
  rw [Nat.pow_succ, ← Nat.mul_assoc] at hlt
  rw [Nat.mul_add]
  omega
theorem dm_start {a b : Nat} (hb : b ≠ 0) (h : blen b ≤ blen a) : a < b * 2 ^ (blen a - blen b + 1) := by
  have h1 := lt_blen a
  have h2 := blen_ge b hb
  have h3 : 1 ≤ blen b := by rw [blen_pos hb]; omega
  have : 2 ^ (blen b - 1) * 2 ^ (blen a - blen b + 1) ≤ b * 2 ^ (blen a - blen b + 1) := Nat.mul_le_mul_right _ h2
  rw [← Nat.pow_add, show blen b - 1 + (blen a - blen b + 1) = blen a by omega] at this
  omega
theorem dm_small {a b : Nat} (h : blen a < blen b) : a < b := by
  have h1 := lt_blen a
  by_cases hb : b = 0
  · subst hb; rw [blen_zero] at h; omega
  · have h2 := blen_ge b hb
    have : 2 ^ blen a ≤ 2 ^ (blen b - 1) := Nat.pow_le_pow_right (by omega) (by omega)
    omega
theorem mod_pow_add {Q k : Nat} (h : Q % 2 ^ (k + 1) = 0) : (Q + 2 ^ k) % 2 ^ k = 0 ∧ Q % 2 ^ k = 0 := by
  obtain ⟨c, hc⟩ := Nat.dvd_of_mod_eq_zero h
  rw [Nat.pow_succ, Nat.mul_assoc] at hc
  have : Q % 2 ^ k = 0 := by rw [hc, Nat.mul_mod_right]
  exact ⟨by rw [Nat.add_mod_right]; exact this, this⟩
theorem dm_end {A a b Q : Nat} (h : A = a + b * Q) (hlt : a < b) : Q = A / b ∧ a = A % b := by
  have := div_end hlt (X := A) (Q := Q) (by rw [h, Nat.mul_comm Q b, Nat.add_comm])
  exact this

end Go.Proofs.YtahmndacoanfiaaGreat
