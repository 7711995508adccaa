/- Long division, plain: what the estimate of a digit, the subtraction of a multiple and the adding back yield. No program here. -/
import Derived.Test.YtahmndacoanfiaaGreatNatQ
namespace Go.Proofs.YtahmndacoanfiaaGreat
set_option maxRecDepth 100000
open Go.RowKit

/-! ### The estimate -/
/-- the numbers that a digit is estimated from: the part's three highest limbs, the divisor's two -/
structure Est (p2 p1 p0 d1 d0 : Nat) : Prop where
  h2 : p2 < 4294967296
  h1 : p1 < 4294967296
  h0 : p0 < 4294967296
  k1 : d1 < 4294967296
  k0 : d0 < 4294967296
  norm : 2147483648 ≤ d1
  top : p2 ≤ d1
/-- what holds at each round: the digit is not too small -/
def EstOk (p2 p1 p0 d1 d0 q r : Nat) : Prop :=
  q * d1 + r = p2 * 4294967296 + p1 ∧ q ≤ 4294967297 ∧ (q = 4294967297 → r < 2147483648) ∧
  (∀ k, k < 4294967296 → k * (d1 * 4294967296 + d0) ≤ (p2 * 4294967296 + p1) * 4294967296 + p0 → k ≤ q)
theorem est_top {p2 p1 d1 : Nat} (h : p2 ≤ d1) (h1 : p1 < 4294967296) : p2 * 4294967296 + p1 ≤ d1 * 4294967296 + 4294967295 := by omega
theorem est_start {p2 p1 p0 d1 d0 : Nat} (h : Est p2 p1 p0 d1 d0) : EstOk p2 p1 p0 d1 d0 ((p2 * 4294967296 + p1) / d1) ((p2 * 4294967296 + p1) % d1) ∧ (p2 * 4294967296 + p1) % d1 < 4294967296 := by
  have hd : 0 < d1 := by have := h.norm; omega
  have hdm := Nat.div_add_mod (p2 * 4294967296 + p1) d1
  rw [Nat.mul_comm] at hdm
  have hm := Nat.mod_lt (p2 * 4294967296 + p1) hd
  generalize (p2 * 4294967296 + p1) / d1 = q at *
  generalize (p2 * 4294967296 + p1) % d1 = r at *
  have hk1 := h.k1
  have hn := h.norm
  have htop := est_top h.top h.h1
  refine ⟨⟨by omega, ?_, ?_, ?_⟩, by omega⟩
  · rcases Nat.lt_or_ge q 4294967298 with hq | hq
    · omega
    · have : 4294967298 * d1 ≤ q * d1 := Nat.mul_le_mul_right _ hq
      omega
  · intro hq
    rw [hq] at hdm
    omega
  · intro k _ hk
    rcases Nat.lt_or_ge q k with hq | hq
    · have h1 : k * (d1 * 4294967296) ≤ k * (d1 * 4294967296 + d0) := Nat.mul_le_mul_left _ (Nat.le_add_right _ _)
      have h2 : (q + 1) * d1 ≤ k * d1 := Nat.mul_le_mul_right _ hq
      have h3 : k * (d1 * 4294967296) = k * d1 * 4294967296 := (Nat.mul_assoc _ _ _).symm
      have := h.h0
      rw [Nat.add_mul] at h2
      omega
    · exact hq
/-- one round: the digit is one less -/
theorem est_round {p2 p1 p0 d1 d0 q r : Nat} (ho : EstOk p2 p1 p0 d1 d0 q r)
    (hc : 4294967296 ≤ q ∨ r * 4294967296 + p0 < q * d0) : 1 ≤ q ∧ EstOk p2 p1 p0 d1 d0 (q - 1) (r + d1) := by
  obtain ⟨h1, h2, h3, h4⟩ := ho
  have hq : 1 ≤ q := by
    rcases Nat.eq_zero_or_pos q with h0 | h0
    · subst h0; simp at hc
    · exact h0
  have e : (q - 1) * d1 + (r + d1) = q * d1 + r := by
    obtain ⟨t, rfl⟩ : ∃ t, q = t + 1 := ⟨q - 1, by omega⟩
    rw [Nat.add_sub_cancel, Nat.add_mul]; omega
  refine ⟨hq, by omega, by omega, fun h5 => by omega, fun k hk hle => ?_⟩
  have h6 := h4 k hk hle
  rcases Nat.lt_or_ge k q with h7 | h7
  · omega
  · obtain rfl : k = q := by omega
    rcases hc with hc | hc
    · omega
    · have e2 : k * (d1 * 4294967296 + d0) = (k * d1) * 4294967296 + k * d0 := by rw [Nat.mul_add, Nat.mul_assoc]
      rw [e2] at hle
      omega
/-- the end: the digit fits, and its multiple of the divisor's head is at most the part's head -/
def EstEnd (p2 p1 p0 d1 d0 q : Nat) : Prop :=
  q < 4294967296 ∧ q * (d1 * 4294967296 + d0) ≤ (p2 * 4294967296 + p1) * 4294967296 + p0 ∧
  (∀ k, k < 4294967296 → k * (d1 * 4294967296 + d0) ≤ (p2 * 4294967296 + p1) * 4294967296 + p0 → k ≤ q)
theorem est_test {p2 p1 p0 d1 d0 q r : Nat} (ho : EstOk p2 p1 p0 d1 d0 q r) (h1 : q < 4294967296) (h2 : q * d0 ≤ r * 4294967296 + p0) : EstEnd p2 p1 p0 d1 d0 q := by
  obtain ⟨h3, _, _, h4⟩ := ho
  refine ⟨h1, ?_, h4⟩
  rw [Nat.mul_add, ← Nat.mul_assoc, ← h3]
  omega
theorem est_break {p2 p1 p0 d1 d0 q r : Nat} (h : Est p2 p1 p0 d1 d0) (ho : EstOk p2 p1 p0 d1 d0 q r) (hr : 4294967296 ≤ r) (hq : q < 4294967296) : EstEnd p2 p1 p0 d1 d0 q := by
  refine est_test ho hq ?_
  have h1 : q * d0 ≤ 4294967295 * 4294967295 := Nat.mul_le_mul (by omega) (by have := h.k0; omega)
  omega
/-- behind a round the digit is below 2^32, or the round goes on -/
theorem est_small {p2 p1 p0 d1 d0 q r : Nat} (h : Est p2 p1 p0 d1 d0) (ho : EstOk p2 p1 p0 d1 d0 q r) (hr : 4294967296 ≤ r) (hq : q ≤ 4294967296) : q < 4294967296 := by
  rcases Nat.lt_or_ge q 4294967296 with h1 | h1
  · exact h1
  · obtain rfl : q = 4294967296 := by omega
    obtain ⟨h2, _, _, _⟩ := ho
    have h3 := Nat.mul_le_mul_right 4294967296 h.top
    have := h.h1
    omega

/-! ### The digit -/
/-- an estimated digit is right, or one too great -/
theorem knuth {V D n top2 D2 low lowd q : Nat} (hV : V = top2 * 4294967296 ^ n + low) (hD : D = D2 * 4294967296 ^ n + lowd) (hl : low < 4294967296 ^ n) (hld : lowd < 4294967296 ^ n)
    (hD2 : 4294967296 ≤ D2) (hq : q < 4294967296) (hle : q * D2 ≤ top2) (hge : ∀ k, k < 4294967296 → k * D2 ≤ top2 → k ≤ q) (hVD : V < 4294967296 * D) : V / D ≤ q ∧ q ≤ V / D + 1 := by
  have hB : 0 < 4294967296 ^ n := Nat.pow_pos (by omega)
  generalize 4294967296 ^ n = B at *
  have hD0 : 0 < D := by
    have : 4294967296 * B ≤ D2 * B := Nat.mul_le_mul_right _ hD2
    omega
  constructor
  · refine hge _ (Nat.div_lt_of_lt_mul (by rw [Nat.mul_comm]; exact hVD)) ?_
    have h1 : V / D * D ≤ V := Nat.div_mul_le_self _ _
    have h2 : V / D * (D2 * B) ≤ V / D * D := Nat.mul_le_mul_left _ (by omega)
    rw [← Nat.mul_assoc] at h2
    generalize V / D * D2 = x at *
    rcases Nat.lt_or_ge top2 x with h3 | h3
    · have : (top2 + 1) * B ≤ x * B := Nat.mul_le_mul_right _ h3
      rw [Nat.add_mul] at this
      omega
    · exact h3
  · rcases Nat.eq_zero_or_pos q with h0 | h0
    · rw [h0]; exact Nat.zero_le _
    · have h1 : q * D < V + D := by
        rw [hD, Nat.mul_add, ← Nat.mul_assoc, hV]
        have h2 : q * D2 * B ≤ top2 * B := Nat.mul_le_mul_right _ hle
        have h3 : q * lowd ≤ 4294967296 * B := Nat.mul_le_mul (by omega) (by omega)
        have h4 : 4294967296 * B ≤ D2 * B := Nat.mul_le_mul_right _ hD2
        have h5 : q * lowd < 4294967296 * B := by
          have : q * lowd ≤ q * B := Nat.mul_le_mul_left _ (by omega)
          have : q * B < 4294967296 * B := Nat.mul_lt_mul_of_pos_right hq hB
          omega
        omega
      have h6 : (q - 1) * D ≤ V := by
        obtain ⟨t, rfl⟩ : ∃ t, q = t + 1 := ⟨q - 1, by omega⟩
        rw [Nat.add_mul] at h1
        simp; omega
      have := (Nat.le_div_iff_mul_le hD0).2 h6
      omega

/-! ### Subtracting a multiple, limb by limb -/
theorem subm_step {P D N : List Nat} {k q c b p d c' b' : Nat} (hN : N.length = k) (h : natOf N + q * natOf (D.take k) = natOf (P.take k) + 4294967296 ^ k * (c + b))
    (hp : p = q * D.getD k 0 + c) (hd : d + p % 4294967296 + b = P.getD k 0 + 4294967296 * b') (hc : c' = p / 4294967296) :
    natOf (N ++ [d]) + q * natOf (D.take (k + 1)) = natOf (P.take (k + 1)) + 4294967296 ^ (k + 1) * (c' + b') := by
  rw [natOf_snoc, natOf_take_s D, natOf_take_s P, hN]
  have e1 : 4294967296 ^ k * (d + p % 4294967296 + b) = 4294967296 ^ k * (P.getD k 0 + 4294967296 * b') := by rw [hd]
  have e2 : 4294967296 ^ k * p = 4294967296 ^ k * (p % 4294967296) + 4294967296 ^ (k + 1) * c' := by
    rw [Nat.pow_succ, Nat.mul_assoc, ← Nat.mul_add, hc, Nat.mod_add_div]
  have e3 : q * (natOf (D.take k) + 4294967296 ^ k * D.getD k 0) + 4294967296 ^ k * c = q * natOf (D.take k) + 4294967296 ^ k * p := by
    rw [hp, Nat.mul_add, Nat.mul_add, Nat.mul_left_comm]; omega
  have e4 : 4294967296 ^ (k + 1) * (c' + b') = 4294967296 ^ (k + 1) * c' + 4294967296 ^ k * (4294967296 * b') := by
    rw [Nat.mul_add, Nat.pow_succ]; congr 1; rw [Nat.mul_assoc]
  simp only [Nat.mul_add] at e1 h e4 ⊢
  simp only [Nat.mul_add] at e3
  omega
theorem addb_step {P D N : List Nat} {k c t : Nat} (hN : N.length = k) (h : natOf N + 4294967296 ^ k * c = natOf (P.take k) + natOf (D.take k)) (ht : t = P.getD k 0 + D.getD k 0 + c) :
    natOf (N ++ [t % 4294967296]) + 4294967296 ^ (k + 1) * (t / 4294967296) = natOf (P.take (k + 1)) + natOf (D.take (k + 1)) :=
  add_step hN h (by omega)

end Go.Proofs.YtahmndacoanfiaaGreat
