/- Ratios in plain numbers: what numerator and denominator make of a fraction, its sum, product, order and floor. Plain lemmas, no condition. -/
import Derived.Test.YtahmndacoanfiaaGreatInt
namespace Go.Proofs.YtahmndacoanfiaaGreat
set_option maxRecDepth 100000
open Go.RowKit

theorem sgn_div (neg : Bool) (m g : Nat) (hg : g ∣ m) : sgn neg (m / g) = sgn neg m / (g : Int) := by
  obtain ⟨k, rfl⟩ := hg
  rcases Nat.eq_zero_or_pos g with h | h
  · subst h; cases neg <;> simp [sgn]
  · have h' : (g : Int) ≠ 0 := by omega
    cases neg
    · simp only [sgn, Bool.false_eq_true, if_false]; rw [Nat.mul_div_cancel_left _ h]; push_cast; rw [Int.mul_ediv_cancel_left _ h']
    · simp only [sgn, if_true]; rw [Nat.mul_div_cancel_left _ h]; push_cast; rw [← Int.mul_neg, Int.mul_ediv_cancel_left _ h']
theorem mk_num (neg : Bool) (m q : Nat) (hq : q ≠ 0) : (mkRat (sgn neg m) q).num = sgn neg (m / Nat.gcd m q) := by
  rw [Rat.num_mkRat, if_neg hq, sgn_div _ _ _ (Nat.gcd_dvd_left _ _), Nat.gcd_comm]
  congr 2
  cases neg <;> simp [sgn]
theorem mk_den (neg : Bool) (m q : Nat) (hq : q ≠ 0) : (mkRat (sgn neg m) q).den = q / Nat.gcd m q := by
  rw [Rat.den_mkRat, if_neg hq, Nat.gcd_comm]
  congr 2
  cases neg <;> simp [sgn]
theorem mk_add {p s : Int} {q t : Nat} (hq : q ≠ 0) (ht : t ≠ 0) : mkRat (p * t + s * q) (q * t) = mkRat p q + mkRat s t := by
  rw [Rat.mkRat_add_mkRat _ _ hq ht]
theorem mk_mul {p s : Int} {q t : Nat} : mkRat (p * s) (q * t) = mkRat p q * mkRat s t := by
  rw [Rat.mkRat_mul_mkRat]
theorem mk_neg {p : Int} {q : Nat} : mkRat (-p) q = - mkRat p q := by
  rw [Rat.neg_mkRat]
theorem mk_lt {p s : Int} {q t : Nat} (hq : q ≠ 0) (ht : t ≠ 0) : mkRat p q < mkRat s t ↔ p * t < s * q := by
  rw [Rat.mkRat_eq_div, Rat.mkRat_eq_div]
  have h1 : (0 : Rat) < (q : Rat) := Rat.natCast_pos.2 (by omega)
  have h2 : (0 : Rat) < (t : Rat) := Rat.natCast_pos.2 (by omega)
  rw [Rat.div_lt_iff h1, Rat.div_def, Rat.mul_assoc, Rat.mul_comm (t : Rat)⁻¹, ← Rat.mul_assoc, ← Rat.div_def, Rat.lt_div_iff h2]
  rw [← Rat.intCast_lt_intCast]
  simp [Rat.intCast_mul, Rat.intCast_natCast]
theorem mk_le {p s : Int} {q t : Nat} (hq : q ≠ 0) (ht : t ≠ 0) : mkRat p q ≤ mkRat s t ↔ p * t ≤ s * q := by
  rw [← Rat.not_lt, mk_lt ht hq, Int.not_lt]
/-- comparison of rationals -/
def rcmpI (r s : Rat) : Int := if r < s then -1 else if s < r then 1 else 0
theorem mk_cmp {p s : Int} {q t : Nat} (hq : q ≠ 0) (ht : t ≠ 0) : (p * t - s * q).sign = rcmpI (mkRat p q) (mkRat s t) := by
  unfold rcmpI
  simp only [mk_lt hq ht, mk_lt ht hq]
  split
  · exact Int.sign_eq_neg_one_of_neg (by omega)
  · split
    · exact Int.sign_eq_one_of_pos (by omega)
    · rw [show p * t - s * q = 0 by omega]; rfl
def rsgI (r : Rat) : Int := r.num.sign
theorem mk_sgn {p : Int} {q : Nat} (hq : q ≠ 0) : p.sign = rsgI (mkRat p q) := by
  unfold rsgI
  rw [Rat.num_mkRat, if_neg hq]
  have hg : 0 < q.gcd p.natAbs := Nat.gcd_pos_of_pos_left _ (by omega)
  have hd : ((q.gcd p.natAbs : Nat) : Int) ∣ p := Int.ofNat_dvd_left.2 (Nat.gcd_dvd_right _ _)
  obtain ⟨k, hk⟩ := hd
  generalize q.gcd p.natAbs = g at *
  subst hk
  rw [Int.mul_ediv_cancel_left _ (by omega), Int.sign_mul, Int.sign_eq_one_of_pos (by omega : (0:Int) < g), Int.one_mul]
theorem mk_floor {p : Int} {q : Nat} (hq : q ≠ 0) : p / (q : Int) = (mkRat p q).floor := by
  have key : ∀ x : Int, x ≤ p / (q : Int) ↔ x ≤ (mkRat p q).floor := fun x => by
    rw [Rat.le_floor_iff, Int.le_ediv_iff_mul_le (by omega), Rat.mkRat_eq_div, ← Rat.not_lt, ← Int.not_lt]
    have h1 : (0 : Rat) < (q : Rat) := Rat.natCast_pos.2 (by omega)
    rw [Rat.div_lt_iff h1, ← Rat.intCast_lt_intCast]
    simp [Rat.intCast_mul, Rat.intCast_natCast]
  have h1 := (key _).1 (Int.le_refl _)
  have h2 := (key _).2 (Int.le_refl _)
  omega
theorem rsgI_zero {r : Rat} : rsgI r = 0 ↔ r = 0 := by
  unfold rsgI; rw [Int.sign_eq_zero_iff_zero, Rat.num_eq_zero]

/-- how many limbs the parts of a fraction take at most -/
def Rsz (r : Rat) (L : Nat) : Prop := (digs r.num.natAbs).length ≤ L ∧ (digs r.den).length ≤ L
theorem Rsz.mono {r : Rat} {L M : Nat} (h : Rsz r L) (hL : L ≤ M) : Rsz r M := ⟨Nat.le_trans h.1 hL, Nat.le_trans h.2 hL⟩
theorem digs_len_le' {m n : Nat} (h : m ≤ n) : (digs m).length ≤ (digs n).length := digs_length_le (Nat.lt_of_le_of_lt h (lt_of_digs_length (Nat.le_refl _)))
theorem digs_mul_len (m n : Nat) : (digs (m * n)).length ≤ (digs m).length + (digs n).length := by
  refine digs_length_le ?_
  rw [Nat.pow_add]
  exact Nat.mul_lt_mul'' (lt_of_digs_length (Nat.le_refl _)) (lt_of_digs_length (Nat.le_refl _))
theorem digs_add_len (m n k : Nat) (hm : (digs m).length ≤ k) (hn : (digs n).length ≤ k) : (digs (m + n)).length ≤ k + 1 := by
  refine digs_length_le ?_
  have h1 := lt_of_digs_length hm
  have h2 := lt_of_digs_length hn
  rw [Nat.pow_succ]
  omega
theorem rsz_mk (neg : Bool) (m q L : Nat) (hq : q ≠ 0) (hm : (digs m).length ≤ L) (hd : (digs q).length ≤ L) : Rsz (mkRat (sgn neg m) q) L := by
  unfold Rsz
  rw [mk_num neg m q hq, mk_den neg m q hq, sgn_abs]
  exact ⟨Nat.le_trans (digs_len_le' (Nat.div_le_self _ _)) hm, Nat.le_trans (digs_len_le' (Nat.div_le_self _ _)) hd⟩
theorem sgn_of (p : Int) : ∃ b m, p = sgn b m ∧ m = p.natAbs := by
  rcases Int.lt_or_le p 0 with h | h
  · exact ⟨true, p.natAbs, by simp [sgn]; omega, rfl⟩
  · exact ⟨false, p.natAbs, by simp [sgn]; omega, rfl⟩
theorem rsz_mk' (p : Int) (q L : Nat) (hq : q ≠ 0) (hm : (digs p.natAbs).length ≤ L) (hd : (digs q).length ≤ L) : Rsz (mkRat p q) L := by
  obtain ⟨b, m, h, hm'⟩ := sgn_of p
  rw [← hm'] at hm
  rw [h]
  exact rsz_mk b m q L hq hm hd

end Go.Proofs.YtahmndacoanfiaaGreat
