/- Natural numbers: what the reference's Sub, Mul and short return, for all limbs. Condition: the limbs can be read, and take at most 2^46 bytes. -/
import Derived.Test.YtahmndacoanfiaaNatR
namespace Go.Proofs.Ytahmndacoanfiaa
set_option maxRecDepth 100000
open Go.RowKit

theorem rsub_end {P Q zs : List Nat} {n c : Nat} (hz : Lim zs) (hzl : zs.length = n) (hP : P.length = n) (hle : natOf Q ≤ natOf P) (hPl : Lim P) (h : natOf zs + natOf (Q.take n) = natOf (P.take n) + 4294967296 ^ n * c) :
    natOf (zs ++ List.replicate (n - n) 0) = natOf P - natOf Q := by
  rw [Nat.sub_self, List.replicate_zero, List.append_nil]
  have h1 := natOf_lt hPl
  rw [hP] at h1
  have e := natOf_append (Q.take n) (Q.drop n)
  rw [List.take_append_drop, List.length_take] at e
  have hQn : natOf (Q.take n) = natOf Q := by
    by_cases hn : n ≤ Q.length
    · rw [Nat.min_eq_left hn] at e
      rcases Nat.eq_zero_or_pos (natOf (Q.drop n)) with h0 | h0
      · rw [h0] at e; omega
      · have : 4294967296 ^ n * 1 ≤ 4294967296 ^ n * natOf (Q.drop n) := Nat.mul_le_mul_left _ h0
        omega
    · rw [List.take_of_length_le (by omega)]
  rw [hQn, List.take_of_length_le (by omega)] at h
  have h2 := natOf_lt hz
  rw [hzl] at h2
  rcases Nat.eq_zero_or_pos c with h0 | h0
  · subst h0; omega
  · have : 4294967296 ^ n * 1 ≤ 4294967296 ^ n * c := Nat.mul_le_mul_left _ h0
    omega

theorem rdiv_forms {t d : Nat} (h : t / d < 4294967296) : (t : Int) / (d : Int) % 4294967296 = ((t / d : Nat) : Int) ∧ (t : Int) % (d : Int) = ((t % d : Nat) : Int) := by
  constructor
  · rw [← Int.natCast_ediv]; generalize t / d = q at *; omega
  · rw [← Int.natCast_emod]

end Go.Proofs.Ytahmndacoanfiaa
