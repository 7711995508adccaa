/- The reference's fractions: what examboardref03's reduce, Make, Of, Cmp and Mul return. Condition: the limbs can be read, and take at most 2^47 bytes. -/
import Derived.Test.YtahmndacoanfiaaRRat
namespace Go.Proofs.Ytahmndacoanfiaa
set_option maxRecDepth 100000
open Go.RowKit

theorem mk_zero (q : Nat) : mkRat 0 q = 0 := by rw [Rat.mkRat_eq_div]; simp [Rat.div_def]

theorem divInt_abs (p q : Int) : Rat.divInt p q = mkRat (if q < 0 then -p else p) q.natAbs := by
  have h := divInt_sgn (decide (p < 0)) (decide (q < 0)) p.natAbs q.natAbs
  rw [sgn_self, sgn_self] at h
  rw [h]
  congr 1
  by_cases h1 : p < 0 <;> by_cases h2 : q < 0 <;> simp [sgn, h1, h2] <;> omega

end Go.Proofs.Ytahmndacoanfiaa
