/- The reference's integers: what examboardref02's Norm, Make, Of, Sign, Cmp, Neg and Mul return. Condition: the limbs can be read, and take at most 2^47 bytes. -/
import Derived.Test.YtahmndacoanfiaaInt
import Derived.Test.YtahmndacoanfiaaNatU
namespace Go.Proofs.Ytahmndacoanfiaa
set_option maxRecDepth 100000
open Go.RowKit

theorem sign_of {z : Int} {n : Nat} (h : (digs z.natAbs).length = n) : z.sign = if n = 0 then 0 else if z < 0 then -1 else 1 := by
  by_cases h0 : n = 0
  · rw [if_pos h0]
    have := digs_len_zero.1 (h.trans h0)
    rw [show z = 0 by omega]; rfl
  · rw [if_neg h0]
    have : z.natAbs ≠ 0 := fun e => h0 (by rw [← h, e, digs_zero]; rfl)
    by_cases hz : z < 0
    · rw [if_pos hz]; exact Int.sign_eq_neg_one_of_neg hz
    · rw [if_neg hz]; exact Int.sign_eq_one_of_pos (by omega)

end Go.Proofs.Ytahmndacoanfiaa
