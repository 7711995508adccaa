/- The reference's fractions: what examboardref01.Gcd and examboardref03's zero, top, low and reduce return. Condition: the limbs can be read, and take at most 2^47 bytes. -/
import Derived.Test.YtahmndacoanfiaaRInt
import Derived.Test.YtahmndacoanfiaaRatC
namespace Go.Proofs.Ytahmndacoanfiaa
set_option maxRecDepth 100000
open Go.RowKit

theorem blen_eq_zero {n : Nat} : blen n = 0 ↔ n = 0 := by
  constructor
  · intro h
    rcases Nat.eq_zero_or_pos n with h0 | h0
    · exact h0
    · rw [blen_pos (by omega)] at h; omega
  · rintro rfl; exact blen_zero

end Go.Proofs.Ytahmndacoanfiaa
