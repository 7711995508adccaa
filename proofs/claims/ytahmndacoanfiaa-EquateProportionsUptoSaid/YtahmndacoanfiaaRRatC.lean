/- The reference's fractions: what examboardref03's Of, Mul and Cmp return. Condition: the limbs can be read, and take at most 2^47 bytes. -/
import Derived.Test.YtahmndacoanfiaaRRatB
import Derived.Test.YtahmndacoanfiaaFloatB
namespace Go.Proofs.Ytahmndacoanfiaa
set_option maxRecDepth 100000
open Go.RowKit

theorem Num.rawN {w : World} {v : Value} {n L : Nat} (h : Num w v n) (hL : (digs n).length ≤ L) : NatRaw w v n L := by
  obtain ⟨a, len, cap, rfl, h⟩ := h
  exact ⟨a, len, cap, _, rfl, h, natOf_digs _, by rw [← h.1]; exact hL⟩
theorem ptN_len {p : Int} {q L : Nat} (h : (digs p.natAbs).length ≤ L) : (digs (ptN p q).natAbs).length ≤ L := by
  unfold ptN
  cases q == 0
  · exact h
  · simp [digs_zero]
theorem ptD_len {q L : Nat} (h : (digs q).length ≤ L) (hL : 1 ≤ L) : (digs (ptD q)).length ≤ L := by
  unfold ptD
  cases q == 0
  · exact h
  · exact Nat.le_trans (digs_length_le (k := 1) (by simp)) hL
theorem RatR.lens {w : World} {v : Value} {p : Int} {q L : Nat} (h : RatR w v p q L) : (digs p.natAbs).length ≤ L ∧ (digs q).length ≤ L := by
  obtain ⟨neg, a', len', cap', xs, a, len, cap, ys, rfl, hx, rfl, hlx, hy, rfl, hly⟩ := h
  refine ⟨?_, ?_⟩
  · rw [sgn_abs]; exact Nat.le_trans (digs_length_of hx.2.1) (by rw [hx.1]; exact hlx)
  · exact Nat.le_trans (digs_length_of hy.2.1) (by rw [hy.1]; exact hly)
theorem int_mul_len {y z : Int} {L M : Nat} (h1 : (digs y.natAbs).length ≤ L) (h2 : (digs z.natAbs).length ≤ M) : (digs (y * z).natAbs).length ≤ L + M := by
  rw [Int.natAbs_mul]
  have := digs_mul_len y.natAbs z.natAbs
  omega

end Go.Proofs.Ytahmndacoanfiaa
