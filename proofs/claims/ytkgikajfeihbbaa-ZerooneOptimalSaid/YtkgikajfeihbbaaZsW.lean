/- 0-1 programs: the answer of Solve: plain facts. -/
import Derived.Test.YtkgikajfeihbbaaZsU
import Derived.Test.YtkgikajfeihbbaaZsV
import Derived.Test.YtkgikajfeihbbaaLawTg
namespace Go.Proofs.Ytkgikajfeihbbaa
set_option maxRecDepth 100000
open Go.RowKit

theorem best_bits {p : ProbM} (hv : ValidM p) {z : List Int} {m : Int} (h : bestOf p.rows p.val p.fix = (some z, m)) : Bits01 z ∧ z.length = p.val.length := asg_01 hv (best_in h).1
theorem sol_bits (p : ProbM) : Bits01 (solX p) := by
  by_cases h : validOf p = 0
  · cases hb : (bestOf p.rows p.val p.fix).1 with
    | none => rw [(sol_none h hb).1]; exact fun k hk => by simp at hk
    | some z =>
      have hb2 : bestOf p.rows p.val p.fix = (some z, (bestOf p.rows p.val p.fix).2) := by rw [← hb]
      rw [(sol_some h hb2).1]
      exact (best_bits (validM h) hb2).1
  · rw [(sol_bad h).1]; exact fun k hk => by simp at hk
theorem sol_wf (p : ProbM) : Wf64 (solX p) := wf_bits (sol_bits p)
theorem sol_row {w : World} {B : Nat} {v : Value} {p : ProbM} (h : OwnI w B v (solX p)) : ∃ a c, v = .slice a (solX p).length c ∧ Row .i64 w a (solX p).length c (solX p) := h.row (sol_wf p)

end Go.Proofs.Ytkgikajfeihbbaa
