/- Guarded operations that write or call, in the schedule of a drawn region: taken or left out. Plain theory of regions, no program. -/
import Derived.Test.YthbfmioikbphgaaDoorMix
namespace Go.Proofs.YthbfmioikbphgaaDoor
set_option maxRecDepth 100000
open Go

section
variable {P : Program} {ops : Array Oper} {C : World → Prop} {Q : Exit → Act → World → Prop}

theorem wpSched_geff {i : Nat} {rest : List (Nat × Bool)} {a : Act} {w : World} {o : Oper} (ho : ops[i]? = some o) (hg : Region.wanted o (yielded ops a.tmps) = true)
    (h : ∀ K : Act → World → Prop, (∀ a' w', C w' → wpSched P ops Q C rest a' w' → K a' w') → o.wp P a w K Q) : wpSched P ops Q C ((i, true) :: rest) a w := by
  unfold wpSched wpOp
  simp only [ho]
  rw [if_pos hg]
  exact .inl (h _ fun _ _ h1 h2 => ⟨h1, h2⟩)
theorem wpSched_skip {i : Nat} {rest : List (Nat × Bool)} {a : Act} {w : World} {o : Oper} (ho : ops[i]? = some o) (hg : Region.wanted o (yielded ops a.tmps) = false)
    (hC : C w) (h : wpSched P ops Q C rest (a.put o.dst undef) w) : wpSched P ops Q C ((i, true) :: rest) a w := by
  unfold wpSched wpOp
  simp only [ho]
  rw [if_neg (by rw [hg]; simp)]
  exact ⟨hC, h⟩
end
end Go.Proofs.YthbfmioikbphgaaDoor
