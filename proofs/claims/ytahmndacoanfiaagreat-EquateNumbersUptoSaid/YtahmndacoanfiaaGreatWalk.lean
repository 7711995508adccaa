/- Classes of worlds for drawn regions, and carrying facts from world to world. Plain lemmas, no condition. -/
import Derived.Test.YtahmndacoanfiaaGreatFloatB
namespace Go.Proofs.YtahmndacoanfiaaGreat
set_option maxRecDepth 100000
open Go.RowKit

theorem bc {w w' : World} {g o : Nat} {v : Option Value} (hb : Below w.heap.size w w') (hg : g < w.heap.size) (h : w.cell? ⟨g, o, none⟩ = v) : w'.cell? ⟨g, o, none⟩ = v := ((bcell hb g hg).1 o).trans h
theorem bf {w w' : World} {g o : Nat} {v : Bool} (hb : Below w.heap.size w w') (hg : g < w.heap.size) (h : w.frozen? ⟨g, o, none⟩ = v) : w'.frozen? ⟨g, o, none⟩ = v := ((bcell hb g hg).2 o).trans h
theorem bl {w w' : World} {g B : Nat} (hb : Below B w w') (hg : g < w.heap.size) : g < w'.heap.size := Nat.lt_of_lt_of_le hg hb.size

/-- a world that has grown out of w: the blocks R and R2 excepted as w was -/
def Kept (R R2 : Nat) (w w' : World) : Prop := w.heap.size ≤ w'.heap.size ∧ ∀ i, i < w.heap.size → i ≠ R → i ≠ R2 → w'.heap[i]? = w.heap[i]?
structure Gr (R R2 : Nat) (w : World) where
  val : World
  prop : Kept R R2 w val
instance (R R2 : Nat) (w : World) : Nonempty (Gr R R2 w) := ⟨⟨w, Nat.le_refl _, fun _ _ _ _ => rfl⟩⟩
theorem Gr.cell {R R2 g o : Nat} {w : World} {v : Value} (h : w.cell? ⟨g, o, none⟩ = some v) (hg : g < w.heap.size) (hne : g ≠ R) (hne2 : g ≠ R2) : ∀ W : Gr R R2 w, W.1.cell? ⟨g, o, none⟩ = some v := fun W => by
  have hb := W.2.2 g hg hne hne2
  rw [← h]; simp only [World.cell?, hb]
theorem grown_below {R R2 : Nat} {w w1 w2 : World} (h : Kept R R2 w w1) (hb : Below w1.heap.size w1 w2) : Kept R R2 w w2 :=
  ⟨Nat.le_trans h.1 hb.size, fun i hi hne hne2 => (hb.block i (Nat.lt_of_lt_of_le hi h.1)).trans (h.2 i hi hne hne2)⟩
theorem below_grown {R R2 : Nat} {w w1 : World} (hb : Below w.heap.size w w1) : Kept R R2 w w1 := ⟨hb.size, fun i hi _ _ => hb.block i hi⟩
theorem grown_set {R R2 : Nat} {w w1 : World} (h : Kept R R2 w w1) (o : Nat) (v : Value) : Kept R R2 w (w1.setCell ⟨R, o, none⟩ v) := by
  refine ⟨by simpa using h.1, fun i hi hne hne2 => ?_⟩
  rw [← h.2 i hi hne hne2]
  simp only [World.setCell, Array.getElem?_modify]
  rw [if_neg (Ne.symm hne)]
theorem grown_set2 {R R2 : Nat} {w w1 : World} (h : Kept R R2 w w1) (o : Nat) (v : Value) : Kept R R2 w (w1.setCell ⟨R2, o, none⟩ v) := by
  refine ⟨by simpa using h.1, fun i hi hne hne2 => ?_⟩
  rw [← h.2 i hi hne hne2]
  simp only [World.setCell, Array.getElem?_modify]
  rw [if_neg (Ne.symm hne2)]

end Go.Proofs.YtahmndacoanfiaaGreat
