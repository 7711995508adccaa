/- Carrying facts from world to world, and classes of worlds for drawn regions, for seats without fractions. Plain lemmas, no condition. -/
import Derived.Test.YthbfmioikbphgaaDoorFloat
import Derived.Test.YthbfmioikbphgaaDoorTail
import Derived.Test.YthbfmioikbphgaaDoorBase
namespace Go.Proofs.YthbfmioikbphgaaDoor
set_option maxRecDepth 100000
open Go.RowKit

theorem bcell {W w1 : World} (hb : Below W.heap.size W w1) (g : Nat) (hg : g < W.heap.size) : (∀ o, w1.cell? ⟨g, o, none⟩ = W.cell? ⟨g, o, none⟩) ∧ (∀ o, w1.frozen? ⟨g, o, none⟩ = W.frozen? ⟨g, o, none⟩) :=
  ⟨fun o => hb.cell (p := ⟨g, o, none⟩) hg, fun o => hb.frozen (p := ⟨g, o, none⟩) hg⟩
theorem box_ext {B g : Nat} {w : World} {o : Nat} {v : Value} (h : w.cell? ⟨g, o, none⟩ = some v) (hg : g < B) : ∀ W : Ext B w, W.1.cell? ⟨g, o, none⟩ = some v := fun W => by rw [W.2.cell (p := ⟨g, o, none⟩) hg]; exact h
theorem blk_cell {w : World} {g : Nat} {c : Array Value} {t : TypeId} (hg : w.heap[g]? = some (.cells c t)) (o : Nat) : w.cell? ⟨g, o, none⟩ = c[o]? := by
  simp only [World.cell?, hg, Option.isSome_none, Bool.false_eq_true, if_false]
theorem blk_free {w : World} {g : Nat} {c : Array Value} {t : TypeId} (hg : w.heap[g]? = some (.cells c t)) (o : Nat) : w.frozen? ⟨g, o, none⟩ = false := by
  simp [World.frozen?, hg]
theorem blk_lt {w : World} {g : Nat} {o : Obj} (hg : w.heap[g]? = some o) : g < w.heap.size := by
  rcases Nat.lt_or_ge g w.heap.size with h | h
  · exact h
  · rw [Array.getElem?_eq_none h] at hg; cases hg
theorem bc {w w' : World} {g o : Nat} {v : Option Value} (hb : Below w.heap.size w w') (hg : g < w.heap.size) (h : w.cell? ⟨g, o, none⟩ = v) : w'.cell? ⟨g, o, none⟩ = v := ((bcell hb g hg).1 o).trans h
theorem bf {w w' : World} {g o : Nat} {v : Bool} (hb : Below w.heap.size w w') (hg : g < w.heap.size) (h : w.frozen? ⟨g, o, none⟩ = v) : w'.frozen? ⟨g, o, none⟩ = v := ((bcell hb g hg).2 o).trans h
theorem bl {w w' : World} {g B : Nat} (hb : Below B w w') (hg : g < w.heap.size) : g < w'.heap.size := Nat.lt_of_lt_of_le hg hb.size

/-- a world that has grown out of w: the blocks R and R2 excepted as w was -/
def Kept (R R2 : Nat) (w w' : World) : Prop := w.heap.size ≤ w'.heap.size ∧ ∀ i, i < w.heap.size → i ≠ R → i ≠ R2 → w'.heap[i]? = w.heap[i]?
structure Gr (R R2 : Nat) (w : World) where
  val : World
  prop : Kept R R2 w val
instance (R R2 : Nat) (w : World) : Nonempty (Gr R R2 w) := ⟨⟨w, Nat.le_refl _, fun _ _ _ _ => rfl⟩⟩
theorem Gr.cell {R R2 g o : Nat} {w : World} {v : Value} (h : w.cell? ⟨g, o, none⟩ = some v) (hg : g < w.heap.size) (hne : g ≠ R) (hne2 : g ≠ R2) : ∀ W : Gr R R2 w, W.1.cell? ⟨g, o, none⟩ = some v := fun W => by
  have hb := W.2.2 g hg hne hne2
  rw [← h]; simp only [World.cell?, hb]
theorem grown_below {R R2 : Nat} {w w1 w2 : World} (h : Kept R R2 w w1) (hb : Below w1.heap.size w1 w2) : Kept R R2 w w2 :=
  ⟨Nat.le_trans h.1 hb.size, fun i hi hne hne2 => (hb.block i (Nat.lt_of_lt_of_le hi h.1)).trans (h.2 i hi hne hne2)⟩
theorem below_grown {R R2 : Nat} {w w1 : World} (hb : Below w.heap.size w w1) : Kept R R2 w w1 := ⟨hb.size, fun i hi _ _ => hb.block i hi⟩
theorem grown_set {R R2 : Nat} {w w1 : World} (h : Kept R R2 w w1) (o : Nat) (v : Value) : Kept R R2 w (w1.setCell ⟨R, o, none⟩ v) := by
  refine ⟨by simpa using h.1, fun i hi hne hne2 => ?_⟩
  rw [← h.2 i hi hne hne2]
  simp only [World.setCell, Array.getElem?_modify]
  rw [if_neg (Ne.symm hne)]
theorem grown_set2 {R R2 : Nat} {w w1 : World} (h : Kept R R2 w w1) (o : Nat) (v : Value) : Kept R R2 w (w1.setCell ⟨R2, o, none⟩ v) := by
  refine ⟨by simpa using h.1, fun i hi hne hne2 => ?_⟩
  rw [← h.2 i hi hne hne2]
  simp only [World.setCell, Array.getElem?_modify]
  rw [if_neg (Ne.symm hne2)]

end Go.Proofs.YthbfmioikbphgaaDoor
