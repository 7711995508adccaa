/- A number stays where another block is written. Plain lemmas on memory. -/
import Derived.Test.YtahmndacoanfiaaGreatNatA
namespace Go.Proofs.YtahmndacoanfiaaGreat
set_option maxRecDepth 100000
open Go.RowKit

/-- the slice holds nothing, or lies in another block than g -/
def Off (g : Nat) (v : Value) : Prop := ∀ x l c, v = .slice (some x) l c → 0 < l → x.block ≠ g
theorem New.off {B g : Nat} {v : Value} (h : New B v) (hg : g < B) : Off g v := fun x l c e _ => by have := h x l c e; omega
theorem Limbs.offOld {w : World} {a : Option Addr} {len cap : Nat} {xs : List Nat} (h : Limbs w a len cap xs) {g : Nat} (hg : w.heap.size ≤ g) : Off g (.slice a len cap) := fun x l c e hl => by
  cases e
  rcases h.2.2.2.2.2 with h | ⟨b, off, e, hlt, _⟩
  · omega
  · cases e; exact fun h => by simp at h; omega
theorem Limbs.off {w : World} {a : Option Addr} {len cap : Nat} {xs : List Nat} (h : Limbs w a len cap xs) {g : Nat} (ho : Off g (.slice a len cap)) (o : Nat) (v : Value) : Limbs (w.setCell ⟨g, o, none⟩ v) a len cap xs := by
  obtain ⟨h1, h2, h3, h4, h5, h6⟩ := h
  refine ⟨h1, h2, h3, h4, h5, ?_⟩
  rcases h6 with h6 | ⟨b, off, rfl, hlt, hc⟩
  · exact .inl h6
  · refine .inr ⟨b, off, rfl, by simpa using hlt, fun i hi => ?_⟩
    have hne : b ≠ g := ho _ _ _ rfl (by omega)
    rw [World.cell?_setCell_other _ _ _ _ (show (⟨g, o, none⟩ : Addr) ≠ ⟨b, off + i, none⟩ from fun h => hne (by cases h; rfl))]
    exact hc i hi
theorem Num.off {w : World} {v : Value} {n : Nat} (h : Num w v n) {g : Nat} (ho : Off g v) (o : Nat) (u : Value) : Num (w.setCell ⟨g, o, none⟩ u) v n := by
  obtain ⟨a, len, cap, rfl, h⟩ := h
  exact ⟨a, len, cap, rfl, h.off ho o u⟩

/-- what grows elsewhere leaves limbs alone -/
theorem Limbs.grew {w w' : World} {v v' : Value} {a : Option Addr} {len cap : Nat} {xs : List Nat} (h : Limbs w a len cap xs) (hg : Grew w w' v v') (ho : ∀ g, v.ownBlock = some g → Off g (.slice a len cap)) : Limbs w' a len cap xs := by
  obtain ⟨h1, h2, h3, h4, h5, h6⟩ := h
  refine ⟨h1, h2, h3, h4, h5, ?_⟩
  rcases h6 with h6 | ⟨b, off, rfl, hlt, hc⟩
  · exact .inl h6
  · refine .inr ⟨b, off, rfl, Nat.lt_of_lt_of_le hlt hg.1.size, fun i hi => ?_⟩
    rw [← hc i hi]
    have hb := hg.1.block b hlt (fun e => ho b e.symm _ _ _ rfl (by omega) rfl)
    simp only [World.cell?, hb]
/-- a store into an owned slice -/
theorem Owns.grewSet {w : World} {B : Nat} {e : TypeId} {g n cap : Nat} {xs : List Value} (_h : Owns w B e (.slice (some ⟨g, 0, none⟩) n cap) xs) (j : Nat) (u : Value) : Grew w (w.setCell ⟨g, j, none⟩ u) (.slice (some ⟨g, 0, none⟩) n cap) (.slice (some ⟨g, 0, none⟩) n cap) := by
  refine ⟨⟨rfl, rfl, rfl, by simp, fun i hi hne => ?_⟩, .inl rfl⟩
  have hne' : i ≠ g := fun h => hne (by rw [h]; rfl)
  simp only [World.setCell, Array.getElem?_modify]
  rw [if_neg (Ne.symm hne')]

/-- what grows elsewhere leaves an owned slice alone -/
theorem Owns.grewO {w w' : World} {B : Nat} {e : TypeId} {g g' n cap : Nat} {xs : List Value} {v v' : Value} (h : Owns w B e (.slice (some ⟨g, 0, none⟩) n cap) xs) (hg : Grew w w' v v') (hv : v.ownBlock = some g') (hne : g ≠ g') : Owns w' B e (.slice (some ⟨g, 0, none⟩) n cap) xs := by
  refine ⟨h.1, ?_⟩
  have hlt := h.in g rfl
  rcases h.2 with h2 | ⟨g2, cap2, cur, hv2, hg2, hh, r⟩
  · exact .inl h2
  · refine .inr ⟨g2, cap2, cur, hv2, hg2, ?_, r⟩
    have e : g2 = g := by cases hv2; rfl
    subst e
    rw [hg.1.block g2 hlt (fun e => hne (by rw [hv] at e; cases e; rfl))]
    exact hh

end Go.Proofs.YtahmndacoanfiaaGreat
