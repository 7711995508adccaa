/- What a block that is known whole holds, and that limbs do not lie in a block of other values. Plain lemmas, no condition. -/
import Derived.Test.YtahmndacoanfiaaGreatFloat
import Derived.Test.YtahmndacoanfiaaGreatRatC
namespace Go.Proofs.YtahmndacoanfiaaGreat
set_option maxRecDepth 100000
open Go.RowKit

theorem blk_cell {w : World} {g : Nat} {c : Array Value} {t : TypeId} (hg : w.heap[g]? = some (.cells c t)) (o : Nat) : w.cell? ⟨g, o, none⟩ = c[o]? := by
  simp only [World.cell?, hg, Option.isSome_none, Bool.false_eq_true, if_false]
theorem blk_free {w : World} {g : Nat} {c : Array Value} {t : TypeId} (hg : w.heap[g]? = some (.cells c t)) (o : Nat) : w.frozen? ⟨g, o, none⟩ = false := by
  simp [World.frozen?, hg]
theorem blk_lt {w : World} {g : Nat} {o : Obj} (hg : w.heap[g]? = some o) : g < w.heap.size := by
  rcases Nat.lt_or_ge g w.heap.size with h | h
  · exact h
  · rw [Array.getElem?_eq_none h] at hg; cases hg
/-- limbs do not lie in a block of other values -/
theorem Limbs.offBlk {w : World} {a : Option Addr} {len cap : Nat} {xs : List Nat} (h : Limbs w a len cap xs) {g : Nat} {c : Array Value} {t : TypeId} (hg : w.heap[g]? = some (.cells c t))
    (hc : ∀ (o : Nat) (n : Int), c[o]? ≠ some (Value.int .u32 n)) : Off g (.slice a len cap) := by
  intro x l k e hl hx
  cases e
  obtain ⟨b, off, e2, _, hcc⟩ := h.2.2.at (k := 0) hl
  cases e2
  have h1 := hcc 0 hl w (Below.refl _ _)
  simp only at hx
  subst hx
  rw [blk_cell hg] at h1
  exact hc _ _ h1
theorem zInt_no (o : Nat) (n : Int) : (#[Value.bool false, .slice none 0 0] : Array Value)[o]? ≠ some (.int .u32 n) := by
  match o with
  | 0 => simp
  | 1 => simp
  | o + 2 => simp
theorem zRat_no (o : Nat) (n : Int) : (#[Value.bool false, .slice none 0 0, .slice none 0 0] : Array Value)[o]? ≠ some (.int .u32 n) := by
  match o with
  | 0 => simp
  | 1 => simp
  | 2 => simp
  | o + 3 => simp
theorem IntR.off {w : World} {b : Bool} {a : Option Addr} {n c : Nat} {z : Int} {L : Nat} (h : IntR w (.agg #[.bool b, .slice a n c]) z L) {g : Nat} {cs : Array Value} {t : TypeId} (hg : w.heap[g]? = some (.cells cs t))
    (hc : ∀ (o : Nat) (n : Int), cs[o]? ≠ some (Value.int .u32 n)) (o : Nat) (v : Value) (o' : Nat) (v' : Value) : IntR ((w.setCell ⟨g, o, none⟩ v).setCell ⟨g, o', none⟩ v') (.agg #[.bool b, .slice a n c]) z L := by
  obtain ⟨neg, a', l', c', xs, e, hl, hz, hL⟩ := h
  cases e
  have ho := hl.offBlk hg hc
  exact ⟨b, a, n, c, xs, rfl, (hl.off ho o v).off ho o' v', hz, hL⟩
theorem RatV.off {w : World} {b : Bool} {a' a : Option Addr} {n' c' n c : Nat} {r : Rat} {L : Nat} (h : RatV w (.agg #[.bool b, .slice a' n' c', .slice a n c]) r L) {g : Nat} {cs : Array Value} {t : TypeId} (hg : w.heap[g]? = some (.cells cs t))
    (hc : ∀ (o : Nat) (n : Int), cs[o]? ≠ some (Value.int .u32 n)) (v0 v1 v2 : Value) : RatV (((w.setCell ⟨g, 0, none⟩ v0).setCell ⟨g, 1, none⟩ v1).setCell ⟨g, 2, none⟩ v2) (.agg #[.bool b, .slice a' n' c', .slice a n c]) r L := by
  obtain ⟨p, q, ⟨neg, x', l', k', xs, x, l, k, ys, e, hx, hp, hlx, hy, hq, hly⟩, hpq⟩ := h
  cases e
  have o1 := hx.offBlk hg hc
  have o2 := hy.offBlk hg hc
  exact ⟨p, q, ⟨b, a', n', c', xs, a, n, c, ys, rfl, ((hx.off o1 0 _).off o1 1 _).off o1 2 _, hp, hlx, ((hy.off o2 0 _).off o2 1 _).off o2 2 _, hq, hly⟩, hpq⟩

end Go.Proofs.YtahmndacoanfiaaGreat
