/- Journals: rows of trees under way, and what Read returns. -/
import Derived.Test.YthbfmioikbphgaaDoorJoB
import Derived.Test.YthbfmioikbphgaaDoorJoE
namespace Go.Proofs.YthbfmioikbphgaaDoor
set_option maxRecDepth 100000
open Go.RowKit

/-- an owned row of trees from block B on -/
def PK (w : World) (B : Nat) (u : Value) (n : Nat) (ts : List NodeT) : Prop := ts.length = n ∧ ∃ cs, OwnsK w B 25 5 u n cs ∧ KidsC (fun b => B ≤ b ∧ some b ≠ u.ownBlock) w cs ts
theorem PK.nil (w : World) (B : Nat) : PK w B (.slice none 0 0) 0 [] := ⟨rfl, [], OwnsK.nil _ _ _ _, trivial⟩
theorem PK.below {w w' : World} {B n : Nat} {u : Value} {ts : List NodeT} (h : PK w B u n ts) (hb : Below w.heap.size w w') : PK w' B u n ts := by
  obtain ⟨h0, cs, h1, h2⟩ := h
  exact ⟨h0, cs, h1.later hb, h2.keep hb.size fun b h h3 => ⟨h, hb.block b h3⟩⟩
theorem PK.slice {w : World} {B n : Nat} {u : Value} {ts : List NodeT} (h : PK w B u n ts) : ∃ a c, u = .slice a n c := by
  obtain ⟨-, cs, h1, -⟩ := h
  rcases h1.form with ⟨rfl, rfl, -⟩ | ⟨g, cap, rfl, -⟩
  · exact ⟨_, _, rfl⟩
  · exact ⟨_, _, rfl⟩
theorem PK.kids {w : World} {B n : Nat} {a : Option Addr} {c : Nat} {ts : List NodeT} (h : PK w B (.slice a n c) n ts) : Kids w a n c ts := by
  obtain ⟨h0, cs, h1, h2⟩ := h
  rcases h1.form with ⟨e, h3, -⟩ | ⟨g, cap, e, hnc, hcm, hBg, hlt, hc, -⟩
  · cases e
    exact ⟨h0, Nat.le_refl _, by simp [maxLen], fun _ => rfl, .inl rfl⟩
  · cases e
    exact ⟨h0, hnc, hcm, by simp, .inr ⟨g, 0, rfl, hlt, KidsS.in g 0 ts (KidsC.row cs ts 0 h2 fun j hj => by rw [Nat.zero_add]; exact hc j (by omega))⟩⟩
theorem PK.in {w : World} {B n : Nat} {u : Value} {ts : List NodeT} (h : PK w B u n ts) : ∀ g, u.ownBlock = some g → B ≤ g ∧ g < w.heap.size := by
  obtain ⟨-, cs, h1, -⟩ := h
  exact fun g hg => ⟨h1.lt g hg, h1.in g hg⟩
/-- one more tree, made since -/
theorem PK.snoc {w0 w w' : World} {B n : Nat} {u u' : Value} {cs : List Value} {ts : List NodeT} {t : NodeT} {n0 n1 n2 n3 n4 : Value} (hl : ts.length = n) (hC : KidsC (fun b => B ≤ b ∧ some b ≠ u.ownBlock) w cs ts) (hu : ∀ g, u.ownBlock = some g → g < w0.heap.size) (hBw : B ≤ w0.heap.size) (hN : NodeS (fun b => w0.heap.size ≤ b) w t (.agg #[n0, n1, n2, n3, n4]))
    (hO' : OwnsK w' B 25 5 u' (n + 1) (cs ++ [n0, n1, n2, n3, n4])) (hG : Grew w w' u u') : PK w' B u' (n + 1) (ts ++ [t]) := by
  have hu' : ∀ b, b < w.heap.size → some b ≠ u.ownBlock → some b ≠ u'.ownBlock := fun b hb hne h => by
    rcases hG.2 with h2 | h2
    · exact hne (h2 ▸ h)
    · have := h2 b h.symm; omega
  refine ⟨by simp [hl], _, hO', KidsC.snoc ?_ _ _ (hC.keep hG.1.size fun b h h2 => ⟨⟨h.1, hu' b h2 h.2⟩, hG.1.block b h2 h.2⟩)⟩
  refine hN.keep hG.1.size fun b h h2 => ?_
  have hne : some b ≠ u.ownBlock := fun h3 => by have := hu b h3.symm; omega
  exact ⟨⟨Nat.le_trans hBw h, hu' b h2 hne⟩, hG.1.block b h2 hne⟩

/-- what Read returns -/
def RP (w : World) (r : RdR) (e : Ending) (w' : World) : Prop := ∃ a c, e = .returned (.tuple #[.slice a r.l.length c, .int .i64 (r.n : Int), .int .i64 r.e]) ∧ Kids w' a r.l.length c r.l ∧ Below w.heap.size w w'
end Go.Proofs.YthbfmioikbphgaaDoor
