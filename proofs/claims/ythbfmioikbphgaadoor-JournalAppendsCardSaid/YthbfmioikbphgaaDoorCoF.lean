/- The codec: trees in chosen blocks. -/
import Derived.Test.YthbfmioikbphgaaDoorCoE
import Derived.Test.YthbfmioikbphgaaDoorPan
import Derived.Test.YthbfmioikbphgaaDoorWide
namespace Go.Proofs.YthbfmioikbphgaaDoor
set_option maxRecDepth 100000
open Go.RowKit

mutual
/-- a node's value, whose slices lie in blocks of S -/
def NodeS (S : Nat → Prop) (w : World) : NodeT → Value → Prop
  | .mk tag kind n s kids, v => ∃ a len cap, v = .agg #[.int .i64 tag, .int .i64 kind, .int .i64 n, .string ⟨s.toArray⟩, .slice a len cap] ∧ s.length ≤ maxLen ∧ kids.length = len ∧ len ≤ cap ∧ cap ≤ maxLen ∧ (a = none → cap = 0) ∧ (len = 0 ∨ ∃ b off, a = some ⟨b, off, none⟩ ∧ S b ∧ b < w.heap.size ∧ KidsS S w b off kids)
def KidsS (S : Nat → Prop) (w : World) (b : Nat) : Nat → List NodeT → Prop
  | _, [] => True
  | off, t :: ts => (∃ v0 v1 v2 v3 v4, w.cell? ⟨b, off, none⟩ = some v0 ∧ w.cell? ⟨b, off + 1, none⟩ = some v1 ∧ w.cell? ⟨b, off + 2, none⟩ = some v2 ∧ w.cell? ⟨b, off + 3, none⟩ = some v3 ∧ w.cell? ⟨b, off + 4, none⟩ = some v4 ∧ NodeS S w t (.agg #[v0, v1, v2, v3, v4])) ∧ KidsS S w b (off + 5) ts
end
mutual
theorem NodeS.in {S : Nat → Prop} {w : World} : ∀ (t : NodeT) (v : Value), NodeS S w t v → NodeIn w t v
  | .mk tag kind n s kids, v, h => by
    simp only [NodeS] at h
    simp only [NodeIn]
    obtain ⟨a, len, cap, e, h0, h1, h2, h3, h4, h5⟩ := h
    refine ⟨a, len, cap, e, h0, h1, h2, h3, h4, ?_⟩
    rcases h5 with h5 | ⟨b, off, rfl, -, hlt, hk⟩
    · exact .inl h5
    · exact .inr ⟨b, off, rfl, hlt, KidsS.in b off kids hk⟩
theorem KidsS.in {S : Nat → Prop} {w : World} (b : Nat) : ∀ (off : Nat) (ts : List NodeT), KidsS S w b off ts → KidsIn w b off ts
  | _, [], _ => by simp [KidsIn]
  | off, t :: ts, h => by
    simp only [KidsS] at h
    simp only [KidsIn]
    obtain ⟨⟨v0, v1, v2, v3, v4, c0, c1, c2, c3, c4, hn⟩, hr⟩ := h
    exact ⟨⟨v0, v1, v2, v3, v4, c0, c1, c2, c3, c4, NodeS.in t _ hn⟩, KidsS.in b (off + 5) ts hr⟩
end
mutual
theorem NodeS.keep {S S' : Nat → Prop} {w w' : World} (hs : w.heap.size ≤ w'.heap.size) (hk : ∀ b, S b → b < w.heap.size → S' b ∧ w'.heap[b]? = w.heap[b]?) : ∀ (t : NodeT) (v : Value), NodeS S w t v → NodeS S' w' t v
  | .mk tag kind n s kids, v, h => by
    simp only [NodeS] at h ⊢
    obtain ⟨a, len, cap, e, h0, h1, h2, h3, h4, h5⟩ := h
    refine ⟨a, len, cap, e, h0, h1, h2, h3, h4, ?_⟩
    rcases h5 with h5 | ⟨b, off, rfl, hS, hlt, hkk⟩
    · exact .inl h5
    · exact .inr ⟨b, off, rfl, (hk b hS hlt).1, Nat.lt_of_lt_of_le hlt hs, KidsS.keep hs hk b (hk b hS hlt).2 off kids hkk⟩
theorem KidsS.keep {S S' : Nat → Prop} {w w' : World} (hs : w.heap.size ≤ w'.heap.size) (hk : ∀ b, S b → b < w.heap.size → S' b ∧ w'.heap[b]? = w.heap[b]?) (b : Nat) (hb : w'.heap[b]? = w.heap[b]?) : ∀ (off : Nat) (ts : List NodeT), KidsS S w b off ts → KidsS S' w' b off ts
  | _, [], _ => by simp [KidsS]
  | off, t :: ts, h => by
    simp only [KidsS] at h ⊢
    obtain ⟨⟨v0, v1, v2, v3, v4, c0, c1, c2, c3, c4, hn⟩, hr⟩ := h
    have hc : ∀ o, w'.cell? ⟨b, o, none⟩ = w.cell? ⟨b, o, none⟩ := fun o => by simp only [World.cell?, hb]
    exact ⟨⟨v0, v1, v2, v3, v4, (hc _).trans c0, (hc _).trans c1, (hc _).trans c2, (hc _).trans c3, (hc _).trans c4, NodeS.keep hs hk t _ hn⟩, KidsS.keep hs hk b hb (off + 5) ts hr⟩
end
/-- the cells of a row of nodes -/
def KidsC (S : Nat → Prop) (w : World) : List Value → List NodeT → Prop
  | [], [] => True
  | v0 :: v1 :: v2 :: v3 :: v4 :: cs, t :: ts => NodeS S w t (.agg #[v0, v1, v2, v3, v4]) ∧ KidsC S w cs ts
  | _, _ => False
theorem KidsC.keep {S S' : Nat → Prop} {w w' : World} (hs : w.heap.size ≤ w'.heap.size) (hk : ∀ b, S b → b < w.heap.size → S' b ∧ w'.heap[b]? = w.heap[b]?) : ∀ (cs : List Value) (ts : List NodeT), KidsC S w cs ts → KidsC S' w' cs ts
  | [], [], _ => trivial
  | v0 :: v1 :: v2 :: v3 :: v4 :: cs, t :: ts, h => ⟨h.1.keep hs hk, KidsC.keep hs hk cs ts h.2⟩
  | [], _ :: _, h => h.elim
  | [_], _, h => by simp [KidsC] at h
  | [_, _], _, h => by simp [KidsC] at h
  | [_, _, _], _, h => by simp [KidsC] at h
  | [_, _, _, _], _, h => by simp [KidsC] at h
  | _ :: _ :: _ :: _ :: _ :: _, [], h => by simp [KidsC] at h
theorem KidsC.snoc {S : Nat → Prop} {w : World} {v0 v1 v2 v3 v4 : Value} {u : NodeT} (hu : NodeS S w u (.agg #[v0, v1, v2, v3, v4])) : ∀ (cs : List Value) (ts : List NodeT), KidsC S w cs ts → KidsC S w (cs ++ [v0, v1, v2, v3, v4]) (ts ++ [u])
  | [], [], _ => ⟨hu, trivial⟩
  | x0 :: x1 :: x2 :: x3 :: x4 :: cs, t :: ts, h => ⟨h.1, KidsC.snoc hu cs ts h.2⟩
  | [], _ :: _, h => h.elim
  | [_], _, h => by simp [KidsC] at h
  | [_, _], _, h => by simp [KidsC] at h
  | [_, _, _], _, h => by simp [KidsC] at h
  | [_, _, _, _], _, h => by simp [KidsC] at h
  | _ :: _ :: _ :: _ :: _ :: _, [], h => by simp [KidsC] at h
theorem KidsC.len {S : Nat → Prop} {w : World} : ∀ (cs : List Value) (ts : List NodeT), KidsC S w cs ts → cs.length = ts.length * 5
  | [], [], _ => rfl
  | v0 :: v1 :: v2 :: v3 :: v4 :: cs, t :: ts, h => by simp only [List.length_cons]; rw [KidsC.len cs ts h.2]; omega
  | [], _ :: _, h => h.elim
  | [_], _, h => by simp [KidsC] at h
  | [_, _], _, h => by simp [KidsC] at h
  | [_, _, _], _, h => by simp [KidsC] at h
  | [_, _, _, _], _, h => by simp [KidsC] at h
  | _ :: _ :: _ :: _ :: _ :: _, [], h => by simp [KidsC] at h
theorem KidsC.row {S : Nat → Prop} {w : World} {b : Nat} : ∀ (cs : List Value) (ts : List NodeT) (off : Nat), KidsC S w cs ts → (∀ j, j < ts.length * 5 → w.cell? ⟨b, off + j, none⟩ = some (cs.getD j .nilFunc)) → KidsS S w b off ts
  | [], [], _, _, _ => by simp [KidsS]
  | v0 :: v1 :: v2 :: v3 :: v4 :: cs, t :: ts, off, h, hc => by
    simp only [KidsS]
    refine ⟨⟨v0, v1, v2, v3, v4, ?_, ?_, ?_, ?_, ?_, h.1⟩, KidsC.row cs ts (off + 5) h.2 fun j hj => ?_⟩
    · simpa using hc 0 (by simp)
    · simpa using hc 1 (by simp; omega)
    · simpa using hc 2 (by simp; omega)
    · simpa using hc 3 (by simp; omega)
    · simpa using hc 4 (by simp; omega)
    · have := hc (j + 5) (by simp; omega)
      rw [show off + 5 + j = off + (j + 5) by omega]
      simpa using this
  | [], _ :: _, _, h, _ => h.elim
  | [_], _, _, h, _ => by simp [KidsC] at h
  | [_, _], _, _, h, _ => by simp [KidsC] at h
  | [_, _, _], _, _, h, _ => by simp [KidsC] at h
  | [_, _, _, _], _, _, h, _ => by simp [KidsC] at h
  | _ :: _ :: _ :: _ :: _ :: _, [], _, h, _ => by simp [KidsC] at h
theorem NodeS.form {S : Nat → Prop} {w : World} {t : NodeT} {v : Value} (h : NodeS S w t v) : ∃ v0 v1 v2 v3 v4, v = .agg #[v0, v1, v2, v3, v4] ∧ v0.oneCell' = true ∧ v1.oneCell' = true ∧ v2.oneCell' = true ∧ v3.oneCell' = true ∧ v4.oneCell' = true := by
  obtain ⟨tag, kind, n, s, kids⟩ := t
  simp only [NodeS] at h
  obtain ⟨a, len, cap, e, -⟩ := h
  exact ⟨_, _, _, _, _, e, rfl, rfl, rfl, rfl, rfl⟩
theorem infoNode : (Tryd.prog.info? 25).map (fun i => (i.zero, i.size, i.bytes)) = some (some (.agg #[.int .i64 0, .int .i64 0, .int .i64 0, .string ⟨#[]⟩, .slice none 0 0]), 5, 64) := by kernel_rfl

/-- an owned row of nodes -/
theorem kids_node {w : World} {B : Nat} {S S' : Nat → Prop} {u : Value} {n : Nat} {cs : List Value} {ts : List NodeT} (hO : OwnsK w B 25 5 u n cs) (hC : KidsC S w cs ts) (hn : ts.length = n) (hS : ∀ b, S b → b < w.heap.size → S' b) (hB : ∀ b, B ≤ b → b < w.heap.size → S' b) (tag kind k : Int) (s : List UInt8) (hs : s.length ≤ maxLen) :
    NodeS S' w (.mk tag kind k s ts) (.agg #[.int .i64 tag, .int .i64 kind, .int .i64 k, .string ⟨s.toArray⟩, u]) := by
  rcases hO.form with ⟨rfl, h0, -⟩ | ⟨g, cap, rfl, hnc, hcm, hBg, hlt, hc, -⟩
  · subst h0
    simp only [NodeS]
    exact ⟨none, 0, 0, rfl, hs, hn, Nat.le_refl _, by simp [maxLen], fun _ => rfl, .inl rfl⟩
  · simp only [NodeS]
    refine ⟨_, n, cap, rfl, hs, hn, hnc, hcm, by simp, .inr ⟨g, 0, rfl, hB g hBg hlt, hlt, ?_⟩⟩
    exact KidsC.row cs ts 0 (hC.keep (Nat.le_refl _) fun b h1 h2 => ⟨hS b h1 h2, rfl⟩) fun j hj => by rw [Nat.zero_add]; exact hc j (by omega)
end Go.Proofs.YthbfmioikbphgaaDoor
