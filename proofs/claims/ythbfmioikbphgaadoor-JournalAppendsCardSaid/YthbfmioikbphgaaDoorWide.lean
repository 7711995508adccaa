/- Slices, owned by the call, of elements of several cells: append, make, reading, writing. -/
import Derived.Test.YthbfmioikbphgaaDoorBase
namespace Go.Proofs.YthbfmioikbphgaaDoor
set_option maxRecDepth 100000
open Go.RowKit

/-- a slice of n elements of k cells in a block from B on, or nil, whose cells are cs, and which may be written and appended to -/
abbrev OwnsK (w : World) (B : Nat) (e : TypeId) (k : Nat) (v : Value) (n : Nat) (cs : List Value) : Prop := w.ownsRow B e k v n cs

theorem OwnsK.nil (w : World) (B : Nat) (e : TypeId) (k : Nat) : OwnsK w B e k (.slice none 0 0) 0 [] := World.ownsRow_nil w B e k
theorem OwnsK.lt {w : World} {B : Nat} {e : TypeId} {k : Nat} {v : Value} {n : Nat} {cs : List Value} (h : OwnsK w B e k v n cs) : ∀ j, v.ownBlock = some j → B ≤ j := fun j hj => (World.ownsRow.lt h j hj).1
theorem OwnsK.in {w : World} {B : Nat} {e : TypeId} {k : Nat} {v : Value} {n : Nat} {cs : List Value} (h : OwnsK w B e k v n cs) : ∀ j, v.ownBlock = some j → j < w.heap.size := fun j hj => (World.ownsRow.lt h j hj).2
theorem OwnsK.later {w w' : World} {B : Nat} {e : TypeId} {k : Nat} {v : Value} {n : Nat} {cs : List Value} (h : OwnsK w B e k v n cs) (hb : Below w.heap.size w w') : OwnsK w' B e k v n cs := by
  refine ⟨h.1, ?_⟩
  rcases h.2 with h2 | ⟨g, cap, cur, hv, hg, hh, r⟩
  · exact .inl h2
  · refine .inr ⟨g, cap, cur, hv, hg, ?_, r⟩
    rw [hb.block g (by rcases Nat.lt_or_ge g w.heap.size with h' | h'; exact h'; rw [Array.getElem?_eq_none h'] at hh; cases hh)]; exact hh
theorem OwnsK.mono {w : World} {B B' : Nat} {e : TypeId} {k : Nat} {v : Value} {n : Nat} {cs : List Value} (h : OwnsK w B e k v n cs) (hB : B' ≤ B) : OwnsK w B' e k v n cs := by
  refine ⟨h.1, ?_⟩
  rcases h.2 with h2 | ⟨g, cap, cur, hv, hg, hh, r⟩
  · exact .inl h2
  · exact .inr ⟨g, cap, cur, hv, by omega, hh, r⟩
/-- steps that write no block but those from C on, where the slice does not lie -/
theorem OwnsK.keep {w w' : World} {B C : Nat} {e : TypeId} {k : Nat} {v : Value} {n : Nat} {cs : List Value} (h : OwnsK w B e k v n cs) (hb : Below C w w') (hC : ∀ j, v.ownBlock = some j → j < C) : OwnsK w' B e k v n cs := by
  refine ⟨h.1, ?_⟩
  rcases h.2 with h2 | ⟨g, cap, cur, hv, hg, hh, r⟩
  · exact .inl h2
  · refine .inr ⟨g, cap, cur, hv, hg, ?_, r⟩
    rw [hb.block g (hC g (by rw [hv]; rfl))]; exact hh
/-- where an owned slice lies, and its cells -/
theorem OwnsK.form {w : World} {B : Nat} {e : TypeId} {k : Nat} {v : Value} {n : Nat} {cs : List Value} (h : OwnsK w B e k v n cs) :
    (v = .slice none 0 0 ∧ n = 0 ∧ cs = []) ∨ ∃ g cap, v = .slice (some ⟨g, 0, none⟩) n cap ∧ n ≤ cap ∧ cap ≤ maxLen ∧ B ≤ g ∧ g < w.heap.size ∧ (∀ j, j < n * k → w.cell? ⟨g, j, none⟩ = some (cs.getD j .nilFunc)) ∧ ∀ j, w.frozen? ⟨g, j, none⟩ = false := by
  have hl := h.1
  rcases h.2 with ⟨rfl, h0⟩ | ⟨g, cap, cur, rfl, hg, hh, hnc, hcm, hcs, htk⟩
  · subst h0; exact .inl ⟨rfl, rfl, List.eq_nil_of_length_eq_zero (by simpa using hl)⟩
  · refine .inr ⟨g, cap, rfl, hnc, hcm, hg, (by rcases Nat.lt_or_ge g w.heap.size with h' | h'; exact h'; rw [Array.getElem?_eq_none h'] at hh; cases hh), fun j hj => ?_, fun j => World.ownsRow.frozenAt h j⟩
    rw [World.ownsRow.cellAt h j hj]
    simp [List.getD, List.getElem?_eq_getElem (show j < cs.length by omega)]
theorem OwnsK.cell {w : World} {B : Nat} {e : TypeId} {k g n m cap : Nat} {cs : List Value} (h : OwnsK w B e k (.slice (some ⟨g, 0, none⟩) m cap) n cs) (j : Nat) (hj : j < n * k) : w.cell? ⟨g, j, none⟩ = some (cs.getD j .nilFunc) := by
  rcases h.form with ⟨h1, -⟩ | ⟨g', cap', h1, -, -, -, -, hc, -⟩
  · cases h1
  · cases h1; exact hc j hj
theorem OwnsK.store {w : World} {B : Nat} {e : TypeId} {k g n cap : Nat} {cs : List Value} (h : OwnsK w B e k (.slice (some ⟨g, 0, none⟩) n cap) n cs) (j : Nat) (u : Value) : OwnsK (w.setCell ⟨g, j, none⟩ u) B e k (.slice (some ⟨g, 0, none⟩) n cap) n (cs.set j u) := (World.ownsRow.stored h j u).1

/-- append to a slice that the call owns: the run -/
theorem run_appK {P : Program} {w : World} (t ty : TypeId) (B : Nat) (e : TypeId) (k : Nat) (hk : 0 < k) (z : Value) (bytes : Nat) (ht : P.underlying t = some (.slice e)) (hi : (P.info? e).map (fun i => (i.zero, i.size, i.bytes)) = some (some z, k, bytes)) (hz1 : z.cells.size = k)
    (v : Value) (n : Nat) (xs : List Value) (hown : OwnsK w B e k v n xs) (ad : Addr) (m c : Nat) (news : List Value) (hl : news.length = m * k) (hn : ∀ j u, news[j]? = some u → w.cell? (ad.add j) = some u) (h1 : ∀ u ∈ news, u.oneCell' = true)
    (hbytes : (n + m) * bytes ≤ 140737488355328) (hlen : n + m ≤ maxLen) (hbase : B ≤ w.heap.size) :
    ∃ v' w', (Builtin.append_ #[t, t] ty #[v, .slice (some ad) m c]).run P w = .ok v' w' ∧ OwnsK w' B e k v' (n + m) (xs ++ news) ∧ Grew w w' v v' := by
  obtain ⟨i, hi', hz, hsize, hby⟩ := info_parts hi
  obtain ⟨v', w', hr, h2, h3, h4⟩ := run_append_own (P := P) w B t ty e i z k bytes ht hi' hz hsize hby hz1 hk v n xs hown ad m c news hl hn h1 hlen hbytes hbase
  refine ⟨v', w', hr, h2, h3, ?_⟩
  have hxl := hown.1
  rcases hown.2 with ⟨rfl, h0⟩ | ⟨g, cap, cur, rfl, hg, hh, hnc, hcm, hcs, htk⟩
  · subst h0
    by_cases hm : m = 0
    · have := h4.2 ⟨rfl, hm⟩; subst this; exact .inl rfl
    · have hr' := run_append_nil (P := P) w t ty e i z ht hi' hz ad m c news (by rw [hsize]; exact hl) hn (by omega) (by simp only [maxLen] at hlen; omega) (by rw [hby]; have hb := hbytes; rw [Nat.zero_add] at hb; omega)
      rw [hr'] at hr
      simp only [Result.ok.injEq] at hr
      right; intro j hj
      rw [← hr.1] at hj
      simp [Value.ownBlock] at hj; omega
  · by_cases hroom : n + m ≤ cap
    · have hr' := run_append_room (P := P) w t ty e i ht hi' g n cap cur hh ad m c news (by rw [hsize]; exact hl) hn h1 hroom (by rw [hsize, hcs, hl, ← Nat.add_mul]; exact Nat.mul_le_mul_right _ hroom)
      rw [hr'] at hr
      simp only [Result.ok.injEq] at hr
      left; rw [← hr.1]; rfl
    · have hr' := run_append_grow (P := P) w t ty e i z ht hi' hz ⟨g, 0, none⟩ n cap xs (by rw [hsize]; exact hxl) (World.ownsRow.cells hown (g := g) rfl) ad m c news (by rw [hsize]; exact hl) hn (by omega) (by simp only [maxLen] at hlen; omega) (by rw [hby]; exact growslice_fits (by omega) hbytes)
      rw [hr'] at hr
      simp only [Result.ok.injEq] at hr
      right; intro j hj
      rw [← hr.1] at hj
      simp [Value.ownBlock] at hj; omega

theorem wp_appK {P : Program} {w : World} {o : Oper} {a : Act} {K : Act → World → Prop} {Q : Exit → Act → World → Prop} (s x : Operand) (t : TypeId)
    (ho : o.op = .call { callee := .builtin .append, args := #[s, x], argTypes := #[t, t] })
    (B : Nat) (e : TypeId) (k : Nat) (hk : 0 < k) (z : Value) (bytes : Nat) (ht : P.underlying t = some (.slice e)) (hi : (P.info? e).map (fun i => (i.zero, i.size, i.bytes)) = some (some z, k, bytes)) (hz1 : z.cells.size = k)
    (v : Value) (n : Nat) (xs : List Value) (hs : a.eval s = v) (hown : OwnsK w B e k v n xs)
    (ad : Addr) (m c : Nat) (news : List Value) (hx : a.eval x = .slice (some ad) m c) (hl : news.length = m * k) (hn : ∀ j u, news[j]? = some u → w.cell? (ad.add j) = some u) (h1 : ∀ u ∈ news, u.oneCell' = true)
    (hbytes : (n + m) * bytes ≤ 140737488355328) (hlen : n + m ≤ maxLen) (hbase : B ≤ w.heap.size)
    (h : ∀ v' w', OwnsK w' B e k v' (n + m) (xs ++ news) → Grew w w' v v' → K (a.put o.dst v') w') : o.wp P a w K Q := by
  obtain ⟨v', w', hr, h2, h3⟩ := run_appK (P := P) t o.type B e k hk z bytes ht hi hz1 v n xs hown ad m c news hl hn h1 hbytes hlen hbase
  unfold Oper.wp
  simp [execOp, ho, resolve, invoke, builtin, hs, hx, hr, Result.andThen]
  exact h v' w' h2 h3

/-- append of one element of k cells that has just been laid into a new block: one operation -/
theorem wp_appK1 {P : Program} {w : World} {o : Oper} {a : Act} {K : Act → World → Prop} {Q : Exit → Act → World → Prop} (s x : Operand) (t : TypeId)
    (ho : o.op = .call { callee := .builtin .append, args := #[s, x], argTypes := #[t, t] })
    (B : Nat) (e : TypeId) (k : Nat) (hk : 0 < k) (z : Value) (bytes : Nat) (ht : P.underlying t = some (.slice e)) (hi : (P.info? e).map (fun i => (i.zero, i.size, i.bytes)) = some (some z, k, bytes)) (hz1 : z.cells.size = k)
    (v : Value) (n : Nat) (xs : List Value) (hs : a.eval s = v) (ys : List Value) (hyk : ys.length = k) (hy : ∀ y ∈ ys, y.oneCell' = true) (hown : OwnsK w B e k v n xs)
    (hx : a.eval x = .slice (some ⟨w.heap.size, 0, none⟩) 1 1)
    (hbytes : (n + 1) * bytes ≤ 140737488355328) (hlen : n + 1 ≤ maxLen) (hbase : B ≤ w.heap.size)
    (h : ∀ v' w', OwnsK w' B e k v' (n + 1) (xs ++ ys) → Grew w w' v v' → K (a.put o.dst v') w') : o.wp P a (w.alloc (.cells ys.toArray e)) K Q := by
  have hbel : Below w.heap.size w (w.alloc (.cells ys.toArray e)) := (Below.refl _ _).alloc (Nat.le_refl _) _
  refine wp_appK s x t ho B e k hk z bytes ht hi hz1 v n xs hs (hown.later hbel) _ 1 1 ys hx (by omega) (fun j u hj => ?_) hy hbytes hlen (by simp; omega) fun v' w' h2 h3 => h v' w' h2 (Grew.after hbel rfl h3)
  rw [addr_add]
  refine (World.cell?_alloc_mark w _ _ _ _).trans ?_
  simpa using hj

/-- the same, in a walk -/
theorem wpList_appK1 {P : Program} {w : World} {ops : Array Oper} {rest : List Oper} {o : Oper} {a : Act} {Q : Exit → Act → World → Prop} (hgd : o.guard = none) (s x : Operand) (t : TypeId)
    (ho : o.op = .call { callee := .builtin .append, args := #[s, x], argTypes := #[t, t] })
    (B : Nat) (e : TypeId) (k : Nat) (hk : 0 < k) (z : Value) (bytes : Nat) (ht : P.underlying t = some (.slice e)) (hi : (P.info? e).map (fun i => (i.zero, i.size, i.bytes)) = some (some z, k, bytes)) (hz1 : z.cells.size = k)
    (v : Value) (n : Nat) (xs : List Value) (hs : a.eval s = v) (ys : List Value) (hyk : ys.length = k) (hy : ∀ y ∈ ys, y.oneCell' = true) (hown : OwnsK w B e k v n xs)
    (hx : a.eval x = .slice (some ⟨w.heap.size, 0, none⟩) 1 1)
    (hbytes : (n + 1) * bytes ≤ 140737488355328) (hlen : n + 1 ≤ maxLen) (hbase : B ≤ w.heap.size)
    (h : ∀ v' w', OwnsK w' B e k v' (n + 1) (xs ++ ys) → Grew w w' v v' → wpList P ops Q rest (a.put o.dst v') w') : wpList P ops Q (o :: rest) a (w.alloc (.cells ys.toArray e)) :=
  wpList_plain hgd fun _ hK => wp_appK1 s x t ho B e k hk z bytes ht hi hz1 v n xs hs ys hyk hy hown hx hbytes hlen hbase fun v' w' h2 h3 => hK _ _ (h v' w' h2 h3)

/-- append of all elements of a slice, in a walk -/
theorem wpList_appKs {P : Program} {w : World} {ops : Array Oper} {rest : List Oper} {o : Oper} {a : Act} {Q : Exit → Act → World → Prop} (hgd : o.guard = none) (s x : Operand) (t : TypeId)
    (ho : o.op = .call { callee := .builtin .append, args := #[s, x], argTypes := #[t, t] })
    (B : Nat) (e : TypeId) (k : Nat) (hk : 0 < k) (z : Value) (bytes : Nat) (ht : P.underlying t = some (.slice e)) (hi : (P.info? e).map (fun i => (i.zero, i.size, i.bytes)) = some (some z, k, bytes)) (hz1 : z.cells.size = k)
    (v : Value) (n : Nat) (xs : List Value) (hs : a.eval s = v) (hown : OwnsK w B e k v n xs)
    (ad : Option Addr) (m c : Nat) (news : List Value) (hx : a.eval x = .slice ad m c) (hl : news.length = m * k) (hn : (ad = none ∧ m = 0 ∧ c = 0) ∨ ∃ b off, ad = some ⟨b, off, none⟩ ∧ ∀ j, j < m * k → w.cell? ⟨b, off + j, none⟩ = some (news.getD j .nilFunc)) (h1 : ∀ u ∈ news, u.oneCell' = true)
    (hbytes : (n + m) * bytes ≤ 140737488355328) (hlen : n + m ≤ maxLen) (hbase : B ≤ w.heap.size)
    (h : ∀ v' w', OwnsK w' B e k v' (n + m) (xs ++ news) → Grew w w' v v' → wpList P ops Q rest (a.put o.dst v') w') : wpList P ops Q (o :: rest) a w := by
  rcases hn with ⟨rfl, rfl, rfl⟩ | ⟨b, off, rfl, hc⟩
  · have hnil : news = [] := List.eq_nil_of_length_eq_zero (by simpa using hl)
    subst hnil
    obtain ⟨i, hi', hz, hsize, hby⟩ := info_parts hi
    have hr := run_append_owned_none (P := P) w B t o.type e i k ht hi' v n xs hown
    refine wpList_plain hgd fun K hK => ?_
    unfold Oper.wp
    simp [execOp, ho, resolve, invoke, builtin, hs, hx, hr, Result.andThen]
    exact hK _ _ (h v w (by simpa using hown) (Grew.refl w v))
  · refine wpList_plain hgd fun _ hK => wp_appK s x t ho B e k hk z bytes ht hi hz1 v n xs hs hown ⟨b, off, none⟩ m c news hx hl (fun j u hj => ?_) h1 hbytes hlen hbase fun v' w' h2 h3 => hK _ _ (h v' w' h2 h3)
    have hjl : j < news.length := (List.getElem?_eq_some_iff.1 hj).1
    rw [addr_add, hc j (by omega)]
    simp [List.getD, hj]

end Go.Proofs.YthbfmioikbphgaaDoor
