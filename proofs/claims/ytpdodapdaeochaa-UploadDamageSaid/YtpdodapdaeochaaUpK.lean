/- Uploads: an inbox that is being built, in memory; plain laws of the loop of Receive. No condition. -/
import Derived.Test.YtpdodapdaeochaaUpJ
namespace Go.Proofs.Ytpdodapdaeochaa
set_option maxRecDepth 100000
open Go.RowKit

/-! ### Blocks -/
theorem blk_set {w : World} {g o : Nat} {c : Array Value} {t : TypeId} (h : w.heap[g]? = some (.cells c t)) (v : Value) : (w.setCell ⟨g, o, none⟩ v).heap[g]? = some (.cells (c.setIfInBounds o v) t) := heap_setCell_same w g o c t v h
theorem blk_by {w w' : World} {g : Nat} {r : Option Nat} {o : Obj} (h : w.heap[g]? = some o) (hg : w.grownBy w' r) (hne : r ≠ some g) : w'.heap[g]? = some o := by
  rw [hg.block g (blk_lt h) (Ne.symm hne)]; exact h
theorem blk_below {w w' : World} {g : Nat} {o : Obj} (h : w.heap[g]? = some o) (hb : Below w.heap.size w w') : w'.heap[g]? = some o := by
  rw [hb.block g (blk_lt h)]; exact h
theorem kept_gby {w w' : World} {r : Option Nat} {R : Nat} (hg : w.grownBy w' r) (hr : ∀ j, r = some j → j = R) : Kept R R w w' :=
  ⟨hg.size, fun i hi hne _ => hg.block i hi fun e => hne (hr i e.symm)⟩
theorem kept_trans {w w1 w2 : World} {R : Nat} (h : Kept R R w w1) (k : Kept R R w1 w2) : Kept R R w w2 :=
  ⟨Nat.le_trans h.1 k.1, fun i hi h1 h2 => (k.2 i (Nat.lt_of_lt_of_le hi h.1) h1 h2).trans (h.2 i hi h1 h2)⟩
theorem row_off {w : World} {B : Nat} {e : TypeId} {k n : Nat} {v : Value} {cs : List Value} (h : w.ownsRow B e k v n cs) {g : Nat} {c : Array Value} {t : TypeId} (hg : w.heap[g]? = some (.cells c t)) (ht : t ≠ e) : v.ownBlock ≠ some g := by
  intro he
  rcases h.2 with ⟨rfl, -⟩ | ⟨g', cap, cur, rfl, -, hh, -⟩
  · simp [Value.ownBlock] at he
  · simp [Value.ownBlock] at he
    subst he
    rw [hg] at hh
    cases hh
    exact ht rfl
theorem row_two {w : World} {B B' : Nat} {e e' : TypeId} {k k' n n' : Nat} {v u : Value} {cs cs' : List Value} (h : w.ownsRow B e k v n cs) (hu : w.ownsRow B' e' k' u n' cs') (ht : e' ≠ e) : v.ownBlock = none ∨ v.ownBlock ≠ u.ownBlock := by
  rcases hu.2 with ⟨rfl, -⟩ | ⟨g', cap, cur, rfl, -, hh, -⟩
  · cases hv : v.ownBlock with
    | none => exact .inl rfl
    | some j => exact .inr (by simp [Value.ownBlock])
  · exact .inr (row_off h hh ht)
theorem gUx (u : Value) (big : Nat) : ∃ gU, (∀ j, u.ownBlock = some j → j = gU) ∧ ∀ x, x < big → (∀ j, u.ownBlock = some j → j ≠ x) → gU ≠ x := by
  cases h : u.ownBlock with
  | none => exact ⟨big, by simp, fun x hx _ => by omega⟩
  | some j => exact ⟨j, fun i hi => by cases hi; rfl, fun x _ hx => hx j rfl⟩
/-- w has come from w0, whose blocks are as they were -/
def Bl (w0 w : World) : Prop := Below w0.heap.size w0 w
theorem Bl.below {w0 w w' : World} (h : Bl w0 w) (hb : Below w.heap.size w w') : Bl w0 w' := Below.trans h (hb.mono h.size)

/-! ### An inbox that is being built -/
def Mut (B gX : Nat) (v u : Value) (g : Nat) : Prop := g < B ∨ g = gX ∨ v.ownBlock = some g ∨ u.ownBlock = some g
def PUj (w : World) (F : Nat → Prop) (cs : List Value) (i : Nat) (m : PkM) : Prop := ∃ a n c, cs.getD (i * 4) .nilFunc = .int .i64 m.se ∧ cs.getD (i * 4 + 1) .nilFunc = .int .i64 m.pos ∧ cs.getD (i * 4 + 2) .nilFunc = .slice a n c ∧ cs.getD (i * 4 + 3) .nilFunc = .int .u64 (m.su.toNat : Int) ∧
  Bytes w a n c m.da ∧ ∀ g, F g → OffB g a n
structure NX (w : World) (B gX s : Nat) (log : List UInt8) (d : Nat) (v u : Value) (k : Nat) (f : Nat → PkM) (cs : List Value) : Prop where
  blk : w.heap[gX]? = some (.cells #[.int .i64 s, v, u] 28)
  own : Owns w B 5 v (bvs (log.take d))
  pq : OwnsK w B 35 4 u k cs
  it : ∀ i, i < k → PUj w (Mut B gX v u) cs i (f i)
theorem NX.later {w w' : World} {B gX s : Nat} {log : List UInt8} {d : Nat} {v u : Value} {k : Nat} {f : Nat → PkM} {cs : List Value} (h : NX w B gX s log d v u k f cs) (hb : Below w.heap.size w w') : NX w' B gX s log d v u k f cs := by
  refine ⟨blk_below h.blk hb, h.own.later hb, h.pq.later hb, fun i hi => ?_⟩
  obtain ⟨a, n, c, e0, e1, e2, e3, e4, e5⟩ := h.it i hi
  exact ⟨a, n, c, e0, e1, e2, e3, e4.below hb, e5⟩
theorem NX.ne1 {w : World} {B gX s : Nat} {log : List UInt8} {d : Nat} {v u : Value} {k : Nat} {f : Nat → PkM} {cs : List Value} (h : NX w B gX s log d v u k f cs) : v.ownBlock ≠ some gX := row_off h.own h.blk (by decide)
theorem NX.ne2 {w : World} {B gX s : Nat} {log : List UInt8} {d : Nat} {v u : Value} {k : Nat} {f : Nat → PkM} {cs : List Value} (h : NX w B gX s log d v u k f cs) : u.ownBlock ≠ some gX := row_off h.pq h.blk (by decide)
theorem NX.cell {w : World} {B gX s : Nat} {log : List UInt8} {d : Nat} {v u : Value} {k : Nat} {f : Nat → PkM} {cs : List Value} (h : NX w B gX s log d v u k f cs) : w.cell? ⟨gX, 0, none⟩ = some (.int .i64 s) ∧ w.cell? ⟨gX, 1, none⟩ = some v ∧ w.cell? ⟨gX, 2, none⟩ = some u ∧ gX < w.heap.size :=
  ⟨(blk_cell h.blk 0).trans rfl, (blk_cell h.blk 1).trans rfl, (blk_cell h.blk 2).trans rfl, blk_lt h.blk⟩
/-- the world after data has grown: what the store needs -/
theorem NX.grown1 {w w1 : World} {B gX s : Nat} {log : List UInt8} {d : Nat} {v v' u : Value} {k : Nat} {f : Nat → PkM} {cs : List Value} (h : NX w B gX s log d v u k f cs) (hG : Grew w w1 v v') : w1.cell? ⟨gX, 1, none⟩ = some v ∧ w1.frozen? ⟨gX, 1, none⟩ = false := by
  have hb := blk_by h.blk hG.1 h.ne1
  exact ⟨(blk_cell hb 1).trans rfl, blk_free hb 1⟩
theorem NX.grown2 {w w1 : World} {B gX s : Nat} {log : List UInt8} {d : Nat} {v u u' : Value} {k : Nat} {f : Nat → PkM} {cs : List Value} (h : NX w B gX s log d v u k f cs) (hG : Grew w w1 u u') : w1.cell? ⟨gX, 2, none⟩ = some u ∧ w1.frozen? ⟨gX, 2, none⟩ = false := by
  have hb := blk_by h.blk hG.1 h.ne2
  exact ⟨(blk_cell hb 2).trans rfl, blk_free hb 2⟩
theorem NX.ext {w w1 : World} {B gX s : Nat} {log : List UInt8} {d d' : Nat} {v v' u : Value} {k : Nat} {f : Nat → PkM} {cs : List Value} (h : NX w B gX s log d v u k f cs) (hO : Owns w1 B 5 v' (bvs (log.take d'))) (hG : Grew w w1 v v') : NX (w1.setCell ⟨gX, 1, none⟩ v') B gX s log d' v' u k f cs := by
  have hlt := blk_lt h.blk
  have hb := blk_by h.blk hG.1 h.ne1
  have hv' : v'.ownBlock ≠ some gX := by
    intro e
    rcases hG.2 with h5 | h5
    · exact h.ne1 (h5 ▸ e)
    · have := h5 gX e; omega
  refine ⟨?_, World.ownsRow.kept hO (gby_set _ _ _ _) (.inr hv'), World.ownsRow.kept (World.ownsRow.kept h.pq hG.1 (row_two h.pq h.own (by decide))) (gby_set _ _ _ _) (.inr h.ne2), fun i hi => ?_⟩
  · have := blk_set (o := 1) hb v'
    simpa using this
  · obtain ⟨a, n, c, e0, e1, e2, e3, e4, e5⟩ := h.it i hi
    have e6 := e4.gby hG.1 fun j hj => e5 j (.inr (.inr (.inl hj)))
    refine ⟨a, n, c, e0, e1, e2, e3, e6.set (e5 gX (.inr (.inl rfl))) _ _, fun g hg => ?_⟩
    rcases hg with hg | rfl | hg | hg
    · exact e5 _ (.inl hg)
    · exact e5 _ (.inr (.inl rfl))
    · rcases hG.2 with h5 | h5
      · exact e5 g (.inr (.inr (.inl (h5 ▸ hg))))
      · exact e4.offNew (h5 g hg)
    · exact e5 g (.inr (.inr (.inr hg)))
theorem NX.app {w w1 : World} {B gX s : Nat} {log : List UInt8} {d : Nat} {v u u' : Value} {k : Nat} {f : Nat → PkM} {cs : List Value} {a : Option Addr} {n c : Nat} (h : NX w B gX s log d v u k f cs)
    (hO : OwnsK w1 B 35 4 u' (k + 1) (cs ++ [.int .i64 (f k).se, .int .i64 (f k).pos, .slice a n c, .int .u64 ((f k).su.toNat : Int)])) (hG : Grew w w1 u u') (hX : Bytes w a n c (f k).da) (ho : ∀ g, Mut B gX v u g → OffB g a n) :
    NX (w1.setCell ⟨gX, 2, none⟩ u') B gX s log d v u' (k + 1) f (cs ++ [.int .i64 (f k).se, .int .i64 (f k).pos, .slice a n c, .int .u64 ((f k).su.toNat : Int)]) := by
  have hlt := blk_lt h.blk
  have hb := blk_by h.blk hG.1 h.ne2
  have hu' : u'.ownBlock ≠ some gX := by
    intro e
    rcases hG.2 with h5 | h5
    · exact h.ne2 (h5 ▸ e)
    · have := h5 gX e; omega
  have hl : cs.length = k * 4 := h.pq.1
  generalize hm : f k = m at *
  have hget : ∀ j, j < k * 4 → (cs ++ [Value.int .i64 m.se, .int .i64 m.pos, .slice a n c, .int .u64 (m.su.toNat : Int)]).getD j .nilFunc = cs.getD j .nilFunc := fun j hj => by
    simp [List.getD, List.getElem?_append_left (by omega : j < cs.length)]
  have hget2 : ∀ j, (cs ++ [Value.int .i64 m.se, .int .i64 m.pos, .slice a n c, .int .u64 (m.su.toNat : Int)]).getD (k * 4 + j) .nilFunc = ([.int .i64 m.se, .int .i64 m.pos, .slice a n c, .int .u64 (m.su.toNat : Int)] : List Value).getD j .nilFunc := fun j => by
    simp only [List.getD]
    rw [List.getElem?_append_right (by omega), show k * 4 + j - cs.length = j by omega]
  have hall : ∀ {a : Option Addr} {n c : Nat} {xs : List UInt8}, Bytes w a n c xs → (∀ g, Mut B gX v u g → OffB g a n) → Bytes (w1.setCell ⟨gX, 2, none⟩ u') a n c xs ∧ ∀ g, Mut B gX v u' g → OffB g a n := by
    intro a n c xs e4 e5
    have e6 := e4.gby hG.1 fun j hj => e5 j (.inr (.inr (.inr hj)))
    refine ⟨e6.set (e5 gX (.inr (.inl rfl))) _ _, fun g hg => ?_⟩
    rcases hg with hg | rfl | hg | hg
    · exact e5 _ (.inl hg)
    · exact e5 _ (.inr (.inl rfl))
    · exact e5 g (.inr (.inr (.inl hg)))
    · rcases hG.2 with h5 | h5
      · exact e5 g (.inr (.inr (.inr (h5 ▸ hg))))
      · exact e4.offNew (h5 g hg)
  refine ⟨?_, World.ownsRow.kept (World.ownsRow.kept h.own hG.1 (row_two h.own h.pq (by decide))) (gby_set _ _ _ _) (.inr h.ne1), World.ownsRow.kept hO (gby_set _ _ _ _) (.inr hu'), fun i hi => ?_⟩
  · have := blk_set (o := 2) hb u'
    simpa using this
  · by_cases hik : i < k
    · obtain ⟨a0, n0, c0, e0, e1, e2, e3, e4, e5⟩ := h.it i hik
      obtain ⟨p1, p2⟩ := hall e4 e5
      exact ⟨a0, n0, c0, by rw [hget _ (by omega)]; exact e0, by rw [hget _ (by omega)]; exact e1, by rw [hget _ (by omega)]; exact e2, by rw [hget _ (by omega)]; exact e3, p1, p2⟩
    · obtain rfl : i = k := by omega
      obtain ⟨p1, p2⟩ := hall hX ho
      subst hm
      exact ⟨a, n, c, hget2 0, hget2 1, hget2 2, hget2 3, p1, p2⟩
theorem NX.congr {w : World} {B gX s : Nat} {log : List UInt8} {d : Nat} {v u : Value} {k : Nat} {f g : Nat → PkM} {cs : List Value} (h : NX w B gX s log d v u k f cs) (e : ∀ i, i < k → f i = g i) : NX w B gX s log d v u k g cs :=
  ⟨h.blk, h.own, h.pq, fun i hi => by rw [← e i hi]; exact h.it i hi⟩
/-- one more packet of the log -/
theorem NX.push {w w1 : World} {B gX s : Nat} {log : List UInt8} {d : Nat} {v u u' : Value} {k : Nat} {acc : List PK} {x : PK} {p : Nat} {su : UInt64} {da : List UInt8} {cs : List Value} {a : Option Addr} {n c : Nat} (h : NX w B gX s log d v u k (pks s log acc) cs) (hk : acc.length = k)
    (hp : x.1 = p) (hs : (pk s log x).su = su) (hd : (pk s log x).da = da)
    (hO : OwnsK w1 B 35 4 u' (k + 1) (cs ++ [.int .i64 s, .int .i64 p, .slice a n c, .int .u64 (su.toNat : Int)])) (hG : Grew w w1 u u') (hX : Bytes w a n c da) {E : Nat} (ho : Under' E a n) (hE : ∀ g, Mut B gX v u g → g < E) :
    NX (w1.setCell ⟨gX, 2, none⟩ u') B gX s log d v u' (k + 1) (pks s log (acc ++ [x])) (cs ++ [.int .i64 s, .int .i64 p, .slice a n c, .int .u64 (su.toNat : Int)]) := by
  subst hp; subst hs; subst hd
  have h2 : NX w B gX s log d v u k (pks s log (acc ++ [x])) cs := h.congr fun i hi => by
    unfold pks; simp [List.getD, List.getElem?_append_left (show i < acc.length by omega)]
  have e : pks s log (acc ++ [x]) k = pk s log x := by unfold pks; simp [List.getD, hk]
  have h3 := NX.app (a := a) (n := n) (c := c) h2 (by rw [e]; exact hO) hG (by rw [e]; exact hX) fun g hg => ho.off (hE g hg)
  rw [e] at h3
  exact h3
theorem NX.mut_lt {w : World} {B gX s : Nat} {log : List UInt8} {d : Nat} {v u : Value} {k : Nat} {f : Nat → PkM} {cs : List Value} (h : NX w B gX s log d v u k f cs) (hB : B ≤ w.heap.size) : ∀ g, Mut B gX v u g → g < w.heap.size := by
  rintro g (hg | rfl | hg | hg)
  · omega
  · exact blk_lt h.blk
  · exact h.own.in g hg
  · exact h.pq.in g hg
/-- a store into an older block -/
theorem NX.res {w : World} {B gX s : Nat} {log : List UInt8} {d : Nat} {v u : Value} {k : Nat} {f : Nat → PkM} {cs : List Value} (h : NX w B gX s log d v u k f cs) {R : Nat} (hR : R < B) (hX : B ≤ gX) (o : Nat) (x : Value) : NX (w.setCell ⟨R, o, none⟩ x) B gX s log d v u k f cs := by
  refine ⟨blk_by h.blk (gby_set w R o x) (by simp; omega), World.ownsRow.kept h.own (gby_set _ _ _ _) (.inr fun e => by have := h.own.lt R e; omega), World.ownsRow.kept h.pq (gby_set _ _ _ _) (.inr fun e => by have := h.pq.lt R e; omega), fun i hi => ?_⟩
  obtain ⟨a, n, c, e0, e1, e2, e3, e4, e5⟩ := h.it i hi
  exact ⟨a, n, c, e0, e1, e2, e3, e4.set (e5 R (.inl hR)) _ _, e5⟩
theorem Bl.step {w0 w w1 : World} {v v' : Value} (h : Bl w0 w) (hG : Grew w w1 v v') (hv : ∀ j, v.ownBlock = some j → w0.heap.size ≤ j) {g : Nat} (hg : w0.heap.size ≤ g) (o : Nat) (u : Value) : Bl w0 (w1.setCell ⟨g, o, none⟩ u) := by
  have h1 : Below w0.heap.size w w1 := hG.below h.size hv
  exact Below.setCell (p := ⟨g, o, none⟩) (Below.trans h h1) hg u
theorem step_cell {w w1 : World} {v v' : Value} (hG : Grew w w1 v v') {g : Nat} (hlt : g < w.heap.size) (hne : v.ownBlock ≠ some g) {gX : Nat} (hX : g ≠ gX) (o' : Nat) (u : Value) {o : Nat} {x : Option Value} (h : w.cell? ⟨g, o, none⟩ = x) : (w1.setCell ⟨gX, o', none⟩ u).cell? ⟨g, o, none⟩ = x := by
  rw [← h]
  have h1 := hG.1.block g hlt (Ne.symm hne)
  have h2 := (gby_set w1 gX o' u).block g (Nat.lt_of_lt_of_le hlt hG.1.size) (by simpa using hX)
  simp only [World.cell?, h2, h1]
theorem NX.data {w : World} {B gX s : Nat} {log : List UInt8} {d : Nat} {a : Option Addr} {n c : Nat} {u : Value} {k : Nat} {f : Nat → PkM} {cs : List Value} (h : NX w B gX s log d (.slice a n c) u k f cs) : Bytes w a n c (log.take d) := by
  obtain ⟨a', n', c', e, h1⟩ := h.own.bytes
  cases e; exact h1
theorem NX.pks {w : World} {B gX s : Nat} {log : List UInt8} {d : Nat} {v : Value} {a : Option Addr} {n c : Nat} {k : Nat} {f : Nat → PkM} {cs : List Value} (h : NX w B gX s log d v (.slice a n c) k f cs) : n = k ∧ PksIn w a n c f := by
  rcases h.pq.form with ⟨e, h0, -⟩ | ⟨g, cap, e, hnc, hcm, -, hlt, hc, -⟩
  · cases e; subst h0; exact ⟨rfl, PksIn.nil _ _⟩
  · cases e
    refine ⟨rfl, hnc, hcm, by simp, .inr ⟨g, 0, rfl, hlt, fun i hi => ?_⟩⟩
    obtain ⟨a, n0, c0, e0, e1, e2, e3, e4, -⟩ := h.it i hi
    rw [Nat.zero_add]
    exact ⟨a, n0, c0, by rw [hc _ (by omega), e0], by rw [hc _ (by omega), e1], by rw [hc _ (by omega), e2], by rw [hc _ (by omega), e3], e4⟩

/-! ### The loop -/
def AbsI (d0 : Nat) (l : List PK) (d : Nat) (acc : List PK) (k : Nat) : Prop := absorb d0 l = ((absorb d (l.drop k)).1, acc ++ (absorb d (l.drop k)).2)
theorem AbsI.start (d0 : Nat) (l : List PK) : AbsI d0 l d0 [] 0 := by simp [AbsI]
theorem AbsI.keep {d0 : Nat} {l : List PK} {d : Nat} {acc : List PK} {k : Nat} (h : AbsI d0 l d acc k) (hk : k < l.length) (hd : d < (l.getD k (0, 0)).1) : AbsI d0 l d (acc ++ [l.getD k (0, 0)]) (k + 1) := by
  unfold AbsI at *
  rw [drop_cons l k (0, 0) hk] at h
  simp only [absorb, if_pos hd] at h
  rw [h]; simp
theorem AbsI.take {d0 : Nat} {l : List PK} {d : Nat} {acc : List PK} {k : Nat} (h : AbsI d0 l d acc k) (hk : k < l.length) (hd : ¬ d < (l.getD k (0, 0)).1) : AbsI d0 l (max d ((l.getD k (0, 0)).1 + (l.getD k (0, 0)).2)) acc (k + 1) := by
  unfold AbsI at *
  rw [drop_cons l k (0, 0) hk] at h
  simp only [absorb, if_neg hd] at h
  exact h
theorem AbsI.done {d0 : Nat} {l : List PK} {d : Nat} {acc : List PK} {k : Nat} (h : AbsI d0 l d acc k) (hk : l.length ≤ k) : absorb d0 l = (d, acc) := by
  unfold AbsI at h
  rw [List.drop_eq_nil_of_le hk] at h
  simpa [absorb] using h
def InsI (q : PK) (l : List PK) (acc : List PK) (k : Nat) : Prop := acc = if k ≤ place q l then l.take k else (ins q l).take (k + 1)
theorem ins_get {q : PK} {l : List PK} {k : Nat} (hk : k < l.length) (h : place q l ≤ k) : (ins q l).take (k + 2) = (ins q l).take (k + 1) ++ [l.getD k (0, 0)] := by
  have hp := place_le q l
  have hlen : (ins q l).length = l.length + 1 := by unfold ins; simp; omega
  rw [take_snoc (ins q l) (k + 1) (0, 0) (by omega)]
  congr 2
  unfold ins
  simp only [List.getD]
  rw [List.getElem?_append_right (by simp; omega), show k + 1 - (l.take (place q l)).length = (k - place q l) + 1 by simp; omega]
  simp [show place q l + (k - place q l) = k by omega]
theorem InsI.start (q : PK) (l : List PK) : InsI q l [] 0 := by simp [InsI]
theorem InsI.at {q : PK} {l acc : List PK} {k : Nat} (h : InsI q l acc k) (hk : k < l.length) (he : k = place q l) : InsI q l ((acc ++ [q]) ++ [l.getD k (0, 0)]) (k + 1) := by
  unfold InsI at *
  rw [if_pos (by omega)] at h
  rw [if_neg (by omega), ins_get hk (by omega)]
  congr 1
  have hp := place_le q l
  unfold ins
  have hl : (l.take (place q l)).length = place q l := by simp [Nat.min_eq_left hp]
  rw [h, he, List.take_append, hl, show (l.take (place q l)).take (place q l + 1) = l.take (place q l) from List.take_of_length_le (by rw [hl]; omega), Nat.add_sub_cancel_left]
  simp
theorem InsI.off {q : PK} {l acc : List PK} {k : Nat} (h : InsI q l acc k) (hk : k < l.length) (he : k ≠ place q l) : InsI q l (acc ++ [l.getD k (0, 0)]) (k + 1) := by
  unfold InsI at *
  by_cases hlt : k < place q l
  · rw [if_pos (by omega)] at h
    rw [if_pos (by omega), take_snoc l k (0, 0) hk, h]
  · rw [if_neg (by omega)] at h
    rw [if_neg (by omega), ins_get hk (by omega), h]
theorem InsI.last {q : PK} {l acc : List PK} {k : Nat} (h : InsI q l acc k) (hk : k = l.length) (he : place q l = k) : acc ++ [q] = ins q l := by
  unfold InsI at h
  rw [if_pos (by omega)] at h
  unfold ins
  rw [he, h, hk]; simp
theorem InsI.done {q : PK} {l acc : List PK} {k : Nat} (h : InsI q l acc k) (hk : k = l.length) (he : place q l ≠ k) : acc = ins q l := by
  have hp := place_le q l
  unfold InsI at h
  rw [if_neg (by omega)] at h
  rw [h, List.take_of_length_le]
  unfold ins; simp; omega
theorem bclone_own (xs : List UInt8) (a : Option Addr) (len cap : Nat) (B : Nat) (w : World) (hx : Bytes w a len cap xs) (hm : len ≤ 140737488355328) (hB : B ≤ w.heap.size) :
    Calls Try.prog 32 #[.slice a len cap] w fun e w' => ∃ b d, e = .returned (.slice b len d) ∧ Owns w' B 5 (.slice b len d) (bvs xs) ∧ Below w.heap.size w w' := by
  refine (bclone_any xs a len cap w hx hm).mono ?_
  rintro e w' ⟨v, rfl, h1, h2⟩
  obtain ⟨b, n, d, rfl, hb⟩ := h1.bytes
  obtain rfl : n = len := by rw [← hb.1, hx.1]
  exact ⟨b, d, rfl, h1.mono hB, h2⟩
theorem extend_sl (log : List UInt8) (m : PkM) (q n d B cv : Nat) (av a : Option Addr) (c : Nat) (w : World) (hm : m.pos = q) (hL : log.length ≤ 1048576) (hO : Owns w B 5 (.slice av d cv) (bvs (log.take d))) (hd : d ≤ log.length) (hx : Bytes w a n c (seg log (q, n))) (hqd : q ≤ d) (hqn : q + n ≤ log.length) (hB : B ≤ w.heap.size) :
    Calls Try.prog 33 #[.slice av d cv, .agg #[.int .i64 m.se, .int .i64 m.pos, .slice a n c, .int .u64 (m.su.toNat : Int)]] w fun e w' => ∃ b c', e = .returned (.slice b (max d (q + n)) c') ∧ Owns w' B 5 (.slice b (max d (q + n)) c') (bvs (log.take (max d (q + n)))) ∧ Grew w w' (.slice av d cv) (.slice b (max d (q + n)) c') := by
  refine (extend_any log m q n d B _ a c w hm hL hO hd hx hqd hqn hB).mono ?_
  rintro e w' ⟨v, rfl, h1, h2⟩
  obtain ⟨b, n', c', rfl, hb⟩ := h1.bytes
  obtain rfl : max d (q + n) = n' := by rw [← hb.1, List.length_take]; omega
  exact ⟨b, c', rfl, h1, h2⟩

end Go.Proofs.Ytpdodapdaeochaa
