/- What the walks share: a slice that is only read (Row), bytes and 64-bit numbers in Lean's own types, small laws on 'Below'. Plain lemmas, no condition. -/
import Derived.WalkKit
import Derived.WalkSpells
import Derived.WalkLawsBesides
import Derived.Deep.QuietTactic
import Derived.BigQuiet
import Derived.Lib.Hide
import Derived.StillTailTactics
namespace Go.Proofs.YthbfmioikbphgaaDoor
set_option maxRecDepth 100000
open Go.RowKit

/-! ### Slices that are only read -/

/-- a slice of cells that is only read: cell i holds f i -/
def Cells (w : World) (a : Option Addr) (len cap : Nat) (f : Nat → Value) : Prop :=
  len ≤ cap ∧ cap ≤ maxLen ∧ (a = none → cap = 0) ∧ (len = 0 ∨ ∃ b off, a = some ⟨b, off, none⟩ ∧ b < w.heap.size ∧ ∀ i, i < len → w.cell? ⟨b, off + i, none⟩ = some (f i))

theorem Cells.below {w w' : World} {a : Option Addr} {len cap : Nat} {f : Nat → Value} (h : Cells w a len cap f) (hb : Below w.heap.size w w') : Cells w' a len cap f := by
  obtain ⟨h1, h2, h0, h3⟩ := h
  refine ⟨h1, h2, h0, ?_⟩
  rcases h3 with h3 | ⟨b, off, rfl, hlt, hc⟩
  · exact .inl h3
  · refine .inr ⟨b, off, rfl, Nat.lt_of_lt_of_le hlt hb.size, fun i hi => ?_⟩
    rw [hb.cell (p := ⟨b, off + i, none⟩) hlt]; exact hc i hi

theorem Cells.at {w : World} {a : Option Addr} {len cap : Nat} {f : Nat → Value} (h : Cells w a len cap f) {k : Nat} (hk : k < len) :
    ∃ b off, a = some ⟨b, off, none⟩ ∧ b < w.heap.size ∧ ∀ i, i < len → ∀ w', Below w.heap.size w w' → w'.cell? ⟨b, off + i, none⟩ = some (f i) := by
  obtain ⟨_, _, _, h3⟩ := h
  rcases h3 with h3 | ⟨b, off, rfl, hlt, hc⟩
  · omega
  · exact ⟨b, off, rfl, hlt, fun i hi w' hb => by rw [hb.cell (p := ⟨b, off + i, none⟩) hlt]; exact hc i hi⟩

theorem Cells.congr {w : World} {a : Option Addr} {len cap : Nat} {f g : Nat → Value} (h : Cells w a len cap f) (e : ∀ i, i < len → f i = g i) : Cells w a len cap g := by
  obtain ⟨h1, h2, h0, h3⟩ := h
  refine ⟨h1, h2, h0, ?_⟩
  rcases h3 with h3 | ⟨b, off, rfl, hlt, hc⟩
  · exact .inl h3
  · exact .inr ⟨b, off, rfl, hlt, fun i hi => by rw [hc i hi, e i hi]⟩

/-- a slice of integers of kind k -/
def Row (k : IntKind) (w : World) (a : Option Addr) (len cap : Nat) (xs : List Int) : Prop :=
  xs.length = len ∧ (∀ n ∈ xs, (Lit.int k n).wf = true) ∧ Cells w a len cap (fun i => .int k (xs.getD i 0))

/-- a slice of bytes -/
def Bytes (w : World) (a : Option Addr) (len cap : Nat) (xs : List UInt8) : Prop :=
  xs.length = len ∧ Cells w a len cap (fun i => .int .u8 ((xs.getD i 0).toNat : Int))

theorem bytes_nil (w : World) : Bytes w none 0 0 [] := ⟨rfl, by omega, by simp [maxLen], by simp, .inl rfl⟩
/-- a slice of 64-bit numbers -/
def Words (w : World) (a : Option Addr) (len cap : Nat) (xs : List UInt64) : Prop :=
  xs.length = len ∧ Cells w a len cap (fun i => .int .u64 ((xs.getD i 0).toNat : Int))

theorem Row.below {k : IntKind} {w w' : World} {a : Option Addr} {len cap : Nat} {xs : List Int} (h : Row k w a len cap xs) (hb : Below w.heap.size w w') : Row k w' a len cap xs := ⟨h.1, h.2.1, h.2.2.below hb⟩
theorem Bytes.below {w w' : World} {a : Option Addr} {len cap : Nat} {xs : List UInt8} (h : Bytes w a len cap xs) (hb : Below w.heap.size w w') : Bytes w' a len cap xs := ⟨h.1, h.2.below hb⟩
theorem Words.below {w w' : World} {a : Option Addr} {len cap : Nat} {xs : List UInt64} (h : Words w a len cap xs) (hb : Below w.heap.size w w') : Words w' a len cap xs := ⟨h.1, h.2.below hb⟩

/-- the slice is empty or lies below block B -/
def Under (a : Option Addr) (len B : Nat) : Prop := len = 0 ∨ ∀ x, a = some x → x.block < B
theorem Cells.under {w : World} {a : Option Addr} {len cap : Nat} {f : Nat → Value} (h : Cells w a len cap f) : Under a len w.heap.size := by
  rcases h.2.2.2 with h | ⟨b, off, rfl, hlt, _⟩
  · exact .inl h
  · exact .inr fun x hx => by cases hx; exact hlt
/-- a slice that lies below B stays, whatever comes from B on -/
theorem Cells.keep {B : Nat} {w w' : World} {a : Option Addr} {len cap : Nat} {f : Nat → Value} (h : Cells w a len cap f) (hb : Below B w w') (ha : Under a len B) : Cells w' a len cap f := by
  obtain ⟨h1, h2, h0, h3⟩ := h
  refine ⟨h1, h2, h0, ?_⟩
  rcases ha with ha | ha
  · exact .inl ha
  rcases h3 with h3 | ⟨b, off, rfl, hlt, hc⟩
  · exact .inl h3
  · have hbB := ha _ rfl
    refine .inr ⟨b, off, rfl, Nat.lt_of_lt_of_le hlt hb.size, fun i hi => ?_⟩
    rw [hb.cell (p := ⟨b, off + i, none⟩) hbB]; exact hc i hi
theorem Bytes.keep {B : Nat} {w w' : World} {a : Option Addr} {len cap : Nat} {xs : List UInt8} (h : Bytes w a len cap xs) (hb : Below B w w') (ha : Under a len B) : Bytes w' a len cap xs := ⟨h.1, h.2.keep hb ha⟩
theorem Bytes.under {w : World} {a : Option Addr} {len cap : Nat} {xs : List UInt8} (h : Bytes w a len cap xs) : Under a len w.heap.size := h.2.under

theorem Cells.pre {w : World} {a : Option Addr} {len cap : Nat} {f : Nat → Value} (h : Cells w a len cap f) (hi : Nat) (hh : hi ≤ len) : Cells w a hi cap f := by
  obtain ⟨h1, h2, h0, h3⟩ := h
  refine ⟨by omega, h2, h0, ?_⟩
  rcases h3 with h3 | ⟨b, off, rfl, hlt, hc⟩
  · exact .inl (by omega)
  · exact .inr ⟨b, off, rfl, hlt, fun i hi => hc i (by omega)⟩
theorem Cells.suf {w : World} {b off : Nat} {len cap : Nat} {f : Nat → Value} (h : Cells w (some ⟨b, off, none⟩) len cap f) (lo : Nat) (hh : lo ≤ len) : Cells w (some ⟨b, off + lo, none⟩) (len - lo) (cap - lo) (fun i => f (lo + i)) := by
  obtain ⟨h1, h2, h0, h3⟩ := h
  refine ⟨by omega, by omega, by simp, ?_⟩
  rcases h3 with h3 | ⟨b', off', hbo, hlt, hc⟩
  · exact .inl (by omega)
  · cases hbo
    exact .inr ⟨b, off + lo, rfl, hlt, fun i hi => by rw [Nat.add_assoc]; exact hc (lo + i) (by omega)⟩
theorem Bytes.pre {w : World} {a : Option Addr} {len cap : Nat} {xs : List UInt8} (h : Bytes w a len cap xs) (hi : Nat) (hh : hi ≤ len) : Bytes w a hi cap (xs.take hi) := by
  refine ⟨by rw [List.length_take, h.1]; omega, (h.2.pre hi hh).congr fun i hi' => ?_⟩
  simp [List.getD, hi']
theorem Bytes.suf {w : World} {b off : Nat} {len cap : Nat} {xs : List UInt8} (h : Bytes w (some ⟨b, off, none⟩) len cap xs) (lo : Nat) (hh : lo ≤ len) : Bytes w (some ⟨b, off + lo, none⟩) (len - lo) (cap - lo) (xs.drop lo) := by
  refine ⟨by rw [List.length_drop, h.1], (h.2.suf lo hh).congr fun i hi' => ?_⟩
  simp [List.getD]

/-- the length in a slice's value: for a loop's measure -/
def lenOf : Value → Nat | .slice _ n _ => n | _ => 0

/-! ### Slices that the call owns -/

/-- a slice (one cell an element) in a block from B on, or nil, that holds xs and may be written and appended to -/
abbrev Owns (w : World) (B : Nat) (e : TypeId) (v : Value) (xs : List Value) : Prop := w.ownsRow B e 1 v xs.length xs

/-- from w to w' only new blocks have come, and only the block of v may have been written; v' lies where v lay, or in a new block -/
def Grew (w w' : World) (v v' : Value) : Prop := w.grownBy w' v.ownBlock ∧ (v'.ownBlock = v.ownBlock ∨ ∀ k, v'.ownBlock = some k → w.heap.size ≤ k)

theorem Grew.refl (w : World) (v : Value) : Grew w w v v := ⟨World.grownBy.refl w _, .inl rfl⟩
theorem Grew.trans {w w1 w2 : World} {v v1 v2 : Value} (h : Grew w w1 v v1) (k : Grew w1 w2 v1 v2) : Grew w w2 v v2 := by
  obtain ⟨h1, h2⟩ := h
  obtain ⟨k1, k2⟩ := k
  refine ⟨⟨k1.os.trans h1.os, k1.tape.trans h1.tape, k1.output.trans h1.output, Nat.le_trans h1.size k1.size, fun i hi hne => ?_⟩, ?_⟩
  · refine (k1.block i (Nat.lt_of_lt_of_le hi h1.size) fun e => ?_).trans (h1.block i hi hne)
    rcases h2 with h2 | h2
    · exact hne (e.trans h2)
    · have := h2 i e.symm; omega
  · rcases k2 with k2 | k2
    · rcases h2 with h2 | h2
      · exact .inl (k2.trans h2)
      · exact .inr fun k hk => h2 k (k2 ▸ hk)
    · exact .inr fun k hk => Nat.le_trans h1.size (k2 k hk)
/-- steps that write no old block, ahead of a growth -/
theorem Grew.after {B : Nat} {w w1 w2 : World} {v v' : Value} (hb : Below B w w1) (hB : B = w.heap.size) (k : Grew w1 w2 v v') : Grew w w2 v v' := by
  subst hB
  obtain ⟨k1, k2⟩ := k
  refine ⟨⟨k1.os.trans hb.os, k1.tape.trans hb.tape, k1.output.trans hb.output, Nat.le_trans hb.size k1.size, fun i hi hne => (k1.block i (Nat.lt_of_lt_of_le hi hb.size) hne).trans (hb.block i hi)⟩, ?_⟩
  rcases k2 with k2 | k2
  · exact .inl k2
  · exact .inr fun k hk => Nat.le_trans hb.size (k2 k hk)
/-- steps that write no old block, behind a growth -/
theorem Grew.then {w w1 w2 : World} {v v' : Value} (k : Grew w w1 v v') (hb : Below w1.heap.size w1 w2) : Grew w w2 v v' := by
  obtain ⟨k1, k2⟩ := k
  exact ⟨⟨hb.os.trans k1.os, hb.tape.trans k1.tape, hb.output.trans k1.output, Nat.le_trans k1.size hb.size, fun i hi hne => (hb.block i (Nat.lt_of_lt_of_le hi k1.size)).trans (k1.block i hi hne)⟩, k2⟩
/-- what lay below B stays, if the growing slice lies from B on -/
theorem Grew.below {B : Nat} {w w' : World} {v v' : Value} (k : Grew w w' v v') (hB : B ≤ w.heap.size) (hv : ∀ j, v.ownBlock = some j → B ≤ j) : Below B w w' :=
  ⟨k.1.os, k.1.tape, k.1.output, k.1.size, fun i hi => k.1.block i (by omega) fun e => by have := hv i e.symm; omega⟩

theorem Owns.nil (w : World) (B : Nat) (e : TypeId) : Owns w B e (.slice none 0 0) [] := World.ownsRow_nil w B e 1
theorem Owns.lt {w : World} {B : Nat} {e : TypeId} {v : Value} {xs : List Value} (h : Owns w B e v xs) : ∀ j, v.ownBlock = some j → B ≤ j := fun j hj => (World.ownsRow.lt h j hj).1
theorem Owns.in {w : World} {B : Nat} {e : TypeId} {v : Value} {xs : List Value} (h : Owns w B e v xs) : ∀ j, v.ownBlock = some j → j < w.heap.size := fun j hj => (World.ownsRow.lt h j hj).2
/-- an owned slice in a later world that has the old blocks -/
theorem Owns.later {w w' : World} {B : Nat} {e : TypeId} {v : Value} {xs : List Value} (h : Owns w B e v xs) (hb : Below w.heap.size w w') : Owns w' B e v xs := by
  refine ⟨h.1, ?_⟩
  rcases h.2 with h2 | ⟨g, cap, cur, hv, hg, hh, r⟩
  · exact .inl h2
  · refine .inr ⟨g, cap, cur, hv, hg, ?_, r⟩
    rw [hb.block g (by rcases Nat.lt_or_ge g w.heap.size with h' | h'; exact h'; rw [Array.getElem?_eq_none h'] at hh; cases hh)]; exact hh
theorem Owns.drew {w : World} {B : Nat} {e : TypeId} {v : Value} {xs : List Value} (h : Owns w B e v xs) : Owns w.drew B e v xs := World.ownsRow.drew h
theorem Owns.mono {w : World} {B B' : Nat} {e : TypeId} {v : Value} {xs : List Value} (h : Owns w B e v xs) (hB : B' ≤ B) : Owns w B' e v xs := by
  refine ⟨h.1, ?_⟩
  rcases h.2 with h2 | ⟨g, cap, cur, hv, hg, hh, r⟩
  · exact .inl h2
  · exact .inr ⟨g, cap, cur, hv, by omega, hh, r⟩
/-- the form of an owned slice's value -/
theorem Owns.form {w : World} {B : Nat} {e : TypeId} {v : Value} {xs : List Value} (h : Owns w B e v xs) : ∃ a cap, v = .slice a xs.length cap ∧ Cells w a xs.length cap (fun i => xs.getD i .nilFunc) := by
  rcases h.2 with ⟨rfl, h0⟩ | ⟨g, cap, cur, rfl, hg, hh, hnc, hcm, hcs, htk⟩
  · exact ⟨none, 0, by rw [h0], by omega, by simp [maxLen], by simp, .inl h0⟩
  · refine ⟨_, cap, rfl, hnc, hcm, by simp, ?_⟩
    refine .inr ⟨g, 0, rfl, (by rcases Nat.lt_or_ge g w.heap.size with h' | h'; exact h'; rw [Array.getElem?_eq_none h'] at hh; cases hh), fun i hi => ?_⟩
    simp only [World.cell?, hh, Option.isSome_none, Bool.false_eq_true, if_false, Nat.zero_add]
    have e1 : cur[i]? = xs[i]? := by
      rw [← htk, List.getElem?_take_of_lt (by omega), Array.getElem?_toList]
    rw [e1]; simp [List.getD, hi]

theorem Owns.form2 {w : World} {B : Nat} {e : TypeId} {v : Value} {xs : List Value} (h : Owns w B e v xs) : (v = .slice none 0 0 ∧ xs = []) ∨ ∃ g cap, v = .slice (some ⟨g, 0, none⟩) xs.length cap ∧ xs.length ≤ cap ∧ cap ≤ maxLen ∧ B ≤ g ∧ g < w.heap.size := by
  rcases h.2 with ⟨rfl, h0⟩ | ⟨g, cap, cur, rfl, hg, hh, hnc, hcm, _⟩
  · exact .inl ⟨rfl, List.eq_nil_of_length_eq_zero h0⟩
  · exact .inr ⟨g, cap, rfl, hnc, hcm, hg, by rcases Nat.lt_or_ge g w.heap.size with h' | h'; exact h'; rw [Array.getElem?_eq_none h'] at hh; cases hh⟩
/-- values that have just been laid into a new block -/
theorem owns_lit (w : World) (B : Nat) (e : TypeId) (vs : List Value) (hl : vs.length ≤ maxLen) (hB : B ≤ w.heap.size) : Owns (w.alloc (.cells vs.toArray e)) B e (.slice (some ⟨w.heap.size, 0, none⟩) vs.length vs.length) vs :=
  World.ownsRow_lit w vs.toArray vs.length hB hl (by simp)
theorem Owns.len {w : World} {B : Nat} {e : TypeId} {a : Option Addr} {n cap : Nat} {xs : List Value} (h : Owns w B e (.slice a n cap) xs) : xs.length = n := by
  rcases h.2 with ⟨h', h0⟩ | ⟨g', cap', cur, h', _⟩
  · cases h'; exact h0
  · cases h'; rfl
theorem Owns.cell {w : World} {B : Nat} {e : TypeId} {g n cap : Nat} {xs : List Value} (h : Owns w B e (.slice (some ⟨g, 0, none⟩) n cap) xs) (j : Nat) (hj : j < n) : w.cell? ⟨g, j, none⟩ = some (xs.getD j .nilFunc) := by
  have hl := h.len
  subst hl
  rw [World.ownsRow.cellAt h j (by omega)]
  simp [List.getD, hj]
theorem Owns.free {w : World} {B : Nat} {e : TypeId} {g n cap : Nat} {xs : List Value} (h : Owns w B e (.slice (some ⟨g, 0, none⟩) n cap) xs) (j : Nat) : w.frozen? ⟨g, j, none⟩ = false := by
  have hl := h.len
  subst hl
  exact World.ownsRow.frozenAt h j
theorem Owns.store {w : World} {B : Nat} {e : TypeId} {g n cap : Nat} {xs : List Value} (h : Owns w B e (.slice (some ⟨g, 0, none⟩) n cap) xs) (j : Nat) (u : Value) : Owns (w.setCell ⟨g, j, none⟩ u) B e (.slice (some ⟨g, 0, none⟩) n cap) (xs.set j u) := by
  have hl := h.len
  subst hl
  have := (World.ownsRow.stored h j u).1
  unfold Owns; rw [List.length_set]; exact this
theorem addr_add (b off i : Nat) : (⟨b, off, none⟩ : Addr).add i = ⟨b, off + i, none⟩ := by
  unfold Addr.add; split
  · subst_vars; rfl
  · rfl

/-- append to a slice that the call owns: the run -/
theorem run_app {P : Program} {w : World} (t ty : TypeId) (B : Nat) (e : TypeId) (z : Value) (bytes : Nat) (ht : P.underlying t = some (.slice e)) (hi : (P.info? e).map (fun i => (i.zero, i.size, i.bytes)) = some (some z, 1, bytes)) (hz1 : z.cells.size = 1)
    (v : Value) (xs : List Value) (hown : Owns w B e v xs) (ad : Option Addr) (c : Nat) (news : List Value) (hnews : Cells w ad news.length c (fun i => news.getD i .nilFunc)) (h1 : ∀ u ∈ news, u.oneCell' = true)
    (hbytes : (xs.length + news.length) * bytes ≤ 140737488355328) (hlen : xs.length + news.length ≤ maxLen) (hbase : B ≤ w.heap.size) :
    ∃ v' w', (Builtin.append_ #[t, t] ty #[v, .slice ad news.length c]).run P w = .ok v' w' ∧ Owns w' B e v' (xs ++ news) ∧ Grew w w' v v' := by
  obtain ⟨i, hi', hz, hsize, hby⟩ := info_parts hi
  cases ad with
  | none =>
    have hc : c = 0 := hnews.2.2.1 rfl
    have hn : news = [] := by have := hnews.1; exact List.eq_nil_of_length_eq_zero (by omega)
    subst hc; subst hn
    exact ⟨v, w, run_append_owned_none (P := P) w B t ty e i 1 ht hi' v xs.length xs hown, by simpa using hown, Grew.refl w v⟩
  | some ad =>
    have hn : ∀ j u, news[j]? = some u → w.cell? (ad.add j) = some u := by
      intro j u hu
      have hj : j < news.length := (List.getElem?_eq_some_iff.1 hu).1
      rcases hnews.2.2.2 with h0 | ⟨b, off, hab, _, hc⟩
      · omega
      · cases hab
        rw [addr_add, hc j hj]; simp [List.getD, hu]
    obtain ⟨v', w', hr, h2, h3, h4⟩ := run_append_own (P := P) w B t ty e i z 1 bytes ht hi' hz hsize hby hz1 (by omega) v xs.length xs hown ad news.length c news (by simp) hn h1 hlen hbytes hbase
    refine ⟨v', w', hr, by simpa [Owns] using h2, h3, ?_⟩
    rcases hown.2 with ⟨rfl, h0⟩ | ⟨g, cap, cur, rfl, hg, hh, hnc, hcm, hcs, htk⟩
    · by_cases hm : news.length = 0
      · have := h4.2 ⟨rfl, hm⟩; subst this; exact .inl rfl
      · have hr' := run_append_nil (P := P) w t ty e i z ht hi' hz ad news.length c news (by simp [hsize]) hn (by omega) (by simp only [maxLen] at hlen; omega) (by rw [hby]; have hb := hbytes; rw [h0, Nat.zero_add] at hb; omega)
        rw [hr'] at hr
        simp only [Result.ok.injEq] at hr
        right; intro k hk
        rw [← hr.1] at hk
        simp [Value.ownBlock] at hk; omega
    · by_cases hroom : xs.length + news.length ≤ cap
      · have hr' := run_append_room (P := P) w t ty e i ht hi' g xs.length cap cur hh ad news.length c news (by simp [hsize]) hn h1 hroom (by rw [hsize, hcs]; omega)
        rw [hr'] at hr
        simp only [Result.ok.injEq] at hr
        left; rw [← hr.1]; rfl
      · have hr' := run_append_grow (P := P) w t ty e i z ht hi' hz ⟨g, 0, none⟩ xs.length cap xs (by simp [hsize]) (World.ownsRow.cells hown (g := g) rfl) ad news.length c news (by simp [hsize]) hn (by omega) (by simp only [maxLen] at hlen; omega) (by rw [hby]; exact growslice_fits (by omega) hbytes)
        rw [hr'] at hr
        simp only [Result.ok.injEq] at hr
        right; intro k hk
        rw [← hr.1] at hk
        simp [Value.ownBlock] at hk; omega

/-- append to a slice that the call owns: one operation -/
theorem wp_app {P : Program} {w : World} {o : Oper} {a : Act} {K : Act → World → Prop} {Q : Exit → Act → World → Prop} (s x : Operand) (t : TypeId)
    (ho : o.op = .call { callee := .builtin .append, args := #[s, x], argTypes := #[t, t] })
    (B : Nat) (e : TypeId) (z : Value) (bytes : Nat) (ht : P.underlying t = some (.slice e)) (hi : (P.info? e).map (fun i => (i.zero, i.size, i.bytes)) = some (some z, 1, bytes)) (hz1 : z.cells.size = 1)
    (v : Value) (xs : List Value) (hs : a.eval s = v) (hown : Owns w B e v xs)
    (ad : Option Addr) (m c : Nat) (news : List Value) (hx : a.eval x = .slice ad m c) (hl : news.length = m) (hnews : Cells w ad m c (fun i => news.getD i .nilFunc)) (h1 : ∀ u ∈ news, u.oneCell' = true)
    (hbytes : (xs.length + m) * bytes ≤ 140737488355328) (hlen : xs.length + m ≤ maxLen) (hbase : B ≤ w.heap.size)
    (h : ∀ v' w', Owns w' B e v' (xs ++ news) → Grew w w' v v' → K (a.put o.dst v') w') : o.wp P a w K Q := by
  subst hl
  obtain ⟨v', w', hr, h2, h3⟩ := run_app (P := P) t o.type B e z bytes ht hi hz1 v xs hown ad c news hnews h1 hbytes hlen hbase
  unfold Oper.wp
  simp [execOp, ho, resolve, invoke, builtin, hs, hx, hr, Result.andThen]
  exact h v' w' h2 h3

/-- append of some elements that have just been laid into a new block: one operation -/
theorem wp_appL {P : Program} {w : World} {o : Oper} {a : Act} {K : Act → World → Prop} {Q : Exit → Act → World → Prop} (s x : Operand) (t : TypeId)
    (ho : o.op = .call { callee := .builtin .append, args := #[s, x], argTypes := #[t, t] })
    (B : Nat) (e : TypeId) (z : Value) (bytes : Nat) (ht : P.underlying t = some (.slice e)) (hi : (P.info? e).map (fun i => (i.zero, i.size, i.bytes)) = some (some z, 1, bytes)) (hz1 : z.cells.size = 1)
    (v : Value) (xs : List Value) (hs : a.eval s = v) (ys : List Value) (hy : ∀ y ∈ ys, y.oneCell' = true) (hown : Owns w B e v xs)
    (m : Nat) (hx : a.eval x = .slice (some ⟨w.heap.size, 0, none⟩) m m) (hm : ys.length = m)
    (hbytes : (xs.length + m) * bytes ≤ 140737488355328) (hlen : xs.length + m ≤ maxLen) (hbase : B ≤ w.heap.size)
    (h : ∀ v' w', Owns w' B e v' (xs ++ ys) → Grew w w' v v' → K (a.put o.dst v') w') : o.wp P a (w.alloc (.cells ys.toArray e)) K Q := by
  subst hm
  have hbel : Below w.heap.size w (w.alloc (.cells ys.toArray e)) := (Below.refl _ _).alloc (Nat.le_refl _) _
  refine wp_app s x t ho B e z bytes ht hi hz1 v xs hs (hown.later hbel) _ ys.length ys.length ys hx rfl ?_ hy hbytes hlen (by simp; omega) fun v' w' h2 h3 => h v' w' h2 (Grew.after hbel rfl h3)
  refine ⟨Nat.le_refl _, by omega, by simp, .inr ⟨_, 0, rfl, by simp, fun i hi => ?_⟩⟩
  refine (World.cell?_alloc_mark w _ _ _ _).trans ?_
  simp [List.getD, hi]

/-- append to a slice that the call owns, in a walk -/
theorem wpList_app {P : Program} {w : World} {ops : Array Oper} {rest : List Oper} {o : Oper} {a : Act} {Q : Exit → Act → World → Prop} (hgd : o.guard = none) (s x : Operand) (t : TypeId)
    (ho : o.op = .call { callee := .builtin .append, args := #[s, x], argTypes := #[t, t] })
    (B : Nat) (e : TypeId) (z : Value) (bytes : Nat) (ht : P.underlying t = some (.slice e)) (hi : (P.info? e).map (fun i => (i.zero, i.size, i.bytes)) = some (some z, 1, bytes)) (hz1 : z.cells.size = 1)
    (v : Value) (xs : List Value) (hs : a.eval s = v) (hown : Owns w B e v xs)
    (ad : Option Addr) (m c : Nat) (news : List Value) (hx : a.eval x = .slice ad m c) (hl : news.length = m) (hnews : Cells w ad m c (fun i => news.getD i .nilFunc)) (h1 : ∀ u ∈ news, u.oneCell' = true)
    (hbytes : (xs.length + m) * bytes ≤ 140737488355328) (hlen : xs.length + m ≤ maxLen) (hbase : B ≤ w.heap.size)
    (h : ∀ v' w', Owns w' B e v' (xs ++ news) → Grew w w' v v' → wpList P ops Q rest (a.put o.dst v') w') : wpList P ops Q (o :: rest) a w :=
  wpList_plain hgd fun _ hK => wp_app s x t ho B e z bytes ht hi hz1 v xs hs hown ad m c news hx hl hnews h1 hbytes hlen hbase fun v' w' h2 h3 => hK _ _ (h v' w' h2 h3)

/-- the same, the new slice written out: it is not empty -/
theorem wpList_appS {P : Program} {w : World} {ops : Array Oper} {rest : List Oper} {o : Oper} {a : Act} {Q : Exit → Act → World → Prop} (hgd : o.guard = none) (s x : Operand) (t : TypeId)
    (ho : o.op = .call { callee := .builtin .append, args := #[s, x], argTypes := #[t, t] })
    (B : Nat) (e : TypeId) (z : Value) (bytes : Nat) (ht : P.underlying t = some (.slice e)) (hi : (P.info? e).map (fun i => (i.zero, i.size, i.bytes)) = some (some z, 1, bytes)) (hz1 : z.cells.size = 1)
    (v : Value) (xs : List Value) (hs : a.eval s = v) (hown : Owns w B e v xs)
    (ad : Option Addr) (m c : Nat) (news : List Value) (hx : a.eval x = .slice ad m c) (hl : news.length = m) (hnews : Cells w ad m c (fun i => news.getD i .nilFunc)) (h1 : ∀ u ∈ news, u.oneCell' = true)
    (n : Nat) (hn : xs.length + m = n) (h0 : 0 < n) (hbytes : n * bytes ≤ 140737488355328) (hlen : n ≤ maxLen) (hbase : B ≤ w.heap.size)
    (h : ∀ g c w', Owns w' B e (.slice (some ⟨g, 0, none⟩) n c) (xs ++ news) → Grew w w' v (.slice (some ⟨g, 0, none⟩) n c) → n ≤ c → B ≤ g → wpList P ops Q rest (a.put o.dst (.slice (some ⟨g, 0, none⟩) n c)) w') : wpList P ops Q (o :: rest) a w := by
  refine wpList_app hgd s x t ho B e z bytes ht hi hz1 v xs hs hown ad m c news hx hl hnews h1 (by rw [hn]; exact hbytes) (by rw [hn]; exact hlen) hbase fun v' w' h2 h3 => ?_
  have hnl : (xs ++ news).length = n := by rw [List.length_append, hl, hn]
  rcases h2.form2 with ⟨_, hnil⟩ | ⟨g, c', hv, hnc, _, hg, _⟩
  · rw [hnil] at hnl; simp at hnl; omega
  · rw [hnl] at hv hnc
    subst hv
    exact h g c' w' h2 h3 hnc hg

/-- append of one element that has just been laid into a new cell, in a walk -/
theorem wpList_app1 {P : Program} {w : World} {ops : Array Oper} {rest : List Oper} {o : Oper} {a : Act} {Q : Exit → Act → World → Prop} (hgd : o.guard = none) (s x : Operand) (t : TypeId)
    (ho : o.op = .call { callee := .builtin .append, args := #[s, x], argTypes := #[t, t] })
    (B : Nat) (e : TypeId) (z : Value) (bytes : Nat) (ht : P.underlying t = some (.slice e)) (hi : (P.info? e).map (fun i => (i.zero, i.size, i.bytes)) = some (some z, 1, bytes)) (hz1 : z.cells.size = 1)
    (v : Value) (xs : List Value) (hs : a.eval s = v) (y : Value) (hy : y.oneCell' = true) (hown : Owns w B e v xs)
    (hx : a.eval x = .slice (some ⟨w.heap.size, 0, none⟩) 1 1)
    (hbytes : (xs.length + 1) * bytes ≤ 140737488355328) (hlen : xs.length + 1 ≤ maxLen) (hbase : B ≤ w.heap.size)
    (h : ∀ v' w', Owns w' B e v' (xs ++ [y]) → Grew w w' v v' → wpList P ops Q rest (a.put o.dst v') w') : wpList P ops Q (o :: rest) a (w.alloc (.cells #[y] e)) :=
  wpList_plain hgd fun _ hK => wp_appL s x t ho B e z bytes ht hi hz1 v xs hs [y] (by simpa using hy) hown 1 hx rfl hbytes hlen hbase fun v' w' h2 h3 => hK _ _ (h v' w' h2 h3)

/-- append of some elements that have just been laid into a new block, in a walk -/
theorem wpList_appL {P : Program} {w : World} {ops : Array Oper} {rest : List Oper} {o : Oper} {a : Act} {Q : Exit → Act → World → Prop} (hgd : o.guard = none) (s x : Operand) (t : TypeId)
    (ho : o.op = .call { callee := .builtin .append, args := #[s, x], argTypes := #[t, t] })
    (B : Nat) (e : TypeId) (z : Value) (bytes : Nat) (ht : P.underlying t = some (.slice e)) (hi : (P.info? e).map (fun i => (i.zero, i.size, i.bytes)) = some (some z, 1, bytes)) (hz1 : z.cells.size = 1)
    (v : Value) (xs : List Value) (hs : a.eval s = v) (ys : List Value) (hy : ∀ y ∈ ys, y.oneCell' = true) (hown : Owns w B e v xs)
    (m : Nat) (hx : a.eval x = .slice (some ⟨w.heap.size, 0, none⟩) m m) (hm : ys.length = m)
    (hbytes : (xs.length + m) * bytes ≤ 140737488355328) (hlen : xs.length + m ≤ maxLen) (hbase : B ≤ w.heap.size)
    (h : ∀ v' w', Owns w' B e v' (xs ++ ys) → Grew w w' v v' → wpList P ops Q rest (a.put o.dst v') w') : wpList P ops Q (o :: rest) a (w.alloc (.cells ys.toArray e)) :=
  wpList_plain hgd fun _ hK => wp_appL s x t ho B e z bytes ht hi hz1 v xs hs ys hy hown m hx hm hbytes hlen hbase fun v' w' h2 h3 => hK _ _ (h v' w' h2 h3)

/-- 'make([]T, 0, n)', in a walk -/
theorem wpList_mk0 {P : Program} {w : World} {ops : Array Oper} {rest : List Oper} {o : Oper} {a : Act} {Q : Exit → Act → World → Prop} (hgd : o.guard = none) (l c : Operand) (t : TypeId) (hop : o.op = Op.makeSlice t l c)
    (e : TypeId) (z : Value) (bytes : Nat) (ht : P.underlying t = some (.slice e)) (hi : (P.info? e).map (fun i => (i.zero, i.size, i.bytes)) = some (some z, 1, bytes))
    (kl kc : IntKind) (C : Int) (n : Nat) (hl : a.eval l = .int kl 0) (hc : a.eval c = .int kc C) (hC : C = (n : Int)) (hb : bytes * n ≤ 281474976710656) (hn : n ≤ maxLen)
    (hK : ∀ w', Owns w' w.heap.size e (.slice (some ⟨w.heap.size, 0, none⟩) 0 n) [] → Below w.heap.size w w' → wpList P ops Q rest (a.put o.dst (.slice (some ⟨w.heap.size, 0, none⟩) 0 n)) w') : wpList P ops Q (o :: rest) a w := by
  obtain ⟨i, hi', hz, hsize, hby⟩ := info_parts hi
  exact wpList_make_own w hgd l c t hop w.heap.size e i z 1 ht hi' hz hsize kl kc C n hl hc hC (by rw [hby]; exact hb) hn (Nat.le_refl _) fun w' h1 h2 => hK w' h1 ((Below.refl _ _).grown h2 (Nat.le_refl _) (by simp))

/-- 'make([]T, n)', in a walk -/
theorem wpList_mkn {P : Program} {w : World} {ops : Array Oper} {rest : List Oper} {o : Oper} {a : Act} {Q : Exit → Act → World → Prop} (hgd : o.guard = none) (l c : Operand) (t : TypeId) (hop : o.op = Op.makeSlice t l c)
    (e : TypeId) (z : Value) (bytes : Nat) (ht : P.underlying t = some (.slice e)) (hi : (P.info? e).map (fun i => (i.zero, i.size, i.bytes)) = some (some z, 1, bytes)) (hz1 : z.cells = #[z])
    (kl kc : IntKind) (L C : Int) (n : Nat) (hl : a.eval l = .int kl L) (hc : a.eval c = .int kc C) (hL : L = (n : Int)) (hC : C = (n : Int)) (hb : bytes * n ≤ 281474976710656) (hn : n ≤ maxLen)
    (hK : ∀ w', Owns w' w.heap.size e (.slice (some ⟨w.heap.size, 0, none⟩) n n) (List.replicate n z) → Below w.heap.size w w' → wpList P ops Q rest (a.put o.dst (.slice (some ⟨w.heap.size, 0, none⟩) n n)) w') : wpList P ops Q (o :: rest) a w := by
  obtain ⟨i, hi', hz, hsize, hby⟩ := info_parts hi
  refine wpList_make_full w hgd l c t hop w.heap.size e i z 1 ht hi' hz hsize kl kc L C n hl hc hL hC (by rw [hby]; exact hb) hn (Nat.le_refl _) fun w' h1 h2 => hK w' ?_ ((Below.refl _ _).grown h2 (Nat.le_refl _) (by simp))
  rw [Nat.mul_one, hz1, toList_madeCells_one] at h1
  unfold Owns; rw [List.length_replicate]; exact h1

/-- the bytes of a string, in new memory, in a walk -/
theorem wpList_tobytes {P : Program} {w : World} {ops : Array Oper} {rest : List Oper} {o : Oper} {a : Act} {Q : Exit → Act → World → Prop} (hgd : o.guard = none) (x : Operand) (src dst e : TypeId)
    (ho : o.op = .convert src dst x) (hs : P.underlying src = some .string) (hd : P.underlying dst = some (.slice e)) (he : P.underlying e = some (.int .u8))
    (s : ByteArray) (hx : a.eval x = .string s) (hsz : s.size ≤ maxLen)
    (h : ∀ ad cap w', Bytes w' ad s.size cap s.data.toList → Below w.heap.size w w' → wpList P ops Q rest (a.put o.dst (.slice ad s.size cap)) w') : wpList P ops Q (o :: rest) a w := by
  refine wpList_plain hgd fun K hK => ?_
  have hr := run_bytes_of_string (P := P) w src dst e s hs hd he
  unfold Oper.wp
  simp [execOp, ho, hx, hr, Result.andThen]
  refine hK _ _ (h _ _ _ ⟨rfl, grownCap_ge w s.size 0 e, grownCap_le_maxLen w s.size 0 e hsz, by simp, .inr ⟨_, 0, rfl, by simp, fun i hi => ?_⟩⟩ (((Below.refl _ _).drew).alloc (by simp) _))
  refine (World.cell?_alloc_mark w.drew _ _ _ _).trans ?_
  have hi' : i < s.data.size := hi
  rw [bytesRow, Array.getElem?_append_left (by simpa using hi'), Array.getElem?_map]
  have e1 : s.data[i]? = some s.data[i] := Array.getElem?_eq_getElem hi'
  simp [List.getD, e1]

/-! ### Lists -/
theorem drop_cons {α : Type} (xs : List α) (k : Nat) (d : α) (h : k < xs.length) : xs.drop k = xs.getD k d :: xs.drop (k + 1) := by
  rw [List.drop_eq_getElem_cons h]; simp [List.getD, h]
theorem take_snoc {α : Type} (xs : List α) (k : Nat) (d : α) (h : k < xs.length) : xs.take (k + 1) = xs.take k ++ [xs.getD k d] := by
  rw [List.take_succ_eq_append_getElem h]; simp [List.getD, h]

theorem ret_int {k : IntKind} {a b : Int} (h : a = b) : Ending.returned (.int k a) = .returned (.int k b) := by rw [h]
theorem ret_two {v v' u u' : Value} (h : v = v') (h' : u = u') : Ending.returned (.tuple #[v, u]) = .returned (.tuple #[v', u']) := by rw [h, h']
theorem ret_pair {k k' : IntKind} {x y : Int} {p : Int × Int} (h : p = (x, y)) : Ending.returned (.tuple #[.int k x, .int k' y]) = .returned (.tuple #[.int k p.1, .int k' p.2]) := by rw [h]
theorem int_eq {k : IntKind} {a b : Int} (h : a = b) : Value.int k a = .int k b := by rw [h]

/-! ### Bytes and 64-bit numbers -/
theorem wrap_u64_u8 (x : UInt8) : IntKind.u64.wrap (x.toNat : Int) = (x.toUInt64.toNat : Int) := by
  rw [IntKind.wrap_u64]; have := x.toNat_lt; simp; omega
theorem xor_u64 (a b : UInt64) : bits .xor .u64 (a.toNat : Int) (b.toNat : Int) = ((a ^^^ b).toNat : Int) := by
  rw [bits_xor_u64_nat _ _ a.toNat_lt b.toNat_lt, UInt64.toNat_xor]
theorem wrap_mul_u64 (a b : UInt64) : IntKind.u64.wrap ((a.toNat : Int) * (b.toNat : Int)) = ((a * b).toNat : Int) := by
  rw [IntKind.wrap_u64, UInt64.toNat_mul]; simp
theorem wrap_add_u64 (a b : UInt64) : IntKind.u64.wrap ((a.toNat : Int) + (b.toNat : Int)) = ((a + b).toNat : Int) := by
  rw [IntKind.wrap_u64, UInt64.toNat_add]; simp
theorem u64_of (n : Int) (h : (Lit.int .u64 n).wf = true) : ∃ u : UInt64, n = (u.toNat : Int) := by
  have hx : 0 ≤ n ∧ n ≤ 18446744073709551615 := by simpa [Lit.wf, IntKind.min, IntKind.max, IntKind.signed, IntKind.bits] using h
  refine ⟨UInt64.ofNat n.toNat, ?_⟩
  rw [UInt64.toNat_ofNat']; omega
theorem u8_of (n : Int) (h : (Lit.int .u8 n).wf = true) : ∃ u : UInt8, n = (u.toNat : Int) := by
  have hx : 0 ≤ n ∧ n ≤ 255 := by simpa [Lit.wf, IntKind.min, IntKind.max, IntKind.signed, IntKind.bits] using h
  refine ⟨UInt8.ofNat n.toNat, ?_⟩
  rw [UInt8.toNat_ofNat']; omega

/-! ### Bytes as values -/
def bv (x : UInt8) : Value := .int .u8 (x.toNat : Int)
def bvs (xs : List UInt8) : List Value := xs.map bv
theorem bvs_length (xs : List UInt8) : (bvs xs).length = xs.length := by simp [bvs]
theorem bvs_append (xs ys : List UInt8) : bvs (xs ++ ys) = bvs xs ++ bvs ys := by simp [bvs]
theorem bvs_one (xs : List UInt8) : ∀ u ∈ bvs xs, u.oneCell' = true := by intro u hu; simp [bvs] at hu; obtain ⟨x, _, rfl⟩ := hu; rfl
theorem bvs_set (xs : List UInt8) (j : Nat) (y : UInt8) : (bvs xs).set j (bv y) = bvs (xs.set j y) := by simp [bvs, List.map_set]
/-- bytes that the call owns, as bytes that are read -/
theorem Owns.bytes {w : World} {B : Nat} {e : TypeId} {v : Value} {xs : List UInt8} (h : Owns w B e v (bvs xs)) : ∃ a n cap, v = .slice a n cap ∧ Bytes w a n cap xs := by
  obtain ⟨a, cap, rfl, hc⟩ := h.form
  rw [bvs_length] at hc ⊢
  refine ⟨a, xs.length, cap, rfl, rfl, hc.congr fun i hi => ?_⟩
  simp [bvs, bv, List.getD, hi]

theorem set_fill (l : List UInt8) (m : Nat) (y : UInt8) : (l ++ List.replicate (m + 1) 0).set l.length y = (l ++ [y]) ++ List.replicate m 0 := by
  rw [List.set_append_right _ _ (Nat.le_refl _)]; simp [List.replicate_succ]

/-! ### 64-bit numbers as values -/
def wv (x : UInt64) : Value := .int .u64 (x.toNat : Int)
def wvs (xs : List UInt64) : List Value := xs.map wv
theorem wvs_length (xs : List UInt64) : (wvs xs).length = xs.length := by simp [wvs]
theorem wvs_append (xs ys : List UInt64) : wvs (xs ++ ys) = wvs xs ++ wvs ys := by simp [wvs]
theorem wvs_one (xs : List UInt64) : ∀ u ∈ wvs xs, u.oneCell' = true := by intro u hu; simp [wvs] at hu; obtain ⟨x, _, rfl⟩ := hu; rfl
theorem wvs_set (xs : List UInt64) (j : Nat) (y : UInt64) : (wvs xs).set j (wv y) = wvs (xs.set j y) := by simp [wvs, List.map_set]
theorem wvs_at (xs : List UInt64) (j : Nat) (h : j < xs.length) : (wvs xs).getD j .nilFunc = wv (xs.getD j 0) := by simp [wvs, List.getD, h]
theorem bvs_at (xs : List UInt8) (j : Nat) (h : j < xs.length) : (bvs xs).getD j .nilFunc = bv (xs.getD j 0) := by simp [bvs, List.getD, h]
theorem Owns.words {w : World} {B : Nat} {e : TypeId} {v : Value} {xs : List UInt64} (h : Owns w B e v (wvs xs)) : ∃ a n cap, v = .slice a n cap ∧ Words w a n cap xs := by
  obtain ⟨a, cap, rfl, hc⟩ := h.form
  rw [wvs_length] at hc ⊢
  refine ⟨a, xs.length, cap, rfl, rfl, hc.congr fun i hi => ?_⟩
  rw [wvs_at xs i hi]; rfl
/-- a slice's values, for append -/
theorem Words.vals {w : World} {a : Option Addr} {len cap : Nat} {xs : List UInt64} (h : Words w a len cap xs) : Cells w a len cap (fun i => (wvs xs).getD i .nilFunc) :=
  h.2.congr fun i hi => by rw [wvs_at xs i (by rw [h.1]; exact hi)]; rfl
theorem Bytes.vals {w : World} {a : Option Addr} {len cap : Nat} {xs : List UInt8} (h : Bytes w a len cap xs) : Cells w a len cap (fun i => (bvs xs).getD i .nilFunc) :=
  h.2.congr fun i hi => by rw [bvs_at xs i (by rw [h.1]; exact hi)]; rfl
/-- bytes, 64-bit numbers that have just been laid into a new block -/
theorem cells_lit (w : World) (e : TypeId) (vs : List Value) (hl : vs.length ≤ maxLen) : Cells (w.alloc (.cells vs.toArray e)) (some ⟨w.heap.size, 0, none⟩) vs.length vs.length (fun i => vs.getD i .nilFunc) := by
  refine ⟨Nat.le_refl _, hl, by simp, .inr ⟨_, 0, rfl, by simp, fun i hi => ?_⟩⟩
  refine (World.cell?_alloc_mark w _ _ _ _).trans ?_
  simp [List.getD, hi]
theorem bytes_lit (w : World) (e : TypeId) (xs : List UInt8) (hl : xs.length ≤ maxLen) : Bytes (w.alloc (.cells (bvs xs).toArray e)) (some ⟨w.heap.size, 0, none⟩) xs.length xs.length xs := by
  have h := cells_lit w e (bvs xs) (by rw [bvs_length]; exact hl)
  rw [bvs_length] at h
  exact ⟨rfl, h.congr fun i hi => by rw [bvs_at xs i hi]; rfl⟩
theorem words_lit (w : World) (e : TypeId) (xs : List UInt64) (hl : xs.length ≤ maxLen) : Words (w.alloc (.cells (wvs xs).toArray e)) (some ⟨w.heap.size, 0, none⟩) xs.length xs.length xs := by
  have h := cells_lit w e (wvs xs) (by rw [wvs_length]; exact hl)
  rw [wvs_length] at h
  exact ⟨rfl, h.congr fun i hi => by rw [wvs_at xs i hi]; rfl⟩
/-- an owned slice cut shorter -/
theorem Owns.shrink {w : World} {B : Nat} {e : TypeId} {g n cap : Nat} {xs : List Value} (h : Owns w B e (.slice (some ⟨g, 0, none⟩) n cap) xs) (m : Nat) (hm : m ≤ n) : Owns w B e (.slice (some ⟨g, 0, none⟩) m cap) (xs.take m) := by
  have hl := h.len
  subst hl
  rcases h.2 with ⟨h', _⟩ | ⟨g', cap', cur, h', hb, hg, hnc, hcm, hcs, htk⟩
  · cases h'
  · cases h'
    refine ⟨by simp, .inr ⟨g, cap, cur, ?_, hb, hg, ?_, hcm, hcs, ?_⟩⟩
    · rw [List.length_take, Nat.min_eq_left hm]
    · rw [List.length_take, Nat.min_eq_left hm]; omega
    · rw [List.length_take, Nat.min_eq_left hm, ← htk, List.take_take, Nat.min_eq_left (by omega)]
      simp
theorem Calls.flip {P : Program} {f : FuncId} {args : Array Value} {w : World} {v : Value} (h : Calls P f args w fun e w' => e = .returned v ∧ w = w') : Calls P f args w fun e w' => e = .returned v ∧ w' = w := h.mono fun _ _ ⟨h1, h2⟩ => ⟨h1, h2.symm⟩

end Go.Proofs.YthbfmioikbphgaaDoor
