/- Trees in memory: how a node lies there, and opening one among a law's arguments. -/
import Derived.Test.YthbfmioikbphgaaDoorCoP
import Derived.Test.YthbfmioikbphgaaDoorWalkB
import Derived.Test.YthbfmioikbphgaaDoorFrame
import Derived.Test.YthbfmioikbphgaaDoorProg
namespace Go.Proofs.YthbfmioikbphgaaDoor
set_option maxRecDepth 100000
open Go.ChangeShapes Go.WideShapes Go.ChangeAt Go.RowKit

mutual
/-- a node's value -/
def NodeIn (w : World) : NodeT → Value → Prop
  | .mk tag kind n s kids, v => ∃ a len cap, v = .agg #[.int .i64 tag, .int .i64 kind, .int .i64 n, .string ⟨s.toArray⟩, .slice a len cap] ∧ s.length ≤ maxLen ∧ kids.length = len ∧ len ≤ cap ∧ cap ≤ maxLen ∧ (a = none → cap = 0) ∧ (len = 0 ∨ ∃ b off, a = some ⟨b, off, none⟩ ∧ b < w.heap.size ∧ KidsIn w b off kids)
/-- nodes that lie one behind the other -/
def KidsIn (w : World) (b : Nat) : Nat → List NodeT → Prop
  | _, [] => True
  | off, t :: ts => (∃ v0 v1 v2 v3 v4, w.cell? ⟨b, off, none⟩ = some v0 ∧ w.cell? ⟨b, off + 1, none⟩ = some v1 ∧ w.cell? ⟨b, off + 2, none⟩ = some v2 ∧ w.cell? ⟨b, off + 3, none⟩ = some v3 ∧ w.cell? ⟨b, off + 4, none⟩ = some v4 ∧ NodeIn w t (.agg #[v0, v1, v2, v3, v4])) ∧ KidsIn w b (off + 5) ts
end
/-- a slice of nodes -/
def Kids (w : World) (a : Option Addr) (len cap : Nat) (kids : List NodeT) : Prop := kids.length = len ∧ len ≤ cap ∧ cap ≤ maxLen ∧ (a = none → cap = 0) ∧ (len = 0 ∨ ∃ b off, a = some ⟨b, off, none⟩ ∧ b < w.heap.size ∧ KidsIn w b off kids)
mutual
theorem NodeIn.keep {w w' : World} {B : Nat} (hb : Below B w w') (hB : w.heap.size ≤ B) : ∀ (t : NodeT) (v : Value), NodeIn w t v → NodeIn w' t v
  | .mk tag kind n s kids, v, h => by
    simp only [NodeIn] at h ⊢
    obtain ⟨a, len, cap, e, h0, h1, h2, h3, h4, h5⟩ := h
    refine ⟨a, len, cap, e, h0, h1, h2, h3, h4, ?_⟩
    rcases h5 with h5 | ⟨b, off, rfl, hlt, hk⟩
    · exact .inl h5
    · exact .inr ⟨b, off, rfl, Nat.lt_of_lt_of_le hlt hb.size, KidsIn.keep hb hB hlt off kids hk⟩
theorem KidsIn.keep {w w' : World} {B b : Nat} (hb : Below B w w') (hB : w.heap.size ≤ B) (hlt : b < w.heap.size) : ∀ (off : Nat) (ts : List NodeT), KidsIn w b off ts → KidsIn w' b off ts
  | _, [], _ => by simp [KidsIn]
  | off, t :: ts, h => by
    simp only [KidsIn] at h ⊢
    obtain ⟨⟨v0, v1, v2, v3, v4, c0, c1, c2, c3, c4, hn⟩, hr⟩ := h
    have hc : ∀ o, w'.cell? ⟨b, o, none⟩ = w.cell? ⟨b, o, none⟩ := fun o => hb.cell (p := ⟨b, o, none⟩) (Nat.lt_of_lt_of_le hlt hB)
    exact ⟨⟨v0, v1, v2, v3, v4, (hc _).trans c0, (hc _).trans c1, (hc _).trans c2, (hc _).trans c3, (hc _).trans c4, NodeIn.keep hb hB t _ hn⟩, KidsIn.keep hb hB hlt (off + 5) ts hr⟩
end
theorem NodeIn.below {w w' : World} {t : NodeT} {v : Value} (h : NodeIn w t v) (hb : Below w.heap.size w w') : NodeIn w' t v := NodeIn.keep hb (Nat.le_refl _) t v h
theorem Kids.below {w w' : World} {a : Option Addr} {len cap : Nat} {ts : List NodeT} (h : Kids w a len cap ts) (hb : Below w.heap.size w w') : Kids w' a len cap ts := by
  obtain ⟨h1, h2, h3, h4, h5⟩ := h
  refine ⟨h1, h2, h3, h4, ?_⟩
  rcases h5 with h5 | ⟨b, off, rfl, hlt, hk⟩
  · exact .inl h5
  · exact .inr ⟨b, off, rfl, Nat.lt_of_lt_of_le hlt hb.size, KidsIn.keep hb (Nat.le_refl _) hlt off ts hk⟩
/-- the node's parts -/
theorem nodeIn_mk {w : World} {tag kind n : Int} {s : List UInt8} {kids : List NodeT} {v : Value} : NodeIn w (.mk tag kind n s kids) v ↔ ∃ a len cap, v = .agg #[.int .i64 tag, .int .i64 kind, .int .i64 n, .string ⟨s.toArray⟩, .slice a len cap] ∧ s.length ≤ maxLen ∧ Kids w a len cap kids := by
  simp only [NodeIn, Kids]
theorem KidsIn.at {w : World} {b : Nat} : ∀ {ts : List NodeT} {off i : Nat}, KidsIn w b off ts → (h : i < ts.length) → ∃ v0 v1 v2 v3 v4, w.cell? ⟨b, off + i * 5, none⟩ = some v0 ∧ w.cell? ⟨b, off + i * 5 + 1, none⟩ = some v1 ∧ w.cell? ⟨b, off + i * 5 + 2, none⟩ = some v2 ∧ w.cell? ⟨b, off + i * 5 + 3, none⟩ = some v3 ∧ w.cell? ⟨b, off + i * 5 + 4, none⟩ = some v4 ∧ NodeIn w ts[i] (.agg #[v0, v1, v2, v3, v4])
  | [], _, _, _, h => by simp at h
  | t :: ts, off, 0, hk, _ => by
    simp only [KidsIn] at hk
    simpa using hk.1
  | t :: ts, off, i + 1, hk, h => by
    simp only [KidsIn] at hk
    have := KidsIn.at (i := i) hk.2 (by simpa using h)
    rw [show off + 5 + i * 5 = off + (i + 1) * 5 by omega] at this
    simpa using this
theorem NodeIn.form {w : World} {t : NodeT} {v : Value} (h : NodeIn w t v) : ∃ tag kind n s a len cap kids, t = .mk tag kind n s kids ∧ v = .agg #[.int .i64 tag, .int .i64 kind, .int .i64 n, .string ⟨s.toArray⟩, .slice a len cap] ∧ s.length ≤ maxLen ∧ Kids w a len cap kids := by
  obtain ⟨tag, kind, n, s, kids⟩ := t
  obtain ⟨a, len, cap, e, hs, hk⟩ := nodeIn_mk.1 h
  exact ⟨tag, kind, n, s, a, len, cap, kids, rfl, e, hs, hk⟩
/-- the i-th node of a slice, spelt out -/
theorem Kids.at {w : World} {a : Option Addr} {len cap : Nat} {ts : List NodeT} (h : Kids w a len cap ts) {i : Nat} (hi : i < len) :
    ∃ b off, a = some ⟨b, off, none⟩ ∧ b < w.heap.size ∧ ∃ tag kind n s a' len' cap' kids, ts[i]? = some (.mk tag kind n s kids) ∧ w.cell? ⟨b, off + i * 5, none⟩ = some (.int .i64 tag) ∧ w.cell? ⟨b, off + i * 5 + 1, none⟩ = some (.int .i64 kind) ∧ w.cell? ⟨b, off + i * 5 + 2, none⟩ = some (.int .i64 n) ∧ w.cell? ⟨b, off + i * 5 + 3, none⟩ = some (.string ⟨s.toArray⟩) ∧ w.cell? ⟨b, off + i * 5 + 4, none⟩ = some (.slice a' len' cap') ∧ s.length ≤ maxLen ∧ Kids w a' len' cap' kids := by
  obtain ⟨h1, h2, h3, h4, h5⟩ := h
  rcases h5 with h5 | ⟨b, off, rfl, hlt, hk⟩
  · omega
  · obtain ⟨v0, v1, v2, v3, v4, c0, c1, c2, c3, c4, hn⟩ := hk.at (i := i) (by omega)
    obtain ⟨tag, kind, n, s, a', len', cap', kids, ht, e, hs', hk'⟩ := hn.form
    cases e
    exact ⟨b, off, rfl, hlt, tag, kind, n, s, a', len', cap', kids, by rw [List.getElem?_eq_getElem (by omega), ht], c0, c1, c2, c3, c4, hs', hk'⟩

theorem i64_of (n : Int) (h : (Lit.int .i64 n).wf = true) : I64 n := by
  unfold I64; simpa [Lit.wf, IntKind.min, IntKind.max, IntKind.signed, IntKind.bits] using h

section
variable {H : Type} {enc : TypeId × Value → H} {W : World}
theorem kidsIn_of {b : Nat} : ∀ (ts : List NodeT) (off : Nat), (∀ i (h : i < ts.length), ∃ v0 v1 v2 v3 v4, W.cell? ⟨b, off + i * 5, none⟩ = some v0 ∧ W.cell? ⟨b, off + i * 5 + 1, none⟩ = some v1 ∧ W.cell? ⟨b, off + i * 5 + 2, none⟩ = some v2 ∧ W.cell? ⟨b, off + i * 5 + 3, none⟩ = some v3 ∧ W.cell? ⟨b, off + i * 5 + 4, none⟩ = some v4 ∧ NodeIn W ts[i] (.agg #[v0, v1, v2, v3, v4])) → KidsIn W b off ts
  | [], _, _ => by simp [KidsIn]
  | t :: ts, off, h => by
    simp only [KidsIn]
    refine ⟨by have := h 0 (by simp); simp only [List.getElem_cons_zero, Nat.zero_mul, Nat.add_zero] at this; exact this, kidsIn_of ts (off + 5) fun i hi => ?_⟩
    have := h (i + 1) (by simpa using hi)
    rw [show off + (i + 1) * 5 = off + 5 + i * 5 by omega] at this
    simpa using this
theorem node_trod : ∀ (fuel : Nat) {cs : List Value} {x : DataW H × List MemPlace}, DataW.trod enc Tryd.prog W 0 (fun _ => true) true fuel 25 cs = some x →
    ∃ t v0 v1 v2 v3 v4, cs = [v0, v1, v2, v3, v4] ∧ NodeIn W t (.agg #[v0, v1, v2, v3, v4]) ∧ i64T t := by
  intro fuel
  induction fuel using Nat.strongRecOn with
  | ind fuel ih =>
    intro cs x h
    obtain ⟨xs, m, hfu, -, hl, hx, hf⟩ := DataW.trod_struct Tryd.underlying25 h
    have c5 : Tryd.prog.cellsOf 25 = 5 := by kernel_rfl
    have k1 : Tryd.prog.cellsOf 3 = 1 := by kernel_rfl
    have k2 : Tryd.prog.cellsOf 2 = 1 := by kernel_rfl
    have k3 : Tryd.prog.cellsOf 9 = 1 := by kernel_rfl
    have k4 : Tryd.prog.cellsOf 23 = 1 := by kernel_rfl
    rw [c5] at hl
    match cs, hl with
    | [v0, v1, v2, v3, v4], _ =>
    match xs, hx with
    | [y0, y1, y2, y3, y4], _ =>
    have h0 := hf 0 _ rfl
    have h1 := hf 1 _ rfl
    have h2 := hf 2 _ rfl
    have h3 := hf 3 _ rfl
    have h4 := hf 4 _ rfl
    simp [k1, k2, k3, k4] at h0 h1 h2 h3 h4
    obtain ⟨tag, e0, -, w0⟩ := DataW.trod_int Tryd.underlying3 h0
    obtain ⟨kind, e1, -, w1⟩ := DataW.trod_int Tryd.underlying3 h1
    obtain ⟨n, e2, -, w2⟩ := DataW.trod_int Tryd.underlying2 h2
    obtain ⟨s, e3, -, w3⟩ := DataW.trod_string Tryd.underlying9 h3
    simp at e0 e1 e2 e3
    subst e0 e1 e2 e3
    have hs : Value.string s = .string ⟨s.data.toList.toArray⟩ := by simp
    have key : ∃ a len cap kids, v4 = .slice a len cap ∧ Kids W a len cap kids ∧ i64L kids := by
      rcases DataW.trod_slice Tryd.underlying23 h4 with ⟨e4, -⟩ | ⟨ad, len, cap, elems, rest, m', hm', e4, -, hb, hlc, hmx, hlen, hel, -, -⟩
      · simp at e4; subst e4
        exact ⟨none, 0, 0, [], rfl, ⟨rfl, Nat.le_refl _, by simp [maxLen], fun _ => rfl, .inl rfl⟩, trivial⟩
      · simp at e4; subst e4
        obtain ⟨b, off, spot⟩ := ad
        by_cases hz : len = 0
        · subst hz
          exact ⟨_, 0, cap, [], rfl, ⟨rfl, hlc, hmx, by simp, .inl rfl⟩, trivial⟩
        have key0 : ∀ i, i < len → ∃ t v0 v1 v2 v3 v4, W.cells? 0 ((⟨b, off, spot⟩ : Addr).add (i * 5)) 5 = some [v0, v1, v2, v3, v4] ∧ NodeIn W t (.agg #[v0, v1, v2, v3, v4]) ∧ i64T t := by
          intro i hi
          have hE := hel i hi
          rw [c5, List.getElem?_eq_getElem (by omega), Option.bind_eq_some_iff] at hE
          obtain ⟨cs', hc, hE⟩ := hE
          obtain ⟨t, u0, u1, u2, u3, u4, rfl, hn, hi6⟩ := ih m' (by omega) hE
          exact ⟨t, u0, u1, u2, u3, u4, hc, hn, hi6⟩
        have hspot : spot = none := by
          obtain ⟨t, u0, u1, u2, u3, u4, hc, -, -⟩ := key0 0 (by omega)
          obtain ⟨-, -, hcell⟩ := World.cells?_some hc
          have q0 := hcell 0 (by omega)
          have := World.cell?_spot (v := u0) (by simpa using q0)
          simpa [Addr.add] using this
        subst hspot
        have key1 : ∀ i, i < len → ∃ t, (∃ v0 v1 v2 v3 v4, W.cell? ⟨b, off + i * 5, none⟩ = some v0 ∧ W.cell? ⟨b, off + i * 5 + 1, none⟩ = some v1 ∧ W.cell? ⟨b, off + i * 5 + 2, none⟩ = some v2 ∧ W.cell? ⟨b, off + i * 5 + 3, none⟩ = some v3 ∧ W.cell? ⟨b, off + i * 5 + 4, none⟩ = some v4 ∧ NodeIn W t (.agg #[v0, v1, v2, v3, v4])) ∧ i64T t := by
          intro i hi
          obtain ⟨t, u0, u1, u2, u3, u4, hc, hn, hi6⟩ := key0 i hi
          obtain ⟨-, -, hcell⟩ := World.cells?_some hc
          have q0 := hcell 0 (by omega)
          have q1 := hcell 1 (by omega)
          have q2 := hcell 2 (by omega)
          have q3 := hcell 3 (by omega)
          have q4 := hcell 4 (by omega)
          rw [addr_add, addr_add] at q0 q1 q2 q3 q4
          simp at q0 q1 q2 q3 q4
          exact ⟨t, ⟨u0, u1, u2, u3, u4, q0, q1, q2, q3, q4, hn⟩, hi6⟩
        have hblk : b < W.heap.size := by
          obtain ⟨t, ⟨u0, u1, u2, u3, u4, q0, -⟩, -⟩ := key1 0 (by omega)
          simp only [World.cell?] at q0
          rcases Nat.lt_or_ge b W.heap.size with hlt' | hge
          · exact hlt'
          · rw [Array.getElem?_eq_none hge] at q0; cases q0
        have hex : ∀ k, k ≤ len → ∃ ts : List NodeT, ts.length = k ∧ i64L ts ∧ ∀ i (h : i < ts.length), ∃ v0 v1 v2 v3 v4, W.cell? ⟨b, off + (len - k) * 5 + i * 5, none⟩ = some v0 ∧ W.cell? ⟨b, off + (len - k) * 5 + i * 5 + 1, none⟩ = some v1 ∧ W.cell? ⟨b, off + (len - k) * 5 + i * 5 + 2, none⟩ = some v2 ∧ W.cell? ⟨b, off + (len - k) * 5 + i * 5 + 3, none⟩ = some v3 ∧ W.cell? ⟨b, off + (len - k) * 5 + i * 5 + 4, none⟩ = some v4 ∧ NodeIn W ts[i] (.agg #[v0, v1, v2, v3, v4]) := by
          intro k
          induction k with
          | zero => intro _; exact ⟨[], rfl, trivial, fun i h => by simp at h⟩
          | succ k ihk =>
            intro hk
            obtain ⟨ts, t1, t2, t3⟩ := ihk (by omega)
            obtain ⟨t, hc, hi6⟩ := key1 (len - (k + 1)) (by omega)
            refine ⟨t :: ts, by simp [t1], ⟨hi6, t2⟩, fun i h => ?_⟩
            cases i with
            | zero => simpa using hc
            | succ i =>
              have := t3 i (by simpa using h)
              rw [show off + (len - k) * 5 + i * 5 = off + (len - (k + 1)) * 5 + (i + 1) * 5 by omega] at this
              simpa using this
        obtain ⟨ts, t1, t2, t3⟩ := hex len (Nat.le_refl _)
        rw [Nat.sub_self, Nat.zero_mul, Nat.add_zero] at t3
        exact ⟨_, len, cap, ts, rfl, ⟨t1, hlc, hmx, by simp, .inr ⟨b, off, rfl, hblk, kidsIn_of ts off t3⟩⟩, t2⟩
    obtain ⟨a, len, cap, kids, rfl, hk, hki⟩ := key
    refine ⟨.mk tag kind n s.data.toList kids, _, _, _, _, _, rfl, nodeIn_mk.2 ⟨a, len, cap, by rw [hs], (by simpa using w3), hk⟩, ?_⟩
    simp only [i64T]
    exact ⟨i64_of _ w0, i64_of _ w1, i64_of _ w2, hki⟩
theorem open_node {base : Nat} {v : Value} {d : DataW H} {ps : List MemPlace} (hv : Value.okWide Tryd.prog W .any base 25 v) (h : DataW.Trod enc Tryd.prog W 0 (fun _ => true) true 25 v d ps) :
    ∃ t, NodeIn W t v ∧ i64T t := by
  obtain ⟨cs, rfl, hsz⟩ := okWide_struct Tryd.underlying25 hv
  obtain ⟨m, hm⟩ := h
  obtain ⟨t, v0, v1, v2, v3, v4, e, hn, hi⟩ := node_trod m hm
  obtain ⟨cs⟩ := cs
  simp only [Value.cells] at e
  subst e
  exact ⟨t, hn, hi⟩
end
end Go.Proofs.YthbfmioikbphgaaDoor
