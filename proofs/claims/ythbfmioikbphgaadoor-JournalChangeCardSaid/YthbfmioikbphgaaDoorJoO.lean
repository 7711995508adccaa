/- Opening a list of trees among the arguments. -/
import Derived.Test.YthbfmioikbphgaaDoorCo
namespace Go.Proofs.YthbfmioikbphgaaDoor
set_option maxRecDepth 100000
open Go.ChangeShapes Go.WideShapes Go.ChangeAt Go.RowKit
section
variable {H : Type} {enc : TypeId × Value → H} {W : World}
theorem open_nodes {base : Nat} {v : Value} {d : DataW H} {ps : List MemPlace} (hv : Value.okWide Tryd.prog W .any base 23 v) (h : DataW.Trod enc Tryd.prog W 0 (fun _ => true) true 23 v d ps) :
    ∃ a len cap kids, v = .slice a len cap ∧ Kids W a len cap kids ∧ i64L kids := by
  obtain ⟨a, len, cap, rfl⟩ := okWide_slice Tryd.underlying23 hv
  obtain ⟨m, h4⟩ := h
  have c5 : Tryd.prog.cellsOf 25 = 5 := by kernel_rfl
  rcases DataW.trod_slice Tryd.underlying23 h4 with ⟨e4, -⟩ | ⟨ad, len', cap', elems, rest, m', hm', e4, -, hb, hlc, hmx, hlen, hel, -, -⟩
  · simp [Value.cells] at e4; obtain ⟨rfl, rfl, rfl⟩ := e4
    exact ⟨none, 0, 0, [], rfl, ⟨rfl, Nat.le_refl _, by simp [maxLen], fun _ => rfl, .inl rfl⟩, trivial⟩
  · simp [Value.cells] at e4; obtain ⟨rfl, rfl, rfl⟩ := e4
    obtain ⟨b, off, spot⟩ := ad
    by_cases hz : len = 0
    · subst hz
      exact ⟨_, 0, cap, [], rfl, ⟨rfl, hlc, hmx, by simp, .inl rfl⟩, trivial⟩
    have key0 : ∀ i, i < len → ∃ t v0 v1 v2 v3 v4, W.cells? 0 ((⟨b, off, spot⟩ : Addr).add (i * 5)) 5 = some [v0, v1, v2, v3, v4] ∧ NodeIn W t (.agg #[v0, v1, v2, v3, v4]) ∧ i64T t := by
      intro i hi
      have hE := hel i hi
      rw [c5, List.getElem?_eq_getElem (by omega), Option.bind_eq_some_iff] at hE
      obtain ⟨cs', hc, hE⟩ := hE
      obtain ⟨t, u0, u1, u2, u3, u4, rfl, hn, hi6⟩ := node_trod m' hE
      exact ⟨t, u0, u1, u2, u3, u4, hc, hn, hi6⟩
    have hspot : spot = none := by
      obtain ⟨t, u0, u1, u2, u3, u4, hc, -, -⟩ := key0 0 (by omega)
      obtain ⟨-, -, hcell⟩ := World.cells?_some hc
      have q0 := hcell 0 (by omega)
      have := World.cell?_spot (v := u0) (by simpa using q0)
      simpa [Addr.add] using this
    subst hspot
    have key1 : ∀ i, i < len → ∃ t, (∃ v0 v1 v2 v3 v4, W.cell? ⟨b, off + i * 5, none⟩ = some v0 ∧ W.cell? ⟨b, off + i * 5 + 1, none⟩ = some v1 ∧ W.cell? ⟨b, off + i * 5 + 2, none⟩ = some v2 ∧ W.cell? ⟨b, off + i * 5 + 3, none⟩ = some v3 ∧ W.cell? ⟨b, off + i * 5 + 4, none⟩ = some v4 ∧ NodeIn W t (.agg #[v0, v1, v2, v3, v4])) ∧ i64T t := by
      intro i hi
      obtain ⟨t, u0, u1, u2, u3, u4, hc, hn, hi6⟩ := key0 i hi
      obtain ⟨-, -, hcell⟩ := World.cells?_some hc
      have q0 := hcell 0 (by omega)
      have q1 := hcell 1 (by omega)
      have q2 := hcell 2 (by omega)
      have q3 := hcell 3 (by omega)
      have q4 := hcell 4 (by omega)
      rw [addr_add, addr_add] at q0 q1 q2 q3 q4
      simp at q0 q1 q2 q3 q4
      exact ⟨t, ⟨u0, u1, u2, u3, u4, q0, q1, q2, q3, q4, hn⟩, hi6⟩
    have hblk : b < W.heap.size := by
      obtain ⟨t, ⟨u0, u1, u2, u3, u4, q0, -⟩, -⟩ := key1 0 (by omega)
      simp only [World.cell?] at q0
      rcases Nat.lt_or_ge b W.heap.size with hlt' | hge
      · exact hlt'
      · rw [Array.getElem?_eq_none hge] at q0; cases q0
    have hex : ∀ k, k ≤ len → ∃ ts : List NodeT, ts.length = k ∧ i64L ts ∧ ∀ i (h : i < ts.length), ∃ v0 v1 v2 v3 v4, W.cell? ⟨b, off + (len - k) * 5 + i * 5, none⟩ = some v0 ∧ W.cell? ⟨b, off + (len - k) * 5 + i * 5 + 1, none⟩ = some v1 ∧ W.cell? ⟨b, off + (len - k) * 5 + i * 5 + 2, none⟩ = some v2 ∧ W.cell? ⟨b, off + (len - k) * 5 + i * 5 + 3, none⟩ = some v3 ∧ W.cell? ⟨b, off + (len - k) * 5 + i * 5 + 4, none⟩ = some v4 ∧ NodeIn W ts[i] (.agg #[v0, v1, v2, v3, v4]) := by
      intro k
      induction k with
      | zero => intro _; exact ⟨[], rfl, trivial, fun i h => by simp at h⟩
      | succ k ihk =>
        intro hk
        obtain ⟨ts, t1, t2, t3⟩ := ihk (by omega)
        obtain ⟨t, hc, hi6⟩ := key1 (len - (k + 1)) (by omega)
        refine ⟨t :: ts, by simp [t1], ⟨hi6, t2⟩, fun i h => ?_⟩
        cases i with
        | zero => simpa using hc
        | succ i =>
          have := t3 i (by simpa using h)
          rw [show off + (len - k) * 5 + i * 5 = off + (len - (k + 1)) * 5 + (i + 1) * 5 by omega] at this
          simpa using this
    obtain ⟨ts, t1, t2, t3⟩ := hex len (Nat.le_refl _)
    rw [Nat.sub_self, Nat.zero_mul, Nat.add_zero] at t3
    exact ⟨_, len, cap, ts, rfl, ⟨t1, hlc, hmx, by simp, .inr ⟨b, off, rfl, hblk, kidsIn_of ts off t3⟩⟩, t2⟩
end
theorem i64L_mem : ∀ {ts : List NodeT}, i64L ts → ∀ t ∈ ts, i64T t
  | [], _, _, h => by simp at h
  | u :: us, hi, t, h => by
    simp only [i64L] at hi
    rcases List.mem_cons.1 h with rfl | h
    · exact hi.1
    · exact i64L_mem hi.2 t h
end Go.Proofs.YthbfmioikbphgaaDoor
