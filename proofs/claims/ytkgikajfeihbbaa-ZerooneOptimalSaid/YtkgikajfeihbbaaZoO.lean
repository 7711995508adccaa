/- Opening a 0-1 program among the arguments: from its reading as data to 'ProbIn'. Conditions: those of the lemmas. -/
import Derived.Test.YtkgikajfeihbbaaFrame
import Derived.Test.YtkgikajfeihbbaaZo
namespace Go.Proofs.Ytkgikajfeihbbaa
set_option maxRecDepth 100000
open Go.ChangeShapes Go.WideShapes Go.ChangeAt Go.RowKit

section
variable {H : Type} {enc : TypeId × Value → H} {W : World}

theorem row_trod {k : IntKind} {t e : TypeId} (ht : Try.prog.underlying t = some (.slice e)) (he : Try.prog.underlying e = some (.int k)) (hce : Try.prog.cellsOf e = 1) {fuel : Nat} {cs : List Value} {x : DataW H × List MemPlace}
    (h : DataW.trod enc Try.prog W 0 (fun _ => true) true fuel t cs = some x) :
    ∃ a len cap xs, cs = [.slice a len cap] ∧ Row k W a len cap xs := by
  rcases open_ints ht he hce h with ⟨rfl, _⟩ | ⟨x, l, c, zs, rfl, hb, hl, hm, hz, hx, hcell, hwz⟩
  · exact ⟨none, 0, 0, [], rfl, ⟨rfl, by simp, Nat.le_refl _, by simp, by simp, .inl rfl⟩⟩
  · have hz' : zs.length = c := by simpa using hz
    refine ⟨some x, l, c, zs.take l, rfl, ⟨by simp; omega, fun n hn => hwz n (List.mem_of_mem_take hn), hl, hm, by simp, ?_⟩⟩
    by_cases h0 : l = 0
    · exact .inl h0
    · right
      obtain ⟨b, off, spot⟩ := x
      have hc := hcell 0 (by omega)
      have hspot : spot = none := by simpa [Addr.add] using World.cell?_spot hc
      subst hspot
      refine ⟨b, off, rfl, ?_, fun i hi => ?_⟩
      · simp only [World.cell?, Addr.add, if_pos] at hc
        rcases Nat.lt_or_ge b W.heap.size with hlt' | hge
        · exact hlt'
        · rw [Array.getElem?_eq_none hge] at hc; cases hc
      · have := hcell i (by omega)
        rw [addr_add] at this; rw [this]
        simp [List.getD, hi]

theorem rowM_trod {fuel : Nat} {cs : List Value} {x : DataW H × List MemPlace} (h : DataW.trod enc Try.prog W 0 (fun _ => true) true fuel 44 cs = some x) :
    ∃ a len cap, ∃ r : RowM, cs = [.slice a len cap, .int .i64 r.mn, .int .i64 r.mx] ∧ Row .i64 W a len cap r.coef := by
  obtain ⟨xs, n, -, -, hl, hx, hf⟩ := DataW.trod_struct Try.underlying44 h
  have c1 : Try.prog.cellsOf 22 = 1 := by kernel_rfl
  have c2 : Try.prog.cellsOf 3 = 1 := by kernel_rfl
  have c3 : Try.prog.cellsOf 44 = 3 := by kernel_rfl
  rw [c3] at hl
  match cs, hl with
  | [v0, v1, v2], _ =>
  match xs, hx with
  | [y0, y1, y2], _ =>
  have h0 := hf 0 _ rfl
  have h1 := hf 1 _ rfl
  have h2 := hf 2 _ rfl
  simp [c1, c2] at h0 h1 h2
  obtain ⟨a, len, cap, cf, e, hr⟩ := row_trod Try.underlying22 Try.underlying3 c2 h0
  obtain ⟨m, e1, -, -⟩ := DataW.trod_int Try.underlying3 h1
  obtain ⟨m', e2, -, -⟩ := DataW.trod_int Try.underlying3 h2
  simp at e e1 e2
  subst e e1 e2
  exact ⟨a, len, cap, ⟨cf, m, m'⟩, rfl, hr⟩

theorem rowsIn_trod {fuel : Nat} {cs : List Value} {x : DataW H × List MemPlace} (h : DataW.trod enc Try.prog W 0 (fun _ => true) true fuel 23 cs = some x) :
    ∃ a len cap rs, cs = [.slice a len cap] ∧ RowsIn W a len cap rs := by
  have c3 : Try.prog.cellsOf 44 = 3 := by kernel_rfl
  rcases DataW.trod_slice Try.underlying23 h with ⟨rfl, -⟩ | ⟨ad, len, cap, elems, rest, n, -, rfl, -, hb, hl, hm, hlen, hel, -, -⟩
  · exact ⟨none, 0, 0, [], rfl, rfl, Nat.le_refl _, by simp [maxLen], by simp, .inl rfl⟩
  · obtain ⟨b, off, spot⟩ := ad
    by_cases h0 : len = 0
    · subst h0
      exact ⟨some ⟨b, off, spot⟩, 0, cap, [], rfl, rfl, hl, hm, by simp, .inl rfl⟩
    have hspot : spot = none := by
      have hE := hel 0 (by omega)
      rw [c3, List.getElem?_eq_getElem (by omega), Option.bind_eq_some_iff] at hE
      obtain ⟨cs', hc, hE⟩ := hE
      obtain ⟨ai, li, ci, r, rfl, hr⟩ := rowM_trod hE
      obtain ⟨-, -, hcell⟩ := World.cells?_some hc
      have q0 := hcell 0 (by omega)
      have := World.cell?_spot (v := .slice ai li ci) (by simpa using q0)
      simpa [Addr.add] using this
    subst hspot
    have key : ∀ i, i < len → ∃ ai li ci, ∃ r : RowM, b < W.heap.size ∧ Row .i64 W ai li ci r.coef ∧ W.cell? ⟨b, off + i * 3, none⟩ = some (.slice ai li ci) ∧ W.cell? ⟨b, off + i * 3 + 1, none⟩ = some (.int .i64 r.mn) ∧ W.cell? ⟨b, off + i * 3 + 2, none⟩ = some (.int .i64 r.mx) := by
      intro i hi
      have hE := hel i hi
      rw [c3, List.getElem?_eq_getElem (by omega), Option.bind_eq_some_iff] at hE
      obtain ⟨cs', hc, hE⟩ := hE
      obtain ⟨ai, li, ci, r, rfl, hr⟩ := rowM_trod hE
      obtain ⟨-, -, hcell⟩ := World.cells?_some hc
      have q0 := hcell 0 (by omega)
      have q1 := hcell 1 (by omega)
      have q2 := hcell 2 (by omega)
      rw [addr_add, addr_add] at q0 q1 q2
      simp at q0 q1 q2
      refine ⟨ai, li, ci, r, ?_, hr, q0, q1, q2⟩
      simp only [World.cell?] at q0
      rcases Nat.lt_or_ge b W.heap.size with hlt' | hge
      · exact hlt'
      · rw [Array.getElem?_eq_none hge] at q0; cases q0
    have hex : ∃ rs : List RowM, rs.length = len ∧ ∀ i, i < len → ∃ ai li ci, b < W.heap.size ∧ Row .i64 W ai li ci (rs.getD i default).coef ∧ W.cell? ⟨b, off + i * 3, none⟩ = some (.slice ai li ci) ∧ W.cell? ⟨b, off + i * 3 + 1, none⟩ = some (.int .i64 (rs.getD i default).mn) ∧ W.cell? ⟨b, off + i * 3 + 2, none⟩ = some (.int .i64 (rs.getD i default).mx) := by
      clear hel hlen hl hm h h0
      induction len with
      | zero => exact ⟨[], rfl, fun i hi => by omega⟩
      | succ l ih =>
        obtain ⟨rs, h1, h2⟩ := ih fun i hi => key i (by omega)
        obtain ⟨ai, li, ci, r, k2, k3, k4, k5, k6⟩ := key l (by omega)
        refine ⟨rs ++ [r], by simp [h1], fun i hi => ?_⟩
        by_cases hil : i < l
        · have : (rs ++ [r]).getD i default = rs.getD i default := by simp [List.getD, List.getElem?_append_left (by omega : i < rs.length)]
          rw [this]; exact h2 i hil
        · obtain rfl : i = l := by omega
          have : (rs ++ [r]).getD i default = r := by simp [List.getD, ← h1]
          rw [this]; exact ⟨ai, li, ci, k2, k3, k4, k5, k6⟩
    obtain ⟨rs, h1, h2⟩ := hex
    obtain ⟨_, _, _, hlt, _⟩ := h2 0 (by omega)
    exact ⟨some ⟨b, off, none⟩, len, cap, rs, rfl, h1, hl, hm, by simp, .inr ⟨b, off, rfl, hlt, fun i hi => by
      obtain ⟨ai, li, ci, -, k3, k4, k5, k6⟩ := h2 i hi
      exact ⟨ai, li, ci, k3, k4, k5, k6⟩⟩⟩

/-- a 0-1 program, by value -/
theorem open_prob {base : Nat} {v : Value} {d : DataW H} {ps : List MemPlace} (hv : Value.okWide Try.prog W .any base 25 v) (h : DataW.Trod enc Try.prog W 0 (fun _ => true) true 25 v d ps) : ∃ p, ProbIn W v p := by
  obtain ⟨cs, rfl, hsz⟩ := okWide_struct Try.underlying25 hv
  obtain ⟨m, hm⟩ := h
  obtain ⟨xs, n, -, -, hl, hx, hf⟩ := DataW.trod_struct Try.underlying25 hm
  have c1 : Try.prog.cellsOf 22 = 1 := by kernel_rfl
  have c2 : Try.prog.cellsOf 3 = 1 := by kernel_rfl
  have c3 : Try.prog.cellsOf 25 = 3 := by kernel_rfl
  have c4 : Try.prog.cellsOf 23 = 1 := by kernel_rfl
  rw [c3] at hl
  simp only [Value.cells] at hl hf
  obtain ⟨cs⟩ := cs
  simp only at hl hf
  match cs, hl with
  | [v0, v1, v2], _ =>
  match xs, hx with
  | [y0, y1, y2], _ =>
  have h0 := hf 0 _ rfl
  have h1 := hf 1 _ rfl
  have h2 := hf 2 _ rfl
  simp [c1, c4] at h0 h1 h2
  obtain ⟨a0, l0, k0, x0, e0, r0⟩ := row_trod Try.underlying22 Try.underlying3 c2 h0
  obtain ⟨a1, l1, k1, x1, e1, r1⟩ := rowsIn_trod h1
  obtain ⟨a2, l2, k2, x2, e2, r2⟩ := row_trod Try.underlying22 Try.underlying3 c2 h2
  simp at e0 e1 e2
  subst e0 e1 e2
  exact ⟨⟨x0, x1, x2⟩, a0, l0, k0, a1, l1, k1, a2, l2, k2, rfl, r0, r1, r2⟩
end
end Go.Proofs.Ytkgikajfeihbbaa
