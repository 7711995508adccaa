/- Uploads: opening an inbox among the arguments. No condition. -/
import Derived.Test.YtpdodapdaeochaaUpS
import Derived.Test.YtpdodapdaeochaaUpT
namespace Go.Proofs.Ytpdodapdaeochaa
set_option maxRecDepth 100000
open Go.ChangeShapes Go.WideShapes Go.ChangeAt Go.RowKit

section
variable {H : Type} {enc : TypeId × Value → H} {W : World}
theorem row_trod {k : IntKind} {t e : TypeId} (ht : Try.prog.underlying t = some (.slice e)) (he : Try.prog.underlying e = some (.int k)) (hce : Try.prog.cellsOf e = 1) {fuel : Nat} {cs : List Value} {x : DataW H × List MemPlace}
    (h : DataW.trod enc Try.prog W 0 (fun _ => true) true fuel t cs = some x) :
    ∃ a len cap xs, cs = [.slice a len cap] ∧ Row k W a len cap xs := by
  rcases open_ints ht he hce h with ⟨rfl, _⟩ | ⟨x, l, c, zs, rfl, hb, hl, hm, hz, hx, hcell, hwz⟩
  · exact ⟨none, 0, 0, [], rfl, ⟨rfl, by simp, Nat.le_refl _, by simp, by simp, .inl rfl⟩⟩
  · have hz' : zs.length = c := by simpa using hz
    refine ⟨some x, l, c, zs.take l, rfl, ⟨by simp; omega, fun n hn => hwz n (List.mem_of_mem_take hn), hl, hm, by simp, ?_⟩⟩
    by_cases h0 : l = 0
    · exact .inl h0
    · right
      obtain ⟨b, off, spot⟩ := x
      have hc := hcell 0 (by omega)
      have hspot : spot = none := by simpa [Addr.add] using World.cell?_spot hc
      subst hspot
      refine ⟨b, off, rfl, ?_, fun i hi => ?_⟩
      · simp only [World.cell?, Addr.add, if_pos] at hc
        rcases Nat.lt_or_ge b W.heap.size with hlt' | hge
        · exact hlt'
        · rw [Array.getElem?_eq_none hge] at hc; cases hc
      · have := hcell i (by omega)
        rw [addr_add] at this; rw [this]
        simp [List.getD, hi]
theorem open_inbox {base : Nat} {v : Value} {d : DataW H} {ps : List MemPlace} (hv : Value.okWide Try.prog W .any base 28 v) (h : DataW.Trod enc Try.prog W 0 (fun _ => true) true 28 v d ps) :
    ∃ s a1 n1 c1 a2 n2 c2 da, v = .agg #[.int .i64 s, .slice a1 n1 c1, .slice a2 n2 c2] ∧ (Lit.int .i64 s).wf = true ∧ Bytes W a1 n1 c1 da := by
  obtain ⟨fuel, hh⟩ := h
  unfold Value.okWide at hv
  rw [Try.underlying28] at hv
  obtain ⟨cs, rfl, hsz, -⟩ := hv
  obtain ⟨xs, n, -, -, hl, hx, hf⟩ := DataW.trod_struct Try.underlying28 hh
  have c1 : Try.prog.cellsOf 22 = 1 := by kernel_rfl
  have c2 : Try.prog.cellsOf 3 = 1 := by kernel_rfl
  have c4 : Try.prog.cellsOf 24 = 1 := by kernel_rfl
  have c3 : Try.prog.cellsOf 28 = 3 := by kernel_rfl
  have c5 : Try.prog.cellsOf 5 = 1 := by kernel_rfl
  obtain ⟨cl⟩ := cs
  have hcl : cl.length = 3 := by simpa [c3] using hsz
  match cl, hcl with
  | [v0, v1, v2], _ =>
  match xs, hx with
  | [y0, y1, y2], _ =>
  have h0 := hf 0 _ rfl
  have h1 := hf 1 _ rfl
  have h2 := hf 2 _ rfl
  simp [c1, c2, c4, Value.cells] at h0 h1 h2
  obtain ⟨m, e1, -, wm⟩ := DataW.trod_int Try.underlying3 h0
  obtain ⟨a, len, cap, cf, e, hr⟩ := row_trod Try.underlying22 Try.underlying5 c5 h1
  obtain ⟨ys, -, hy⟩ := bytes_of rfl hr
  simp at e e1
  subst e e1
  rcases DataW.trod_slice Try.underlying24 h2 with ⟨e2, -⟩ | ⟨ad, len2, cap2, elems, rest, n2, -, e2, -⟩
  · simp at e2; subst e2
    exact ⟨m, a, len, cap, none, 0, 0, ys, rfl, wm, hy⟩
  · simp at e2; subst e2
    exact ⟨m, a, len, cap, _, len2, cap2, ys, rfl, wm, hy⟩
end

end Go.Proofs.Ytpdodapdaeochaa
