/- The codec: what Equal returns. -/
import Derived.Test.YthbfmioikbphgaaDoorCoI
namespace Go.Proofs.YthbfmioikbphgaaDoor
set_option maxRecDepth 100000
open Go.RowKit

theorem Kids.form {w : World} {a : Option Addr} {len cap : Nat} {ts : List NodeT} (h : Kids w a len cap ts) {i : Nat} (hi : i < len) :
    ∃ b off, a = some ⟨b, off, none⟩ ∧ ∃ tag kind n s a' len' cap', w.cell? ⟨b, off + i * 5, none⟩ = some (.int .i64 tag) ∧ w.cell? ⟨b, off + i * 5 + 1, none⟩ = some (.int .i64 kind) ∧ w.cell? ⟨b, off + i * 5 + 2, none⟩ = some (.int .i64 n) ∧ w.cell? ⟨b, off + i * 5 + 3, none⟩ = some (.string ⟨(s : List UInt8).toArray⟩) ∧ w.cell? ⟨b, off + i * 5 + 4, none⟩ = some (.slice a' len' cap') ∧ ∃ t, ts[i]? = some t ∧ NodeIn w t (.agg #[.int .i64 tag, .int .i64 kind, .int .i64 n, .string ⟨s.toArray⟩, .slice a' len' cap']) := by
  obtain ⟨b, off, rfl, -, tag, kind, n, s, a', len', cap', kids, ht, c0, c1, c2, c3, c4, hs, hk⟩ := h.at hi
  exact ⟨b, off, rfl, tag, kind, n, s, a', len', cap', c0, c1, c2, c3, c4, _, ht, nodeIn_mk.2 ⟨a', len', cap', rfl, hs, hk⟩⟩
theorem eqL_len {ts us : List NodeT} (h : ts.length ≠ us.length) : eqL ts us = false := by
  rw [Bool.eq_false_iff]
  intro he
  rw [eqL_iff] at he
  exact h (by rw [he])
theorem eqL_drop {ts us : List NodeT} {k : Nat} {t u : NodeT} (ht : ts[k]? = some t) (hu : us[k]? = some u) : eqL (ts.drop k) (us.drop k) = (eqT t u && eqL (ts.drop (k + 1)) (us.drop (k + 1))) := by
  have h1 : k < ts.length := (List.getElem?_eq_some_iff.1 ht).1
  have h2 : k < us.length := (List.getElem?_eq_some_iff.1 hu).1
  rw [List.drop_eq_getElem_cons h1, List.drop_eq_getElem_cons h2]
  rw [List.getElem?_eq_getElem h1] at ht
  rw [List.getElem?_eq_getElem h2] at hu
  rw [Option.some.inj ht, Option.some.inj hu]
  simp only [eqL]

end Go.Proofs.YthbfmioikbphgaaDoor
