/- Uploads: opening an array of two bytes; indexes. Plain lemmas, no condition. -/
import Derived.Test.YtpdodapdaeochaaUpR
import Derived.Test.YtpdodapdaeochaaFrame
namespace Go.Proofs.Ytpdodapdaeochaa
set_option maxRecDepth 100000
open Go.ChangeShapes Go.WideShapes Go.ChangeAt Go.RowKit

theorem open_array {H : Type} {enc : TypeId × Value → H} {w : World} {sp : Nat → Bool} {held : Bool} {b0 : Nat} {t e : TypeId} {k : IntKind} {n : Nat} {v : Value} {d : DataW H} {ps : List MemPlace} (ht : Try.prog.underlying t = some (.array n e)) (he : Try.prog.underlying e = some (.int k)) (hc : Try.prog.cellsOf e = 1) (hn : Try.prog.cellsOf t = n)
    (hval : Value.okWide Try.prog w .any b0 t v) (hd : DataW.Trod enc Try.prog w 0 sp held t v d ps) : ∃ xs : List Int, v = .agg (xs.map (Value.int k)).toArray ∧ xs.length = n ∧ ∀ x ∈ xs, (Lit.int k x).wf = true := by
  unfold Value.okWide at hval
  rw [ht] at hval
  obtain ⟨cs, rfl, hsz, -⟩ := hval
  obtain ⟨m, hm⟩ := hd
  obtain ⟨ys, m', -, -, hl, hy, hel⟩ := DataW.trod_array ht hm
  have key : ∀ i, i < n → ∃ z : Int, cs[i]? = some (.int k z) ∧ (Lit.int k z).wf = true := by
    intro i hi
    have hE := hel i hi
    rw [hc, Nat.mul_one, List.getElem?_eq_getElem (by omega)] at hE
    obtain ⟨z, e1, -, wz⟩ := DataW.trod_int he hE
    refine ⟨z, ?_, wz⟩
    have h0 : (((Value.agg cs).cells.toList.drop i).take 1)[0]? = some (.int k z) := by rw [e1]; rfl
    simpa [Value.cells] using h0
  refine ⟨cs.toList.map intOf, ?_, by simp; omega, ?_⟩
  · congr 1
    apply Array.ext
    · simp
    · intro i h1 h2
      obtain ⟨z, e1, -⟩ := key i (by omega)
      have e2 : cs[i] = .int k z := by simpa [h1] using e1
      simp [e2, intOf]
  · intro x hx
    rw [List.mem_map] at hx
    obtain ⟨c, hc', rfl⟩ := hx
    obtain ⟨i, hi, rfl⟩ := List.getElem_of_mem hc'
    obtain ⟨z, e1, wz⟩ := key i (by simp at hi; omega)
    have e2 : cs[i]'(by simpa using hi) = .int k z := by simp at hi; simpa [hi] using e1
    simp [e2, intOf, wz]

/-- what a region's calls of Root hand back -/
theorem open_size {H : Type} {enc : TypeId × Value → H} {w : World} {sp : Nat → Bool} {held : Bool} {b0 : Nat} {v : Value} {d : DataW H} {ps : List MemPlace}
    (hval : Value.okWide Try.prog w .any b0 23 v) (hd : DataW.Trod enc Try.prog w 0 sp held 23 v d ps) : ∃ x y : UInt8, v = .agg #[.int .u8 (x.toNat : Int), .int .u8 (y.toNat : Int)] := by
  obtain ⟨xs, rfl, hxl, hxw⟩ := open_array Try.underlying23 Try.underlying5 (by kernel_rfl) (by kernel_rfl) hval hd
  obtain ⟨x, y, rfl⟩ : ∃ x y, xs = [x, y] := by
    rcases xs with _ | ⟨x, _ | ⟨y, _ | ⟨z, zs⟩⟩⟩ <;> simp at hxl
    exact ⟨x, y, rfl⟩
  obtain ⟨x', rfl⟩ := u8_of x (hxw x (by simp))
  obtain ⟨y', rfl⟩ := u8_of y (hxw y (by simp))
  exact ⟨x', y', rfl⟩
theorem uniq2 {S S' : PK → Prop} {d d' k k' : Nat} {l l' : List PK} (hS : ∀ q, S q ↔ S' q) (h : Can S d l) (h' : Can S' d' l') (hk : l.length = k) (hk' : l'.length = k') : d' = d ∧ l' = l ∧ k' = k := by
  obtain ⟨rfl, rfl⟩ := can_uniq hS h h'
  exact ⟨rfl, rfl, by rw [← hk, ← hk']⟩

end Go.Proofs.Ytpdodapdaeochaa
