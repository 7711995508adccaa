/- append of a string's bytes to a slice that the call owns. Plain lemmas. -/
import Derived.Test.YthbfmioikbphgaaDoorBase
import Derived.Lib.AppendStr
namespace Go.Proofs.YthbfmioikbphgaaDoor
set_option maxRecDepth 100000
open Go.RowKit

theorem strCells_bvs (s : List UInt8) : Lib.strCells ⟨s.toArray⟩ = bvs s := by simp [Lib.strCells, bvs, bv]
theorem run_appS {P : Program} {w : World} (t u ty : TypeId) (B : Nat) (e : TypeId) (ht : P.underlying t = some (.slice e)) (hu : P.underlying u = some .string) (hi : (P.info? e).map (fun i => (i.zero, i.size, i.bytes)) = some (some (.int .u8 0), 1, 1))
    (v : Value) (xs : List Value) (hown : Owns w B e v xs) (s : List UInt8) (hlen : xs.length + s.length ≤ 140737488355328) (hbase : B ≤ w.heap.size) :
    ∃ v' w', (Builtin.append_ #[t, u] ty #[v, .string ⟨s.toArray⟩]).run P w = .ok v' w' ∧ Owns w' B e v' (xs ++ bvs s) ∧ Grew w w' v v' := by
  obtain ⟨i, hi', hz, hsize, hby⟩ := info_parts hi
  have hss : (⟨s.toArray⟩ : ByteArray).size = s.length := rfl
  have hml : xs.length + s.length ≤ maxLen := by simp only [maxLen]; omega
  obtain ⟨v', w', hr, h2, h3, h4⟩ := Lib.run_append_own_string (P := P) w B t u ty e i ht hu hi' hz hsize hby v xs.length xs hown ⟨s.toArray⟩ hml hlen hbase
  rw [strCells_bvs, hss] at h2
  refine ⟨v', w', hr, by unfold Owns; rw [List.length_append, bvs_length]; exact h2, h3, ?_⟩
  rcases hown.2 with ⟨rfl, h0⟩ | ⟨g, cap, cur, rfl, hg, hh, hnc, hcm, hcs, htk⟩
  · by_cases hm : s.length = 0
    · have := h4.2 ⟨rfl, hm⟩; subst this; exact .inl rfl
    · have hr' := run_append_nil_string (P := P) w t u ty e i (.int .u8 0) ht hu hi' hz ⟨s.toArray⟩ (by rw [hss]; omega) (by rw [hss]; omega) (by rw [hby, hss]; omega)
      rw [hr'] at hr
      simp only [Result.ok.injEq] at hr
      right; intro k hk
      rw [← hr.1] at hk
      simp [Value.ownBlock] at hk; omega
  · by_cases hroom : xs.length + s.length ≤ cap
    · have hr' := Lib.run_append_room_string (P := P) w t u ty e i ht hu hi' hsize g xs.length cap cur hh ⟨s.toArray⟩ hroom (by rw [hss]; omega)
      rw [hr'] at hr
      simp only [Result.ok.injEq] at hr
      left; rw [← hr.1]; rfl
    · have hr' := Lib.run_append_grow_string (P := P) w t u ty e i (.int .u8 0) ht hu hi' hz ⟨g, 0, none⟩ xs.length cap xs (by simp [hsize]) (World.ownsRow.cells hown (g := g) rfl) ⟨s.toArray⟩ (by rw [hss]; omega) (by rw [hss]; omega) (by rw [hby, hss]; exact growslice_fits (by omega) (by omega))
      rw [hr'] at hr
      simp only [Result.ok.injEq] at hr
      right; intro k hk
      rw [← hr.1] at hk
      simp [Value.ownBlock] at hk; omega
theorem wp_appS {P : Program} {w : World} {o : Oper} {a : Act} {K : Act → World → Prop} {Q : Exit → Act → World → Prop} (sl x : Operand) (t u : TypeId)
    (ho : o.op = .call { callee := .builtin .append, args := #[sl, x], argTypes := #[t, u] })
    (B : Nat) (e : TypeId) (ht : P.underlying t = some (.slice e)) (hu : P.underlying u = some .string) (hi : (P.info? e).map (fun i => (i.zero, i.size, i.bytes)) = some (some (.int .u8 0), 1, 1))
    (v : Value) (xs : List Value) (hs : a.eval sl = v) (hown : Owns w B e v xs) (s : List UInt8) (hx : a.eval x = .string ⟨s.toArray⟩) (hlen : xs.length + s.length ≤ 140737488355328) (hbase : B ≤ w.heap.size)
    (h : ∀ v' w', Owns w' B e v' (xs ++ bvs s) → Grew w w' v v' → K (a.put o.dst v') w') : o.wp P a w K Q := by
  obtain ⟨v', w', hr, h2, h3⟩ := run_appS (P := P) t u o.type B e ht hu hi v xs hown s hlen hbase
  unfold Oper.wp
  simp [execOp, ho, resolve, invoke, builtin, hs, hx, hr, Result.andThen]
  exact h v' w' h2 h3
end Go.Proofs.YthbfmioikbphgaaDoor
