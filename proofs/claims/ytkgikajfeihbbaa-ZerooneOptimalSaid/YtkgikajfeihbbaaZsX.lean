/- 0-1 programs: plain facts for the bounds, for tightening and for brute force. -/
import Derived.Test.YtkgikajfeihbbaaZsW
import Derived.Test.YtkgikajfeihbbaaZoF
namespace Go.Proofs.Ytkgikajfeihbbaa
set_option maxRecDepth 100000
open Go.RowKit

theorem valid_rows {p : ProbM} (h : validOf p = 0) : validOf ⟨p.val, [], p.fix⟩ = 0 := by
  unfold validOf at h ⊢
  split at h; · cases h
  split at h; · cases h
  split at h; · cases h
  split at h; · cases h
  split at h; · cases h
  split at h; · cases h
  rename_i h1 h2 h3 h4 h5 h6
  rw [if_neg (by simp; omega), if_neg h2, if_neg (by simp), if_neg h4, if_neg (by simp), if_neg h6]
theorem valid_fix {p : ProbM} (h : validOf p = 0) {g : List Int} (hl : g.length = p.fix.length) (hg : ∀ f ∈ g, f = -1 ∨ f = 0 ∨ f = 1) : validOf ⟨p.val, p.rows, g⟩ = 0 := by
  unfold validOf at h ⊢
  split at h; · cases h
  split at h; · cases h
  split at h; · cases h
  split at h; · cases h
  split at h; · cases h
  split at h; · cases h
  rename_i h1 h2 h3 h4 h5 h6
  rw [if_neg h1, if_neg (by show ¬ g.length ≠ p.val.length; rw [hl]; exact h2), if_neg h3, if_neg h4, if_neg h5, if_neg]
  show ¬ (g.any fixFar) = true
  rw [Bool.not_eq_true, List.any_eq_false]
  intro f hf
  rcases hg f hf with rfl | rfl | rfl <;> decide
theorem isBits_of {z : List Int} {n : Nat} (h : Bits01 z) (hl : z.length = n) : isBits z n = true := by
  unfold isBits
  rw [Bool.and_eq_true, decide_eq_true_eq]
  refine ⟨hl, ?_⟩
  rw [Bool.not_eq_true', List.any_eq_false]
  intro f hf
  obtain ⟨i, hi, rfl⟩ := List.getElem_of_mem hf
  have := h i hi
  simp only [List.getD, List.getElem?_eq_getElem hi, Option.getD_some] at this
  rcases this with e | e <;> rw [e] <;> decide
theorem feas_asg {p : ProbM} (h : validOf p = 0) {z : List Int} (hz : z ∈ asg p.fix) : feasOf p z = feasR p.rows z := by
  have hv := validM h
  obtain ⟨h1, h2⟩ := asg_01 hv hz
  have hs := (fixL_sup p.fix z (by rw [hv.fixn, h2])).2 (asg_sup p.fix z hz)
  unfold feasOf feasR
  rw [h, hs, isBits_of h1 h2]
  simp
theorem feas_best {p : ProbM} (h : validOf p = 0) {z : List Int} {m : Int} (hb : bestOf p.rows p.val p.fix = (some z, m)) : feasOf p z = true := by
  obtain ⟨h1, h2, -⟩ := best_in hb
  rw [feas_asg h h1, h2]
theorem sol_le {p : ProbM} (h : validOf p = 0) : (solE p = 0 ∧ solN p ≤ hiOf p.val p.fix ∧ (solX p).length = p.val.length ∧ feasOf p (solX p) = true ∧ bestOf p.rows p.val p.fix = (some (solX p), solN p)) ∨ (solE p = 14 ∧ (bestOf p.rows p.val p.fix).1 = none) := by
  cases hb : (bestOf p.rows p.val p.fix).1 with
  | none => exact .inr ⟨(sol_none h hb).2.2, rfl⟩
  | some z =>
    have hb2 : bestOf p.rows p.val p.fix = (some z, (bestOf p.rows p.val p.fix).2) := by rw [← hb]
    obtain ⟨e1, e2, e3⟩ := sol_some h hb2
    obtain ⟨g1, g2, g3⟩ := best_in hb2
    have hv := validM h
    refine .inl ⟨e3, ?_, ?_, ?_, ?_⟩
    · rw [e2, ← g3]; exact asg_le (fix_tri hv) g1
    · rw [e1]; exact (asg_01 hv g1).2
    · rw [e1]; exact feas_best h hb2
    · rw [e1, e2]; exact hb2
theorem sol_free {p : ProbM} (h : validOf p = 0) : solE ⟨p.val, [], p.fix⟩ = 0 ∧ solN ⟨p.val, [], p.fix⟩ = hiOf p.val p.fix ∧ (solX ⟨p.val, [], p.fix⟩).length = p.val.length ∧ feasOf ⟨p.val, [], p.fix⟩ (solX ⟨p.val, [], p.fix⟩) = true := by
  have hv := validM h
  have h' := valid_rows h
  obtain ⟨z, hz⟩ := best_free (val := p.val) (fix := p.fix) hv.fixn.symm (fix_tri hv)
  obtain ⟨e1, e2, e3⟩ := sol_some (p := ⟨p.val, [], p.fix⟩) h' hz
  rw [e1, e2, e3]
  refine ⟨rfl, rfl, ?_, feas_best (p := ⟨p.val, [], p.fix⟩) h' hz⟩
  exact (asg_01 (p := ⟨p.val, [], p.fix⟩) (validM h') (best_in hz).1).2
theorem rows_nil (w : World) : RowsIn w none 0 0 [] := ⟨rfl, by omega, by simp [maxLen], by simp, .inl rfl⟩

/-- what tightening keeps -/
structure Keeps (p : ProbM) (g : List Int) : Prop where
  len : g.length = p.fix.length
  fix : ∀ i, i < p.fix.length → p.fix.getD i 0 = -1 ∨ g.getD i 0 = p.fix.getD i 0
  sol : solE p = 0 → (solX p).length = p.val.length ∧ ∀ i, i < p.fix.length → g.getD i 0 = -1 ∨ (solX p).getD i 0 = g.getD i 0
  x : solX ⟨p.val, p.rows, g⟩ = solX p
  n : solN ⟨p.val, p.rows, g⟩ = solN p
  e : solE ⟨p.val, p.rows, g⟩ = solE p
  feas : solE p = 0 → feasOf p (solX p) = true
  either : solE p = 0 ∨ solE p = 14
theorem trits_mem {g : List Int} (h : Trits g) : ∀ f ∈ g, f = -1 ∨ f = 0 ∨ f = 1 := fun f hf => by
  obtain ⟨i, hi, rfl⟩ := List.getElem_of_mem hf
  have := h i hi
  simpa [List.getD, hi] using this
theorem keeps_of {p : ProbM} (h : validOf p = 0) {g : List Int} (hT : TightTo p.rows p.fix (some g)) : Keeps p g := by
  have hv := validM h
  have hg := trits_mem hT.1.1
  have hl : g.length = p.fix.length := hT.2.1.1.symm
  have hb := best_tight (val := p.val) (fix_tri hv) hg hT
  have h' := valid_fix h hl hg
  cases hbe : (bestOf p.rows p.val p.fix).1 with
  | none =>
    obtain ⟨e1, e2, e3⟩ := sol_none h hbe
    obtain ⟨f1, f2, f3⟩ := sol_none (p := ⟨p.val, p.rows, g⟩) h' (by show (bestOf p.rows p.val g).1 = none; rw [hb]; exact hbe)
    have hne : solE p ≠ 0 := by rw [e3]; decide
    exact ⟨hl, hT.2.1.2, fun h0 => absurd h0 hne, by rw [e1, f1], by rw [e2, f2], by rw [e3, f3], fun h0 => absurd h0 hne, .inr e3⟩
  | some z =>
    have hb2 : bestOf p.rows p.val p.fix = (some z, (bestOf p.rows p.val p.fix).2) := by rw [← hbe]
    have hb3 : bestOf p.rows p.val g = (some z, (bestOf p.rows p.val p.fix).2) := by rw [hb]; exact hb2
    obtain ⟨e1, e2, e3⟩ := sol_some h hb2
    obtain ⟨f1, f2, f3⟩ := sol_some (p := ⟨p.val, p.rows, g⟩) h' hb3
    have hs := asg_sup g z (best_in hb3).1
    exact ⟨hl, hT.2.1.2, fun _ => ⟨by rw [e1]; exact (best_bits hv hb2).2, fun i hi => by rw [e1]; exact hs.2 i (by rw [hl]; exact hi)⟩, by rw [e1, f1], by rw [e2, f2], by rw [e3, f3], fun _ => by rw [e1]; exact feas_best h hb2, .inl e3⟩
theorem keeps_none {p : ProbM} (h : validOf p = 0) (hT : TightTo p.rows p.fix none) : solE p = 14 := (sol_none h (best_none (fix_tri (validM h)) hT)).2.2

end Go.Proofs.Ytkgikajfeihbbaa
