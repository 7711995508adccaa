/- 0-1 programs: what the search finds is the best assignment. No program in sight; no condition beyond the sizes. -/
import Derived.Test.YtkgikajfeihbbaaZsN
import Derived.Test.YtkgikajfeihbbaaTgD
namespace Go.Proofs.Ytkgikajfeihbbaa
set_option maxRecDepth 100000
open Go.RowKit

theorem wide_ok {S : Sh} {p : ProbM} {free ord : List Nat} (hP : Pu S p free ord) : ∀ w, wideRow S p = some w → w ∈ p.rows ∧ w.coef.length = S.n ∧ ∀ j, w.coef.getD j 0 = 0 ∨ w.coef.getD j 0 = 1 := by
  intro w hw
  unfold wideRow at hw
  by_cases h : S.wd = -1
  · rw [if_pos h] at hw; cases hw
  · rw [if_neg h] at hw
    rcases hP.wd with h1 | ⟨k, hk, e, h01⟩
    · exact absurd h1 h
    · have ek : S.wd.toNat = k := by omega
      rw [ek] at hw
      cases hw
      refine ⟨getD_mem hk, by rw [hP.valid.coefn k hk, hP.n], fun j => ?_⟩
      by_cases hj : j < (p.rows.getD k default).coef.length
      · exact h01 j hj
      · exact .inl (by rw [List.getD, List.getElem?_eq_none (by omega)]; rfl)
theorem left_end {free ord : List Nat} {k : Nat} (h : ∀ e ∈ ord, e < k) : leftOf free ord k = [] := by
  unfold leftOf
  have : ord.filter (fun e => decide (k ≤ e)) = [] := by
    rw [List.filter_eq_nil_iff]
    intro e he
    have := h e he
    simp; omega
  rw [this]; rfl
theorem vis_fold {S : Sh} {p : ProbM} {free ord : List Nat} (hP : Pu S p free ord) (hp : ord.Perm (posOf p.val free free.length)) (hs : ord.Pairwise fun a b => p.val.getD (free.getD b 0) 0 ≤ p.val.getD (free.getD a 0) 0) {x : List Int} (hA : As S free x) (β : Sb) :
    visR S p free ord 0 x β = (comps (lateR S p) free x).foldl (stepS (feasR p.rows) (dotL p.val) S.once topI) β := by
  unfold visR
  rw [List.drop_zero]
  have hc : ∀ q ∈ p.rows, q.coef.length = S.n := fun q hq => by
    obtain ⟨i, hi, rfl⟩ := mem_getD hq
    rw [hP.valid.coefn i hi, hP.n]
  refine visit_fold (G := fun r x => As S r x ∧ ∃ d, d ≤ S.k ∧ r = free.drop d) ?_ ?_ ?_ ?_ ?_ free x β ⟨hA, 0, by omega, rfl⟩
  · rintro i r x ⟨h, d, hd, e⟩
    obtain ⟨h1, h2, -, -⟩ := h.tail
    have hdl : d < S.k := by
      have h9 := congrArg List.length e
      rw [List.length_cons, List.length_drop, hP.k] at h9
      omega
    have e2 : r = free.drop (d + 1) := by
      have h9 := congrArg List.tail e
      rw [List.tail_cons, List.tail_drop] at h9
      exact h9
    exact ⟨⟨h1, d + 1, by omega, e2⟩, ⟨h2, d + 1, by omega, e2⟩⟩
  · rintro r x ⟨h, -⟩ hk
    exact ok_not hc h.gd hk
  · rintro x -
    exact ok_leaf p.rows x
  · rintro x -
    unfold bdR bdS
    rw [List.length_nil, Nat.sub_zero, left_end hP.ord]
    simp [greedy]
  · rintro r x ⟨h, d, hd, rfl⟩ y hy hF
    rw [bdR_at hP.k hd]
    obtain ⟨o1, o2⟩ := order_ok free p.val ord hp hs d (by rw [hP.k]; exact hd)
    exact bd_ok hP.n (wide_ok hP) h.gd o1 o2 y hy hF

/-! ### The free variables -/
theorem freeIx_mem : ∀ (fs : List Int) (k i : Nat), i ∈ freeIx k fs ↔ k ≤ i ∧ i < k + fs.length ∧ fs.getD (i - k) 0 = -1
  | [], k, i => by simp [freeIx] <;> omega
  | f :: fs, k, i => by
    have ih := freeIx_mem fs (k + 1) i
    have key : i ∈ freeIx k (f :: fs) ↔ (f = -1 ∧ i = k) ∨ i ∈ freeIx (k + 1) fs := by
      simp only [freeIx]
      split
      · rename_i h; simp [h]
      · rename_i h; simp [h]
    rw [key, ih, List.length_cons]
    constructor
    · rintro (⟨h1, rfl⟩ | ⟨h1, h2, h3⟩)
      · refine ⟨by omega, by omega, ?_⟩
        rw [Nat.sub_self]; exact h1
      · refine ⟨by omega, by omega, ?_⟩
        rw [show i - k = (i - (k + 1)) + 1 by omega, List.getD_cons_succ]; exact h3
    · rintro ⟨h1, h2, h3⟩
      by_cases hik : i = k
      · subst hik
        rw [Nat.sub_self] at h3
        exact .inl ⟨h3, rfl⟩
      · rw [show i - k = (i - (k + 1)) + 1 by omega, List.getD_cons_succ] at h3
        exact .inr ⟨by omega, by omega, h3⟩
theorem freeIx_nd : ∀ (fs : List Int) (k : Nat), (freeIx k fs).Nodup
  | [], k => by simp [freeIx]
  | f :: fs, k => by
    have ih := freeIx_nd fs (k + 1)
    simp only [freeIx]
    split
    · refine List.nodup_cons.2 ⟨fun h => ?_, ih⟩
      have := ((freeIx_mem fs (k + 1) k).1 h).1
      omega
    · exact ih
/-- free variables in any order, and the assignment at the beginning -/
theorem gd_start {p : ProbM} (hv : ValidM p) {fr : List Nat} (hf : fr.Perm (freeIx 0 p.fix)) : Gd p.val.length fr (x0Of p.fix) := by
  have hm : ∀ i ∈ fr, i < p.fix.length ∧ p.fix.getD i 0 = -1 := fun i hi => by
    have := (freeIx_mem p.fix 0 i).1 (hf.mem_iff.1 hi)
    simpa using this.2
  refine ⟨by rw [x0_len, hv.fixn], fun i hi => by rw [← hv.fixn]; exact (hm i hi).1, fun i hi => ?_, (hf.nodup_iff).2 (freeIx_nd _ _)⟩
  rw [x0_at _ _ (hm i hi).1, (hm i hi).2]; rfl
theorem fix_tri {p : ProbM} (hv : ValidM p) : ∀ f ∈ p.fix, f = -1 ∨ f = 0 ∨ f = 1 := fun f hf => by
  obtain ⟨i, hi, rfl⟩ := List.getElem_of_mem hf
  have := hv.fix i hi
  simpa [List.getD, hi] using this
theorem comps_all {p : ProbM} (hv : ValidM p) : comps (fun _ => false) (freeIx 0 p.fix) (x0Of p.fix) = asg p.fix := by
  have h := comps_asg p.fix [] fun f hf => by
    have := fix_tri hv f hf; omega
  simpa using h
theorem comps_mem_asg {p : ProbM} (hv : ValidM p) {fr : List Nat} (hf : fr.Perm (freeIx 0 p.fix)) (late : Nat → Bool) : ∀ y, y ∈ comps late fr (x0Of p.fix) ↔ y ∈ asg p.fix := fun y => by
  rw [← comps_all hv]
  exact comps_set (gd_start hv hf) (gd_start hv (List.Perm.refl _)) (fun j => hf.mem_iff) y
theorem asg_01 {p : ProbM} (hv : ValidM p) {y : List Int} (hy : y ∈ asg p.fix) : Bits01 y ∧ y.length = p.val.length := by
  refine ⟨fun k hk => ?_, by rw [asg_len _ y hy, hv.fixn]⟩
  exact asg_bits p.fix (fix_tri hv) y hy _ (by simp [List.getD, hk])
theorem asg_bd {p : ProbM} (hv : ValidM p) {y : List Int} (hy : y ∈ asg p.fix) : -24000000 ≤ dotL p.val y ∧ dotL p.val y < topI := by
  have h := dotL_bd p.val y hv.val (asg_01 hv hy).1
  have := hv.n
  unfold topI
  omega
/-- what the greatest value is told by -/
theorem great_ok {p : ProbM} (hv : ValidM p) {fr : List Nat} (hf : fr.Perm (freeIx 0 p.fix)) (late : Nat → Bool) {β : Sb} (hβ : β = (comps late fr (x0Of p.fix)).foldl (stepS (feasR p.rows) (dotL p.val) false topI) ⟨-24000000, [], 0, false⟩) :
    (β.found = false → (bestOf p.rows p.val p.fix).1 = none) ∧ (β.found = true → ∃ z, bestOf p.rows p.val p.fix = (some z, β.most)) := by
  have h := search_same (rows := p.rows) (val := p.val) (fix := p.fix) (L := comps late fr (x0Of p.fix)) (lo := -24000000) (top := topI) (comps_mem_asg hv hf late) (fun y hy => (asg_bd hv hy).1) (fun y hy => (asg_bd hv hy).2) [] [] 0 0 false
  rw [← hβ] at h
  refine ⟨h.1, fun hf => ?_⟩
  obtain ⟨z, h1, -⟩ := h.2 hf
  exact ⟨z, h1⟩
theorem first_ok {p : ProbM} (hv : ValidM p) {z : List Int} {m : Int} (h : bestOf p.rows p.val p.fix = (some z, m)) {β : Sb} (hβ : β = (comps (fun _ => false) (freeIx 0 p.fix) (x0Of p.fix)).foldl (stepS (feasR p.rows) (dotL p.val) true topI) ⟨m, [], 0, false⟩) : β.best = z := by
  rw [hβ, comps_all hv]
  refine fold_first (asg p.fix) ⟨m, [], 0, false⟩ (fun y hy _ => (asg_bd hv hy).2) z ?_
  have := ((best_spec p.rows p.val p.fix).1 z (by rw [h])).2
  rw [h] at this
  exact this

/-! ### The answer -/
def solX (p : ProbM) : List Int := if validOf p = 0 then (bestOf p.rows p.val p.fix).1.getD [] else []
def solN (p : ProbM) : Int := if validOf p = 0 then (if (bestOf p.rows p.val p.fix).1.isSome then (bestOf p.rows p.val p.fix).2 else 0) else 0
def solE (p : ProbM) : Int := if validOf p = 0 then (if (bestOf p.rows p.val p.fix).1.isSome then 0 else 14) else validOf p
theorem sol_bad {p : ProbM} (h : validOf p ≠ 0) : solX p = [] ∧ solN p = 0 ∧ solE p = validOf p := by
  unfold solX solN solE
  rw [if_neg h, if_neg h, if_neg h]
  exact ⟨rfl, rfl, rfl⟩
theorem sol_none {p : ProbM} (h : validOf p = 0) (hb : (bestOf p.rows p.val p.fix).1 = none) : solX p = [] ∧ solN p = 0 ∧ solE p = 14 := by
  unfold solX solN solE
  rw [if_pos h, if_pos h, if_pos h, hb]
  exact ⟨rfl, rfl, rfl⟩
theorem sol_some {p : ProbM} (h : validOf p = 0) {z : List Int} {m : Int} (hb : bestOf p.rows p.val p.fix = (some z, m)) : solX p = z ∧ solN p = m ∧ solE p = 0 := by
  unfold solX solN solE
  rw [if_pos h, if_pos h, if_pos h, hb]
  exact ⟨rfl, rfl, rfl⟩
theorem row_none {p : ProbM} {i : Nat} (hi : i < p.rows.length) (h : (p.rows.getD i default).mx < (p.rows.getD i default).mn) : (bestOf p.rows p.val p.fix).1 = none := by
  cases hb : (bestOf p.rows p.val p.fix).1 with
  | none => rfl
  | some z =>
    obtain ⟨⟨y, -, hy, -⟩, -⟩ := ((best_spec p.rows p.val p.fix).1 z hb).1
    unfold feasR at hy
    rw [List.all_eq_true] at hy
    have := hy _ (getD_mem hi)
    unfold rowOk at this
    simp only [Bool.and_eq_true, decide_eq_true_eq] at this
    omega

end Go.Proofs.Ytkgikajfeihbbaa
