/- 0-1 programs, plain: insertion sort by falling value; the order of the bound; what the laws need. No program in sight; no condition. -/
import Derived.Test.YtkgikajfeihbbaaZsP
namespace Go.Proofs.Ytkgikajfeihbbaa
set_option maxRecDepth 100000

/-! ### Insertion sort, by falling value -/
/-- all pairs up to i are in order, but those that end in j -/
def SrtBut (v : Int → Int) (ys : List Int) (i j : Nat) : Prop := ∀ a b, a < b → b ≤ i → b ≠ j → v (ys.getD b 0) ≤ v (ys.getD a 0)
def SrtTo (v : Int → Int) (ys : List Int) (i : Nat) : Prop := ∀ a b, a < b → b ≤ i → v (ys.getD b 0) ≤ v (ys.getD a 0)
def swapL (ys : List Int) (j : Nat) : List Int := (ys.set j (ys.getD (j - 1) 0)).set (j - 1) (ys.getD j 0)
theorem getD_set_ne (ys : List Int) (i k : Nat) (u : Int) (h : i ≠ k) : (ys.set i u).getD k 0 = ys.getD k 0 := by simp only [List.getD, List.getElem?_set_ne h]
theorem getD_set_eq (ys : List Int) (i : Nat) (u : Int) (h : i < ys.length) : (ys.set i u).getD i 0 = u := by simp [List.getD, h]
theorem swapL_at {ys : List Int} {j : Nat} (h0 : 0 < j) (hj : j < ys.length) (k : Nat) : (swapL ys j).getD k 0 = if k = j then ys.getD (j - 1) 0 else if k = j - 1 then ys.getD j 0 else ys.getD k 0 := by
  unfold swapL
  by_cases h1 : k = j
  · subst h1
    rw [if_pos rfl, getD_set_ne _ _ _ _ (by omega), getD_set_eq _ _ _ hj]
  · rw [if_neg h1]
    by_cases h2 : k = j - 1
    · subst h2
      rw [if_pos rfl, getD_set_eq _ _ _ (by simp; omega)]
    · rw [if_neg h2, getD_set_ne _ _ _ _ (by omega), getD_set_ne _ _ _ _ (by omega)]
theorem srt_start {v : Int → Int} {ys : List Int} {i : Nat} (h : SrtTo v ys i) : SrtBut v ys (i + 1) (i + 1) := fun a b hab hb hne => h a b hab (by omega)
theorem srt_swap {v : Int → Int} {ys : List Int} {i j : Nat} (h : SrtBut v ys i j) (h0 : 0 < j) (hi : j ≤ i) (hj : j < ys.length) (hv : v (ys.getD (j - 1) 0) < v (ys.getD j 0)) : SrtBut v (swapL ys j) i (j - 1) := by
  intro a b hab hb hne
  rw [swapL_at h0 hj a, swapL_at h0 hj b]
  by_cases b1 : b = j
  · subst b1
    rw [if_pos rfl, if_neg (by omega)]
    by_cases a1 : a = b - 1
    · rw [if_pos a1]; omega
    · rw [if_neg a1]; exact h a (b - 1) (by omega) (by omega) (by omega)
  · rw [if_neg b1, if_neg hne]
    by_cases a1 : a = j
    · subst a1
      rw [if_pos rfl]; exact h (a - 1) b (by omega) hb b1
    · rw [if_neg a1]
      by_cases a2 : a = j - 1
      · rw [if_pos a2]; exact h j b (by omega) hb b1
      · rw [if_neg a2]; exact h a b hab hb b1
theorem srt_done {v : Int → Int} {ys : List Int} {i j : Nat} (h : SrtBut v ys i j) (hj : j = 0 ∨ v (ys.getD j 0) ≤ v (ys.getD (j - 1) 0)) : SrtTo v ys i := by
  intro a b hab hb
  by_cases hbj : b = j
  · subst hbj
    rcases hj with rfl | hj
    · omega
    · by_cases ha : a = b - 1
      · rw [ha]; exact hj
      · exact Int.le_trans hj (h a (b - 1) (by omega) (by omega) (by omega))
  · exact h a b hab hb hbj
theorem swapL_perm {ys : List Int} {j : Nat} (h0 : 0 < j) (hj : j < ys.length) : (swapL ys j).Perm ys := by
  obtain ⟨k, rfl⟩ : ∃ k, j = k + 1 := ⟨j - 1, by omega⟩
  have e : ys = ys.take k ++ (ys.getD k 0 :: ys.getD (k + 1) 0 :: ys.drop (k + 2)) := by
    refine List.ext_getElem? fun i => ?_
    by_cases h1 : i < k
    · rw [List.getElem?_append_left (by simp; omega), List.getElem?_take_of_lt h1]
    · rw [List.getElem?_append_right (by simp; omega)]
      have hl : (ys.take k).length = k := by simp; omega
      rw [hl]
      rcases hd : i - k with _ | _ | d
      · have : i = k := by omega
        subst this; simp [List.getD, show i < ys.length by omega]
      · have : i = k + 1 := by omega
        subst this; simp [List.getD, hj]
      · have : i = k + 2 + d := by omega
        subst this; simp
  have hs : swapL ys (k + 1) = ys.take k ++ (ys.getD (k + 1) 0 :: ys.getD k 0 :: ys.drop (k + 2)) := by
    have hl : (swapL ys (k + 1)).length = ys.length := by simp [swapL]
    refine List.ext_getElem? fun i => ?_
    have hat := swapL_at h0 hj i
    by_cases h1 : i < k
    · rw [List.getElem?_append_left (by simp; omega), List.getElem?_take_of_lt h1]
      rw [if_neg (by omega), if_neg (by omega)] at hat
      simp only [List.getD] at hat
      rw [List.getElem?_eq_getElem (by omega), List.getElem?_eq_getElem (by omega)] at hat ⊢
      simpa using hat
    · rw [List.getElem?_append_right (by simp; omega)]
      have hl2 : (ys.take k).length = k := by simp; omega
      rw [hl2]
      rcases hd : i - k with _ | _ | d
      · have : i = k := by omega
        subst this
        rw [if_neg (by omega), if_pos (by omega)] at hat
        simp only [List.getD] at hat
        rw [List.getElem?_eq_getElem (show i < (swapL ys (i + 1)).length by omega)] at hat ⊢
        simpa [List.getD] using hat
      · have : i = k + 1 := by omega
        subst this
        rw [if_pos rfl] at hat
        simp only [List.getD] at hat
        rw [List.getElem?_eq_getElem (show k + 1 < (swapL ys (k + 1)).length by omega)] at hat ⊢
        simpa [List.getD] using hat
      · have : i = k + 2 + d := by omega
        subst this
        rw [if_neg (by omega), if_neg (by omega)] at hat
        simp only [List.getElem?_cons_succ, List.getElem?_drop]
        by_cases hb : k + 2 + d < ys.length
        · simp only [List.getD] at hat
          rw [List.getElem?_eq_getElem (by omega), List.getElem?_eq_getElem (by omega)] at hat ⊢
          simpa using hat
        · rw [List.getElem?_eq_none (by omega), List.getElem?_eq_none (by omega)]
  rw [hs]
  conv => rhs; rw [e]
  exact List.Perm.append_left _ (List.Perm.swap _ _ _)

/-! ### The order of the bound -/
theorem range_drop (free : List Nat) (d : Nat) (hd : d ≤ free.length) : ((List.range free.length).filter fun e => decide (d ≤ e)).map (fun e => free.getD e 0) = free.drop d := by
  have e1 : List.range free.length = List.range' 0 d ++ List.range' d (free.length - d) := by
    rw [List.range_eq_range']
    have h := List.range'_append (s := 0) (m := d) (n := free.length - d) (step := 1)
    rw [show d + (free.length - d) = free.length by omega] at h
    rw [← h]; simp
  rw [e1, List.filter_append]
  have e2 : (List.range' 0 d).filter (fun e => decide (d ≤ e)) = [] := by
    rw [List.filter_eq_nil_iff]
    intro a ha
    rw [List.mem_range'_1] at ha
    simp; omega
  have e3 : (List.range' d (free.length - d)).filter (fun e => decide (d ≤ e)) = List.range' d (free.length - d) := by
    rw [List.filter_eq_self]
    intro a ha
    rw [List.mem_range'_1] at ha
    simp; omega
  rw [e2, e3, List.nil_append]
  refine List.ext_getElem (by simp) fun i h1 h2 => ?_
  simp at h1
  simp [List.getD, show d + i < free.length by omega]
theorem order_ok (free : List Nat) (val : List Int) (O : List Nat) (hO : O.Perm ((List.range free.length).filter fun e => decide (0 < val.getD (free.getD e 0) 0))) (hs : O.Pairwise (fun a b => val.getD (free.getD b 0) 0 ≤ val.getD (free.getD a 0) 0)) (d : Nat) (hd : d ≤ free.length) :
    ((O.filter fun e => decide (d ≤ e)).map fun e => free.getD e 0).Perm ((free.drop d).filter fun i => decide (0 < val.getD i 0)) ∧ ((O.filter fun e => decide (d ≤ e)).map fun e => free.getD e 0).Pairwise (fun a b => val.getD b 0 ≤ val.getD a 0) := by
  constructor
  · have h1 := (hO.filter fun e => decide (d ≤ e)).map fun e => free.getD e 0
    refine h1.trans ?_
    rw [← range_drop free d hd, List.filter_map, List.filter_filter, List.filter_filter]
    have : ((List.range free.length).filter fun a => decide (d ≤ a) && decide (0 < val.getD (free.getD a 0) 0)) = ((List.range free.length).filter fun a => (((fun i => decide (0 < val.getD i 0)) ∘ fun e => free.getD e 0) a && decide (d ≤ a))) := by
      apply List.filter_congr
      intro a _
      simp only [Function.comp_def]
      rw [Bool.and_comm]
    rw [this]
  · rw [List.pairwise_map]
    exact hs.filter _

/-! ### What ZerooneKeeps and ZerooneBounds need -/
theorem fixL_sup : ∀ (fs y : List Int), fs.length = y.length → (fixL fs y = true ↔ Sup fs y)
  | [], [], _ => by simp [fixL, sup_refl]
  | [], _ :: _, h => by simp at h
  | _ :: _, [], h => by simp at h
  | f :: fs, z :: y, h => by
    have ih := fixL_sup fs y (by simpa using h)
    simp only [fixL, Bool.and_eq_true, Bool.or_eq_true, beq_iff_eq]
    rw [ih]
    constructor
    · rintro ⟨h1, h2⟩
      refine ⟨h, fun i hi => ?_⟩
      rcases i with _ | i
      · simpa using h1
      · simpa using h2.2 i (by simpa using hi)
    · exact fun h1 => sup_tail h1
theorem feas_closed {rs : List RowM} {y : List Int} (hb : ∀ z ∈ y, z = 0 ∨ z = 1) (hF : feasR rs y = true) : Closed rs y := by
  have hbi : ∀ i, i < y.length → y.getD i 0 = 0 ∨ y.getD i 0 = 1 := fun i hi => hb _ (by simp [List.getD, hi])
  refine ⟨fun i hi => .inr (hbi i hi), fun r hr => ⟨?_, fun i hi h => ?_⟩⟩
  · have h1 := hop_leaf (rows := rs) hb
    rw [hF] at h1
    unfold hop at h1
    simp only [Bool.not_true] at h1
    rw [List.any_eq_false] at h1
    have := h1 r hr
    simpa using this
  · rcases hbi i hi with h1 | h1 <;> (rw [h1] at h; simp at h)
theorem filter_tight {rs : List RowM} {fix g : List Int} (hf : ∀ f ∈ fix, f = -1 ∨ f = 0 ∨ f = 1) (hg : ∀ f ∈ g, f = -1 ∨ f = 0 ∨ f = 1) (h : TightTo rs fix (some g)) : (asg g).filter (feasR rs) = (asg fix).filter (feasR rs) := by
  have hl : g.length = fix.length := h.2.1.1.symm
  rw [asg_filter g hg, asg_filter fix hf, List.filter_filter, List.filter_filter, hl]
  apply List.filter_congr
  intro y hy
  have hyl : y.length = fix.length := by rw [asg_len _ y hy]; simp
  have hyb := asg_bits _ (fun f hf => .inl (List.eq_of_mem_replicate hf)) y hy
  rw [Bool.eq_iff_iff]
  simp only [Bool.and_eq_true]
  rw [fixL_sup g y (by omega), fixL_sup fix y (by omega)]
  constructor
  · rintro ⟨h1, h2⟩
    exact ⟨h1, sup_trans h.2.1 h2⟩
  · rintro ⟨h1, h2⟩
    exact ⟨h1, h.2.2 y (feas_closed hyb h1) h2⟩
theorem best_tight {rs : List RowM} {val fix g : List Int} (hf : ∀ f ∈ fix, f = -1 ∨ f = 0 ∨ f = 1) (hg : ∀ f ∈ g, f = -1 ∨ f = 0 ∨ f = 1) (h : TightTo rs fix (some g)) : bestOf rs val g = bestOf rs val fix := by
  unfold bestOf
  rw [foldR_filter (asg g), foldR_filter (asg fix), filter_tight hf hg h]
theorem best_none {rs : List RowM} {val fix : List Int} (hf : ∀ f ∈ fix, f = -1 ∨ f = 0 ∨ f = 1) (h : TightTo rs fix none) : (bestOf rs val fix).1 = none := by
  rcases hb : (bestOf rs val fix).1 with _ | z
  · rfl
  · obtain ⟨⟨⟨y, h1, h2, -⟩, -⟩, -⟩ := (best_spec rs val fix).1 z hb
    exact absurd (asg_sup fix y h1) (h y (feas_closed (asg_bits fix hf y h1) h2))
theorem best_in {rs : List RowM} {val fix z : List Int} {m : Int} (h : bestOf rs val fix = (some z, m)) : z ∈ asg fix ∧ feasR rs z = true ∧ dotL val z = m := by
  obtain ⟨s1, -⟩ := best_spec rs val fix
  obtain ⟨⟨⟨y, h1, h2, h3⟩, h4⟩, h5⟩ := s1 z (by rw [h])
  rw [h] at h3 h4 h5
  obtain ⟨g1, g2, g3⟩ := find_mem h5
  have := h4 z g1 g2
  exact ⟨g1, g2, by simp only at g3 this; omega⟩
/-- no value exceeds the bound, and without rows it is reached -/
theorem asg_hi : ∀ (val fix : List Int), val.length = fix.length → (∀ f ∈ fix, f = -1 ∨ f = 0 ∨ f = 1) → ∃ y ∈ asg fix, dotL val y = hiOf val fix
  | [], [], _, _ => ⟨[], by simp [asg], by simp [dotL, hiOf]⟩
  | [], _ :: _, h, _ => by simp at h
  | _ :: _, [], h, _ => by simp at h
  | v :: vs, f :: fs, h, hf => by
    obtain ⟨y, h1, h2⟩ := asg_hi vs fs (by simpa using h) fun g hg => hf g (by simp [hg])
    simp only [asg, hiOf]
    by_cases hm : f = -1
    · rw [if_pos hm]
      by_cases hv : 0 < v
      · refine ⟨1 :: y, List.mem_append.2 (.inl (List.mem_map.2 ⟨y, h1, rfl⟩)), ?_⟩
        simp only [dotL, h2]; unfold hiT; rw [if_pos (.inr ⟨hm, hv⟩)]; omega
      · refine ⟨0 :: y, List.mem_append.2 (.inr (List.mem_map.2 ⟨y, h1, rfl⟩)), ?_⟩
        simp only [dotL, h2]; unfold hiT; rw [if_neg (by omega)]; omega
    · rw [if_neg hm]
      refine ⟨f :: y, List.mem_map.2 ⟨y, h1, rfl⟩, ?_⟩
      simp only [dotL, h2]
      rcases (hf f (by simp)).resolve_left hm with rfl | rfl
      · unfold hiT; rw [if_neg (by omega)]; omega
      · unfold hiT; rw [if_pos (.inl rfl)]; omega
theorem asg_le {val fix y : List Int} (hf : ∀ f ∈ fix, f = -1 ∨ f = 0 ∨ f = 1) (hy : y ∈ asg fix) : dotL val y ≤ hiOf val fix := by
  have h1 := hi_mono val (asg_sup fix y hy)
  rw [(lo_bits val y (asg_bits fix hf y hy)).2] at h1
  exact h1
theorem best_free {val fix : List Int} (hl : val.length = fix.length) (hf : ∀ f ∈ fix, f = -1 ∨ f = 0 ∨ f = 1) : ∃ z, bestOf [] val fix = (some z, hiOf val fix) := by
  obtain ⟨y, h1, h2⟩ := asg_hi val fix hl hf
  obtain ⟨s1, s2⟩ := best_spec [] val fix
  rcases hb : (bestOf [] val fix).1 with _ | z
  · have := s2 hb y h1
    simp [feasR] at this
  · refine ⟨z, ?_⟩
    obtain ⟨⟨⟨u, h3, -, h4⟩, h5⟩, -⟩ := s1 z hb
    have h6 := h5 y h1 (by simp [feasR])
    have h7 := asg_le (val := val) hf h3
    rw [← hb]
    refine Prod.ext rfl ?_
    show (bestOf [] val fix).2 = hiOf val fix
    omega

end Go.Proofs.Ytkgikajfeihbbaa
