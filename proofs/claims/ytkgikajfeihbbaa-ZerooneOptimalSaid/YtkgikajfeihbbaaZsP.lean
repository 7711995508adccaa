/- 0-1 programs, plain: the search for the best assignment. No program in sight; no condition. -/
import Derived.Test.YtkgikajfeihbbaaZoV
import Derived.Test.YtkgikajfeihbbaaTgP
namespace Go.Proofs.Ytkgikajfeihbbaa
set_option maxRecDepth 100000

/-! ### The search, as a function -/
/-- what the search has found -/
structure Sb where
  least : Int
  best : List Int
  most : Int
  found : Bool
/-- the search over the free variables that are left; ok: each row by itself can be satisfied, bd: what the value does not exceed -/
def visitM (ok : List Nat → List Int → Bool) (bd : List Nat → List Int → Int) (V : List Int → Int) (late : Nat → Bool) (once : Bool) (top : Int) : List Nat → List Int → Sb → Sb
  | [], x, β => if !ok [] x || decide (bd [] x < β.least) then β else ⟨if once then top else V x + 1, x, V x, true⟩
  | i :: r, x, β => if !ok (i :: r) x || decide (bd (i :: r) x < β.least) then β else
    if late i then visitM ok bd V late once top r (x.set i 1) (visitM ok bd V late once top r x β)
    else visitM ok bd V late once top r x (visitM ok bd V late once top r (x.set i 1) β)
/-- all completions, in the order of the search -/
def comps (late : Nat → Bool) : List Nat → List Int → List (List Int)
  | [], x => [x]
  | i :: r, x => if late i then comps late r x ++ comps late r (x.set i 1) else comps late r (x.set i 1) ++ comps late r x
def stepS (F : List Int → Bool) (V : List Int → Int) (once : Bool) (top : Int) (β : Sb) (y : List Int) : Sb :=
  if F y && decide (β.least ≤ V y) then ⟨if once then top else V y + 1, y, V y, true⟩ else β
theorem fold_none {F : List Int → Bool} {V : List Int → Int} {once : Bool} {top : Int} {β : Sb} : ∀ {L : List (List Int)}, (∀ y ∈ L, F y = true → V y < β.least) → L.foldl (stepS F V once top) β = β
  | [], _ => rfl
  | y :: L, h => by
    have h1 := h y (by simp)
    have : stepS F V once top β y = β := by
      unfold stepS
      rcases hF : F y with _ | _
      · simp
      · have := h1 hF
        rw [if_neg]; simp; omega
    rw [List.foldl_cons, this]
    exact fold_none fun z hz => h z (by simp [hz])
theorem visit_fold {ok : List Nat → List Int → Bool} {bd : List Nat → List Int → Int} {F : List Int → Bool} {V : List Int → Int} {late : Nat → Bool} {once : Bool} {top : Int} {G : List Nat → List Int → Prop}
    (hG : ∀ i r x, G (i :: r) x → G r x ∧ G r (x.set i 1)) (hok : ∀ r x, G r x → ok r x = false → ∀ y ∈ comps late r x, F y = false) (hleaf : ∀ x, G [] x → ok [] x = F x) (hb0 : ∀ x, G [] x → bd [] x = V x)
    (hbd : ∀ r x, G r x → ∀ y ∈ comps late r x, F y = true → V y ≤ bd r x) :
    ∀ (r : List Nat) (x : List Int) (β : Sb), G r x → visitM ok bd V late once top r x β = (comps late r x).foldl (stepS F V once top) β
  | [], x, β, hg => by
    simp only [visitM, comps, List.foldl_cons, List.foldl_nil, stepS]
    rw [hleaf x hg, hb0 x hg]
    rcases F x with _ | _
    · simp
    · by_cases h : V x < β.least
      · simp [h, show ¬ β.least ≤ V x by omega]
      · simp [h, show β.least ≤ V x by omega]
  | i :: r, x, β, hg => by
    have hgs := hG i r x hg
    by_cases hc : (!ok (i :: r) x || decide (bd (i :: r) x < β.least)) = true
    · have h1 : visitM ok bd V late once top (i :: r) x β = β := by
        simp only [visitM]; rw [if_pos hc]
      rw [h1, fold_none]
      intro y hy hF
      simp only [Bool.or_eq_true, Bool.not_eq_true', decide_eq_true_eq] at hc
      rcases hc with hc | hc
      · rw [hok _ x hg hc y hy] at hF; cases hF
      · have := hbd _ x hg y hy hF; omega
    · have h1 : visitM ok bd V late once top (i :: r) x β = if late i then visitM ok bd V late once top r (x.set i 1) (visitM ok bd V late once top r x β) else visitM ok bd V late once top r x (visitM ok bd V late once top r (x.set i 1) β) := by
        simp only [visitM]; rw [if_neg hc]
      rw [h1]
      simp only [comps]
      split
      · rw [visit_fold hG hok hleaf hb0 hbd r x β hgs.1, visit_fold hG hok hleaf hb0 hbd r _ _ hgs.2, List.foldl_append]
      · rw [visit_fold hG hok hleaf hb0 hbd r _ β hgs.2, visit_fold hG hok hleaf hb0 hbd r x _ hgs.1, List.foldl_append]
/-- m is the greatest value of a feasible one -/
def IsMax (F : List Int → Bool) (V : List Int → Int) (L : List (List Int)) (m : Int) : Prop := (∃ y ∈ L, F y = true ∧ V y = m) ∧ ∀ y ∈ L, F y = true → V y ≤ m
theorem isMax_uniq {F : List Int → Bool} {V : List Int → Int} {L L' : List (List Int)} (hL : ∀ y, y ∈ L ↔ y ∈ L') {m m' : Int} (h : IsMax F V L m) (h' : IsMax F V L' m') : m = m' := by
  obtain ⟨⟨y, h1, h2, h3⟩, h4⟩ := h
  obtain ⟨⟨z, h5, h6, h7⟩, h8⟩ := h'
  have := h4 z ((hL z).2 h5) h6
  have := h8 y ((hL y).1 h1) h2
  omega
theorem fold_most {F : List Int → Bool} {V : List Int → Int} {top : Int} : ∀ (L : List (List Int)) (β : Sb) (D : List (List Int)), (β.found = true → β.least = β.most + 1 ∧ IsMax F V D β.most) → (β.found = false → (∀ y ∈ D, F y = false) ∧ ∀ y ∈ L, F y = true → β.least ≤ V y) →
    ((L.foldl (stepS F V false top) β).found = true → IsMax F V (D ++ L) (L.foldl (stepS F V false top) β).most) ∧ ((L.foldl (stepS F V false top) β).found = false → ∀ y ∈ D ++ L, F y = false)
  | [], β, D, h1, h2 => by
    refine ⟨fun h => by simpa using (h1 h).2, fun h => by simpa using (h2 h).1⟩
  | y :: L, β, D, h1, h2 => by
    rw [List.foldl_cons]
    have hstep : ((stepS F V false top β y).found = true → (stepS F V false top β y).least = (stepS F V false top β y).most + 1 ∧ IsMax F V (D ++ [y]) (stepS F V false top β y).most) ∧ ((stepS F V false top β y).found = false → (∀ z ∈ D ++ [y], F z = false) ∧ ∀ z ∈ L, F z = true → (stepS F V false top β y).least ≤ V z) := by
      unfold stepS
      by_cases hF : F y = true
      · by_cases hl : β.least ≤ V y
        · rw [if_pos (by simp [hF, hl])]
          refine ⟨fun _ => ⟨rfl, ⟨y, by simp, hF, rfl⟩, fun z hz hz2 => ?_⟩, fun h => by cases h⟩
          rcases List.mem_append.1 hz with hz | hz
          · rcases hfd : β.found with _ | _
            · rw [(h2 hfd).1 z hz] at hz2; cases hz2
            · obtain ⟨h3, h4⟩ := h1 hfd
              have := h4.2 z hz hz2
              show V z ≤ V y
              omega
          · simp at hz; subst hz; exact Int.le_refl _
        · rw [if_neg (by simp [hF]; omega)]
          rcases hfd : β.found with _ | _
          · exact absurd ((h2 hfd).2 y (by simp) hF) hl
          · obtain ⟨h3, ⟨z, h4, h5, h6⟩, h7⟩ := h1 hfd
            refine ⟨fun _ => ⟨h3, ⟨z, by simp [h4], h5, h6⟩, fun u hu hu2 => ?_⟩, fun h => by cases h⟩
            rcases List.mem_append.1 hu with hu | hu
            · exact h7 u hu hu2
            · simp at hu; subst hu; omega
      · have hF' : F y = false := by simpa using hF
        rw [if_neg (by simp [hF'])]
        refine ⟨fun h => ?_, fun h => ?_⟩
        · obtain ⟨h3, ⟨z, h4, h5, h6⟩, h7⟩ := h1 h
          refine ⟨h3, ⟨z, by simp [h4], h5, h6⟩, fun u hu hu2 => ?_⟩
          rcases List.mem_append.1 hu with hu | hu
          · exact h7 u hu hu2
          · simp at hu; subst hu; rw [hF'] at hu2; cases hu2
        · obtain ⟨h3, h4⟩ := h2 h
          refine ⟨fun z hz => ?_, fun z hz hz2 => h4 z (by simp [hz]) hz2⟩
          rcases List.mem_append.1 hz with hz | hz
          · exact h3 z hz
          · simp at hz; subst hz; exact hF'
    have := fold_most (top := top) L (stepS F V false top β y) (D ++ [y]) hstep.1 hstep.2
    simpa using this
/-- the first that is as good as m -/
def firstAt (F : List Int → Bool) (V : List Int → Int) (m : Int) (L : List (List Int)) : Option (List Int) := L.find? fun y => F y && decide (m ≤ V y)
theorem fold_first {F : List Int → Bool} {V : List Int → Int} {top : Int} : ∀ (L : List (List Int)) (β : Sb), (∀ y ∈ L, F y = true → V y < top) → ∀ z, firstAt F V β.least L = some z → (L.foldl (stepS F V true top) β).best = z
  | [], β, _, z, h => by simp [firstAt] at h
  | y :: L, β, ht, z, h => by
    unfold firstAt at h
    rw [List.find?_cons] at h
    rw [List.foldl_cons]
    by_cases hc : (F y && decide (β.least ≤ V y)) = true
    · rw [hc] at h
      have hs : stepS F V true top β y = ⟨top, y, V y, true⟩ := by unfold stepS; rw [if_pos hc]; rfl
      rw [hs, fold_none fun u hu hF => ht u (by simp [hu]) hF]
      cases h; rfl
    · have hc' : (F y && decide (β.least ≤ V y)) = false := by simpa using hc
      rw [hc'] at h
      have hs : stepS F V true top β y = β := by unfold stepS; rw [if_neg hc]
      rw [hs]
      exact fold_first L β (fun u hu => ht u (by simp [hu])) z h
/-- keep the first of the best -/
def stepR (F : List Int → Bool) (V : List Int → Int) (β : Option (List Int) × Int) (y : List Int) : Option (List Int) × Int := if F y && (β.1.isNone || decide (β.2 < V y)) then (some y, V y) else β
theorem find_mem {F : List Int → Bool} {V : List Int → Int} {m : Int} {L : List (List Int)} {z : List Int} (h : firstAt F V m L = some z) : z ∈ L ∧ F z = true ∧ m ≤ V z := by
  unfold firstAt at h
  have h1 := List.mem_of_find?_eq_some h
  have h2 := List.find?_some h
  simp at h2
  exact ⟨h1, h2.1, h2.2⟩
theorem fold_stepR {F : List Int → Bool} {V : List Int → Int} : ∀ (L : List (List Int)) (β : Option (List Int) × Int) (D : List (List Int)), (∀ z, β.1 = some z → IsMax F V D β.2 ∧ firstAt F V β.2 D = some z) → (β.1 = none → ∀ y ∈ D, F y = false) →
    (∀ z, (L.foldl (stepR F V) β).1 = some z → IsMax F V (D ++ L) (L.foldl (stepR F V) β).2 ∧ firstAt F V (L.foldl (stepR F V) β).2 (D ++ L) = some z) ∧ ((L.foldl (stepR F V) β).1 = none → ∀ y ∈ D ++ L, F y = false)
  | [], β, D, h1, h2 => by simpa using ⟨h1, h2⟩
  | y :: L, β, D, h1, h2 => by
    rw [List.foldl_cons]
    have hstep : (∀ z, (stepR F V β y).1 = some z → IsMax F V (D ++ [y]) (stepR F V β y).2 ∧ firstAt F V (stepR F V β y).2 (D ++ [y]) = some z) ∧ ((stepR F V β y).1 = none → ∀ z ∈ D ++ [y], F z = false) := by
      unfold stepR
      by_cases hF : F y = true
      · rcases hb : β.1 with _ | b
        · rw [if_pos (by simp [hF])]
          have h3 := h2 hb
          refine ⟨fun z hz => ?_, fun h => by cases h⟩
          cases hz
          refine ⟨⟨⟨y, by simp, hF, rfl⟩, fun u hu hu2 => ?_⟩, ?_⟩
          · rcases List.mem_append.1 hu with hu | hu
            · rw [h3 u hu] at hu2; cases hu2
            · simp at hu; subst hu; exact Int.le_refl _
          · unfold firstAt
            rw [List.find?_append]
            have : D.find? (fun u => F u && decide (V y ≤ V u)) = none := by
              rw [List.find?_eq_none]; intro u hu; simp [h3 u hu]
            simp [this, hF]
        · obtain ⟨h3, h4⟩ := h1 b hb
          by_cases hl : β.2 < V y
          · rw [if_pos (by simp [hF, hl])]
            refine ⟨fun z hz => ?_, fun h => by cases h⟩
            cases hz
            refine ⟨⟨⟨y, by simp, hF, rfl⟩, fun u hu hu2 => ?_⟩, ?_⟩
            · rcases List.mem_append.1 hu with hu | hu
              · have := h3.2 u hu hu2; show V u ≤ V y; omega
              · simp at hu; subst hu; exact Int.le_refl _
            · unfold firstAt
              rw [List.find?_append]
              have : D.find? (fun u => F u && decide (V y ≤ V u)) = none := by
                rw [List.find?_eq_none]; intro u hu
                rcases hFu : F u with _ | _
                · simp
                · have := h3.2 u hu hFu; simp; omega
              simp [this, hF]
          · rw [if_neg (by simp [hl])]
            refine ⟨fun z hz => ?_, fun h => by rw [hb] at h; cases h⟩
            rw [hb] at hz
            cases hz
            obtain ⟨⟨u, h5, h6, h7⟩, h8⟩ := h3
            refine ⟨⟨⟨u, by simp [h5], h6, h7⟩, fun v hv hv2 => ?_⟩, ?_⟩
            · rcases List.mem_append.1 hv with hv | hv
              · exact h8 v hv hv2
              · simp at hv; subst hv; omega
            · unfold firstAt at h4 ⊢
              rw [List.find?_append, h4]; rfl
      · have hF' : F y = false := by simpa using hF
        rw [if_neg (by simp [hF'])]
        refine ⟨fun z hz => ?_, fun h z hz => ?_⟩
        · obtain ⟨⟨⟨u, h5, h6, h7⟩, h8⟩, h4⟩ := h1 z hz
          refine ⟨⟨⟨u, by simp [h5], h6, h7⟩, fun v hv hv2 => ?_⟩, ?_⟩
          · rcases List.mem_append.1 hv with hv | hv
            · exact h8 v hv hv2
            · simp at hv; subst hv; rw [hF'] at hv2; cases hv2
          · unfold firstAt at h4 ⊢
            rw [List.find?_append, h4]; rfl
        · rcases List.mem_append.1 hz with hz | hz
          · exact h2 h z hz
          · simp at hz; subst hz; exact hF'
    have := fold_stepR L (stepR F V β y) (D ++ [y]) hstep.1 hstep.2
    simpa using this

/-! ### Sums over the variables that are left -/
def lowS (c : List Int) : List Nat → Int
  | [] => 0
  | i :: r => lowS c r + min (c.getD i 0) 0
def highS (c : List Int) : List Nat → Int
  | [] => 0
  | i :: r => highS c r + max (c.getD i 0) 0
/-- x has 0 at the variables that are left, which are apart -/
structure Gd (n : Nat) (r : List Nat) (x : List Int) : Prop where
  len : x.length = n
  lt : ∀ i ∈ r, i < n
  zero : ∀ i ∈ r, x.getD i 0 = 0
  nd : r.Nodup
theorem Gd.tail {n i : Nat} {r : List Nat} {x : List Int} (h : Gd n (i :: r) x) : Gd n r x ∧ Gd n r (x.set i 1) := by
  have hnd := List.nodup_cons.1 h.nd
  refine ⟨⟨h.len, fun j hj => h.lt j (by simp [hj]), fun j hj => h.zero j (by simp [hj]), hnd.2⟩, ⟨by simp [h.len], fun j hj => h.lt j (by simp [hj]), fun j hj => ?_, hnd.2⟩⟩
  have hne : i ≠ j := fun e => hnd.1 (e ▸ hj)
  have := h.zero j (by simp [hj])
  simp only [List.getD, List.getElem?_set_ne hne] at this ⊢
  exact this
theorem dotL_set : ∀ (c x : List Int) (i : Nat) (v : Int), c.length = x.length → i < x.length → dotL c (x.set i v) = dotL c x + c.getD i 0 * (v - x.getD i 0)
  | [], x, i, v, h, hi => by simp at h; omega
  | c :: cs, [], i, v, h, hi => by simp at hi
  | c :: cs, a :: xs, 0, v, h, _ => by
    simp only [List.set, dotL, List.getD_cons_zero]
    rw [Int.mul_sub]; omega
  | c :: cs, a :: xs, i + 1, v, h, hi => by
    simp only [List.set, dotL, List.getD_cons_succ]
    rw [dotL_set cs xs i v (by simpa using h) (by simpa using hi)]; omega
theorem comps_dot {late : Nat → Bool} {n : Nat} (c : List Int) (hc : c.length = n) : ∀ (r : List Nat) (x : List Int), Gd n r x → ∀ y ∈ comps late r x, dotL c x + lowS c r ≤ dotL c y ∧ dotL c y ≤ dotL c x + highS c r
  | [], x, _, y, hy => by
    simp [comps] at hy; subst hy; simp [lowS, highS]
  | i :: r, x, hg, y, hy => by
    have hgs := hg.tail
    have hi := hg.lt i (by simp)
    have hz := hg.zero i (by simp)
    have hs : dotL c (x.set i 1) = dotL c x + c.getD i 0 := by
      rw [dotL_set c x i 1 (by rw [hc, hg.len]) (by rw [hg.len]; exact hi), hz]; omega
    have hy' : y ∈ comps late r x ∨ y ∈ comps late r (x.set i 1) := by
      simp only [comps] at hy
      split at hy
      · exact List.mem_append.1 hy
      · exact (List.mem_append.1 hy).symm
    simp only [lowS, highS]
    rcases hy' with hy' | hy'
    · have := comps_dot c hc r x hgs.1 y hy'
      omega
    · have := comps_dot c hc r _ hgs.2 y hy'
      rw [hs] at this
      omega
/-- each row by itself can be satisfied -/
def okRow (r : List Nat) (x : List Int) (q : RowM) : Bool := !(decide (q.mx < dotL q.coef x + lowS q.coef r) || decide (dotL q.coef x + highS q.coef r < q.mn))
def okS (rows : List RowM) (r : List Nat) (x : List Int) : Bool := rows.all (okRow r x)
def feasR (rows : List RowM) (x : List Int) : Bool := rows.all (rowOk x)
theorem ok_leaf (rows : List RowM) (x : List Int) : okS rows [] x = feasR rows x := by
  unfold okS feasR
  congr 1
  funext q
  unfold okRow rowOk
  rw [Bool.eq_iff_iff]
  simp [lowS, highS]
  omega
theorem ok_not {late : Nat → Bool} {n : Nat} {rows : List RowM} (hc : ∀ q ∈ rows, q.coef.length = n) {r : List Nat} {x : List Int} (hg : Gd n r x) (h : okS rows r x = false) : ∀ y ∈ comps late r x, feasR rows y = false := by
  intro y hy
  unfold okS at h
  rw [List.all_eq_false] at h
  obtain ⟨q, hq, h1⟩ := h
  have h2 := comps_dot (late := late) q.coef (hc q hq) r x hg y hy
  unfold feasR
  rw [List.all_eq_false]
  refine ⟨q, hq, ?_⟩
  unfold okRow at h1
  unfold rowOk
  simp at h1 ⊢
  omega

/-! ### The bound -/
/-- what the values of some variables can add: of those of a kind only so many -/
def greedy (v : Nat → Int) (wd : Nat → Bool) : Int → List Nat → Int
  | _, [] => 0
  | room, i :: l => if wd i then (if room ≤ 0 then greedy v wd room l else v i + greedy v wd (room - 1) l) else v i + greedy v wd room l
def selSum (v : Nat → Int) (s : Nat → Bool) : List Nat → Int
  | [] => 0
  | i :: l => selSum v s l + if s i then v i else 0
def selCnt (wd s : Nat → Bool) : List Nat → Int
  | [] => 0
  | i :: l => selCnt wd s l + if wd i && s i then 1 else 0
theorem selCnt_nn (wd s : Nat → Bool) (l : List Nat) : 0 ≤ selCnt wd s l := by
  induction l with
  | nil => simp [selCnt]
  | cons i l ih => simp only [selCnt]; split <;> omega
theorem greedy_room {v : Nat → Int} {wd : Nat → Bool} : ∀ (l : List Nat) (room : Int) (m : Int), 0 < room → (∀ j ∈ l, 0 ≤ v j ∧ v j ≤ m) → 0 ≤ m → greedy v wd room l ≤ m + greedy v wd (room - 1) l
  | [], room, m, _, _, hm => by simp [greedy]; omega
  | i :: l, room, m, hr, hl, hm => by
    have hi := hl i (by simp)
    have hl' : ∀ j ∈ l, 0 ≤ v j ∧ v j ≤ m := fun j hj => hl j (by simp [hj])
    simp only [greedy]
    by_cases hw : wd i = true
    · rw [if_pos hw, if_pos hw, if_neg (by omega)]
      by_cases h1 : room - 1 ≤ 0
      · rw [if_pos h1]; omega
      · rw [if_neg h1]
        have := greedy_room (v := v) (wd := wd) l (room - 1) m (by omega) hl' hm
        omega
    · rw [if_neg hw, if_neg hw]
      have := greedy_room (v := v) (wd := wd) l room m hr hl' hm
      omega
theorem greedy_sel {v : Nat → Int} {wd s : Nat → Bool} : ∀ (l : List Nat) (room : Int), l.Pairwise (fun a b => v b ≤ v a) → (∀ j ∈ l, 0 ≤ v j) → selCnt wd s l ≤ room → selSum v s l ≤ greedy v wd room l
  | [], _, _, _, _ => by simp [selSum, greedy]
  | i :: l, room, hs, hp, hc => by
    have hs' := List.pairwise_cons.1 hs
    have hp' : ∀ j ∈ l, 0 ≤ v j := fun j hj => hp j (by simp [hj])
    have hi := hp i (by simp)
    simp only [selSum, selCnt, greedy] at hc ⊢
    have hnn := selCnt_nn wd s l
    by_cases hw : wd i = true
    · rw [if_pos hw]
      by_cases hsi : s i = true
      · simp only [hw, hsi, Bool.and_self, if_true] at hc
        have ih := greedy_sel (v := v) (wd := wd) (s := s) l (room - 1) hs'.2 hp' (by omega)
        rw [if_pos hsi, if_neg (by omega)]; omega
      · have hsi' : s i = false := by simpa using hsi
        simp only [hsi', Bool.and_false, Bool.false_eq_true, if_false] at hc ⊢
        have ih := greedy_sel (v := v) (wd := wd) (s := s) l room hs'.2 hp' (by omega)
        by_cases hr : room ≤ 0
        · rw [if_pos hr]; omega
        · rw [if_neg hr]
          have := greedy_room (v := v) (wd := wd) l room (v i) (by omega) (fun j hj => ⟨hp' j hj, hs'.1 j hj⟩) hi
          omega
    · have hw' : wd i = false := by simpa using hw
      rw [if_neg hw]
      simp only [hw', Bool.false_and, Bool.false_eq_true, if_false] at hc
      have ih := greedy_sel (v := v) (wd := wd) (s := s) l room hs'.2 hp' (by omega)
      split <;> omega
theorem selSum_perm {v : Nat → Int} {s : Nat → Bool} {l l' : List Nat} (h : l.Perm l') : selSum v s l = selSum v s l' := by
  induction h with
  | nil => rfl
  | cons x _ ih => simp only [selSum, ih]
  | swap x y l => simp only [selSum]; omega
  | trans _ _ h1 h2 => exact h1.trans h2
theorem selCnt_perm {wd s : Nat → Bool} {l l' : List Nat} (h : l.Perm l') : selCnt wd s l = selCnt wd s l' := by
  induction h with
  | nil => rfl
  | cons x _ ih => simp only [selCnt, ih]
  | swap x y l => simp only [selCnt]; omega
  | trans _ _ h1 h2 => exact h1.trans h2
theorem selSum_pos {v : Nat → Int} {s : Nat → Bool} : ∀ (l : List Nat), selSum v s l ≤ selSum v s (l.filter fun i => decide (0 < v i))
  | [] => by simp [selSum]
  | i :: l => by
    have ih := selSum_pos (v := v) (s := s) l
    by_cases h : 0 < v i
    · rw [List.filter_cons_of_pos (by simpa using h)]; simp only [selSum]; omega
    · rw [List.filter_cons_of_neg (by simpa using h)]; simp only [selSum]; split <;> omega
theorem selCnt_filter {wd s : Nat → Bool} {p : Nat → Bool} : ∀ (l : List Nat), selCnt wd s (l.filter p) ≤ selCnt wd s l
  | [] => by simp [selCnt]
  | i :: l => by
    have ih := selCnt_filter (wd := wd) (s := s) (p := p) l
    rcases h : p i with _ | _
    · rw [List.filter_cons_of_neg (by simp [h])]; simp only [selCnt]; split <;> omega
    · rw [List.filter_cons_of_pos h]; simp only [selCnt]; omega
/-- the value of a completion, told by the ones among the variables that are left -/
theorem comps_sel {late : Nat → Bool} {n : Nat} : ∀ (r : List Nat) (x : List Int), Gd n r x → ∀ y ∈ comps late r x, y.length = n ∧ (∀ j, j ∉ r → y.getD j 0 = x.getD j 0) ∧ (∀ j ∈ r, y.getD j 0 = 0 ∨ y.getD j 0 = 1) ∧ ∀ c : List Int, c.length = n → dotL c y = dotL c x + selSum (fun i => c.getD i 0) (fun i => y.getD i 0 == 1) r
  | [], x, hg, y, hy => by
    simp [comps] at hy; subst hy
    exact ⟨hg.len, fun _ _ => rfl, by simp, fun c _ => by simp [selSum]⟩
  | i :: r, x, hg, y, hy => by
    have hgs := hg.tail
    have hi := hg.lt i (by simp)
    have hz := hg.zero i (by simp)
    have hnd := List.nodup_cons.1 hg.nd
    have hy' : y ∈ comps late r x ∨ y ∈ comps late r (x.set i 1) := by
      simp only [comps] at hy
      split at hy
      · exact List.mem_append.1 hy
      · exact (List.mem_append.1 hy).symm
    rcases hy' with hy' | hy'
    · obtain ⟨h1, h2, h3, h4⟩ := comps_sel r x hgs.1 y hy'
      have hyi : y.getD i 0 = 0 := by rw [h2 i hnd.1, hz]
      refine ⟨h1, fun j hj => h2 j fun h => hj (by simp [h]), fun j hj => ?_, fun c hc => ?_⟩
      · rcases List.mem_cons.1 hj with rfl | hj
        · exact .inl hyi
        · exact h3 j hj
      · have e : (y.getD i 0 == 1) = false := by rw [hyi]; rfl
        rw [h4 c hc]; simp only [selSum]; rw [if_neg (by rw [e]; simp)]; omega
    · obtain ⟨h1, h2, h3, h4⟩ := comps_sel r _ hgs.2 y hy'
      have hset : (x.set i 1).getD i 0 = 1 := by simp [List.getD, hg.len, hi]
      have hyi : y.getD i 0 = 1 := by rw [h2 i hnd.1, hset]
      refine ⟨h1, fun j hj => ?_, fun j hj => ?_, fun c hc => ?_⟩
      · have hne : i ≠ j := fun e => hj (by simp [e])
        rw [h2 j fun h => hj (by simp [h])]
        simp only [List.getD, List.getElem?_set_ne hne]
      · rcases List.mem_cons.1 hj with rfl | hj
        · exact .inr hyi
        · exact h3 j hj
      · rw [h4 c hc, dotL_set c x i 1 (by rw [hc, hg.len]) (by rw [hg.len]; exact hi), hz]
        have e : (y.getD i 0 == 1) = true := by rw [hyi]; rfl
        simp only [selSum]; rw [if_pos e]; omega
/-- the bound of the search: q the row of zeros and ones, if there is one, M the variables of positive value that are left, by falling value -/
def wdOf : Option RowM → Nat → Bool
  | none, _ => false
  | some q, i => q.coef.getD i 0 == 1
def roomOf : Option RowM → List Int → Int
  | none, _ => 0
  | some q, x => q.mx - dotL q.coef x
def bdS (val : List Int) (q : Option RowM) (M : List Nat) (x : List Int) : Int := dotL val x + greedy (fun i => val.getD i 0) (wdOf q) (roomOf q x) M
theorem selSum_cnt {c : List Int} {s : Nat → Bool} : ∀ (l : List Nat), (∀ j ∈ l, c.getD j 0 = 0 ∨ c.getD j 0 = 1) → selSum (fun i => c.getD i 0) s l = selCnt (fun i => c.getD i 0 == 1) s l
  | [], _ => rfl
  | i :: l, h => by
    have ih := selSum_cnt (c := c) (s := s) l fun j hj => h j (by simp [hj])
    simp only [selSum, selCnt]
    rw [ih]
    rcases h i (by simp) with h1 | h1
    · simp only [h1]; simp
    · simp only [h1]; simp
theorem bd_ok {late : Nat → Bool} {n : Nat} {val : List Int} {rows : List RowM} {q : Option RowM} (hv : val.length = n) (hq : ∀ w, q = some w → w ∈ rows ∧ w.coef.length = n ∧ ∀ j, w.coef.getD j 0 = 0 ∨ w.coef.getD j 0 = 1)
    {r M : List Nat} {x : List Int} (hg : Gd n r x) (hM : M.Perm (r.filter fun i => decide (0 < val.getD i 0))) (hs : M.Pairwise (fun a b => val.getD b 0 ≤ val.getD a 0)) : ∀ y ∈ comps late r x, feasR rows y = true → dotL val y ≤ bdS val q M x := by
  intro y hy hF
  obtain ⟨-, -, hb, hd⟩ := comps_sel r x hg y hy
  unfold bdS
  rw [hd val hv]
  have h1 := selSum_pos (v := fun i => val.getD i 0) (s := fun i => y.getD i 0 == 1) r
  rw [← selSum_perm hM] at h1
  have h2 : selCnt (wdOf q) (fun i => y.getD i 0 == 1) M ≤ roomOf q x := by
    rw [selCnt_perm hM]
    refine Int.le_trans (selCnt_filter r) ?_
    rcases q with _ | w
    · have : ∀ l : List Nat, selCnt (wdOf none) (fun i => y.getD i 0 == 1) l = 0 := by
        intro l
        induction l with
        | nil => rfl
        | cons i l ih => simp only [selCnt, ih]; simp [wdOf]
      rw [this r]; exact Int.le_refl _
    · obtain ⟨hw, hl, h01⟩ := hq w rfl
      have h3 : rowOk y w = true := by
        unfold feasR at hF
        rw [List.all_eq_true] at hF
        exact hF w hw
      unfold rowOk at h3
      simp only [Bool.and_eq_true, decide_eq_true_eq] at h3
      rw [hd w.coef hl, selSum_cnt r fun j _ => h01 j] at h3
      have h4 := h3.2
      show selCnt (fun i => w.coef.getD i 0 == 1) (fun i => y.getD i 0 == 1) r ≤ w.mx - dotL w.coef x
      omega
  have h3 := greedy_sel (v := fun i => val.getD i 0) (wd := wdOf q) (s := fun i => y.getD i 0 == 1) M (roomOf q x) hs (fun j hj => by
    have := (hM.mem_iff).1 hj
    rw [List.mem_filter] at this
    have h9 := this.2
    simp only [decide_eq_true_eq] at h9
    show 0 ≤ val.getD j 0
    omega) h2
  omega

/-! ### All assignments, those with a 1 first -/
def asg : List Int → List (List Int)
  | [] => [[]]
  | f :: fs => if f = -1 then (asg fs).map (fun y => 1 :: y) ++ (asg fs).map (fun y => 0 :: y) else (asg fs).map (fun y => f :: y)
def freeIx : Nat → List Int → List Nat
  | _, [] => []
  | k, f :: fs => if f = -1 then k :: freeIx (k + 1) fs else freeIx (k + 1) fs
def x0Of (fs : List Int) : List Int := fs.map fun f => max f 0
theorem comps_asg : ∀ (fs pre : List Int), (∀ f ∈ fs, f = -1 ∨ 0 ≤ f) → comps (fun _ => false) (freeIx pre.length fs) (pre ++ x0Of fs) = (asg fs).map (fun y => pre ++ y)
  | [], pre, _ => by simp [freeIx, comps, asg, x0Of]
  | f :: fs, pre, h => by
    have h' : ∀ g ∈ fs, g = -1 ∨ 0 ≤ g := fun g hg => h g (by simp [hg])
    have ih := fun v => comps_asg fs (pre ++ [v]) h'
    simp only [freeIx, asg]
    by_cases hf : f = -1
    · rw [if_pos hf, if_pos hf]
      simp only [comps, Bool.false_eq_true, if_false]
      have e0 : pre ++ x0Of (f :: fs) = (pre ++ [0]) ++ x0Of fs := by subst hf; simp [x0Of]; decide
      have e1 : (pre ++ x0Of (f :: fs)).set pre.length 1 = (pre ++ [1]) ++ x0Of fs := by
        rw [e0]; simp
      rw [e1, e0]
      have hl : ∀ v : Int, (pre ++ [v]).length = pre.length + 1 := fun v => by simp
      have i1 := ih 1
      have i0 := ih 0
      rw [hl] at i1 i0
      rw [i1, i0]
      simp [List.map_map, Function.comp_def]
    · rw [if_neg hf, if_neg hf]
      have hf0 : 0 ≤ f := (h f (by simp)).resolve_left hf
      have e0 : pre ++ x0Of (f :: fs) = (pre ++ [f]) ++ x0Of fs := by simp [x0Of]; omega
      have i1 := ih f
      rw [show (pre ++ [f]).length = pre.length + 1 by simp] at i1
      rw [e0, i1]
      simp [List.map_map, Function.comp_def]
theorem comps_mem {late : Nat → Bool} {n : Nat} : ∀ (r : List Nat) (x : List Int), Gd n r x → ∀ y : List Int, y.length = n → (∀ j, j ∉ r → y.getD j 0 = x.getD j 0) → (∀ j ∈ r, y.getD j 0 = 0 ∨ y.getD j 0 = 1) → y ∈ comps late r x
  | [], x, hg, y, hl, h, _ => by
    have : y = x := by
      refine List.ext_getElem (by rw [hl, hg.len]) fun j h1 h2 => ?_
      have := h j (by simp)
      simpa [List.getD, h1, h2] using this
    simp [comps, this]
  | i :: r, x, hg, y, hl, h, hb => by
    have hgs := hg.tail
    have hi := hg.lt i (by simp)
    have hz := hg.zero i (by simp)
    have hnd := List.nodup_cons.1 hg.nd
    have key : y ∈ comps late r x ∨ y ∈ comps late r (x.set i 1) := by
      rcases hb i (by simp) with h0 | h1
      · refine .inl (comps_mem r x hgs.1 y hl (fun j hj => ?_) fun j hj => hb j (by simp [hj]))
        by_cases hji : j = i
        · subst hji; rw [h0, hz]
        · exact h j (by simp [hji, hj])
      · refine .inr (comps_mem r _ hgs.2 y hl (fun j hj => ?_) fun j hj => hb j (by simp [hj]))
        by_cases hji : j = i
        · subst hji; rw [h1]; simp [List.getD, hg.len, hi]
        · rw [h j (by simp [hji, hj])]
          simp only [List.getD, List.getElem?_set_ne (Ne.symm hji)]
    simp only [comps]
    split
    · exact List.mem_append.2 key
    · exact List.mem_append.2 key.symm
theorem comps_set {late late' : Nat → Bool} {n : Nat} {r r' : List Nat} {x : List Int} (hg : Gd n r x) (hg' : Gd n r' x) (hr : ∀ j, j ∈ r ↔ j ∈ r') : ∀ y, y ∈ comps late r x ↔ y ∈ comps late' r' x := by
  intro y
  constructor
  · intro hy
    obtain ⟨h1, h2, h3, -⟩ := comps_sel r x hg y hy
    exact comps_mem r' x hg' y h1 (fun j hj => h2 j fun h => hj ((hr j).1 h)) fun j hj => h3 j ((hr j).2 hj)
  · intro hy
    obtain ⟨h1, h2, h3, -⟩ := comps_sel r' x hg' y hy
    exact comps_mem r x hg y h1 (fun j hj => h2 j fun h => hj ((hr j).2 h)) fun j hj => h3 j ((hr j).1 hj)

/-! ### The reference's search -/
def hop (rows : List RowM) (x : List Int) : Bool := rows.any fun q => !canB q x
def fromM (rows : List RowM) (val : List Int) : List Int → List Int → Int → Option (List Int) × Int → Option (List Int) × Int
  | [], pre, v, β => if hop rows pre || (β.1.isSome && decide (v ≤ β.2)) then β else (some pre, v)
  | f :: fs, pre, v, β => if hop rows (pre ++ f :: fs) || (β.1.isSome && decide (v + hiOf (val.drop pre.length) (f :: fs) ≤ β.2)) then β else
    (fun β1 => if f = -1 ∨ f = 0 then fromM rows val fs (pre ++ [0]) v β1 else β1) (if f = -1 ∨ f = 1 then fromM rows val fs (pre ++ [1]) (v + val.getD pre.length 0) β else β)
theorem foldR_none {F : List Int → Bool} {V : List Int → Int} {β : Option (List Int) × Int} : ∀ {L : List (List Int)}, (∀ y ∈ L, F y = true → β.1.isSome = true ∧ V y ≤ β.2) → L.foldl (stepR F V) β = β
  | [], _ => rfl
  | y :: L, h => by
    have h1 := h y (by simp)
    have : stepR F V β y = β := by
      unfold stepR
      rcases hF : F y with _ | _
      · simp
      · obtain ⟨h2, h3⟩ := h1 hF
        rw [if_neg]
        rcases hb : β.1 with _ | b
        · rw [hb] at h2; cases h2
        · simp; omega
    rw [List.foldl_cons, this]
    exact foldR_none fun z hz => h z (by simp [hz])
theorem asg_len : ∀ (fs : List Int), ∀ y ∈ asg fs, y.length = fs.length
  | [], y, hy => by simp [asg] at hy; simp [hy]
  | f :: fs, y, hy => by
    simp only [asg] at hy
    split at hy
    · rcases List.mem_append.1 hy with hy | hy <;> (obtain ⟨z, hz, rfl⟩ := List.mem_map.1 hy; simp [asg_len fs z hz])
    · obtain ⟨z, hz, rfl⟩ := List.mem_map.1 hy; simp [asg_len fs z hz]
theorem asg_sup : ∀ (fs : List Int), ∀ y ∈ asg fs, Sup fs y
  | [], y, hy => by simp [asg] at hy; subst hy; exact sup_refl []
  | f :: fs, y, hy => by
    have cons : ∀ (a b : Int) (g z : List Int), (a = -1 ∨ b = a) → Sup g z → Sup (a :: g) (b :: z) := by
      intro a b g z h1 h2
      refine ⟨by simp [h2.1], fun i hi => ?_⟩
      rcases i with _ | i
      · simpa using h1
      · simpa using h2.2 i (by simpa using hi)
    simp only [asg] at hy
    split at hy
    · rename_i hf
      rcases List.mem_append.1 hy with hy | hy <;> (obtain ⟨z, hz, rfl⟩ := List.mem_map.1 hy; exact cons _ _ _ _ (.inl hf) (asg_sup fs z hz))
    · obtain ⟨z, hz, rfl⟩ := List.mem_map.1 hy
      exact cons _ _ _ _ (.inr rfl) (asg_sup fs z hz)
theorem asg_bits : ∀ (fs : List Int), (∀ f ∈ fs, f = -1 ∨ f = 0 ∨ f = 1) → ∀ y ∈ asg fs, ∀ z ∈ y, z = 0 ∨ z = 1
  | [], _, y, hy => by simp [asg] at hy; subst hy; simp
  | f :: fs, h, y, hy => by
    have h' : ∀ g ∈ fs, g = -1 ∨ g = 0 ∨ g = 1 := fun g hg => h g (by simp [hg])
    simp only [asg] at hy
    split at hy
    · rcases List.mem_append.1 hy with hy | hy <;> (obtain ⟨z, hz, rfl⟩ := List.mem_map.1 hy; intro u hu; rcases List.mem_cons.1 hu with rfl | hu)
      · exact .inr rfl
      · exact asg_bits fs h' z hz u hu
      · exact .inl rfl
      · exact asg_bits fs h' z hz u hu
    · rename_i hf
      obtain ⟨z, hz, rfl⟩ := List.mem_map.1 hy
      intro u hu
      rcases List.mem_cons.1 hu with rfl | hu
      · exact (h u (by simp)).resolve_left hf
      · exact asg_bits fs h' z hz u hu
theorem lo_bits : ∀ (c y : List Int), (∀ z ∈ y, z = 0 ∨ z = 1) → loOf c y = dotL c y ∧ hiOf c y = dotL c y
  | [], _, _ => by simp [loOf, hiOf, dotL]
  | c :: cs, [], _ => by simp [loOf, hiOf, dotL]
  | c :: cs, z :: y, h => by
    obtain ⟨h1, h2⟩ := lo_bits cs y fun u hu => h u (by simp [hu])
    simp only [loOf, hiOf, dotL, h1, h2]
    rcases h z (by simp) with rfl | rfl <;> simp [loT, hiT]
theorem sup_pre (pre : List Int) {f g : List Int} (h : Sup f g) : Sup (pre ++ f) (pre ++ g) := by
  refine ⟨by simp [h.1], fun i hi => ?_⟩
  by_cases hp : i < pre.length
  · right; simp [List.getD, List.getElem?_append_left hp]
  · have h2 := h.2 (i - pre.length) (by simp at hi; omega)
    simpa [List.getD, List.getElem?_append_right (show pre.length ≤ i by omega)] using h2
theorem dotL_app : ∀ (pre c y : List Int), pre.length ≤ c.length → dotL c (pre ++ y) = dotL (c.take pre.length) pre + dotL (c.drop pre.length) y
  | [], c, y, _ => by simp [dotL]
  | p :: pre, [], y, h => by simp at h
  | p :: pre, c :: cs, y, h => by
    simp only [List.cons_append, dotL, List.length_cons, List.take_succ_cons, List.drop_succ_cons]
    rw [dotL_app pre cs y (by simpa using h)]; omega
theorem hop_all {rows : List RowM} {x : List Int} (h : hop rows x = true) {y : List Int} (hs : Sup x y) (hb : ∀ z ∈ y, z = 0 ∨ z = 1) : feasR rows y = false := by
  unfold hop at h
  rw [List.any_eq_true] at h
  obtain ⟨q, hq, h1⟩ := h
  unfold feasR
  rw [List.all_eq_false]
  refine ⟨q, hq, ?_⟩
  obtain ⟨e1, e2⟩ := lo_bits q.coef y hb
  have m1 := lo_mono q.coef hs
  have m2 := hi_mono q.coef hs
  rw [e1] at m1
  rw [e2] at m2
  unfold canB at h1
  unfold rowOk
  simp at h1 ⊢
  omega
theorem hop_leaf {rows : List RowM} {y : List Int} (hb : ∀ z ∈ y, z = 0 ∨ z = 1) : hop rows y = !feasR rows y := by
  unfold hop feasR
  rw [List.any_eq_not_all_not]
  congr 1
  congr 1
  funext q
  obtain ⟨e1, e2⟩ := lo_bits q.coef y hb
  unfold canB rowOk
  rw [e1, e2, Bool.eq_iff_iff]
  simp
  omega
theorem from_fold {rows : List RowM} {val : List Int} : ∀ (fs pre : List Int) (v : Int) (β : Option (List Int) × Int), pre.length + fs.length = val.length → v = dotL (val.take pre.length) pre → (∀ f ∈ fs, f = -1 ∨ f = 0 ∨ f = 1) → (∀ z ∈ pre, z = 0 ∨ z = 1) →
    fromM rows val fs pre v β = ((asg fs).map (fun y => pre ++ y)).foldl (stepR (feasR rows) (dotL val)) β
  | [], pre, v, β, hl, hv, hf, hb => by
    have e : dotL val pre = v := by
      rw [hv, List.take_of_length_le (by simp at hl; omega)]
    simp only [fromM, asg, List.map_cons, List.map_nil, List.append_nil, List.foldl_cons, List.foldl_nil, stepR]
    rw [hop_leaf hb, e]
    rcases feasR rows pre with _ | _
    · simp
    · rcases β.1 with _ | b
      · simp
      · by_cases h : v ≤ β.2
        · simp [h, show ¬ β.2 < v by omega]
        · simp [h, show β.2 < v by omega]
  | f :: fs, pre, v, β, hl, hv, hf, hb => by
    have hf' : ∀ g ∈ fs, g = -1 ∨ g = 0 ∨ g = 1 := fun g hg => hf g (by simp [hg])
    have hlt : pre.length < val.length := by simp at hl; omega
    by_cases hc : (hop rows (pre ++ f :: fs) || (β.1.isSome && decide (v + hiOf (val.drop pre.length) (f :: fs) ≤ β.2))) = true
    · have h1 : fromM rows val (f :: fs) pre v β = β := by simp only [fromM]; rw [if_pos hc]
      rw [h1, foldR_none]
      intro y hy hF
      obtain ⟨z, hz, rfl⟩ := List.mem_map.1 hy
      have hsz := asg_sup _ z hz
      have hbz := asg_bits _ hf z hz
      have hball : ∀ u ∈ pre ++ z, u = 0 ∨ u = 1 := fun u hu => (List.mem_append.1 hu).elim (hb u) (hbz u)
      rw [Bool.or_eq_true] at hc
      rcases hc with hc | hc
      · rw [hop_all hc (sup_pre pre hsz) hball] at hF; cases hF
      · rw [Bool.and_eq_true] at hc
        refine ⟨hc.1, ?_⟩
        have h2 := hc.2
        simp only [decide_eq_true_eq] at h2
        rw [dotL_app pre val z (by omega), ← hv]
        have h3 := hi_mono (val.drop pre.length) hsz
        rw [(lo_bits _ z hbz).2] at h3
        omega
    · have h1 : fromM rows val (f :: fs) pre v β = (fun β1 => if f = -1 ∨ f = 0 then fromM rows val fs (pre ++ [0]) v β1 else β1) (if f = -1 ∨ f = 1 then fromM rows val fs (pre ++ [1]) (v + val.getD pre.length 0) β else β) := by
        simp only [fromM]; rw [if_neg hc]
      have hl' : ∀ u : Int, (pre ++ [u]).length + fs.length = val.length := fun u => by simp at hl ⊢; omega
      have hvu : ∀ u : Int, v + val.getD pre.length 0 * u = dotL (val.take (pre ++ [u]).length) (pre ++ [u]) := fun u => by
        have h4 : val.take (pre ++ [u]).length = val.take pre.length ++ [val.getD pre.length 0] := by
          rw [show (pre ++ [u]).length = pre.length + 1 by simp]
          rw [List.take_add_one]; simp [List.getD, hlt]
        rw [h4, hv]
        have h5 := dotL_app pre (val.take pre.length ++ [val.getD pre.length 0]) [u] (by simp; omega)
        rw [h5]
        have h6 : (val.take pre.length).length = pre.length := by simp; omega
        rw [List.take_append, h6, List.drop_append, h6]
        simp [dotL]
        have h7 := dotL_app pre val [] (by omega)
        have h8 : dotL (val.drop pre.length) [] = 0 := by cases val.drop pre.length <;> rfl
        rw [List.append_nil, h8] at h7
        have h9 : (val.take pre.length).take pre.length = val.take pre.length := by rw [List.take_take, Nat.min_self]
        rw [h9]
      have hbu : ∀ u : Int, (u = 0 ∨ u = 1) → ∀ z ∈ pre ++ [u], z = 0 ∨ z = 1 := fun u hu z hz => (List.mem_append.1 hz).elim (hb z) fun h => by simp at h; subst h; exact hu
      have r1 := fun β => from_fold (rows := rows) (val := val) fs (pre ++ [1]) (v + val.getD pre.length 0) β (hl' 1) (by rw [← hvu 1]; omega) hf' (hbu 1 (.inr rfl))
      have r0 := fun β => from_fold (rows := rows) (val := val) fs (pre ++ [0]) v β (hl' 0) (by rw [← hvu 0]; omega) hf' (hbu 0 (.inl rfl))
      rw [h1]
      simp only [asg]
      rcases hf f (by simp) with rfl | rfl | rfl
      · simp only [true_or, if_true]
        rw [r1, r0]
        simp [List.map_map, Function.comp_def]
      · simp
        rw [r0]
        simp [Function.comp_def]
      · have n1 : ¬ ((1 : Int) = -1 ∨ (1 : Int) = 0) := by decide
        have n2 : (1 : Int) = -1 ∨ (1 : Int) = 1 := by decide
        have n3 : ¬ (1 : Int) = -1 := by decide
        rw [if_neg n3]
        show (if (1 : Int) = -1 ∨ (1 : Int) = 0 then _ else _) = _
        rw [if_neg n1, if_pos n2, r1]
        simp [List.map_map, Function.comp_def]

/-! ### One answer -/
/-- the first of the best assignments, and its value -/
def bestOf (rows : List RowM) (val fix : List Int) : Option (List Int) × Int := (asg fix).foldl (stepR (feasR rows) (dotL val)) (none, 0)
theorem best_spec (rows : List RowM) (val fix : List Int) : (∀ z, (bestOf rows val fix).1 = some z → IsMax (feasR rows) (dotL val) (asg fix) (bestOf rows val fix).2 ∧ firstAt (feasR rows) (dotL val) (bestOf rows val fix).2 (asg fix) = some z) ∧ ((bestOf rows val fix).1 = none → ∀ y ∈ asg fix, feasR rows y = false) := by
  have h := fold_stepR (F := feasR rows) (V := dotL val) (asg fix) (none, 0) [] (by simp) (by simp)
  simpa [bestOf] using h
theorem search_same {rows : List RowM} {val fix : List Int} {L : List (List Int)} {lo top : Int} (hL : ∀ y, y ∈ L ↔ y ∈ asg fix) (hlo : ∀ y ∈ asg fix, lo ≤ dotL val y) (htop : ∀ y ∈ asg fix, dotL val y < top) (b0 b1 : List Int) (m0 m1 : Int) (f1 : Bool) :
    ((L.foldl (stepS (feasR rows) (dotL val) false top) ⟨lo, b0, m0, false⟩).found = false → (bestOf rows val fix).1 = none) ∧
    ((L.foldl (stepS (feasR rows) (dotL val) false top) ⟨lo, b0, m0, false⟩).found = true → ∃ z, bestOf rows val fix = (some z, (L.foldl (stepS (feasR rows) (dotL val) false top) ⟨lo, b0, m0, false⟩).most) ∧
      ((asg fix).foldl (stepS (feasR rows) (dotL val) true top) ⟨(L.foldl (stepS (feasR rows) (dotL val) false top) ⟨lo, b0, m0, false⟩).most, b1, m1, f1⟩).best = z) := by
  have hm := fold_most (F := feasR rows) (V := dotL val) (top := top) L ⟨lo, b0, m0, false⟩ [] (by simp) (fun _ => ⟨by simp, fun y hy _ => hlo y ((hL y).1 hy)⟩)
  rw [List.nil_append] at hm
  generalize (L.foldl (stepS (feasR rows) (dotL val) false top) ⟨lo, b0, m0, false⟩) = g at *
  obtain ⟨s1, s2⟩ := best_spec rows val fix
  rcases hb : (bestOf rows val fix).1 with _ | z
  · have hn := s2 hb
    refine ⟨fun _ => rfl, fun hf => ?_⟩
    obtain ⟨⟨y, h1, h2, -⟩, -⟩ := hm.1 hf
    rw [hn y ((hL y).1 h1)] at h2; cases h2
  · obtain ⟨h1, h2⟩ := s1 z hb
    refine ⟨fun hf => ?_, fun hf => ?_⟩
    · obtain ⟨⟨y, h3, h4, -⟩, -⟩ := h1
      rw [hm.2 hf y ((hL y).2 h3)] at h4; cases h4
    · have e : g.most = (bestOf rows val fix).2 := isMax_uniq hL (hm.1 hf) h1
      refine ⟨z, by rw [e, ← hb], ?_⟩
      refine fold_first (asg fix) ⟨g.most, b1, m1, f1⟩ (fun y hy _ => htop y hy) z ?_
      show firstAt (feasR rows) (dotL val) g.most (asg fix) = some z
      rw [e]; exact h2
theorem foldR_filter {F : List Int → Bool} {V : List Int → Int} : ∀ (L : List (List Int)) (β : Option (List Int) × Int), L.foldl (stepR F V) β = (L.filter F).foldl (stepR (fun _ => true) V) β
  | [], _ => rfl
  | y :: L, β => by
    rw [List.foldl_cons]
    rcases h : F y with _ | _
    · rw [List.filter_cons_of_neg (by simp [h])]
      have : stepR F V β y = β := by unfold stepR; rw [h]; simp
      rw [this]; exact foldR_filter L β
    · rw [List.filter_cons_of_pos h, List.foldl_cons]
      have : stepR F V β y = stepR (fun _ => true) V β y := by unfold stepR; rw [h]
      rw [this]; exact foldR_filter L _
theorem asg_filter : ∀ (fs : List Int), (∀ f ∈ fs, f = -1 ∨ f = 0 ∨ f = 1) → asg fs = (asg (List.replicate fs.length (-1))).filter (fun y => fixL fs y)
  | [], _ => by simp [asg, fixL]
  | f :: fs, h => by
    have ih := asg_filter fs fun g hg => h g (by simp [hg])
    have key : ∀ u : Int, ((asg (List.replicate fs.length (-1))).map (fun y => u :: y)).filter (fun y => fixL (f :: fs) y) = if f = -1 ∨ u = f then (asg fs).map (fun y => u :: y) else [] := by
      intro u
      rw [List.filter_map]
      by_cases hu : f = -1 ∨ u = f
      · rw [if_pos hu, ih]
        congr 1
        apply List.filter_congr
        intro y _
        simp only [Function.comp_def, fixL]
        rcases hu with rfl | rfl <;> simp
      · rw [if_neg hu, List.map_eq_nil_iff, List.filter_eq_nil_iff]
        intro y _
        simp only [Function.comp_def, fixL]
        simp only [not_or] at hu
        simp [hu.1, hu.2]
    have e : asg (List.replicate (f :: fs).length (-1)) = (asg (List.replicate fs.length (-1))).map (fun y => 1 :: y) ++ (asg (List.replicate fs.length (-1))).map (fun y => 0 :: y) := by
      rw [List.length_cons, List.replicate_succ]; simp only [asg, if_true]
    rw [e, List.filter_append, key 1, key 0]
    simp only [asg]
    rcases h f (by simp) with rfl | rfl | rfl <;> simp

end Go.Proofs.Ytkgikajfeihbbaa
