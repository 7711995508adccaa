/- A region that draws its order and ends in operations that come up one by one, whatever they write: one schedule serves all orders. Plain theory of regions, no program. -/
import Derived.Test.YthbfmioikbphgaaDoorMix
namespace Go.Proofs.YthbfmioikbphgaaDoor
set_option maxRecDepth 100000
open Go
open Go.RowKit (Below)

section
variable {P : Program} {ops : Array Oper} {md : Region.Mode} {C : World → Prop} {Q : Exit → Act → World → Prop}

/-- k operations that keep the class, then T others -/
def wpAnyT (P : Program) (md : Region.Mode) (ops : Array Oper) (Q : Exit → Act → World → Prop) (C : World → Prop) (T : Nat) : Nat → Array Bool → Act → World → Prop
  | 0, listed, a, w => wpAny P md ops Q T listed a w
  | k + 1, listed, a, w =>
    (Region.ready md ops listed = [] → Q .normal a w) ∧
    ∀ i ∈ Region.ready md ops listed, wpOp P ops Q i (fun a' w' => C w' ∧ wpAnyT P md ops Q C T k (listed.setIfInBounds i true) a' w') a w

theorem wpAny_of_T {T : Nat} : ∀ (k : Nat) (listed : Array Bool) (a : Act) (w : World), wpAnyT P md ops Q C T k listed a w → wpAny P md ops Q (k + T) listed a w
  | 0, _, _, _, h => by rw [Nat.zero_add]; exact h
  | k + 1, _, _, _, h => by
    rw [Nat.add_right_comm]
    exact ⟨h.1, fun i hi => wpOp_mono (fun a' w' h' => wpAny_of_T k _ a' w' h'.2) (h.2 i hi)⟩

def dependsB (md : Region.Mode) (ops : Array Oper) (i j : Nat) : Bool := match ops[j]? with
  | none => false
  | some o => o.after.any fun e => Region.binds md e && e.on == i

theorem not_ready {i j : Nat} {listed : Array Bool} (hd : dependsB md ops i j = true) (hi : listed.getD i true = false) : j ∉ Region.ready md ops listed := fun hj => by
  obtain ⟨-, oj, hoj, hall⟩ := mem_ready.1 hj
  unfold dependsB at hd
  simp only [hoj, Array.any_eq_true] at hd
  obtain ⟨k, hk, he⟩ := hd
  simp only [Bool.and_eq_true, beq_iff_eq] at he
  have h1 := hall _ (Array.getElem_mem hk) he.1
  rw [he.2] at h1
  rcases Nat.lt_or_ge i listed.size with h' | h'
  · simp [h'] at hi h1; rw [hi] at h1; cases h1
  · simp [Array.getElem?_eq_none h'] at h1

theorem wpAnyT_first {T i : Nat} {oi : Oper} {v : Value} {tl : List Nat} (hQ : ∀ c a w, ¬ Q (.panic c) a w) (hi : ops[i]? = some oi) (hsel : ∀ (j : Nat) (o : Oper) cs b, ops[j]? = some o → o.op ≠ .select cs b)
    (hdep : ∀ t ∈ tl, dependsB md ops i t = true) :
    ∀ (k : Nat) (rem : List Nat) (listed : Array Bool) (a : Act) (w : World), C w → rem.length = k + 1 → i ∈ rem →
      (∀ j, j < ops.size → listed.getD j true = false → j ∈ tl ∨ j ∈ rem) →
      (∀ j oj, ops[j]? = some oj → j ≠ i → listed.getD j true = false → (∀ e ∈ oj.after, Region.binds md e = true → e.on ≠ i) → oi.apart ops oj = true) →
      i ∈ Region.ready md ops listed → Calm P ops C oi v a →
      wpAnyT P md ops Q C T k (listed.setIfInBounds i true) (a.put oi.dst v) w → wpAnyT P md ops Q C T (k + 1) listed a w := by
  intro k
  induction k with
  | zero =>
    intro rem listed a w hC hlen hir hun _ hr hy H
    refine ⟨fun h => (by rw [h] at hr; cases hr), fun j hj => ?_⟩
    obtain ⟨hjun, oj, hoj, _⟩ := mem_ready.1 hj
    have hjs : j < ops.size := (Array.getElem?_eq_some_iff.1 hoj).1
    have hi0 := (mem_ready.1 hr).1
    rcases hun j hjs hjun with h | h
    · exact (not_ready (hdep j h) hi0 hj).elim
    · match rem, hlen with
      | [x], _ =>
        simp at hir h
        subst hir; subst h
        exact hy.wpOp hi hC ⟨hC, H⟩
  | succ k ih =>
    intro rem listed a w hC hlen hir hun hfree hr hy H
    refine ⟨fun h => (by rw [h] at hr; cases hr), fun j hj => ?_⟩
    by_cases hji : j = i
    · subst hji; exact hy.wpOp hi hC ⟨hC, H⟩
    · have h1 := H.2 j (ready_mono hj hji)
      obtain ⟨hjun, oj, hoj, hall⟩ := mem_ready.1 hj
      have hjs : j < ops.size := (Array.getElem?_eq_some_iff.1 hoj).1
      have hi0 := (mem_ready.1 hr).1
      have hjr : j ∈ rem := by
        rcases hun j hjs hjun with h | h
        · exact (not_ready (hdep j h) hi0 hj).elim
        · exact h
      have hnot : ∀ e ∈ oj.after, Region.binds md e = true → e.on ≠ i := fun e he hb heq => by
        have h1 := hall e he hb
        rw [heq] at h1
        rcases Nat.lt_or_ge i listed.size with h' | h'
        · simp [h'] at hi0 h1; rw [hi0] at h1; cases h1
        · simp [Array.getElem?_eq_none h'] at h1
      have h2 := wpOp_put hoj (hfree j oj hoj hji hjun hnot) hQ (fun cs b => hsel i oi cs b hi) (fun cs b => hsel j oj cs b hoj) hy h1
      have hfree' : ∀ k ok, ops[k]? = some ok → k ≠ i → (listed.setIfInBounds j true).getD k true = false →
          (∀ e ∈ ok.after, Region.binds md e = true → e.on ≠ i) → oi.apart ops ok = true := fun k ok hk hki hun hno => by
        refine hfree k ok hk hki ?_ hno
        by_cases hjk : j = k
        · subst hjk; exact hjun
        · rw [getD_set_ne true hjk] at hun; exact hun
      have hun' : ∀ x, x < ops.size → (listed.setIfInBounds j true).getD x true = false → x ∈ tl ∨ x ∈ rem.erase j := fun x hx hxun => by
        have hxj : j ≠ x := fun e => by
          subst e
          rcases Nat.lt_or_ge j listed.size with h' | h'
          · simp [h'] at hxun
          · simp [h'] at hxun
        rw [getD_set_ne true hxj] at hxun
        rcases hun x hx hxun with h | h
        · exact .inl h
        · exact .inr ((List.mem_erase_of_ne (Ne.symm hxj)).2 h)
      refine wpOp_mono (fun a' w' h3 => ⟨h3.2.1, ih (rem.erase j) (listed.setIfInBounds j true) a' w' h3.2.1 (by rw [List.length_erase_of_mem hjr, hlen]; omega) ((List.mem_erase_of_ne (Ne.symm hji)).2 hir) hun' hfree' (ready_mono hr (Ne.symm hji)) h3.1 ?_⟩) h2
      rw [Array.setIfInBounds_comm _ _ hji]
      exact h3.2.2

/-- the tail: one operation after the other -/
def wpTail (P : Program) (ops : Array Oper) (Q : Exit → Act → World → Prop) : List Nat → Act → World → Prop
  | [], a, w => Q .normal a w
  | i :: rest, a, w => wpOp P ops Q i (fun a' w' => wpTail P ops Q rest a' w') a w
def tailB (md : Region.Mode) (ops : Array Oper) : List Nat → Array Bool → Bool
  | [], listed => (Region.ready md ops listed).isEmpty
  | i :: rest, listed => (Region.ready md ops listed) == [i] && tailB md ops rest (listed.setIfInBounds i true)
theorem wpAny_tail : ∀ (l : List Nat) (listed : Array Bool) (a : Act) (w : World), tailB md ops l listed = true → wpTail P ops Q l a w → wpAny P md ops Q l.length listed a w
  | [], _, _, _, hB, h => ⟨by simpa [tailB] using hB, h⟩
  | i :: l, listed, a, w, hB, h => by
    simp only [tailB, Bool.and_eq_true, beq_iff_eq] at hB
    refine ⟨fun h0 => (by rw [hB.1] at h0; cases h0), fun j hj => ?_⟩
    rw [hB.1, List.mem_singleton] at hj
    subst hj
    exact wpOp_mono (fun a' w' h' => wpAny_tail l _ a' w' hB.2 h') h

/-- the walk along one schedule, then the tail -/
def wpSt (P : Program) (ops : Array Oper) (Q : Exit → Act → World → Prop) (C : World → Prop) (tl : List Nat) : List (Nat × Bool) → Act → World → Prop
  | [], a, w => wpTail P ops Q tl a w
  | (i, true) :: rest, a, w => wpOp P ops Q i (fun a' w' => C w' ∧ wpSt P ops Q C tl rest a' w') a w
  | (i, false) :: rest, a, w => match ops[i]? with
    | none => False
    | some o => ∃ v, Calm P ops C o v a ∧ wpSt P ops Q C tl rest (a.put o.dst v) w

def stB (md : Region.Mode) (ops : Array Oper) (tl : List Nat) : List (Nat × Bool) → Array Bool → Bool
  | [], listed => tailB md ops tl listed
  | (i, true) :: rest, listed => (Region.ready md ops listed) == [i] && stB md ops tl rest (listed.setIfInBounds i true)
  | (i, false) :: rest, listed => (Region.ready md ops listed).contains i && Region.free md ops listed i && tl.all (dependsB md ops i) && stB md ops tl rest (listed.setIfInBounds i true)

theorem wpAnyT_st (hQ : ∀ c a w, ¬ Q (.panic c) a w) (hs : Region.noSelect ops = true) (tl : List Nat) : ∀ (l : List (Nat × Bool)) (listed : Array Bool) (a : Act) (w : World), C w →
    (∀ j, j < ops.size → listed.getD j true = false → j ∈ tl ∨ j ∈ l.map (·.1)) →
    stB md ops tl l listed = true → wpSt P ops Q C tl l a w → wpAnyT P md ops Q C tl.length l.length listed a w
  | [], listed, a, w, _, _, hB, h => wpAny_tail tl listed a w hB h
  | (i, true) :: l, listed, a, w, hC, hun, hB, h => by
    simp only [stB, Bool.and_eq_true, beq_iff_eq] at hB
    refine ⟨fun h0 => (by rw [hB.1] at h0; cases h0), fun j hj => ?_⟩
    rw [hB.1, List.mem_singleton] at hj
    subst hj
    refine wpOp_mono (fun a' w' ⟨hC', h'⟩ => ⟨hC', wpAnyT_st hQ hs tl l _ a' w' hC' (fun x hx hxun => ?_) hB.2 h'⟩) h
    have hxj : j ≠ x := fun e => by
      subst e
      rcases Nat.lt_or_ge j listed.size with h' | h'
      · simp [h'] at hxun
      · simp [h'] at hxun
    rw [getD_set_ne true hxj] at hxun
    rcases hun x hx hxun with h | h
    · exact .inl h
    · simp at h
      rcases h with h | h
      · exact (hxj h.symm).elim
      · exact .inr (by simpa using h)
  | (i, false) :: l, listed, a, w, hC, hun, hB, h => by
    simp only [stB, Bool.and_eq_true] at hB
    obtain ⟨⟨⟨hr, hf⟩, hd⟩, hB'⟩ := hB
    unfold wpSt at h
    cases ho : ops[i]? with
    | none => simp only [ho] at h
    | some o =>
      simp only [ho] at h
      obtain ⟨v, hy, hK⟩ := h
      refine wpAnyT_first (tl := tl) hQ ho (Region.noSelect_spec hs) (fun t ht => List.all_eq_true.1 hd t ht) l.length (((i, false) :: l).map (·.1)) listed a w hC (by simp) (by simp) hun (Region.free_spec ho hf) (by simpa using hr) hy
        (wpAnyT_st hQ hs tl l _ _ _ hC (fun x hx hxun => ?_) hB' hK)
      have hxj : i ≠ x := fun e => by
        subst e
        rcases Nat.lt_or_ge i listed.size with h' | h'
        · simp [h'] at hxun
        · simp [h'] at hxun
      rw [getD_set_ne true hxj] at hxun
      rcases hun x hx hxun with h | h
      · exact .inl h
      · simp at h
        rcases h with h | h
        · exact (hxj h.symm).elim
        · exact .inr (by simpa using h)

/-- **THE REGION, BY ONE SCHEDULE WITH A TAIL.** -/
theorem wp_region_tail {id : Nat} {a : Act} {w : World} {l : List Oper} (s : List (Nat × Bool)) (tl : List Nat) (C : World → Prop) (hm : P.follows .mixedOrders = true)
    (hB : (Region.noSelect l.toArray && (stB .any l.toArray tl s (Array.replicate l.length false) && (s.length + tl.length == l.length && (List.range l.length).all fun j => tl.contains j || (s.map (·.1)).contains j))) = true) (hC : C w.drew)
    (h : wpSt P l.toArray (NoPanic Q) C tl s a w.drew) : (Code.region id l.toArray true).wp P Q a w := by
  simp only [Bool.and_eq_true, beq_iff_eq] at hB
  refine wp_region_noPanic (wp_region_any hm ?_)
  have := wpAny_of_T _ _ _ _ (wpAnyT_st (md := .any) (Q := NoPanic Q) (fun c a w h => h) hB.1 tl s (Array.replicate l.length false) a _ hC (fun j hj _ => by
    have := List.all_eq_true.1 hB.2.2.2 j (by simpa using hj)
    simpa using this) hB.2.1 h)
  rw [hB.2.2.1] at this
  simpa using this

theorem wpSt_calm {tl : List Nat} {i : Nat} {rest : List (Nat × Bool)} {a : Act} {w : World} {o : Oper} (ho : ops[i]? = some o)
    (h : ∀ K : Act → Prop, (∀ a, wpSt P ops Q C tl rest a w → K a) → if Region.wanted o (yielded ops a.tmps) then Oper.calm P o a C K else K (a.put o.dst undef)) : wpSt P ops Q C tl ((i, false) :: rest) a w := by
  unfold wpSt
  simp only [ho]
  have := h _ (fun _ h => h)
  split at this
  · rename_i hw; obtain ⟨v, h1, h2⟩ := this; exact ⟨v, .inl ⟨hw, h1⟩, h2⟩
  · rename_i hw; exact ⟨undef, .inr ⟨by simpa using hw, rfl⟩, this⟩
theorem wpSt_eff {tl : List Nat} {i : Nat} {rest : List (Nat × Bool)} {a : Act} {w : World} {o : Oper} (ho : ops[i]? = some o) (hg : o.guard = none)
    (h : ∀ K : Act → World → Prop, (∀ a' w', C w' → wpSt P ops Q C tl rest a' w' → K a' w') → o.wp P a w K Q) : wpSt P ops Q C tl ((i, true) :: rest) a w := by
  unfold wpSt wpOp
  simp only [ho]
  rw [if_pos (by simp [Region.wanted, hg])]
  exact .inl (h _ fun _ _ h1 h2 => ⟨h1, h2⟩)
theorem wpSt_end {tl : List Nat} {a : Act} {w : World} (h : wpTail P ops Q tl a w) : wpSt P ops Q C tl [] a w := h
theorem wpTail_op {i : Nat} {rest : List Nat} {a : Act} {w : World} {o : Oper} (ho : ops[i]? = some o) (hg : o.guard = none)
    (h : ∀ K : Act → World → Prop, (∀ a' w', wpTail P ops Q rest a' w' → K a' w') → o.wp P a w K Q) : wpTail P ops Q (i :: rest) a w := by
  unfold wpTail wpOp
  simp only [ho]
  rw [if_pos (by simp [Region.wanted, hg])]
  exact .inl (h _ fun _ _ h1 => h1)
theorem wpTail_nil {a : Act} {w : World} (h : Q .normal a w) : wpTail P ops (NoPanic Q) [] a w := h
end
end Go.Proofs.YthbfmioikbphgaaDoor
