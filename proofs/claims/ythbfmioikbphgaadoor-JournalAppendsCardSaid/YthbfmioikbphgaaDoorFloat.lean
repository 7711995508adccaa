/- A region that draws its order, in which a variable is laid into memory at any time before it is stored: one schedule serves all orders. Plain theory of regions, no program. -/
import Derived.Test.YthbfmioikbphgaaDoorMix
namespace Go.Proofs.YthbfmioikbphgaaDoor
set_option maxRecDepth 100000
open Go
open Go.RowKit (Below)

section
variable {P : Program} {ops : Array Oper} {md : Region.Mode} {C : World → Prop} {Q : Exit → Act → World → Prop}

/-- an operation apart from oi does the same where oi's value is there already -/
theorem wpOp_frame {j : Nat} {oi oj : Oper} {v : Value} (hj : ops[j]? = some oj) (hap : oi.apart ops oj = true) (hQ : ∀ c a w, ¬ Q (.panic c) a w)
    (hsj : ∀ cs b, oj.op ≠ .select cs b) {K : Act → World → Prop} {a : Act} {w : World} (h : wpOp P ops Q j K a w) :
    wpOp P ops Q j (fun a' w' => ∃ a0, a' = a0.put oi.dst v ∧ K a0 w') (a.put oi.dst v) w := by
  obtain ⟨h1, h2, h3⟩ := Oper.apart_spec hap
  unfold wpOp at *
  simp only [hj] at *
  rw [wanted_put oj a oi.dst v h1]
  split
  · rename_i hw
    simp only [hw, if_true] at h
    rcases h with h | ⟨h, ho⟩
    · left
      unfold Oper.wp at *
      rw [execOp_put oj hsj a oi.dst v h1]
      generalize (execOp a.eval oj).run P w = r at *
      cases r with
      | ok n w' =>
        cases n <;> simp only [Oper.upon] at h ⊢
        case value u => exact ⟨_, Act.put_comm a v u h2, h⟩
        case skip => exact ⟨_, Act.put_comm a v undef h2, h⟩
        case defer d =>
          refine ⟨_, ?_, h⟩
          rw [put_defers, put_with, Act.put_comm _ v undef h2]
        case enter f args =>
          refine h.mono fun e w'' he => ?_
          cases e with
          | returned u => exact ⟨_, Act.put_comm a v u h2, he⟩
          | panicked c => exact (hQ _ _ _ he).elim
          | outgrown => exact he
        case row r args => exact Rows.mono h fun u w'' he => ⟨_, Act.put_comm a v u h2, he⟩
        all_goals exact h
      | halt x w' =>
        cases x <;> simp only [Oper.upon] at h ⊢
        case panic c => exact (hQ _ _ _ h).elim
        all_goals exact h
    · right
      refine ⟨?_, ho⟩
      unfold Oper.asks at *
      rw [execOp_put oj hsj a oi.dst v h1]
      exact h
  · rename_i hw
    simp only [hw] at h
    exact ⟨_, Act.put_comm a v undef h2, h⟩

/-- the walk along a schedule while the variable (operation i, slot d) may be laid at any time: before each operation that writes, the world may have grown -/
def wpFl (P : Program) (ops : Array Oper) (Q : Exit → Act → World → Prop) (C : World → Prop) (d : Tmp) (O : Obj) (B : Nat) (R : Act → World → Prop) : List (Nat × Bool) → Act → World → Prop
  | [], a, w => ∀ g w', C w' → Below w.heap.size w w' → w'.heap[g]? = some O → B ≤ g → R (a.put (some d) (.pointer (some ⟨g, 0, none⟩))) w'
  | (j, true) :: rest, a, w => ∀ w', C w' → Below w.heap.size w w' → wpOp P ops Q j (fun a2 w2 => (C w2 ∧ Below w'.heap.size w' w2) ∧ wpFl P ops Q C d O B R rest a2 w2) a w'
  | (j, false) :: rest, a, w => match ops[j]? with
    | none => False
    | some o => ∃ v, Calm P ops C o v a ∧ wpFl P ops Q C d O B R rest (a.put o.dst v) w

/-- the world may grow ahead of the walk -/
theorem wpFl_grow {d : Tmp} {O : Obj} {B : Nat} {R : Act → World → Prop} : ∀ (l : List (Nat × Bool)) (a : Act) (w w1 : World), Below w.heap.size w w1 → wpFl P ops Q C d O B R l a w → wpFl P ops Q C d O B R l a w1
  | [], a, w, w1, hb, h => fun g w' hC hb' hg hB => h g w' hC (hb.trans (hb'.mono hb.size)) hg hB
  | (j, true) :: rest, a, w, w1, hb, h => fun w' hC hb' => h w' hC (hb.trans (hb'.mono hb.size))
  | (j, false) :: rest, a, w, w1, hb, h => by
    unfold wpFl at h ⊢
    cases ho : ops[j]? with
    | none => simp only [ho] at h
    | some o =>
      simp only [ho] at h ⊢
      obtain ⟨v, h1, h2⟩ := h
      exact ⟨v, h1, wpFl_grow rest _ w w1 hb h2⟩

def apartB (ops : Array Oper) (i j : Nat) : Bool := match ops[i]?, ops[j]? with
  | some oi, some oj => oi.apart ops oj && oj.apart ops oi
  | _, _ => false

def floatB (md : Region.Mode) (ops : Array Oper) (i : Nat) (s2 : List (Nat × Bool)) : List (Nat × Bool) → Array Bool → Bool
  | [], listed => (Region.ready md ops listed) == [i] && schedB md ops s2 (listed.setIfInBounds i true)
  | (j, true) :: rest, listed => (decide (j ≠ i) && ((Region.ready md ops listed) == [j, i] || (Region.ready md ops listed) == [i, j]) && (Region.ready md ops (listed.setIfInBounds i true)) == [j] && apartB ops i j) && floatB md ops i s2 rest (listed.setIfInBounds j true)
  | (j, false) :: rest, listed => (decide (j ≠ i) && ((Region.ready md ops listed).contains j && Region.free md ops listed j) && ((Region.ready md ops (listed.setIfInBounds i true)).contains j && Region.free md ops (listed.setIfInBounds i true) j) && apartB ops i j) && floatB md ops i s2 rest (listed.setIfInBounds j true)

section
variable {i : Nat} {oi : Oper} {d : Tmp} {O : Obj} {B : Nat} {s2 : List (Nat × Bool)}
variable (hQ : ∀ c a w, ¬ Q (.panic c) a w) (hs : Region.noSelect ops = true) (hoi : ops[i]? = some oi) (hdst : oi.dst = some d)
include hQ hs hoi hdst

theorem wpAnyC_done : ∀ (l : List (Nat × Bool)) (listed : Array Bool) (a : Act) (w : World) (g : Nat), C w → w.heap[g]? = some O → B ≤ g →
    floatB md ops i s2 l listed = true → wpFl P ops Q C d O B (wpSched P ops Q C s2) l a w →
    wpAnyC P md ops Q C (l.length + s2.length) (listed.setIfInBounds i true) (a.put (some d) (.pointer (some ⟨g, 0, none⟩))) w
  | [], listed, a, w, g, hC, hg, hB, hF, h => by
    simp only [floatB, Bool.and_eq_true] at hF
    have := wpAnyC_sched (md := md) hQ hs s2 (listed.setIfInBounds i true) _ w hC hF.2 (h g w hC (Below.refl _ _) hg hB)
    simpa using this
  | (j, true) :: rest, listed, a, w, g, hC, hg, hB, hF, h => by
    simp only [floatB, Bool.and_eq_true, decide_eq_true_eq, beq_iff_eq] at hF
    obtain ⟨⟨⟨⟨hji, -⟩, hr⟩, hap⟩, hF'⟩ := hF
    have hlen : ((j, true) :: rest).length + s2.length = (rest.length + s2.length) + 1 := by simp; omega
    rw [hlen]
    refine ⟨fun h0 => (by rw [hr] at h0; cases h0), fun k hk => ?_⟩
    rw [hr, List.mem_singleton] at hk
    subst hk
    unfold apartB at hap
    rw [hoi] at hap
    cases hoj : ops[k]? with
    | none => simp [hoj] at hap
    | some oj =>
      simp only [hoj, Bool.and_eq_true] at hap
      have h1 := wpOp_frame (v := .pointer (some ⟨g, 0, none⟩)) hoj hap.1 hQ (fun cs b => Region.noSelect_spec hs k oj cs b hoj) (h w hC (Below.refl _ _))
      rw [hdst] at h1
      refine wpOp_mono (fun a' w' ⟨a0, ha, ⟨⟨hC', hb'⟩, h'⟩⟩ => ⟨hC', ?_⟩) h1
      subst ha
      have hglt : g < w.heap.size := by
        rcases Nat.lt_or_ge g w.heap.size with h0 | h0
        · exact h0
        · rw [Array.getElem?_eq_none h0] at hg; cases hg
      have := wpAnyC_done rest (listed.setIfInBounds k true) a0 w' g hC' (by rw [hb'.block g hglt]; exact hg) hB hF' h'
      rwa [Array.setIfInBounds_comm _ _ hji] at this
  | (j, false) :: rest, listed, a, w, g, hC, hg, hB, hF, h => by
    simp only [floatB, Bool.and_eq_true, decide_eq_true_eq] at hF
    obtain ⟨⟨⟨⟨hji, -⟩, ⟨hr, hf⟩⟩, hap⟩, hF'⟩ := hF
    have hlen : ((j, false) :: rest).length + s2.length = (rest.length + s2.length) + 1 := by simp; omega
    rw [hlen]
    unfold wpFl at h
    unfold apartB at hap
    rw [hoi] at hap
    cases hoj : ops[j]? with
    | none => simp only [hoj] at h
    | some oj =>
      simp only [hoj] at h
      simp only [hoj, Bool.and_eq_true] at hap
      obtain ⟨v, hy, hK⟩ := h
      obtain ⟨h1, h2, h3⟩ := Oper.apart_spec hap.1
      have hsj := fun cs b => Region.noSelect_spec hs j oj cs b hoj
      have hy' : Calm P ops C oj v (a.put (some d) (.pointer (some ⟨g, 0, none⟩))) := by
        rw [← hdst]
        exact hy.of_same (execOp_put oj hsj a oi.dst _ h1) (wanted_put oj a oi.dst _ h1)
      refine wpAnyC_first hQ hoj (Region.noSelect_spec hs) _ _ _ w hC (Region.free_spec hoj hf) (by simpa using hr) hy' ?_
      have := wpAnyC_done rest (listed.setIfInBounds j true) (a.put oj.dst v) w g hC hg hB hF' hK
      rw [Array.setIfInBounds_comm _ _ hji] at this
      rw [← hdst] at this ⊢
      rwa [Act.put_comm a _ v h2]

theorem wpAnyC_float (hgd : oi.guard = none) (hrun : ∀ (a : Act) (w : World), (execOp a.eval oi).run P w = .ok (.value (.pointer (some ⟨w.heap.size, 0, none⟩))) (w.alloc O)) (hCB : ∀ w, C w → B ≤ w.heap.size) (hCa : ∀ w, C w → C (w.alloc O)) :
    ∀ (l : List (Nat × Bool)) (listed : Array Bool) (a : Act) (w : World), C w →
    floatB md ops i s2 l listed = true → wpFl P ops Q C d O B (wpSched P ops Q C s2) l a w →
    wpAnyC P md ops Q C (l.length + 1 + s2.length) listed a w := by
  have key : ∀ (l : List (Nat × Bool)) (listed : Array Bool) (a : Act) (w : World), C w → floatB md ops i s2 l listed = true → wpFl P ops Q C d O B (wpSched P ops Q C s2) l a w →
      wpOp P ops Q i (fun a' w' => C w' ∧ wpAnyC P md ops Q C (l.length + s2.length) (listed.setIfInBounds i true) a' w') a w := fun l listed a w hC hF h => by
    have hbel : Below w.heap.size w (w.alloc O) := (Below.refl _ _).alloc (Nat.le_refl _) _
    have h1 := wpAnyC_done (C := C) (O := O) (B := B) hQ hs hoi hdst l listed a (w.alloc O) w.heap.size (hCa w hC) (heap_alloc_new w O) (hCB w hC) hF (wpFl_grow l a w _ hbel h)
    unfold wpOp
    simp only [hoi]
    rw [if_pos (by simp [Region.wanted, hgd])]
    left
    unfold Oper.wp
    rw [hrun]
    simp only [Oper.upon]
    rw [hdst]
    exact ⟨hCa w hC, h1⟩
  intro l
  induction l with
  | nil =>
    intro listed a w hC hF h
    have hF' := hF
    simp only [floatB, Bool.and_eq_true, beq_iff_eq] at hF
    have hlen : ([] : List (Nat × Bool)).length + 1 + s2.length = (([] : List (Nat × Bool)).length + s2.length) + 1 := by simp; omega
    rw [hlen]
    refine ⟨fun h0 => (by rw [hF.1] at h0; cases h0), fun k hk => ?_⟩
    rw [hF.1, List.mem_singleton] at hk
    subst hk
    exact key [] listed a w hC hF' h
  | cons x rest ih =>
    obtain ⟨j, b⟩ := x
    intro listed a w hC hF h
    have hlen : ((j, b) :: rest).length + 1 + s2.length = (((j, b) :: rest).length + s2.length) + 1 := by simp; omega
    have hlen' : ((j, b) :: rest).length + s2.length = rest.length + 1 + s2.length := by simp
    have hk0 := key ((j, b) :: rest) listed a w hC hF h
    cases b with
    | true =>
      simp only [floatB, Bool.and_eq_true, decide_eq_true_eq, beq_iff_eq] at hF
      obtain ⟨⟨⟨⟨hji, hr⟩, -⟩, -⟩, hF'⟩ := hF
      rw [hlen]
      refine ⟨fun h0 => ?_, fun k hk => ?_⟩
      · simp only [Bool.or_eq_true, beq_iff_eq] at hr
        rcases hr with hr | hr <;> rw [hr] at h0 <;> cases h0
      · have hk' : k = j ∨ k = i := by
          simp only [Bool.or_eq_true, beq_iff_eq] at hr
          rcases hr with hr | hr <;> rw [hr] at hk <;> simp at hk <;> omega
        rcases hk' with rfl | rfl
        · refine wpOp_mono (fun a' w' ⟨⟨hC', _⟩, h'⟩ => ⟨hC', ?_⟩) (h w hC (Below.refl _ _))
          rw [hlen']
          exact ih _ a' w' hC' hF' h'
        · exact hk0
    | false =>
      simp only [floatB, Bool.and_eq_true, decide_eq_true_eq] at hF
      obtain ⟨⟨⟨⟨hji, ⟨hr, hf⟩⟩, -⟩, -⟩, hF'⟩ := hF
      rw [hlen]
      unfold wpFl at h
      cases hoj : ops[j]? with
      | none => simp only [hoj] at h
      | some oj =>
        simp only [hoj] at h
        obtain ⟨v, hy, hK⟩ := h
        refine wpAnyC_first hQ hoj (Region.noSelect_spec hs) _ _ _ w hC (Region.free_spec hoj hf) (by simpa using hr) hy ?_
        rw [hlen']
        exact ih _ _ w hC hF' hK
end

/-- **THE REGION, BY ONE SCHEDULE, A VARIABLE BEING LAID AT ANY TIME.** -/
theorem wp_region_float {id : Nat} {a : Act} {w : World} {l : List Oper} (i : Nat) (s s2 : List (Nat × Bool)) (C : World → Prop) (oi : Oper) (d : Tmp) (O : Obj) (B : Nat) (hm : P.follows .mixedOrders = true)
    (hoi : l.toArray[i]? = some oi) (hdst : oi.dst = some d) (hgd : oi.guard = none)
    (hrun : ∀ (a : Act) (w : World), (execOp a.eval oi).run P w = .ok (.value (.pointer (some ⟨w.heap.size, 0, none⟩))) (w.alloc O)) (hCB : ∀ w, C w → B ≤ w.heap.size) (hCa : ∀ w, C w → C (w.alloc O))
    (hB : (Region.noSelect l.toArray && (floatB .any l.toArray i s2 s (Array.replicate l.length false) && s.length + 1 + s2.length == l.length)) = true) (hC : C w.drew)
    (h : wpFl P l.toArray (NoPanic Q) C d O B (wpSched P l.toArray (NoPanic Q) C s2) s a w.drew) : (Code.region id l.toArray true).wp P Q a w := by
  simp only [Bool.and_eq_true, beq_iff_eq] at hB
  refine wp_region_noPanic (wp_region_any hm (wpAny_of_C (C := C) _ _ _ _ ?_))
  have := wpAnyC_float (md := .any) (Q := NoPanic Q) (C := C) (s2 := s2) (fun c a w h => h) hB.1 hoi hdst hgd hrun hCB hCa s (Array.replicate l.length false) a _ hC hB.2.1 h
  rw [hB.2.2] at this
  simpa using this

theorem wpFl_calm {d : Tmp} {O : Obj} {B : Nat} {R : Act → World → Prop} {i : Nat} {rest : List (Nat × Bool)} {a : Act} {w : World} {o : Oper} (ho : ops[i]? = some o)
    (h : ∀ K : Act → Prop, (∀ a, wpFl P ops Q C d O B R rest a w → K a) → if Region.wanted o (yielded ops a.tmps) then Oper.calm P o a C K else K (a.put o.dst undef)) : wpFl P ops Q C d O B R ((i, false) :: rest) a w := by
  unfold wpFl
  simp only [ho]
  have := h _ (fun _ h => h)
  split at this
  · rename_i hw; obtain ⟨v, h1, h2⟩ := this; exact ⟨v, .inl ⟨hw, h1⟩, h2⟩
  · rename_i hw; exact ⟨undef, .inr ⟨by simpa using hw, rfl⟩, this⟩

theorem wpFl_eff {d : Tmp} {O : Obj} {B : Nat} {R : Act → World → Prop} {i : Nat} {rest : List (Nat × Bool)} {a : Act} {w : World} {o : Oper} (ho : ops[i]? = some o) (hg : o.guard = none)
    (h : ∀ w1, C w1 → Below w.heap.size w w1 → ∀ K : Act → World → Prop, (∀ a' w', C w' → Below w1.heap.size w1 w' → wpFl P ops Q C d O B R rest a' w' → K a' w') → o.wp P a w1 K Q) : wpFl P ops Q C d O B R ((i, true) :: rest) a w := by
  intro w1 hC hb
  unfold wpOp
  simp only [ho]
  rw [if_pos (by simp [Region.wanted, hg])]
  exact .inl (h w1 hC hb _ fun _ _ h1 h2 h3 => ⟨⟨h1, h2⟩, h3⟩)

theorem wpFl_nil {d : Tmp} {O : Obj} {B : Nat} {R : Act → World → Prop} {a : Act} {w : World}
    (h : ∀ g w', C w' → Below w.heap.size w w' → w'.heap[g]? = some O → B ≤ g → R (a.put (some d) (.pointer (some ⟨g, 0, none⟩))) w') : wpFl P ops Q C d O B R [] a w := h

end
end Go.Proofs.YthbfmioikbphgaaDoor
