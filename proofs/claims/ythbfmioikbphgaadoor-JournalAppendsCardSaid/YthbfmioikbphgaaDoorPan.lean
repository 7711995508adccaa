/- A region that draws its order and may panic in one of its calls: one schedule with a tail. Plain theory of regions, no program. -/
import Derived.Test.YthbfmioikbphgaaDoorTail
namespace Go.Proofs.YthbfmioikbphgaaDoor
set_option maxRecDepth 100000
open Go
open Go.RowKit (Below)

/-- Q, but at a panic for whatever the slots hold -/
def AnyP (Q : Exit → Act → World → Prop) : Exit → Act → World → Prop
  | .panic c, a, w => ∀ a', a'.defers = a.defers → Q (.panic c) a' w
  | e, a, w => Q e a w
theorem AnyP.imp {Q : Exit → Act → World → Prop} : ∀ (e : Exit) (a : Act) (w : World), AnyP Q e a w → Q e a w := fun e a w h => by
  cases e <;> first | exact h | exact h a rfl
theorem wp_region_anyP {P : Program} {id : Nat} {ops : Array Oper} {b : Bool} {Q : Exit → Act → World → Prop} {a : Act} {w : World} (h : (Code.region id ops b).wp P (AnyP Q) a w) : (Code.region id ops b).wp P Q a w :=
  Code.wp_mono AnyP.imp h
theorem anyP_put {Q : Exit → Act → World → Prop} (c : List PanicEntry) (a : Act) (d : Option Tmp) (v : Value) (w : World) (h : AnyP Q (.panic c) (Act.put a d v) w) : AnyP Q (.panic c) a w := fun a' ha => h a' (by rw [ha, put_defers])

section
variable {P : Program} {ops : Array Oper} {md : Region.Mode} {C : World → Prop} {Q : Exit → Act → World → Prop}

theorem wpOp_putP {j : Nat} {oi oj : Oper} {v : Value} (hj : ops[j]? = some oj) (hap : oi.apart ops oj = true) (hQ : ∀ c a d v w, Q (.panic c) (Act.put a d v) w → Q (.panic c) a w)
    (hsi : ∀ cs b, oi.op ≠ .select cs b) (hsj : ∀ cs b, oj.op ≠ .select cs b) {K : Act → World → Prop} {a : Act} {w : World}
    (hy : Calm P ops C oi v a) (h : wpOp P ops Q j K (a.put oi.dst v) w) :
    wpOp P ops Q j (fun a' w' => Calm P ops C oi v a' ∧ K (a'.put oi.dst v) w') a w := by
  obtain ⟨h1, h2, h3⟩ := Oper.apart_spec hap
  have keep : ∀ (a : Act), Calm P ops C oi v a → ∀ u, Calm P ops C oi v (a.put oj.dst u) := fun a hy u =>
    hy.of_same (execOp_put oi hsi a oj.dst u h3) (wanted_put oi a oj.dst u h3)
  have keepd : ∀ (a : Act) (ds : List Deferred), Calm P ops C oi v a → Calm P ops C oi v { a with defers := ds } := fun a ds hy => hy
  unfold wpOp at *
  simp only [hj] at *
  rw [wanted_put oj a oi.dst v h1] at h
  split
  · rename_i hw
    simp only [hw, if_true] at h
    rcases h with h | ⟨h, ho⟩
    · left
      unfold Oper.wp at *
      rw [execOp_put oj hsj a oi.dst v h1] at h
      generalize (execOp a.eval oj).run P w = r at *
      cases r with
      | ok n w' =>
        cases n <;> simp only [Oper.upon] at h ⊢
        case value u => exact ⟨keep a hy u, by rw [← Act.put_comm a v u h2]; exact h⟩
        case skip => exact ⟨keep a hy _, by rw [← Act.put_comm a v undef h2]; exact h⟩
        case defer d =>
          refine ⟨keep _ (keepd a _ hy) _, ?_⟩
          rw [put_defers, put_with, Act.put_comm _ v undef h2] at h
          exact h
        case enter f args =>
          refine h.mono fun e w'' he => ?_
          cases e with
          | returned u => exact ⟨keep a hy u, by rw [← Act.put_comm a v u h2]; exact he⟩
          | panicked c => exact hQ _ _ _ _ _ he
          | outgrown => exact he
        case row r args => exact Rows.mono h fun u w'' he => ⟨keep a hy u, by rw [← Act.put_comm a v u h2]; exact he⟩
        all_goals exact h
      | halt x w' =>
        cases x <;> simp only [Oper.upon] at h ⊢
        case panic c => exact hQ _ _ _ _ _ h
        all_goals exact h
    · right
      refine ⟨?_, ho⟩
      unfold Oper.asks at *
      rw [execOp_put oj hsj a oi.dst v h1] at h
      exact h
  · rename_i hw
    simp only [hw] at h
    exact ⟨keep a hy _, by rw [← Act.put_comm a v undef h2]; exact h⟩

theorem wpAnyT_firstP {T i : Nat} {oi : Oper} {v : Value} {tl : List Nat} (hQ : ∀ c a d v w, Q (.panic c) (Act.put a d v) w → Q (.panic c) a w) (hi : ops[i]? = some oi) (hsel : ∀ (j : Nat) (o : Oper) cs b, ops[j]? = some o → o.op ≠ .select cs b)
    (hdep : ∀ t ∈ tl, dependsB md ops i t = true) :
    ∀ (k : Nat) (rem : List Nat) (listed : Array Bool) (a : Act) (w : World), C w → rem.length = k + 1 → i ∈ rem →
      (∀ j, j < ops.size → listed.getD j true = false → j ∈ tl ∨ j ∈ rem) →
      (∀ j oj, ops[j]? = some oj → j ≠ i → listed.getD j true = false → (∀ e ∈ oj.after, Region.binds md e = true → e.on ≠ i) → oi.apart ops oj = true) →
      i ∈ Region.ready md ops listed → Calm P ops C oi v a →
      wpAnyT P md ops Q C T k (listed.setIfInBounds i true) (a.put oi.dst v) w → wpAnyT P md ops Q C T (k + 1) listed a w := by
  intro k
  induction k with
  | zero =>
    intro rem listed a w hC hlen hir hun _ hr hy H
    refine ⟨fun h => (by rw [h] at hr; cases hr), fun j hj => ?_⟩
    obtain ⟨hjun, oj, hoj, _⟩ := mem_ready.1 hj
    have hjs : j < ops.size := (Array.getElem?_eq_some_iff.1 hoj).1
    have hi0 := (mem_ready.1 hr).1
    rcases hun j hjs hjun with h | h
    · exact (not_ready (hdep j h) hi0 hj).elim
    · match rem, hlen with
      | [x], _ =>
        simp at hir h
        subst hir; subst h
        exact hy.wpOp hi hC ⟨hC, H⟩
  | succ k ih =>
    intro rem listed a w hC hlen hir hun hfree hr hy H
    refine ⟨fun h => (by rw [h] at hr; cases hr), fun j hj => ?_⟩
    by_cases hji : j = i
    · subst hji; exact hy.wpOp hi hC ⟨hC, H⟩
    · have h1 := H.2 j (ready_mono hj hji)
      obtain ⟨hjun, oj, hoj, hall⟩ := mem_ready.1 hj
      have hjs : j < ops.size := (Array.getElem?_eq_some_iff.1 hoj).1
      have hi0 := (mem_ready.1 hr).1
      have hjr : j ∈ rem := by
        rcases hun j hjs hjun with h | h
        · exact (not_ready (hdep j h) hi0 hj).elim
        · exact h
      have hnot : ∀ e ∈ oj.after, Region.binds md e = true → e.on ≠ i := fun e he hb heq => by
        have h1 := hall e he hb
        rw [heq] at h1
        rcases Nat.lt_or_ge i listed.size with h' | h'
        · simp [h'] at hi0 h1; rw [hi0] at h1; cases h1
        · simp [Array.getElem?_eq_none h'] at h1
      have h2 := wpOp_putP hoj (hfree j oj hoj hji hjun hnot) hQ (fun cs b => hsel i oi cs b hi) (fun cs b => hsel j oj cs b hoj) hy h1
      have hfree' : ∀ k ok, ops[k]? = some ok → k ≠ i → (listed.setIfInBounds j true).getD k true = false →
          (∀ e ∈ ok.after, Region.binds md e = true → e.on ≠ i) → oi.apart ops ok = true := fun k ok hk hki hun hno => by
        refine hfree k ok hk hki ?_ hno
        by_cases hjk : j = k
        · subst hjk; exact hjun
        · rw [getD_set_ne true hjk] at hun; exact hun
      have hun' : ∀ x, x < ops.size → (listed.setIfInBounds j true).getD x true = false → x ∈ tl ∨ x ∈ rem.erase j := fun x hx hxun => by
        have hxj : j ≠ x := fun e => by
          subst e
          rcases Nat.lt_or_ge j listed.size with h' | h'
          · simp [h'] at hxun
          · simp [h'] at hxun
        rw [getD_set_ne true hxj] at hxun
        rcases hun x hx hxun with h | h
        · exact .inl h
        · exact .inr ((List.mem_erase_of_ne (Ne.symm hxj)).2 h)
      refine wpOp_mono (fun a' w' h3 => ⟨h3.2.1, ih (rem.erase j) (listed.setIfInBounds j true) a' w' h3.2.1 (by rw [List.length_erase_of_mem hjr, hlen]; omega) ((List.mem_erase_of_ne (Ne.symm hji)).2 hir) hun' hfree' (ready_mono hr (Ne.symm hji)) h3.1 ?_⟩) h2
      rw [Array.setIfInBounds_comm _ _ hji]
      exact h3.2.2

theorem wpAnyT_stP (hQ : ∀ c a d v w, Q (.panic c) (Act.put a d v) w → Q (.panic c) a w) (hs : Region.noSelect ops = true) (tl : List Nat) : ∀ (l : List (Nat × Bool)) (listed : Array Bool) (a : Act) (w : World), C w →
    (∀ j, j < ops.size → listed.getD j true = false → j ∈ tl ∨ j ∈ l.map (·.1)) →
    stB md ops tl l listed = true → wpSt P ops Q C tl l a w → wpAnyT P md ops Q C tl.length l.length listed a w
  | [], listed, a, w, _, _, hB, h => wpAny_tail tl listed a w hB h
  | (i, true) :: l, listed, a, w, hC, hun, hB, h => by
    simp only [stB, Bool.and_eq_true, beq_iff_eq] at hB
    refine ⟨fun h0 => (by rw [hB.1] at h0; cases h0), fun j hj => ?_⟩
    rw [hB.1, List.mem_singleton] at hj
    subst hj
    refine wpOp_mono (fun a' w' ⟨hC', h'⟩ => ⟨hC', wpAnyT_stP hQ hs tl l _ a' w' hC' (fun x hx hxun => ?_) hB.2 h'⟩) h
    have hxj : j ≠ x := fun e => by
      subst e
      rcases Nat.lt_or_ge j listed.size with h' | h'
      · simp [h'] at hxun
      · simp [h'] at hxun
    rw [getD_set_ne true hxj] at hxun
    rcases hun x hx hxun with h | h
    · exact .inl h
    · simp at h
      rcases h with h | h
      · exact (hxj h.symm).elim
      · exact .inr (by simpa using h)
  | (i, false) :: l, listed, a, w, hC, hun, hB, h => by
    simp only [stB, Bool.and_eq_true] at hB
    obtain ⟨⟨⟨hr, hf⟩, hd⟩, hB'⟩ := hB
    unfold wpSt at h
    cases ho : ops[i]? with
    | none => simp only [ho] at h
    | some o =>
      simp only [ho] at h
      obtain ⟨v, hy, hK⟩ := h
      refine wpAnyT_firstP (tl := tl) hQ ho (Region.noSelect_spec hs) (fun t ht => List.all_eq_true.1 hd t ht) l.length (((i, false) :: l).map (·.1)) listed a w hC (by simp) (by simp) hun (Region.free_spec ho hf) (by simpa using hr) hy
        (wpAnyT_stP hQ hs tl l _ _ _ hC (fun x hx hxun => ?_) hB' hK)
      have hxj : i ≠ x := fun e => by
        subst e
        rcases Nat.lt_or_ge i listed.size with h' | h'
        · simp [h'] at hxun
        · simp [h'] at hxun
      rw [getD_set_ne true hxj] at hxun
      rcases hun x hx hxun with h | h
      · exact .inl h
      · simp at h
        rcases h with h | h
        · exact (hxj h.symm).elim
        · exact .inr (by simpa using h)

theorem wp_region_tailP {id : Nat} {a : Act} {w : World} {l : List Oper} (s : List (Nat × Bool)) (tl : List Nat) (C : World → Prop) (hm : P.follows .mixedOrders = true)
    (hB : (Region.noSelect l.toArray && (stB .any l.toArray tl s (Array.replicate l.length false) && (s.length + tl.length == l.length && (List.range l.length).all fun j => tl.contains j || (s.map (·.1)).contains j))) = true) (hC : C w.drew)
    (h : wpSt P l.toArray (AnyP Q) C tl s a w.drew) : (Code.region id l.toArray true).wp P Q a w := by
  simp only [Bool.and_eq_true, beq_iff_eq] at hB
  refine wp_region_anyP (wp_region_any hm ?_)
  have := wpAny_of_T _ _ _ _ (wpAnyT_stP (md := .any) (Q := AnyP Q) anyP_put hB.1 tl s (Array.replicate l.length false) a _ hC (fun j hj _ => by
    have := List.all_eq_true.1 hB.2.2.2 j (by simpa using hj)
    simpa using this) hB.2.1 h)
  rw [hB.2.2.1] at this
  simpa using this

theorem wpTail_nilP {a : Act} {w : World} (h : Q .normal a w) : wpTail P ops (AnyP Q) [] a w := h
theorem anyP_pan {c : List PanicEntry} {a : Act} {w : World} (h : ∀ a', a'.defers = a.defers → Q (.panic c) a' w) : AnyP Q (.panic c) a w := h
end
end Go.Proofs.YthbfmioikbphgaaDoor
