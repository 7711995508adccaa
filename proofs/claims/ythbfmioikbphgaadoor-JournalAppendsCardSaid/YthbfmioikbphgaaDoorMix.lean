/- A region that draws its order, some of whose operations write or make memory: one schedule serves all, if the operations that only read yield the same in every world of a class that the others keep, and each of the others comes up alone. Plain theory of regions, no program. -/
import Derived.Deep.QuietTactic
import Derived.Deep.RegionHeld3
import Derived.Below
namespace Go.Proofs.YthbfmioikbphgaaDoor
set_option maxRecDepth 100000
open Go

section
variable {P : Program} {ops : Array Oper} {md : Region.Mode} {C : World → Prop} {Q : Exit → Act → World → Prop}

/-- in every world of the class the operation yields v and leaves the world alone -/
def Calm (P : Program) (ops : Array Oper) (C : World → Prop) (o : Oper) (v : Value) (a : Act) : Prop :=
  (Region.wanted o (yielded ops a.tmps) = true ∧ ∀ w, C w → o.quietAt P a (fun x => x = w) w v) ∨ (Region.wanted o (yielded ops a.tmps) = false ∧ v = undef)

theorem Calm.of_same {o : Oper} {v : Value} {a a' : Act} (hy : Calm P ops C o v a) (he : execOp a'.eval o = execOp a.eval o)
    (hw : Region.wanted o (yielded ops a'.tmps) = Region.wanted o (yielded ops a.tmps)) : Calm P ops C o v a' := by
  unfold Calm Oper.quietAt at *
  rw [he, hw]
  exact hy

/-- the orders that are left, each step keeping the class -/
def wpAnyC (P : Program) (md : Region.Mode) (ops : Array Oper) (Q : Exit → Act → World → Prop) (C : World → Prop) : Nat → Array Bool → Act → World → Prop
  | 0, listed, a, w => Region.ready md ops listed = [] ∧ Q .normal a w
  | fuel + 1, listed, a, w =>
    (Region.ready md ops listed = [] → Q .normal a w) ∧
    ∀ i ∈ Region.ready md ops listed, wpOp P ops Q i (fun a' w' => C w' ∧ wpAnyC P md ops Q C fuel (listed.setIfInBounds i true) a' w') a w

theorem wpAny_of_C : ∀ (fuel : Nat) (listed : Array Bool) (a : Act) (w : World), wpAnyC P md ops Q C fuel listed a w → wpAny P md ops Q fuel listed a w
  | 0, _, _, _, h => h
  | fuel + 1, _, _, _, h => ⟨h.1, fun i hi => wpOp_mono (fun a' w' h' => wpAny_of_C fuel _ a' w' h'.2) (h.2 i hi)⟩

theorem Calm.wpOp {i : Nat} {o : Oper} {v : Value} {a : Act} {w : World} (hi : ops[i]? = some o) (hC : C w) (hy : Calm P ops C o v a) {K : Act → World → Prop} (h : K (a.put o.dst v) w) : wpOp P ops Q i K a w := by
  unfold Go.wpOp
  simp only [hi]
  rcases hy with ⟨hw, hv⟩ | ⟨hw, rfl⟩
  · simp only [hw, if_true]
    left
    have h1 := hv w hC
    unfold Oper.quietAt at h1
    unfold Oper.wp
    generalize (execOp a.eval o).run P w = r at *
    cases r with
    | ok n w' =>
      cases n <;> simp only [Oper.quietUpon] at h1 <;> simp only [Oper.upon]
      case value u => obtain ⟨rfl, rfl⟩ := h1; exact h
      case skip => obtain ⟨rfl, rfl⟩ := h1; exact h
      case enter f args =>
        obtain ⟨rfl, h2⟩ := h1
        exact h2.mono fun e w'' ⟨he, hw''⟩ => by subst he; subst hw''; exact h
    | halt x w' => simp only [Oper.quietUpon] at h1
  · simp only [hw, Bool.false_eq_true, if_false]; exact h

theorem put_defers (a : Act) (d : Option Tmp) (v : Value) : (a.put d v).defers = a.defers := by cases d <;> rfl
theorem put_with (a : Act) (d : Option Tmp) (v : Value) (ds : List Deferred) : ({ a.put d v with defers := ds } : Act) = ({ a with defers := ds } : Act).put d v := by cases d <;> rfl

/-- an operation apart from oi does not feel whether oi's value is there already -/
theorem wpOp_put {j : Nat} {oi oj : Oper} {v : Value} (hj : ops[j]? = some oj) (hap : oi.apart ops oj = true) (hQ : ∀ c a w, ¬ Q (.panic c) a w)
    (hsi : ∀ cs b, oi.op ≠ .select cs b) (hsj : ∀ cs b, oj.op ≠ .select cs b) {K : Act → World → Prop} {a : Act} {w : World}
    (hy : Calm P ops C oi v a) (h : wpOp P ops Q j K (a.put oi.dst v) w) :
    wpOp P ops Q j (fun a' w' => Calm P ops C oi v a' ∧ K (a'.put oi.dst v) w') a w := by
  obtain ⟨h1, h2, h3⟩ := Oper.apart_spec hap
  have keep : ∀ (a : Act), Calm P ops C oi v a → ∀ u, Calm P ops C oi v (a.put oj.dst u) := fun a hy u =>
    hy.of_same (execOp_put oi hsi a oj.dst u h3) (wanted_put oi a oj.dst u h3)
  have keepd : ∀ (a : Act) (ds : List Deferred), Calm P ops C oi v a → Calm P ops C oi v { a with defers := ds } := fun a ds hy => hy
  unfold wpOp at *
  simp only [hj] at *
  rw [wanted_put oj a oi.dst v h1] at h
  split
  · rename_i hw
    simp only [hw, if_true] at h
    rcases h with h | ⟨h, ho⟩
    · left
      unfold Oper.wp at *
      rw [execOp_put oj hsj a oi.dst v h1] at h
      generalize (execOp a.eval oj).run P w = r at *
      cases r with
      | ok n w' =>
        cases n <;> simp only [Oper.upon] at h ⊢
        case value u => exact ⟨keep a hy u, by rw [← Act.put_comm a v u h2]; exact h⟩
        case skip => exact ⟨keep a hy _, by rw [← Act.put_comm a v undef h2]; exact h⟩
        case defer d =>
          refine ⟨keep _ (keepd a _ hy) _, ?_⟩
          rw [put_defers, put_with, Act.put_comm _ v undef h2] at h
          exact h
        case enter f args =>
          refine h.mono fun e w'' he => ?_
          cases e with
          | returned u => exact ⟨keep a hy u, by rw [← Act.put_comm a v u h2]; exact he⟩
          | panicked c => exact (hQ _ _ _ he).elim
          | outgrown => exact he
        case row r args => exact Rows.mono h fun u w'' he => ⟨keep a hy u, by rw [← Act.put_comm a v u h2]; exact he⟩
        all_goals exact h
      | halt x w' =>
        cases x <;> simp only [Oper.upon] at h ⊢
        case panic c => exact (hQ _ _ _ h).elim
        all_goals exact h
    · right
      refine ⟨?_, ho⟩
      unfold Oper.asks at *
      rw [execOp_put oj hsj a oi.dst v h1] at h
      exact h
  · rename_i hw
    simp only [hw] at h
    exact ⟨keep a hy _, by rw [← Act.put_comm a v undef h2]; exact h⟩

/-- an operation that may come up now, and that is calm, may be taken first -/
theorem wpAnyC_first {i : Nat} {oi : Oper} {v : Value} (hQ : ∀ c a w, ¬ Q (.panic c) a w) (hi : ops[i]? = some oi) (hsel : ∀ (j : Nat) (o : Oper) cs b, ops[j]? = some o → o.op ≠ .select cs b) :
    ∀ (fuel : Nat) (listed : Array Bool) (a : Act) (w : World), C w →
      (∀ j oj, ops[j]? = some oj → j ≠ i → listed.getD j true = false → (∀ e ∈ oj.after, Region.binds md e = true → e.on ≠ i) → oi.apart ops oj = true) →
      i ∈ Region.ready md ops listed → Calm P ops C oi v a →
      wpAnyC P md ops Q C fuel (listed.setIfInBounds i true) (a.put oi.dst v) w → wpAnyC P md ops Q C (fuel + 1) listed a w := by
  intro fuel
  induction fuel with
  | zero =>
    intro listed a w hC _ hr hy H
    refine ⟨fun h => (by rw [h] at hr; cases hr), fun j hj => ?_⟩
    by_cases hji : j = i
    · subst hji; exact hy.wpOp hi hC ⟨hC, H⟩
    · have := ready_mono hj hji
      rw [H.1] at this
      cases this
  | succ fuel ih =>
    intro listed a w hC hfree hr hy H
    refine ⟨fun h => (by rw [h] at hr; cases hr), fun j hj => ?_⟩
    by_cases hji : j = i
    · subst hji; exact hy.wpOp hi hC ⟨hC, H⟩
    · have h1 := H.2 j (ready_mono hj hji)
      obtain ⟨hjun, oj, hoj, hall⟩ := mem_ready.1 hj
      have hnot : ∀ e ∈ oj.after, Region.binds md e = true → e.on ≠ i := fun e he hb heq => by
        have h1 := hall e he hb
        have h0 := (mem_ready.1 hr).1
        rw [heq] at h1
        rcases Nat.lt_or_ge i listed.size with h' | h'
        · simp [h'] at h0 h1; rw [h0] at h1; cases h1
        · simp [Array.getElem?_eq_none h'] at h1
      have h2 := wpOp_put hoj (hfree j oj hoj hji hjun hnot) hQ (fun cs b => hsel i oi cs b hi) (fun cs b => hsel j oj cs b hoj) hy h1
      have hfree' : ∀ k ok, ops[k]? = some ok → k ≠ i → (listed.setIfInBounds j true).getD k true = false →
          (∀ e ∈ ok.after, Region.binds md e = true → e.on ≠ i) → oi.apart ops ok = true := fun k ok hk hki hun hno => by
        refine hfree k ok hk hki ?_ hno
        by_cases hjk : j = k
        · subst hjk; exact hjun
        · rw [getD_set_ne true hjk] at hun; exact hun
      refine wpOp_mono (fun a' w' h3 => ⟨h3.2.1, ih (listed.setIfInBounds j true) a' w' h3.2.1 hfree' (ready_mono hr (Ne.symm hji)) h3.1 ?_⟩) h2
      rw [Array.setIfInBounds_comm _ _ hji]
      exact h3.2.2

/-- the walk along one schedule: 'true' marks an operation that comes up alone -/
def wpSched (P : Program) (ops : Array Oper) (Q : Exit → Act → World → Prop) (C : World → Prop) : List (Nat × Bool) → Act → World → Prop
  | [], a, w => Q .normal a w
  | (i, true) :: rest, a, w => wpOp P ops Q i (fun a' w' => C w' ∧ wpSched P ops Q C rest a' w') a w
  | (i, false) :: rest, a, w => match ops[i]? with
    | none => False
    | some o => ∃ v, Calm P ops C o v a ∧ wpSched P ops Q C rest (a.put o.dst v) w

def schedB (md : Region.Mode) (ops : Array Oper) : List (Nat × Bool) → Array Bool → Bool
  | [], listed => (Region.ready md ops listed).isEmpty
  | (i, true) :: rest, listed => (Region.ready md ops listed) == [i] && schedB md ops rest (listed.setIfInBounds i true)
  | (i, false) :: rest, listed => (Region.ready md ops listed).contains i && Region.free md ops listed i && schedB md ops rest (listed.setIfInBounds i true)

theorem wpAnyC_sched (hQ : ∀ c a w, ¬ Q (.panic c) a w) (hs : Region.noSelect ops = true) : ∀ (l : List (Nat × Bool)) (listed : Array Bool) (a : Act) (w : World), C w →
    schedB md ops l listed = true → wpSched P ops Q C l a w → wpAnyC P md ops Q C l.length listed a w
  | [], _, _, _, _, hB, h => ⟨by simpa [schedB] using hB, h⟩
  | (i, true) :: l, listed, a, w, hC, hB, h => by
    simp only [schedB, Bool.and_eq_true, beq_iff_eq] at hB
    refine ⟨fun h0 => (by rw [hB.1] at h0; cases h0), fun j hj => ?_⟩
    rw [hB.1, List.mem_singleton] at hj
    subst hj
    exact wpOp_mono (fun a' w' ⟨hC', h'⟩ => ⟨hC', wpAnyC_sched hQ hs l _ a' w' hC' hB.2 h'⟩) h
  | (i, false) :: l, listed, a, w, hC, hB, h => by
    simp only [schedB, Bool.and_eq_true] at hB
    obtain ⟨⟨hr, hf⟩, hB'⟩ := hB
    unfold wpSched at h
    cases ho : ops[i]? with
    | none => simp only [ho] at h
    | some o =>
      simp only [ho] at h
      obtain ⟨v, hy, hK⟩ := h
      exact wpAnyC_first hQ ho (Region.noSelect_spec hs) l.length listed a w hC (Region.free_spec ho hf) (by simpa using hr) hy (wpAnyC_sched hQ hs l _ _ _ hC hB' hK)

/-- **THE REGION, BY ONE SCHEDULE.** -/
theorem wp_region_sched {id : Nat} {a : Act} {w : World} {l : List Oper} (s : List (Nat × Bool)) (C : World → Prop) (hm : P.follows .mixedOrders = true)
    (hB : (Region.noSelect l.toArray && (schedB .any l.toArray s (Array.replicate l.length false) && s.length == l.length)) = true) (hC : C w.drew)
    (h : wpSched P l.toArray (NoPanic Q) C s a w.drew) : (Code.region id l.toArray true).wp P Q a w := by
  simp only [Bool.and_eq_true, beq_iff_eq] at hB
  refine wp_region_noPanic (wp_region_any hm (wpAny_of_C (C := C) _ _ _ _ ?_))
  have := wpAnyC_sched (md := .any) (fun c a w h => h) hB.1 s (Array.replicate l.length false) a _ hC hB.2.1 h
  rw [hB.2.2] at this
  simpa using this

/-- one operation that is calm -/
def Oper.calm (P : Program) (o : Oper) (a : Act) (C : World → Prop) (next : Act → Prop) : Prop := ∃ v, (∀ w, C w → o.quietAt P a (fun x => x = w) w v) ∧ next (a.put o.dst v)

theorem wpSched_calm {i : Nat} {rest : List (Nat × Bool)} {a : Act} {w : World} {o : Oper} (ho : ops[i]? = some o)
    (h : ∀ K : Act → Prop, (∀ a, wpSched P ops Q C rest a w → K a) → if Region.wanted o (yielded ops a.tmps) then Oper.calm P o a C K else K (a.put o.dst undef)) : wpSched P ops Q C ((i, false) :: rest) a w := by
  unfold wpSched
  simp only [ho]
  have := h _ (fun _ h => h)
  split at this
  · rename_i hw; obtain ⟨v, h1, h2⟩ := this; exact ⟨v, .inl ⟨hw, h1⟩, h2⟩
  · rename_i hw; exact ⟨undef, .inr ⟨by simpa using hw, rfl⟩, this⟩

theorem wpSched_eff {i : Nat} {rest : List (Nat × Bool)} {a : Act} {w : World} {o : Oper} (ho : ops[i]? = some o) (hg : o.guard = none)
    (h : ∀ K : Act → World → Prop, (∀ a' w', C w' → wpSched P ops Q C rest a' w' → K a' w') → o.wp P a w K Q) : wpSched P ops Q C ((i, true) :: rest) a w := by
  unfold wpSched wpOp
  simp only [ho]
  rw [if_pos (by simp [Region.wanted, hg])]
  exact .inl (h _ fun _ _ h1 h2 => ⟨h1, h2⟩)

theorem wpSched_nil {a : Act} {w : World} (h : Q .normal a w) : wpSched P ops (NoPanic Q) C [] a w := h
end

attribute [go_sem] Oper.calm

/-- a world in which the blocks below B are as they were in w -/
structure Ext (B : Nat) (w : World) where
  val : World
  prop : RowKit.Below B w val
instance (B : Nat) (w : World) : Nonempty (Ext B w) := ⟨⟨w, RowKit.Below.refl _ _⟩⟩

/-- a region that draws its order and holds calls that make memory, hand back plain values and leave what was there -/
theorem wp_region_ext {P : Program} {id : Nat} {Q : Exit → Act → World → Prop} {a : Act} {w : World} {l : List Oper} (B : Nat) (w0 : World) (hm : P.follows .mixedOrders = true) (hB : Region.lexB .any l.toArray = true) (hb : RowKit.Below B w0 w)
    (h : wpQuiet P l.toArray (fun w' => ∃ W : Ext B w0, w' = W.val) (fun a' => ∀ W : Ext B w0, Q .normal a' W.val) l a) : (Code.region id l.toArray true).wp P Q a w := by
  refine wp_region_quiet (C := fun w' => ∃ W : Ext B w0, w' = W.val) hm hB ⟨⟨_, hb.drew⟩, rfl⟩ ?_
  have e : (fun a' => ∀ w', (∃ W : Ext B w0, w' = W.val) → Q .normal a' w') = (fun a' => ∀ W : Ext B w0, Q .normal a' W.val) := by
    funext a'; simp
  rw [e]
  simpa using h
theorem Calls.ext {P : Program} {f : FuncId} {args : Array Value} {w0 : World} {v : Value} (W : Ext w0.heap.size w0)
    (h : Calls P f args W.val fun e w' => e = .returned v ∧ RowKit.Below W.val.heap.size W.val w') : Calls P f args W.val fun e w'' => e = .returned v ∧ ∃ W' : Ext w0.heap.size w0, w'' = W'.val :=
  h.mono fun _ w' ⟨h1, h2⟩ => ⟨h1, ⟨w', W.prop.trans (h2.mono W.prop.size)⟩, rfl⟩
theorem Calls.ext_same {P : Program} {f : FuncId} {args : Array Value} {B : Nat} {w0 : World} {v : Value} (W : Ext B w0)
    (h : Calls P f args W.val fun e w' => e = .returned v ∧ W.val = w') : Calls P f args W.val fun e w'' => e = .returned v ∧ ∃ W' : Ext B w0, w'' = W'.val :=
  h.mono fun _ _ ⟨h1, h2⟩ => ⟨h1, W, h2.symm⟩

end Go.Proofs.YthbfmioikbphgaaDoor
