/- A region that draws its order, in which two variables are laid into memory at any time before they are stored: one schedule serves all orders. Plain theory of regions, no program. -/
import Derived.Test.YtahmndacoanfiaaGreatFloat
namespace Go.Proofs.YtahmndacoanfiaaGreat
set_option maxRecDepth 100000
open Go
open Go.RowKit (Below)

section
variable {P : Program} {ops : Array Oper} {md : Region.Mode} {C : World → Prop} {Q : Exit → Act → World → Prop}

def ptr (g : Nat) : Value := .pointer (some ⟨g, 0, none⟩)

theorem put_pp {d d' : Tmp} (a : Act) (u v : Value) (hdd : d ≠ d') : (a.put (some d') v).put (some d) u = (a.put (some d) u).put (some d') v := by
  refine Act.put_comm a v u ?_
  intro t h h'
  cases h; cases h'; exact hdd rfl

/-- the walk along a schedule while two variables may be laid at any time -/
def wpFl2 (P : Program) (ops : Array Oper) (Q : Exit → Act → World → Prop) (C : World → Prop) (d d' : Tmp) (O O' : Obj) (B : Nat) (R : Act → World → Prop) : List (Nat × Bool) → Act → World → Prop
  | [], a, w => ∀ g g' w', C w' → Below w.heap.size w w' → w'.heap[g]? = some O → w'.heap[g']? = some O' → B ≤ g → B ≤ g' → g ≠ g' → R ((a.put (some d) (ptr g)).put (some d') (ptr g')) w'
  | (j, true) :: rest, a, w => ∀ w', C w' → Below w.heap.size w w' → wpOp P ops Q j (fun a2 w2 => (C w2 ∧ Below w'.heap.size w' w2) ∧ wpFl2 P ops Q C d d' O O' B R rest a2 w2) a w'
  | (j, false) :: rest, a, w => match ops[j]? with
    | none => False
    | some o => ∃ v, Calm P ops C o v a ∧ wpFl2 P ops Q C d d' O O' B R rest (a.put o.dst v) w

theorem wpFl2_grow {d d' : Tmp} {O O' : Obj} {B : Nat} {R : Act → World → Prop} : ∀ (l : List (Nat × Bool)) (a : Act) (w w1 : World), Below w.heap.size w w1 → wpFl2 P ops Q C d d' O O' B R l a w → wpFl2 P ops Q C d d' O O' B R l a w1
  | [], a, w, w1, hb, h => fun g g' w' hC hb' => h g g' w' hC (hb.trans (hb'.mono hb.size))
  | (j, true) :: rest, a, w, w1, hb, h => fun w' hC hb' => h w' hC (hb.trans (hb'.mono hb.size))
  | (j, false) :: rest, a, w, w1, hb, h => by
    unfold wpFl2 at h ⊢
    cases ho : ops[j]? with
    | none => simp only [ho] at h
    | some o =>
      simp only [ho] at h ⊢
      obtain ⟨v, h1, h2⟩ := h
      exact ⟨v, h1, wpFl2_grow rest _ w w1 hb h2⟩

def rdyB (md : Region.Mode) (ops : Array Oper) (listed : Array Bool) (l : List Nat) : Bool := !(Region.ready md ops listed).isEmpty && (Region.ready md ops listed).all fun k => l.contains k
def calmB (md : Region.Mode) (ops : Array Oper) (listed : Array Bool) (j : Nat) : Bool := (Region.ready md ops listed).contains j && Region.free md ops listed j

def float2B (md : Region.Mode) (ops : Array Oper) (i i' : Nat) (s2 : List (Nat × Bool)) : List (Nat × Bool) → Array Bool → Bool
  | [], listed => rdyB md ops listed [i, i'] && rdyB md ops (listed.setIfInBounds i true) [i'] && rdyB md ops (listed.setIfInBounds i' true) [i] && schedB md ops s2 ((listed.setIfInBounds i true).setIfInBounds i' true)
  | (j, true) :: rest, listed => (decide (j ≠ i) && decide (j ≠ i') && rdyB md ops listed [j, i, i'] && rdyB md ops (listed.setIfInBounds i true) [j, i'] && rdyB md ops (listed.setIfInBounds i' true) [j, i] && rdyB md ops ((listed.setIfInBounds i true).setIfInBounds i' true) [j] && apartB ops i j && apartB ops i' j) && float2B md ops i i' s2 rest (listed.setIfInBounds j true)
  | (j, false) :: rest, listed => (decide (j ≠ i) && decide (j ≠ i') && calmB md ops listed j && calmB md ops (listed.setIfInBounds i true) j && calmB md ops (listed.setIfInBounds i' true) j && calmB md ops ((listed.setIfInBounds i true).setIfInBounds i' true) j && apartB ops i j && apartB ops i' j) && float2B md ops i i' s2 rest (listed.setIfInBounds j true)

theorem rdy_spec {listed : Array Bool} {l : List Nat} (h : rdyB md ops listed l = true) : Region.ready md ops listed ≠ [] ∧ ∀ k ∈ Region.ready md ops listed, k ∈ l := by
  simp only [rdyB, Bool.and_eq_true, Bool.not_eq_true', List.all_eq_true] at h
  refine ⟨fun e => by rw [e] at h; simp at h, fun k hk => by simpa using h.2 k hk⟩
theorem apart_of {i j : Nat} {oi oj : Oper} (hi : ops[i]? = some oi) (hj : ops[j]? = some oj) (h : apartB ops i j = true) : oi.apart ops oj = true := by
  unfold apartB at h
  simp only [hi, hj, Bool.and_eq_true] at h
  exact h.1

section
variable {i i' : Nat} {oi oi' : Oper} {d d' : Tmp} {O O' : Obj} {B : Nat} {s2 : List (Nat × Bool)}
variable (hQ : ∀ c a w, ¬ Q (.panic c) a w) (hs : Region.noSelect ops = true) (hoi : ops[i]? = some oi) (hoi' : ops[i']? = some oi') (hdst : oi.dst = some d) (hdst' : oi'.dst = some d')
variable (hgd : oi.guard = none) (hgd' : oi'.guard = none)
variable (hrun : ∀ (a : Act) (w : World), (execOp a.eval oi).run P w = .ok (.value (ptr w.heap.size)) (w.alloc O)) (hrun' : ∀ (a : Act) (w : World), (execOp a.eval oi').run P w = .ok (.value (ptr w.heap.size)) (w.alloc O'))
variable (hCB : ∀ w, C w → B ≤ w.heap.size) (hCa : ∀ w, C w → C (w.alloc O)) (hCa' : ∀ w, C w → C (w.alloc O'))

include hQ hs hoi hoi' hdst hdst'
theorem wp2_DD : ∀ (l : List (Nat × Bool)) (listed : Array Bool) (a : Act) (w : World) (g g' : Nat), C w → w.heap[g]? = some O → w.heap[g']? = some O' → B ≤ g → B ≤ g' → g ≠ g' →
    float2B md ops i i' s2 l listed = true → wpFl2 P ops Q C d d' O O' B (wpSched P ops Q C s2) l a w →
    wpAnyC P md ops Q C (l.length + s2.length) ((listed.setIfInBounds i true).setIfInBounds i' true) ((a.put (some d) (ptr g)).put (some d') (ptr g')) w
  | [], listed, a, w, g, g', hC, hg, hg', hB, hB', hne, hF, h => by
    simp only [float2B, Bool.and_eq_true] at hF
    have := wpAnyC_sched (md := md) hQ hs s2 _ _ w hC hF.2 (h g g' w hC (Below.refl _ _) hg hg' hB hB' hne)
    simpa using this
  | (j, true) :: rest, listed, a, w, g, g', hC, hg, hg', hB, hB', hne, hF, h => by
    simp only [float2B, Bool.and_eq_true, decide_eq_true_eq] at hF
    obtain ⟨⟨⟨⟨⟨⟨⟨⟨hji, hji'⟩, -⟩, -⟩, -⟩, hr⟩, hap⟩, hap'⟩, hF'⟩ := hF
    have hlen : ((j, true) :: rest).length + s2.length = (rest.length + s2.length) + 1 := by simp; omega
    rw [hlen]
    obtain ⟨hr1, hr2⟩ := rdy_spec hr
    refine ⟨fun h0 => (hr1 h0).elim, fun k hk => ?_⟩
    obtain rfl : k = j := by simpa using hr2 k hk
    cases hoj : ops[k]? with
    | none => unfold apartB at hap; simp [hoi, hoj] at hap
    | some oj =>
      have hsj := fun cs b => Region.noSelect_spec hs k oj cs b hoj
      have h1 := wpOp_frame (v := ptr g) hoj (apart_of hoi hoj hap) hQ hsj (h w hC (Below.refl _ _))
      have h2 := wpOp_frame (v := ptr g') hoj (apart_of hoi' hoj hap') hQ hsj h1
      rw [hdst, hdst'] at h2
      refine wpOp_mono (fun a' w' ⟨a1, ha1, a0, ha, ⟨⟨hC', hb'⟩, h'⟩⟩ => ⟨hC', ?_⟩) h2
      subst ha; subst ha1
      have hlt : ∀ {x : Nat} {o : Obj}, w.heap[x]? = some o → x < w.heap.size := fun {x o} hx => by
        rcases Nat.lt_or_ge x w.heap.size with h0 | h0
        · exact h0
        · rw [Array.getElem?_eq_none h0] at hx; cases hx
      have := wp2_DD rest (listed.setIfInBounds k true) a0 w' g g' hC' (by rw [hb'.block g (hlt hg)]; exact hg) (by rw [hb'.block g' (hlt hg')]; exact hg') hB hB' hne hF' h'
      rw [Array.setIfInBounds_comm _ _ hji, Array.setIfInBounds_comm _ _ hji'] at this
      exact this
  | (j, false) :: rest, listed, a, w, g, g', hC, hg, hg', hB, hB', hne, hF, h => by
    simp only [float2B, Bool.and_eq_true, decide_eq_true_eq] at hF
    obtain ⟨⟨⟨⟨⟨⟨⟨⟨hji, hji'⟩, -⟩, -⟩, -⟩, hr⟩, hap⟩, hap'⟩, hF'⟩ := hF
    simp only [calmB, Bool.and_eq_true] at hr
    have hlen : ((j, false) :: rest).length + s2.length = (rest.length + s2.length) + 1 := by simp; omega
    rw [hlen]
    unfold wpFl2 at h
    cases hoj : ops[j]? with
    | none => simp only [hoj] at h
    | some oj =>
      simp only [hoj] at h
      obtain ⟨v, hy, hK⟩ := h
      obtain ⟨h1, h2, h3⟩ := Oper.apart_spec (apart_of hoi hoj hap)
      obtain ⟨k1, k2, k3⟩ := Oper.apart_spec (apart_of hoi' hoj hap')
      have hsj := fun cs b => Region.noSelect_spec hs j oj cs b hoj
      have hy' : Calm P ops C oj v ((a.put (some d) (ptr g)).put (some d') (ptr g')) := by
        rw [← hdst, ← hdst']
        exact (hy.of_same (execOp_put oj hsj a oi.dst _ h1) (wanted_put oj a oi.dst _ h1)).of_same (execOp_put oj hsj _ oi'.dst _ k1) (wanted_put oj _ oi'.dst _ k1)
      refine wpAnyC_first hQ hoj (Region.noSelect_spec hs) _ _ _ w hC (Region.free_spec hoj hr.2) (by simpa using hr.1) hy' ?_
      have := wp2_DD rest (listed.setIfInBounds j true) (a.put oj.dst v) w g g' hC hg hg' hB hB' hne hF' hK
      rw [Array.setIfInBounds_comm _ _ hji, Array.setIfInBounds_comm _ _ hji'] at this
      rw [← hdst, ← hdst'] at this ⊢
      rwa [Act.put_comm _ _ v k2, Act.put_comm a _ v h2]

include hgd' hrun' hCB hCa'
theorem wp2_DP : ∀ (l : List (Nat × Bool)) (listed : Array Bool) (a : Act) (w : World) (g : Nat), C w → w.heap[g]? = some O → B ≤ g →
    float2B md ops i i' s2 l listed = true → wpFl2 P ops Q C d d' O O' B (wpSched P ops Q C s2) l a w →
    wpAnyC P md ops Q C (l.length + 1 + s2.length) (listed.setIfInBounds i true) (a.put (some d) (ptr g)) w := by
  have hlt : ∀ {w : World} {x : Nat} {o : Obj}, w.heap[x]? = some o → x < w.heap.size := fun {w x o} hx => by
    rcases Nat.lt_or_ge x w.heap.size with h0 | h0
    · exact h0
    · rw [Array.getElem?_eq_none h0] at hx; cases hx
  have key : ∀ (l : List (Nat × Bool)) (listed : Array Bool) (a : Act) (w : World) (g : Nat), C w → w.heap[g]? = some O → B ≤ g → float2B md ops i i' s2 l listed = true → wpFl2 P ops Q C d d' O O' B (wpSched P ops Q C s2) l a w →
      wpOp P ops Q i' (fun a' w' => C w' ∧ wpAnyC P md ops Q C (l.length + s2.length) ((listed.setIfInBounds i true).setIfInBounds i' true) a' w') (a.put (some d) (ptr g)) w := fun l listed a w g hC hg hB hF h => by
    have hbel : Below w.heap.size w (w.alloc O') := (Below.refl _ _).alloc (Nat.le_refl _) _
    have hgl := hlt hg
    have h1 := wp2_DD (C := C) (O := O) (O' := O') (B := B) hQ hs hoi hoi' hdst hdst' l listed a (w.alloc O') g w.heap.size (hCa' w hC) (by rw [hbel.block g hgl]; exact hg) (heap_alloc_new w O') hB (hCB w hC) (by omega) hF (wpFl2_grow l a w _ hbel h)
    unfold wpOp
    simp only [hoi']
    rw [if_pos (by simp [Region.wanted, hgd'])]
    left
    unfold Oper.wp
    rw [hrun']
    simp only [Oper.upon]
    rw [hdst']
    exact ⟨hCa' w hC, h1⟩
  intro l
  induction l with
  | nil =>
    intro listed a w g hC hg hB hF h
    have hF0 := hF
    simp only [float2B, Bool.and_eq_true] at hF
    obtain ⟨hr1, hr2⟩ := rdy_spec hF.1.1.2
    have hlen : ([] : List (Nat × Bool)).length + 1 + s2.length = (([] : List (Nat × Bool)).length + s2.length) + 1 := by simp; omega
    rw [hlen]
    refine ⟨fun h0 => (hr1 h0).elim, fun k hk => ?_⟩
    obtain rfl : k = i' := by simpa using hr2 k hk
    exact key [] listed a w g hC hg hB hF0 h
  | cons x rest ih =>
    obtain ⟨j, b⟩ := x
    intro listed a w g hC hg hB hF h
    have hk0 := key ((j, b) :: rest) listed a w g hC hg hB hF h
    have hlen : ((j, b) :: rest).length + 1 + s2.length = (((j, b) :: rest).length + s2.length) + 1 := by simp; omega
    have hlen' : ((j, b) :: rest).length + s2.length = rest.length + 1 + s2.length := by simp
    cases b with
    | true =>
      simp only [float2B, Bool.and_eq_true, decide_eq_true_eq] at hF
      obtain ⟨⟨⟨⟨⟨⟨⟨⟨hji, hji'⟩, -⟩, hr⟩, -⟩, -⟩, hap⟩, hap'⟩, hF'⟩ := hF
      obtain ⟨hr1, hr2⟩ := rdy_spec hr
      rw [hlen]
      refine ⟨fun h0 => (hr1 h0).elim, fun k hk => ?_⟩
      rcases (show k = j ∨ k = i' by simpa using hr2 k hk) with rfl | rfl
      · cases hoj : ops[k]? with
        | none => unfold apartB at hap; simp [hoi, hoj] at hap
        | some oj =>
          have h1 := wpOp_frame (v := ptr g) hoj (apart_of hoi hoj hap) hQ (fun cs b => Region.noSelect_spec hs k oj cs b hoj) (h w hC (Below.refl _ _))
          rw [hdst] at h1
          refine wpOp_mono (fun a' w' ⟨a0, ha, ⟨⟨hC', hb'⟩, h'⟩⟩ => ⟨hC', ?_⟩) h1
          subst ha
          rw [hlen']
          have := ih (listed.setIfInBounds k true) a0 w' g hC' (by rw [hb'.block g (hlt hg)]; exact hg) hB hF' h'
          rwa [Array.setIfInBounds_comm _ _ hji] at this
      · exact hk0
    | false =>
      simp only [float2B, Bool.and_eq_true, decide_eq_true_eq] at hF
      obtain ⟨⟨⟨⟨⟨⟨⟨⟨hji, hji'⟩, -⟩, hr⟩, -⟩, -⟩, hap⟩, hap'⟩, hF'⟩ := hF
      simp only [calmB, Bool.and_eq_true] at hr
      rw [hlen]
      unfold wpFl2 at h
      cases hoj : ops[j]? with
      | none => simp only [hoj] at h
      | some oj =>
        simp only [hoj] at h
        obtain ⟨v, hy, hK⟩ := h
        obtain ⟨h1, h2, h3⟩ := Oper.apart_spec (apart_of hoi hoj hap)
        have hsj := fun cs b => Region.noSelect_spec hs j oj cs b hoj
        have hy' : Calm P ops C oj v (a.put (some d) (ptr g)) := by
          rw [← hdst]
          exact hy.of_same (execOp_put oj hsj a oi.dst _ h1) (wanted_put oj a oi.dst _ h1)
        refine wpAnyC_first hQ hoj (Region.noSelect_spec hs) _ _ _ w hC (Region.free_spec hoj hr.2) (by simpa using hr.1) hy' ?_
        rw [hlen']
        have := ih (listed.setIfInBounds j true) (a.put oj.dst v) w g hC hg hB hF' hK
        rw [Array.setIfInBounds_comm _ _ hji] at this
        rw [← hdst] at this ⊢
        rwa [Act.put_comm a _ v h2]
end

theorem wpFl2_swap {d d' : Tmp} {O O' : Obj} {B : Nat} {R : Act → World → Prop} (hdd : d ≠ d') : ∀ (l : List (Nat × Bool)) (a : Act) (w : World), wpFl2 P ops Q C d d' O O' B R l a w → wpFl2 P ops Q C d' d O' O B R l a w
  | [], a, w, h => fun g g' w' hC hb h1 h2 h3 h4 h5 => by
    have := h g' g w' hC hb h2 h1 h4 h3 (Ne.symm h5)
    rwa [put_pp a _ _ hdd]
  | (j, true) :: rest, a, w, h => fun w' hC hb => wpOp_mono (fun a2 w2 ⟨h1, h2⟩ => ⟨h1, wpFl2_swap hdd rest a2 w2 h2⟩) (h w' hC hb)
  | (j, false) :: rest, a, w, h => by
    unfold wpFl2 at h ⊢
    cases ho : ops[j]? with
    | none => simp only [ho] at h
    | some o =>
      simp only [ho] at h ⊢
      obtain ⟨v, h1, h2⟩ := h
      exact ⟨v, h1, wpFl2_swap hdd rest _ w h2⟩

theorem wp2_PP {i i' : Nat} {oi oi' : Oper} {d d' : Tmp} {O O' : Obj} {B : Nat} {s2 : List (Nat × Bool)}
    (hQ : ∀ c a w, ¬ Q (.panic c) a w) (hs : Region.noSelect ops = true) (hoi : ops[i]? = some oi) (hoi' : ops[i']? = some oi') (hdst : oi.dst = some d) (hdst' : oi'.dst = some d')
    (hgd : oi.guard = none) (hgd' : oi'.guard = none)
    (hrun : ∀ (a : Act) (w : World), (execOp a.eval oi).run P w = .ok (.value (ptr w.heap.size)) (w.alloc O)) (hrun' : ∀ (a : Act) (w : World), (execOp a.eval oi').run P w = .ok (.value (ptr w.heap.size)) (w.alloc O'))
    (hCB : ∀ w, C w → B ≤ w.heap.size) (hCa : ∀ w, C w → C (w.alloc O)) (hCa' : ∀ w, C w → C (w.alloc O')) (hdd : d ≠ d') :
    ∀ (l : List (Nat × Bool)) (listed : Array Bool) (a : Act) (w : World), C w → float2B md ops i i' s2 l listed = true → float2B md ops i' i s2 l listed = true →
    wpFl2 P ops Q C d d' O O' B (wpSched P ops Q C s2) l a w → wpAnyC P md ops Q C (l.length + 2 + s2.length) listed a w := by
  have key : ∀ (l : List (Nat × Bool)) (listed : Array Bool) (a : Act) (w : World), C w → float2B md ops i i' s2 l listed = true → wpFl2 P ops Q C d d' O O' B (wpSched P ops Q C s2) l a w →
      wpOp P ops Q i (fun a' w' => C w' ∧ wpAnyC P md ops Q C (l.length + 1 + s2.length) (listed.setIfInBounds i true) a' w') a w := fun l listed a w hC hF h => by
    have hbel : Below w.heap.size w (w.alloc O) := (Below.refl _ _).alloc (Nat.le_refl _) _
    have h1 := wp2_DP (C := C) (O := O) (O' := O') (B := B) hQ hs hoi hoi' hdst hdst' hgd' hrun' hCB hCa' l listed a (w.alloc O) w.heap.size (hCa w hC) (heap_alloc_new w O) (hCB w hC) hF (wpFl2_grow l a w _ hbel h)
    unfold wpOp
    simp only [hoi]
    rw [if_pos (by simp [Region.wanted, hgd])]
    left
    unfold Oper.wp
    rw [hrun]
    simp only [Oper.upon]
    rw [hdst]
    exact ⟨hCa w hC, h1⟩
  have key' : ∀ (l : List (Nat × Bool)) (listed : Array Bool) (a : Act) (w : World), C w → float2B md ops i' i s2 l listed = true → wpFl2 P ops Q C d' d O' O B (wpSched P ops Q C s2) l a w →
      wpOp P ops Q i' (fun a' w' => C w' ∧ wpAnyC P md ops Q C (l.length + 1 + s2.length) (listed.setIfInBounds i' true) a' w') a w := fun l listed a w hC hF h => by
    have hbel : Below w.heap.size w (w.alloc O') := (Below.refl _ _).alloc (Nat.le_refl _) _
    have h1 := wp2_DP (C := C) (O := O') (O' := O) (B := B) hQ hs hoi' hoi hdst' hdst hgd hrun hCB hCa l listed a (w.alloc O') w.heap.size (hCa' w hC) (heap_alloc_new w O') (hCB w hC) hF (wpFl2_grow l a w _ hbel h)
    unfold wpOp
    simp only [hoi']
    rw [if_pos (by simp [Region.wanted, hgd'])]
    left
    unfold Oper.wp
    rw [hrun']
    simp only [Oper.upon]
    rw [hdst']
    exact ⟨hCa' w hC, h1⟩
  intro l
  induction l with
  | nil =>
    intro listed a w hC hF hF2 h
    have k1 := key [] listed a w hC hF h
    have k2 := key' [] listed a w hC hF2 (wpFl2_swap hdd [] a w h)
    simp only [float2B, Bool.and_eq_true] at hF
    obtain ⟨hr1, hr2⟩ := rdy_spec hF.1.1.1
    have hlen : ([] : List (Nat × Bool)).length + 2 + s2.length = (([] : List (Nat × Bool)).length + 1 + s2.length) + 1 := by simp; omega
    rw [hlen]
    refine ⟨fun h0 => (hr1 h0).elim, fun k hk => ?_⟩
    rcases (show k = i ∨ k = i' by simpa using hr2 k hk) with rfl | rfl
    · exact k1
    · exact k2
  | cons x rest ih =>
    obtain ⟨j, b⟩ := x
    intro listed a w hC hF hF2 h
    have k1 := key ((j, b) :: rest) listed a w hC hF h
    have k2 := key' ((j, b) :: rest) listed a w hC hF2 (wpFl2_swap hdd _ a w h)
    have hlen : ((j, b) :: rest).length + 2 + s2.length = (((j, b) :: rest).length + 1 + s2.length) + 1 := by simp; omega
    have hlen' : ((j, b) :: rest).length + 1 + s2.length = rest.length + 2 + s2.length := by simp
    cases b with
    | true =>
      simp only [float2B, Bool.and_eq_true, decide_eq_true_eq] at hF hF2
      obtain ⟨⟨⟨⟨⟨⟨⟨⟨hji, hji'⟩, hr⟩, -⟩, -⟩, -⟩, hap⟩, hap'⟩, hF'⟩ := hF
      obtain ⟨-, hF2'⟩ := hF2
      obtain ⟨hr1, hr2⟩ := rdy_spec hr
      rw [hlen]
      refine ⟨fun h0 => (hr1 h0).elim, fun k hk => ?_⟩
      rcases (show k = j ∨ k = i ∨ k = i' by simpa using hr2 k hk) with rfl | rfl | rfl
      · refine wpOp_mono (fun a' w' ⟨⟨hC', _⟩, h'⟩ => ⟨hC', ?_⟩) (h w hC (Below.refl _ _))
        rw [hlen']
        exact ih _ a' w' hC' hF' hF2' h'
      · exact k1
      · exact k2
    | false =>
      simp only [float2B, Bool.and_eq_true, decide_eq_true_eq] at hF hF2
      obtain ⟨⟨⟨⟨⟨⟨⟨⟨hji, hji'⟩, hr⟩, -⟩, -⟩, -⟩, hap⟩, hap'⟩, hF'⟩ := hF
      obtain ⟨-, hF2'⟩ := hF2
      simp only [calmB, Bool.and_eq_true] at hr
      rw [hlen]
      unfold wpFl2 at h
      cases hoj : ops[j]? with
      | none => simp only [hoj] at h
      | some oj =>
        simp only [hoj] at h
        obtain ⟨v, hy, hK⟩ := h
        refine wpAnyC_first hQ hoj (Region.noSelect_spec hs) _ _ _ w hC (Region.free_spec hoj hr.2) (by simpa using hr.1) hy ?_
        rw [hlen']
        exact ih _ _ w hC hF' hF2' hK

/-- **THE REGION, BY ONE SCHEDULE, TWO VARIABLES BEING LAID AT ANY TIME.** -/
theorem wp_region_float2 {id : Nat} {a : Act} {w : World} {l : List Oper} (i i' : Nat) (s s2 : List (Nat × Bool)) (C : World → Prop) (oi oi' : Oper) (d d' : Tmp) (O O' : Obj) (B : Nat) (hm : P.follows .mixedOrders = true)
    (hoi : l.toArray[i]? = some oi) (hoi' : l.toArray[i']? = some oi') (hdst : oi.dst = some d) (hdst' : oi'.dst = some d') (hgd : oi.guard = none) (hgd' : oi'.guard = none)
    (hrun : ∀ (a : Act) (w : World), (execOp a.eval oi).run P w = .ok (.value (ptr w.heap.size)) (w.alloc O)) (hrun' : ∀ (a : Act) (w : World), (execOp a.eval oi').run P w = .ok (.value (ptr w.heap.size)) (w.alloc O'))
    (hCB : ∀ w, C w → B ≤ w.heap.size) (hCa : ∀ w, C w → C (w.alloc O)) (hCa' : ∀ w, C w → C (w.alloc O')) (hdd : d ≠ d')
    (hB : (Region.noSelect l.toArray && (float2B .any l.toArray i i' s2 s (Array.replicate l.length false) && float2B .any l.toArray i' i s2 s (Array.replicate l.length false) && s.length + 2 + s2.length == l.length)) = true) (hC : C w.drew)
    (h : wpFl2 P l.toArray (NoPanic Q) C d d' O O' B (wpSched P l.toArray (NoPanic Q) C s2) s a w.drew) : (Code.region id l.toArray true).wp P Q a w := by
  simp only [Bool.and_eq_true, beq_iff_eq] at hB
  refine wp_region_noPanic (wp_region_any hm (wpAny_of_C (C := C) _ _ _ _ ?_))
  have := wp2_PP (md := .any) (Q := NoPanic Q) (C := C) (s2 := s2) (fun c a w h => h) hB.1 hoi hoi' hdst hdst' hgd hgd' hrun hrun' hCB hCa hCa' hdd s (Array.replicate l.length false) a _ hC hB.2.1.1 hB.2.1.2 h
  rw [hB.2.2] at this
  simpa using this

theorem wpFl2_calm {d d' : Tmp} {O O' : Obj} {B : Nat} {R : Act → World → Prop} {i : Nat} {rest : List (Nat × Bool)} {a : Act} {w : World} {o : Oper} (ho : ops[i]? = some o)
    (h : ∀ K : Act → Prop, (∀ a, wpFl2 P ops Q C d d' O O' B R rest a w → K a) → if Region.wanted o (yielded ops a.tmps) then Oper.calm P o a C K else K (a.put o.dst undef)) : wpFl2 P ops Q C d d' O O' B R ((i, false) :: rest) a w := by
  unfold wpFl2
  simp only [ho]
  have := h _ (fun _ h => h)
  split at this
  · rename_i hw; obtain ⟨v, h1, h2⟩ := this; exact ⟨v, .inl ⟨hw, h1⟩, h2⟩
  · rename_i hw; exact ⟨undef, .inr ⟨by simpa using hw, rfl⟩, this⟩

theorem wpFl2_eff {d d' : Tmp} {O O' : Obj} {B : Nat} {R : Act → World → Prop} {i : Nat} {rest : List (Nat × Bool)} {a : Act} {w : World} {o : Oper} (ho : ops[i]? = some o) (hg : o.guard = none)
    (h : ∀ w1, C w1 → Below w.heap.size w w1 → ∀ K : Act → World → Prop, (∀ a' w', C w' → Below w1.heap.size w1 w' → wpFl2 P ops Q C d d' O O' B R rest a' w' → K a' w') → o.wp P a w1 K Q) : wpFl2 P ops Q C d d' O O' B R ((i, true) :: rest) a w := by
  intro w1 hC hb
  unfold wpOp
  simp only [ho]
  rw [if_pos (by simp [Region.wanted, hg])]
  exact .inl (h w1 hC hb _ fun _ _ h1 h2 h3 => ⟨⟨h1, h2⟩, h3⟩)

theorem wpFl2_nil {d d' : Tmp} {O O' : Obj} {B : Nat} {R : Act → World → Prop} {a : Act} {w : World}
    (h : ∀ g g' w', C w' → Below w.heap.size w w' → w'.heap[g]? = some O → w'.heap[g']? = some O' → B ≤ g → B ≤ g' → g ≠ g' → R ((a.put (some d) (.pointer (some ⟨g, 0, none⟩))).put (some d') (.pointer (some ⟨g', 0, none⟩))) w') : wpFl2 P ops Q C d d' O O' B R [] a w := h
end
end Go.Proofs.YtahmndacoanfiaaGreat
