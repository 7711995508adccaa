/- A region that draws its order, in which two operations that write or make memory may come in either order. Plain theory of regions, no program. -/
import Derived.Test.YthbfmioikbphgaaDoorMix
namespace Go.Proofs.YthbfmioikbphgaaDoor
set_option maxRecDepth 100000
open Go

section
variable {P : Program} {ops : Array Oper} {md : Region.Mode} {C : World → Prop} {Q : Exit → Act → World → Prop}

/-- the walk along a schedule, then two operations in either order, then a schedule -/
def wpPr (P : Program) (ops : Array Oper) (Q : Exit → Act → World → Prop) (C : World → Prop) (i j : Nat) (s2 : List (Nat × Bool)) : List (Nat × Bool) → Act → World → Prop
  | [], a, w => wpOp P ops Q i (fun a1 w1 => C w1 ∧ wpOp P ops Q j (fun a2 w2 => C w2 ∧ wpSched P ops Q C s2 a2 w2) a1 w1) a w ∧ wpOp P ops Q j (fun a1 w1 => C w1 ∧ wpOp P ops Q i (fun a2 w2 => C w2 ∧ wpSched P ops Q C s2 a2 w2) a1 w1) a w
  | (k, true) :: rest, a, w => wpOp P ops Q k (fun a' w' => C w' ∧ wpPr P ops Q C i j s2 rest a' w') a w
  | (k, false) :: rest, a, w => match ops[k]? with
    | none => False
    | some o => ∃ v, Calm P ops C o v a ∧ wpPr P ops Q C i j s2 rest (a.put o.dst v) w

def pairB (md : Region.Mode) (ops : Array Oper) (i j : Nat) (s2 : List (Nat × Bool)) : List (Nat × Bool) → Array Bool → Bool
  | [], listed => decide (i ≠ j) && ((Region.ready md ops listed) == [i, j] || (Region.ready md ops listed) == [j, i]) && (Region.ready md ops (listed.setIfInBounds i true)) == [j] && (Region.ready md ops (listed.setIfInBounds j true)) == [i] && schedB md ops s2 ((listed.setIfInBounds i true).setIfInBounds j true)
  | (k, true) :: rest, listed => (Region.ready md ops listed) == [k] && pairB md ops i j s2 rest (listed.setIfInBounds k true)
  | (k, false) :: rest, listed => (Region.ready md ops listed).contains k && Region.free md ops listed k && pairB md ops i j s2 rest (listed.setIfInBounds k true)

theorem wpAnyC_pair {i j : Nat} {s2 : List (Nat × Bool)} (hQ : ∀ c a w, ¬ Q (.panic c) a w) (hs : Region.noSelect ops = true) : ∀ (l : List (Nat × Bool)) (listed : Array Bool) (a : Act) (w : World), C w →
    pairB md ops i j s2 l listed = true → wpPr P ops Q C i j s2 l a w → wpAnyC P md ops Q C (l.length + (s2.length + 2)) listed a w
  | [], listed, a, w, hC, hB, h => by
    simp only [pairB, Bool.and_eq_true, decide_eq_true_eq, beq_iff_eq, Bool.or_eq_true] at hB
    obtain ⟨⟨⟨⟨hij, hr⟩, hri⟩, hrj⟩, hB2⟩ := hB
    rw [List.length_nil, Nat.zero_add]
    refine ⟨fun h0 => ?_, fun k hk => ?_⟩
    · rcases hr with hr | hr <;> rw [hr] at h0 <;> cases h0
    · have hk' : k = i ∨ k = j := by rcases hr with hr | hr <;> rw [hr] at hk <;> simp at hk <;> omega
      rcases hk' with rfl | rfl
      · refine wpOp_mono (fun a1 w1 ⟨hC1, h1⟩ => ⟨hC1, ?_⟩) h.1
        refine ⟨fun h0 => (by rw [hri] at h0; cases h0), fun m hm => ?_⟩
        rw [hri, List.mem_singleton] at hm
        subst hm
        exact wpOp_mono (fun a2 w2 ⟨hC2, h2⟩ => ⟨hC2, wpAnyC_sched hQ hs s2 _ a2 w2 hC2 hB2 h2⟩) h1
      · refine wpOp_mono (fun a1 w1 ⟨hC1, h1⟩ => ⟨hC1, ?_⟩) h.2
        refine ⟨fun h0 => (by rw [hrj] at h0; cases h0), fun m hm => ?_⟩
        rw [hrj, List.mem_singleton] at hm
        subst hm
        rw [Array.setIfInBounds_comm _ _ hij] at hB2
        exact wpOp_mono (fun a2 w2 ⟨hC2, h2⟩ => ⟨hC2, wpAnyC_sched hQ hs s2 _ a2 w2 hC2 hB2 h2⟩) h1
  | (k, true) :: l, listed, a, w, hC, hB, h => by
    simp only [pairB, Bool.and_eq_true, beq_iff_eq] at hB
    rw [show ((k, true) :: l).length + (s2.length + 2) = (l.length + (s2.length + 2)) + 1 by simp; omega]
    refine ⟨fun h0 => (by rw [hB.1] at h0; cases h0), fun m hm => ?_⟩
    rw [hB.1, List.mem_singleton] at hm
    subst hm
    exact wpOp_mono (fun a' w' ⟨hC', h'⟩ => ⟨hC', wpAnyC_pair hQ hs l _ a' w' hC' hB.2 h'⟩) h
  | (k, false) :: l, listed, a, w, hC, hB, h => by
    simp only [pairB, Bool.and_eq_true] at hB
    obtain ⟨⟨hr, hf⟩, hB'⟩ := hB
    rw [show ((k, false) :: l).length + (s2.length + 2) = (l.length + (s2.length + 2)) + 1 by simp; omega]
    unfold wpPr at h
    cases ho : ops[k]? with
    | none => simp only [ho] at h
    | some o =>
      simp only [ho] at h
      obtain ⟨v, hy, hK⟩ := h
      exact wpAnyC_first hQ ho (Region.noSelect_spec hs) _ listed a w hC (Region.free_spec ho hf) (by simpa using hr) hy (wpAnyC_pair hQ hs l _ _ _ hC hB' hK)

/-- **THE REGION, TWO OPERATIONS IN EITHER ORDER.** -/
theorem wp_region_pair {id : Nat} {a : Act} {w : World} {l : List Oper} (s : List (Nat × Bool)) (i j : Nat) (s2 : List (Nat × Bool)) (C : World → Prop) (hm : P.follows .mixedOrders = true)
    (hB : (Region.noSelect l.toArray && (pairB .any l.toArray i j s2 s (Array.replicate l.length false) && s.length + (s2.length + 2) == l.length)) = true) (hC : C w.drew)
    (h : wpPr P l.toArray (NoPanic Q) C i j s2 s a w.drew) : (Code.region id l.toArray true).wp P Q a w := by
  simp only [Bool.and_eq_true, beq_iff_eq] at hB
  refine wp_region_noPanic (wp_region_any hm (wpAny_of_C (C := C) _ _ _ _ ?_))
  have := wpAnyC_pair (md := .any) (fun c a w h => h) hB.1 s (Array.replicate l.length false) a _ hC hB.2.1 h
  rw [hB.2.2] at this
  simpa using this

theorem wpPr_calm {i j : Nat} {s2 : List (Nat × Bool)} {k : Nat} {rest : List (Nat × Bool)} {a : Act} {w : World} {o : Oper} (ho : ops[k]? = some o)
    (h : ∀ K : Act → Prop, (∀ a, wpPr P ops Q C i j s2 rest a w → K a) → if Region.wanted o (yielded ops a.tmps) then Oper.calm P o a C K else K (a.put o.dst undef)) : wpPr P ops Q C i j s2 ((k, false) :: rest) a w := by
  unfold wpPr
  simp only [ho]
  have := h _ (fun _ h => h)
  split at this
  · rename_i hw; obtain ⟨v, h1, h2⟩ := this; exact ⟨v, .inl ⟨hw, h1⟩, h2⟩
  · rename_i hw; exact ⟨undef, .inr ⟨by simpa using hw, rfl⟩, this⟩

/-- the two operations: what holds behind both, in terms of the two values -/
theorem wpPr_both {i j : Nat} {s2 : List (Nat × Bool)} {a : Act} {w : World} {oi oj : Oper} {di dj : Tmp} (R : Value → Value → World → Prop)
    (hoi : ops[i]? = some oi) (hoj : ops[j]? = some oj) (hgi : oi.guard = none) (hgj : oj.guard = none) (_hdi : oi.dst = some di) (_hdj : oj.dst = some dj) (hne : (di != dj) = true)
    (h1 : ∀ K : Act → World → Prop, (∀ a1 x w1, a1 = a.put (some di) x → C w1 → (∀ K2 : Act → World → Prop, (∀ a2 y w2, a2 = a1.put (some dj) y → C w2 → R x y w2 → K2 a2 w2) → oj.wp P a1 w1 K2 Q) → K a1 w1) → oi.wp P a w K Q)
    (h2 : ∀ K : Act → World → Prop, (∀ a1 y w1, a1 = a.put (some dj) y → C w1 → (∀ K2 : Act → World → Prop, (∀ a2 x w2, a2 = a1.put (some di) x → C w2 → R x y w2 → K2 a2 w2) → oi.wp P a1 w1 K2 Q) → K a1 w1) → oj.wp P a w K Q)
    (h3 : ∀ x y w', C w' → R x y w' → wpSched P ops Q C s2 ((a.put (some di) x).put (some dj) y) w') : wpPr P ops Q C i j s2 [] a w := by
  have hne' : (some di : Option Tmp) ≠ some dj := by simpa using hne
  refine ⟨?_, ?_⟩
  · unfold wpOp
    simp only [hoi]
    rw [if_pos (by simp [Region.wanted, hgi])]
    refine .inl (h1 _ fun a1 x w1 ha hC1 hk => ⟨hC1, ?_⟩)
    simp only [hoj]
    rw [if_pos (by simp [Region.wanted, hgj])]
    exact .inl (hk _ fun a2 y w2 ha2 hC2 hR => ⟨hC2, by rw [ha2, ha]; exact h3 x y w2 hC2 hR⟩)
  · unfold wpOp
    simp only [hoj]
    rw [if_pos (by simp [Region.wanted, hgj])]
    refine .inl (h2 _ fun a1 y w1 ha hC1 hk => ⟨hC1, ?_⟩)
    simp only [hoi]
    rw [if_pos (by simp [Region.wanted, hgi])]
    refine .inl (hk _ fun a2 x w2 ha2 hC2 hR => ⟨hC2, ?_⟩)
    rw [ha2, ha]
    have hp : (a.put (some dj) y).put (some di) x = (a.put (some di) x).put (some dj) y := by
      have hdd : di ≠ dj := by simpa using hne
      simp only [Act.put]
      congr 1
      exact Array.setIfInBounds_comm _ _ (Ne.symm hdd)
    rw [hp]
    exact h3 x y w2 hC2 hR
end
end Go.Proofs.YthbfmioikbphgaaDoor
