/- Uploads, plain laws: the inbox is decided by the set of packets that have come. No program in sight; no condition. -/
import Derived.Test.YtpdodapdaeochaaBase
namespace Go.Proofs.Ytpdodapdaeochaa
set_option maxRecDepth 100000
/-- packets as (position, number of bytes) -/
abbrev PK := Nat × Nat
def ltP (p q : PK) : Prop := p.1 < q.1 ∨ p.1 = q.1 ∧ p.2 < q.2
instance (p q : PK) : Decidable (ltP p q) := by unfold ltP; infer_instance
def Srt (l : List PK) : Prop := l.Pairwise ltP
theorem ltP_trans {p q r : PK} (h1 : ltP p q) (h2 : ltP q r) : ltP p r := by unfold ltP at *; omega
theorem ltP_irr (p : PK) : ¬ ltP p p := by unfold ltP; omega
theorem ltP_tri (p q : PK) : ltP p q ∨ p = q ∨ ltP q p := by
  obtain ⟨a, b⟩ := p; obtain ⟨c, d⟩ := q
  unfold ltP; simp only [Prod.mk.injEq]; omega
/-- what the packets that wait make of d bytes -/
def absorb (d : Nat) : List PK → Nat × List PK
  | [] => (d, [])
  | q :: qs => if d < q.1 then ((absorb d qs).1, q :: (absorb d qs).2) else absorb (max d (q.1 + q.2)) qs
/-- where a packet belongs -/
def place (p : PK) : List PK → Nat
  | [] => 0
  | q :: qs => if ltP q p then place p qs + 1 else 0
def ins (p : PK) (l : List PK) : List PK := l.take (place p l) ++ p :: l.drop (place p l)
/-- an inbox after a packet -/
def rxN (d : Nat) (l : List PK) (p : PK) : Nat × List PK :=
  if d < p.1 then (d, if p ∈ l then l else ins p l) else absorb (max d (p.1 + p.2)) l
theorem place_le (p : PK) (l : List PK) : place p l ≤ l.length := by
  induction l with
  | nil => simp [place]
  | cons q qs ih => simp only [place, List.length_cons]; split <;> omega
theorem ins_mem {p q : PK} {l : List PK} : q ∈ ins p l ↔ q = p ∨ q ∈ l := by
  unfold ins
  rw [List.mem_append, List.mem_cons]
  have : q ∈ l ↔ q ∈ l.take (place p l) ∨ q ∈ l.drop (place p l) := by rw [← List.mem_append, List.take_append_drop]
  rw [this]
  constructor
  · rintro (h | h | h)
    · exact .inr (.inl h)
    · exact .inl h
    · exact .inr (.inr h)
  · rintro (h | h | h)
    · exact .inr (.inl h)
    · exact .inl h
    · exact .inr (.inr h)
theorem ins_cons (p q : PK) (qs : List PK) : ins p (q :: qs) = if ltP q p then q :: ins p qs else p :: q :: qs := by
  unfold ins; simp only [place]
  split <;> simp
theorem ins_srt {p : PK} : ∀ {l : List PK}, Srt l → p ∉ l → Srt (ins p l)
  | [], _, _ => by simp [ins, place, Srt]
  | q :: qs, h, hp => by
    rw [ins_cons]
    have h' := List.pairwise_cons.1 h
    simp only [List.mem_cons, not_or] at hp
    split
    · rename_i hlt
      refine List.pairwise_cons.2 ⟨fun r hr => ?_, ins_srt h'.2 hp.2⟩
      rcases ins_mem.1 hr with rfl | hr
      · exact hlt
      · exact h'.1 r hr
    · rename_i hlt
      have hpq : ltP p q := by
        rcases ltP_tri p q with h1 | h1 | h1
        · exact h1
        · exact absurd h1 hp.1
        · exact absurd h1 hlt
      exact List.pairwise_cons.2 ⟨fun r hr => by
        rcases List.mem_cons.1 hr with rfl | hr
        · exact hpq
        · exact ltP_trans hpq (h'.1 r hr), h⟩
theorem absorb_ge (d : Nat) (l : List PK) : d ≤ (absorb d l).1 := by
  induction l generalizing d with
  | nil => simp [absorb]
  | cons q qs ih =>
    simp only [absorb]
    split
    · exact ih d
    · have := ih (max d (q.1 + q.2)); omega
theorem absorb_sub {d : Nat} {l : List PK} {q : PK} (h : q ∈ (absorb d l).2) : q ∈ l := by
  induction l generalizing d with
  | nil => simp [absorb] at h
  | cons r rs ih =>
    simp only [absorb] at h
    split at h
    · rcases List.mem_cons.1 h with rfl | h
      · simp
      · exact List.mem_cons_of_mem _ (ih h)
    · exact List.mem_cons_of_mem _ (ih h)
theorem absorb_srt {d : Nat} {l : List PK} (h : Srt l) : Srt (absorb d l).2 := by
  induction l generalizing d with
  | nil => simp [absorb, Srt]
  | cons r rs ih =>
    have h' := List.pairwise_cons.1 h
    simp only [absorb]
    split
    · exact List.pairwise_cons.2 ⟨fun q hq => h'.1 q (absorb_sub hq), ih h'.2⟩
    · exact ih h'.2
/-- once one is kept, all behind it are -/
theorem absorb_all {d : Nat} {l : List PK} (h : ∀ q ∈ l, d < q.1) : absorb d l = (d, l) := by
  induction l with
  | nil => rfl
  | cons r rs ih =>
    simp only [absorb]
    rw [if_pos (h r (by simp)), ih (fun q hq => h q (by simp [hq]))]
theorem absorb_mem {d : Nat} {l : List PK} (hs : Srt l) : (∀ q, q ∈ (absorb d l).2 ↔ q ∈ l ∧ (absorb d l).1 < q.1) ∧ (∀ q ∈ l, q.1 ≤ (absorb d l).1 → q.1 + q.2 ≤ (absorb d l).1) ∧ (∀ i, d ≤ i → i < (absorb d l).1 → ∃ q ∈ l, q.1 ≤ i ∧ i < q.1 + q.2) := by
  induction l generalizing d with
  | nil => exact ⟨by simp [absorb], by simp, fun i h1 h2 => by simp [absorb] at h2; omega⟩
  | cons r rs ih =>
    have h' := List.pairwise_cons.1 hs
    by_cases hd : d < r.1
    · have hall : ∀ q ∈ r :: rs, d < q.1 := fun q hq => by
        rcases List.mem_cons.1 hq with rfl | hq
        · exact hd
        · have := h'.1 q hq; unfold ltP at this; omega
      rw [absorb_all hall]
      refine ⟨fun q => ⟨fun h => ⟨h, hall q h⟩, fun h => h.1⟩, fun q hq h => ?_, fun i h1 h2 => by simp at h2; omega⟩
      have := hall q hq
      simp at h; omega
    · simp only [absorb]
      rw [if_neg hd]
      obtain ⟨a, b, c⟩ := ih (d := max d (r.1 + r.2)) h'.2
      have hge := absorb_ge (max d (r.1 + r.2)) rs
      refine ⟨fun q => ?_, fun q hq h => ?_, fun i h1 h2 => ?_⟩
      · rw [a q]
        constructor
        · rintro ⟨h1, h2⟩; exact ⟨List.mem_cons_of_mem _ h1, h2⟩
        · rintro ⟨h1, h2⟩
          rcases List.mem_cons.1 h1 with rfl | h1
          · omega
          · exact ⟨h1, h2⟩
      · rcases List.mem_cons.1 hq with rfl | hq
        · omega
        · exact b q hq h
      · by_cases hi : i < max d (r.1 + r.2)
        · exact ⟨r, by simp, by omega, by omega⟩
        · obtain ⟨q, hq, e⟩ := c i (by omega) h2
          exact ⟨q, List.mem_cons_of_mem _ hq, e⟩
/-- the inbox that has got the packets of a set -/
def Can (S : PK → Prop) (d : Nat) (l : List PK) : Prop :=
  (∀ q, q ∈ l ↔ S q ∧ d < q.1) ∧ Srt l ∧ (∀ q, S q → q.1 ≤ d → q.1 + q.2 ≤ d) ∧ ∀ i, i < d → ∃ q, S q ∧ q.1 ≤ i ∧ i < q.1 + q.2
theorem can_none : Can (fun _ => False) 0 [] := ⟨by simp, by simp [Srt], by simp, by omega⟩
theorem can_step {S : PK → Prop} {d : Nat} {l : List PK} {p : PK} (h : Can S d l) : Can (fun q => q = p ∨ S q) (rxN d l p).1 (rxN d l p).2 := by
  obtain ⟨h1, h2, h3, h4⟩ := h
  unfold rxN
  by_cases hd : d < p.1
  · rw [if_pos hd]
    have hmem : ∀ q, q ∈ (if p ∈ l then l else ins p l) ↔ q = p ∨ q ∈ l := by
      intro q
      split
      · rename_i hp
        constructor
        · intro h; exact .inr h
        · rintro (rfl | h)
          · exact hp
          · exact h
      · exact ins_mem
    refine ⟨fun q => ?_, ?_, fun q hq hqd => ?_, fun i hi => ?_⟩
    · rw [hmem q, h1 q]
      constructor
      · rintro (rfl | ⟨a, b⟩)
        · exact ⟨.inl rfl, hd⟩
        · exact ⟨.inr a, b⟩
      · rintro ⟨rfl | a, b⟩
        · exact .inl rfl
        · exact .inr ⟨a, b⟩
    · show Srt (if p ∈ l then l else ins p l)
      split
      · exact h2
      · rename_i hp; exact ins_srt h2 hp
    · rcases hq with rfl | hq
      · simp at hqd; omega
      · exact h3 q hq hqd
    · obtain ⟨q, a, b⟩ := h4 i hi
      exact ⟨q, .inr a, b⟩
  · rw [if_neg hd]
    obtain ⟨a, b, c⟩ := absorb_mem (d := max d (p.1 + p.2)) h2
    have hge := absorb_ge (max d (p.1 + p.2)) l
    refine ⟨fun q => ?_, absorb_srt h2, fun q hq hqd => ?_, fun i hi => ?_⟩
    · rw [a q]
      constructor
      · rintro ⟨x, y⟩; exact ⟨.inr ((h1 q).1 x).1, y⟩
      · rintro ⟨rfl | x, y⟩
        · omega
        · exact ⟨(h1 q).2 ⟨x, by omega⟩, y⟩
    · rcases hq with rfl | hq
      · omega
      · by_cases hqd2 : d < q.1
        · exact b q ((h1 q).2 ⟨hq, hqd2⟩) hqd
        · have := h3 q hq (by omega); omega
    · by_cases hi2 : i < max d (p.1 + p.2)
      · by_cases hi3 : i < d
        · obtain ⟨q, x, y⟩ := h4 i hi3
          exact ⟨q, .inr x, y⟩
        · exact ⟨p, .inl rfl, by omega, by omega⟩
      · obtain ⟨q, x, y⟩ := c i (by omega) hi
        exact ⟨q, .inr ((h1 q).1 x).1, y⟩
theorem srt_uniq : ∀ {l m : List PK}, Srt l → Srt m → (∀ q, q ∈ l ↔ q ∈ m) → l = m
  | [], [], _, _, _ => rfl
  | [], q :: qs, _, _, h => by have := (h q).2 (by simp); simp at this
  | q :: qs, [], _, _, h => by have := (h q).1 (by simp); simp at this
  | p :: ps, q :: qs, h1, h2, h => by
    have a1 := List.pairwise_cons.1 h1
    have a2 := List.pairwise_cons.1 h2
    have e : p = q := by
      have b1 := (h p).1 (by simp)
      have b2 := (h q).2 (by simp)
      rcases List.mem_cons.1 b1 with b1 | b1
      · exact b1
      rcases List.mem_cons.1 b2 with b2 | b2
      · exact b2.symm
      exact absurd (ltP_trans (a1.1 q b2) (a2.1 p b1)) (ltP_irr p)
    subst e
    rw [srt_uniq a1.2 a2.2 fun r => ?_]
    have b := h r
    simp only [List.mem_cons] at b
    constructor
    · intro hr
      rcases b.1 (.inr hr) with rfl | h3
      · exact absurd (a1.1 r hr) (ltP_irr r)
      · exact h3
    · intro hr
      rcases b.2 (.inr hr) with rfl | h3
      · exact absurd (a2.1 r hr) (ltP_irr r)
      · exact h3
theorem can_uniq {S S' : PK → Prop} (hS : ∀ q, S q ↔ S' q) {d d' : Nat} {l l' : List PK} (h : Can S d l) (h' : Can S' d' l') : d = d' ∧ l = l' := by
  have key : ∀ {S S' : PK → Prop}, (∀ q, S q ↔ S' q) → ∀ {d d' : Nat} {l l' : List PK}, Can S d l → Can S' d' l' → ¬ d < d' := by
    intro S S' hS d d' l l' h h' hd
    obtain ⟨q, a, b⟩ := h'.2.2.2 d hd
    have := h.2.2.1 q ((hS q).2 a) b.1
    omega
  have hd : d = d' := by
    have a := key hS h h'
    have b := key (fun q => (hS q).symm) h' h
    omega
  subst hd
  exact ⟨rfl, srt_uniq h.2.1 h'.2.1 fun q => by rw [h.1 q, h'.1 q, hS q]⟩
end Go.Proofs.Ytpdodapdaeochaa
