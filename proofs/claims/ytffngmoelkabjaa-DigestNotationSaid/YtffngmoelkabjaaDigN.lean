/- The notation of digests, plain: Parse inverts Hex, and Hex inverts Parse. No program here. -/
import Derived.Test.YtffngmoelkabjaaDigT
namespace Go.Proofs.Ytffngmoelkabjaa

theorem hexOf_digit (n : Nat) (h : n < 16) : hexOf (hexDigit n) = some n := by
  have h : n = 0 ∨ n = 1 ∨ n = 2 ∨ n = 3 ∨ n = 4 ∨ n = 5 ∨ n = 6 ∨ n = 7 ∨ n = 8 ∨ n = 9 ∨ n = 10 ∨ n = 11 ∨ n = 12 ∨ n = 13 ∨ n = 14 ∨ n = 15 := by omega
  rcases h with rfl | rfl | rfl | rfl | rfl | rfl | rfl | rfl | rfl | rfl | rfl | rfl | rfl | rfl | rfl | rfl <;> decide
theorem digit_hexOf (c : UInt8) (n : Nat) (h : hexOf c = some n) : c = hexDigit n ∧ n < 16 := by
  have hc := c.toNat_lt
  unfold hexOf at h
  split at h
  · rename_i h1
    simp only [Option.some.injEq] at h
    subst h
    refine ⟨UInt8.toNat_inj.1 ?_, by omega⟩
    unfold hexDigit; rw [if_pos (by omega), UInt8.toNat_ofNat']; omega
  · split at h
    · rename_i h0 h1
      simp only [Option.some.injEq] at h
      subst h
      refine ⟨UInt8.toNat_inj.1 ?_, by omega⟩
      unfold hexDigit; rw [if_neg (by omega), UInt8.toNat_ofNat']; omega
    · cases h
def nibVal (u : UInt64) (ns : List Nat) : UInt64 := ns.foldl (fun u n => u * 16 + UInt64.ofNat n) u
theorem parse_digits : ∀ (ns : List Nat) (u : UInt64), (∀ n ∈ ns, n < 16) → parseL u (ns.map hexDigit) = some (nibVal u ns)
  | [], _, _ => rfl
  | n :: ns, u, h => by
    simp only [List.map_cons, parseL]
    rw [hexOf_digit n (h n (by simp))]
    exact parse_digits ns _ (fun m hm => h m (by simp [hm]))
theorem digits_parse : ∀ (l : List UInt8) (u y : UInt64), parseL u l = some y → ∃ ns : List Nat, l = ns.map hexDigit ∧ (∀ n ∈ ns, n < 16) ∧ y = nibVal u ns
  | [], u, y, h => by simp only [parseL, Option.some.injEq] at h; exact ⟨[], rfl, by simp, h.symm⟩
  | c :: l, u, y, h => by
    simp only [parseL] at h
    cases hc : hexOf c with
    | none => rw [hc] at h; cases h
    | some n =>
      rw [hc] at h
      obtain ⟨ns, rfl, h2, h3⟩ := digits_parse l _ y h
      obtain ⟨h4, h5⟩ := digit_hexOf c n hc
      exact ⟨n :: ns, by simp [h4], by intro m hm; rcases List.mem_cons.1 hm with rfl | hm; exact h5; exact h2 m hm, h3⟩
theorem list16 (ns : List Nat) (h : ns.length = 16) : ∃ a0 a1 a2 a3 a4 a5 a6 a7 a8 a9 b0 b1 b2 b3 b4 b5, ns = [a0, a1, a2, a3, a4, a5, a6, a7, a8, a9, b0, b1, b2, b3, b4, b5] := by
  match ns, h with
  | [a0, a1, a2, a3, a4, a5, a6, a7, a8, a9, b0, b1, b2, b3, b4, b5], _ => exact ⟨a0, a1, a2, a3, a4, a5, a6, a7, a8, a9, b0, b1, b2, b3, b4, b5, rfl⟩
theorem nibVal_toNat : ∀ (ns : List Nat) (u : UInt64), (∀ n ∈ ns, n < 16) → (nibVal u ns).toNat = (ns.foldl (fun u n => u * 16 + n) u.toNat) % 2 ^ 64
  | [], u, _ => by have := u.toNat_lt; simp [nibVal]
  | n :: ns, u, h => by
    have hn := h n (by simp)
    have ih := nibVal_toNat ns (u * 16 + UInt64.ofNat n) (fun m hm => h m (by simp [hm]))
    have e : (u * 16 + UInt64.ofNat n).toNat = (u.toNat * 16 + n) % 2 ^ 64 := by
      rw [UInt64.toNat_add, UInt64.toNat_mul, UInt64.toNat_ofNat']; simp
    have key : ∀ (ns : List Nat) (x : Nat), ns.foldl (fun u n => u * 16 + n) (x % 2 ^ 64) % 2 ^ 64 = ns.foldl (fun u n => u * 16 + n) x % 2 ^ 64 := by
      intro ns
      induction ns with
      | nil => intro x; simp
      | cons m ns ih => intro x; simp only [List.foldl_cons]; rw [← ih (x % 2 ^ 64 * 16 + m), ← ih (x * 16 + m)]; congr 2; omega
    simp only [nibVal, List.foldl_cons] at ih ⊢
    rw [ih, e, key]
def nibList (h : Nat) : Nat → List Nat
  | 0 => []
  | k + 1 => (h / 16 ^ k % 16) :: nibList h k
theorem nibList_lt (h : Nat) : ∀ k, ∀ n ∈ nibList h k, n < 16
  | 0, n, hn => by simp [nibList] at hn
  | k + 1, n, hn => by
    rcases List.mem_cons.1 hn with rfl | hn
    · exact Nat.mod_lt _ (by omega)
    · exact nibList_lt h k n hn
theorem nibList_val (h : Nat) : ∀ (k u : Nat), (nibList h k).foldl (fun u n => u * 16 + n) u = u * 16 ^ k + h % 16 ^ k
  | 0, u => by simp [nibList, Nat.mod_one]
  | k + 1, u => by
    simp only [nibList, List.foldl_cons]
    rw [nibList_val h k]
    have e2 : h % 16 ^ (k + 1) = h % 16 ^ k + 16 ^ k * (h / 16 ^ k % 16) := Nat.mod_pow_succ
    have e3 : (16 : Nat) ^ (k + 1) = 16 ^ k * 16 := Nat.pow_succ _ _
    rw [e2, e3]
    generalize (16 : Nat) ^ k = P
    generalize h / P % 16 = b
    rw [Nat.add_mul, Nat.mul_assoc, Nat.mul_comm 16 P, Nat.mul_comm b P, Nat.add_assoc, Nat.add_comm (P * b)]
theorem hexL_nib (h : UInt64) : hexL h = (nibList h.toNat 16).map hexDigit := by
  simp [hexL, hexAt, List.range_succ, nibList]
/-- Parse inverts Hex -/
theorem parse_hex (h : UInt64) : parseOf (hexL h) = (h, 0) := by
  have hh := h.toNat_lt
  have hp := parse_digits (nibList h.toNat 16) 0 (nibList_lt _ _)
  have hv : nibVal 0 (nibList h.toNat 16) = h := by
    apply UInt64.toNat_inj.1
    rw [nibVal_toNat _ _ (nibList_lt _ _), nibList_val]
    simp
  unfold parseOf
  rw [if_pos (hexL_length h), hexL_nib, hp, hv]
/-- Hex inverts Parse -/
theorem hex_parse (l : List UInt8) (y : UInt64) (h : parseOf l = (y, 0)) : hexL y = l := by
  unfold parseOf at h
  split at h
  · rename_i hl
    cases hp : parseL 0 l with
    | none => rw [hp] at h; simp at h
    | some z =>
      rw [hp] at h
      simp only [Prod.mk.injEq, and_true] at h
      subst h
      obtain ⟨ns, rfl, h2, rfl⟩ := digits_parse l 0 z hp
      rw [List.length_map] at hl
      have hv := nibVal_toNat ns 0 h2
      obtain ⟨a0, a1, a2, a3, a4, a5, a6, a7, a8, a9, b0, b1, b2, b3, b4, b5, rfl⟩ := list16 ns hl
      have g0 := h2 a0 (by simp); have g1 := h2 a1 (by simp); have g2 := h2 a2 (by simp); have g3 := h2 a3 (by simp)
      have g4 := h2 a4 (by simp); have g5 := h2 a5 (by simp); have g6 := h2 a6 (by simp); have g7 := h2 a7 (by simp)
      have g8 := h2 a8 (by simp); have g9 := h2 a9 (by simp); have k0 := h2 b0 (by simp); have k1 := h2 b1 (by simp)
      have k2 := h2 b2 (by simp); have k3 := h2 b3 (by simp); have k4 := h2 b4 (by simp); have k5 := h2 b5 (by simp)
      simp only [List.foldl_cons, List.foldl_nil] at hv
      generalize nibVal 0 [a0, a1, a2, a3, a4, a5, a6, a7, a8, a9, b0, b1, b2, b3, b4, b5] = y at *
      clear h2 hp
      have key : ∀ (i n : Nat), y.toNat / 2 ^ (60 - 4 * i) % 16 = n → hexAt y i = hexDigit n := fun i n hn => by unfold hexAt; rw [hn]
      simp only [hexL, List.range_succ, List.range_zero, List.nil_append, List.map_cons, List.map_nil, List.cons_append]
      have z : (0 : UInt64).toNat = 0 := rfl
      rw [z] at hv
      rw [key 0 a0 (by rw [hv]; simp; omega), key 1 a1 (by rw [hv]; simp; omega), key 2 a2 (by rw [hv]; simp; omega), key 3 a3 (by rw [hv]; simp; omega), key 4 a4 (by rw [hv]; simp; omega), key 5 a5 (by rw [hv]; simp; omega), key 6 a6 (by rw [hv]; simp; omega), key 7 a7 (by rw [hv]; simp; omega), key 8 a8 (by rw [hv]; simp; omega), key 9 a9 (by rw [hv]; simp; omega), key 10 b0 (by rw [hv]; simp; omega), key 11 b1 (by rw [hv]; simp; omega), key 12 b2 (by rw [hv]; simp; omega), key 13 b3 (by rw [hv]; simp; omega), key 14 b4 (by rw [hv]; simp; omega), key 15 b5 (by rw [hv]; simp; omega)]
  · simp at h
theorem parse_err (l : List UInt8) : parseOf l = (0, 2) ∨ ∃ y, parseOf l = (y, 0) := by
  unfold parseOf
  split
  · cases parseL 0 l with
    | none => exact .inl rfl
    | some z => exact .inr ⟨z, rfl⟩
  · exact .inl rfl

end Go.Proofs.Ytffngmoelkabjaa
