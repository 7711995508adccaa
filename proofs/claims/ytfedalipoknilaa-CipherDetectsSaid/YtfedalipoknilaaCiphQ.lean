/- The cipher, plain: a changed byte of the sealed bytes or of the key is noticed. No program here. -/
import Derived.Test.YtfedalipoknilaaCiphP
namespace Go.Proofs.Ytfedalipoknilaa

theorem list8 (xs : List UInt8) (h : xs.length = 8) : ∃ a b c d e f g i, xs = [a, b, c, d, e, f, g, i] := by
  match xs, h with
  | [a, b, c, d, e, f, g, i], _ => exact ⟨a, b, c, d, e, f, g, i, rfl⟩
theorem be8_beVal (xs : List UInt8) (h : xs.length = 8) : be8 (beVal xs) = xs := by
  obtain ⟨a, b, c, d, e, f, g, i, rfl⟩ := list8 xs h
  have ha := a.toNat_lt; have hb := b.toNat_lt; have hc := c.toNat_lt; have hd := d.toNat_lt
  have he := e.toNat_lt; have hf := f.toNat_lt; have hg := g.toNat_lt; have hi := i.toNat_lt
  have hv : (beVal [a, b, c, d, e, f, g, i]).toNat = ((((((a.toNat * 256 + b.toNat) * 256 + c.toNat) * 256 + d.toNat) * 256 + e.toNat) * 256 + f.toNat) * 256 + g.toNat) * 256 + i.toNat := by
    simp only [beVal, List.foldl_cons, List.foldl_nil, UInt64.toNat_add, UInt64.toNat_mul, UInt8.toNat_toUInt64]
    simp
    omega
  have key : ∀ (j : Nat) (x : UInt8), (beVal [a, b, c, d, e, f, g, i]).toNat / 256 ^ j % 256 = x.toNat → byteAt (beVal [a, b, c, d, e, f, g, i]) j = x := by
    intro j x hx; apply UInt8.toNat_inj.1; rw [byteAt_toNat, hx]
  simp only [be8, beList]
  rw [key 7 a (by rw [hv]; omega), key 6 b (by rw [hv]; omega), key 5 c (by rw [hv]; omega), key 4 d (by rw [hv]; omega), key 3 e (by rw [hv]; omega), key 2 f (by rw [hv]; omega), key 1 g (by rw [hv]; omega), key 0 i (by rw [hv]; omega)]
theorem beVal_inj (xs ys : List UInt8) (hx : xs.length = 8) (hy : ys.length = 8) (h : beVal xs = beVal ys) : xs = ys := by rw [← be8_beVal xs hx, h, be8_beVal ys hy]

/-- the key with one byte changed -/
def other (key : UInt64) (j : Nat) (c : UInt8) : UInt64 := UInt64.ofNat (key.toNat ^^^ (c.toNat * 2 ^ (8 * j)))
theorem shift_lt (j : Nat) (hj : j < 8) (c : UInt8) : c.toNat * 2 ^ (8 * j) < 2 ^ 64 := by
  have hc := c.toNat_lt
  match j, hj with
  | 0, _ | 1, _ | 2, _ | 3, _ | 4, _ | 5, _ | 6, _ | 7, _ => simp <;> omega
theorem other_toNat (key : UInt64) (j : Nat) (hj : j < 8) (c : UInt8) : (other key j c).toNat = key.toNat ^^^ (c.toNat * 2 ^ (8 * j)) := by
  unfold other
  rw [UInt64.toNat_ofNat']
  exact Nat.mod_eq_of_lt (Nat.xor_lt_two_pow key.toNat_lt (shift_lt j hj c))
theorem other_byte (key : UInt64) (j : Nat) (hj : j < 8) (c : UInt8) (i : Nat) : byteAt (other key j c) i = if i = j then byteAt key i ^^^ c else byteAt key i := by
  apply UInt8.toNat_inj.1
  have hc := c.toNat_lt
  have e1 : (byteAt (other key j c) i).toNat = (key.toNat / 2 ^ (8 * i) % 2 ^ 8) ^^^ (c.toNat * 2 ^ (8 * j) / 2 ^ (8 * i) % 2 ^ 8) := by
    unfold byteAt
    rw [UInt8.toNat_ofNat', other_toNat key j hj c, ← Nat.shiftRight_eq_div_pow, Nat.shiftRight_xor_distrib, Nat.shiftRight_eq_div_pow, Nat.shiftRight_eq_div_pow, ← Nat.xor_mod_two_pow]
  have e2 : (byteAt key i).toNat = key.toNat / 2 ^ (8 * i) % 2 ^ 8 := by unfold byteAt; rw [UInt8.toNat_ofNat']
  rw [e1]
  split
  · rename_i h; subst h
    rw [UInt8.toNat_xor, e2, Nat.mul_div_cancel _ (Nat.two_pow_pos _), Nat.mod_eq_of_lt (show c.toNat < 2 ^ 8 by omega)]
  · rename_i h
    have : c.toNat * 2 ^ (8 * j) / 2 ^ (8 * i) % 2 ^ 8 = 0 := by
      rcases Nat.lt_or_gt_of_ne h with h | h
      · obtain ⟨m, rfl⟩ : ∃ m, j = i + m + 1 := ⟨j - i - 1, by omega⟩
        rw [show 8 * (i + m + 1) = 8 * m + 8 + 8 * i by omega, Nat.pow_add, ← Nat.mul_assoc, Nat.mul_div_cancel _ (Nat.two_pow_pos _), Nat.pow_add, ← Nat.mul_assoc, Nat.mul_mod_left]
      · obtain ⟨m, rfl⟩ : ∃ m, i = j + m + 1 := ⟨i - j - 1, by omega⟩
        rw [show 8 * (j + m + 1) = 8 * j + (8 + 8 * m) by omega, Nat.pow_add, ← Nat.div_div_eq_div_mul, Nat.mul_div_cancel _ (Nat.two_pow_pos _), Nat.pow_add, ← Nat.div_div_eq_div_mul, Nat.div_eq_of_lt (show c.toNat < 2 ^ 8 by omega)]
        simp
    rw [this, e2]; simp
theorem xor_ne (x c : UInt8) (h : c ≠ 0) : x ≠ x ^^^ c := by
  intro e
  have : x ^^^ x = x ^^^ (x ^^^ c) := by rw [← e]
  rw [UInt8.xor_self, ← UInt8.xor_assoc, UInt8.xor_self, UInt8.zero_xor] at this
  exact h this.symm
theorem be8_other (key : UInt64) (j : Nat) (hj : j < 8) (c : UInt8) : be8 (other key j c) = (be8 key).set (7 - j) (byteAt key j ^^^ c) := by
  match j, hj with
  | 0, _ | 1, _ | 2, _ | 3, _ | 4, _ | 5, _ | 6, _ | 7, _ => simp [be8, beList, other_byte]
theorem be8_at (key : UInt64) (j : Nat) (hj : j < 8) : (be8 key).getD (7 - j) 0 = byteAt key j := by
  match j, hj with
  | 0, _ | 1, _ | 2, _ | 3, _ | 4, _ | 5, _ | 6, _ | 7, _ => simp [be8, beList]
theorem chain_other (key : UInt64) (j : Nat) (hj : j < 8) (c : UInt8) (hc : c ≠ 0) (xs : List UInt8) : digChain key xs ≠ digChain (other key j c) xs := by
  intro h
  have h1 := digAdd_inj xs h
  unfold digNum at h1
  rw [be8_other key j hj c] at h1
  have := (digAdd_set dstart (be8 key) (7 - j) (by rw [be8_length]; omega) _).1 h1
  rw [be8_at key j hj] at this
  exact xor_ne _ _ hc this

/-- one byte of the sealed bytes changed: the tag does not fit -/
theorem sealed_changed (key nonce : UInt64) (data : List UInt8) (i : Nat) (hi : i < data.length + 16) (y : UInt8) (hy : (sealL key nonce data).getD i 0 ≠ y) :
    beVal (((sealL key nonce data).set i y).drop (data.length + 8)) ≠ digChain key (((sealL key nonce data).set i y).take (data.length + 8)) := by
  have hb := bodyL_length key nonce data
  by_cases h : i < data.length + 8
  · have e1 : ((sealL key nonce data).set i y).drop (data.length + 8) = be8 (digChain key (bodyL key nonce data)) := by
      rw [List.drop_set_of_lt h, sealL_drop]
    have e2 : ((sealL key nonce data).set i y).take (data.length + 8) = (bodyL key nonce data).set i y := by
      rw [List.take_set, sealL_take]
    rw [e1, e2, beVal_be8]
    intro e
    have := (digAdd_set _ (bodyL key nonce data) i (by omega) y).1 e
    apply hy
    rw [← this]
    unfold sealL
    simp only [List.getD]
    rw [List.getElem?_append_left (by omega)]
  · have e1 : ((sealL key nonce data).set i y).drop (data.length + 8) = (be8 (digChain key (bodyL key nonce data))).set (i - (data.length + 8)) y := by
      rw [List.drop_set, if_neg h, sealL_drop]
    have e2 : ((sealL key nonce data).set i y).take (data.length + 8) = bodyL key nonce data := by
      rw [List.take_set_of_le (by omega), sealL_take]
    rw [e1, e2]
    intro e
    have e3 := beVal_inj ((be8 (digChain key (bodyL key nonce data))).set (i - (data.length + 8)) y) (be8 (digChain key (bodyL key nonce data))) (by rw [List.length_set, be8_length]) (be8_length _) (by rw [e, beVal_be8])
    have hlt : i - (data.length + 8) < (be8 (digChain key (bodyL key nonce data))).length := by rw [be8_length]; omega
    have e4 : ((be8 (digChain key (bodyL key nonce data))).set (i - (data.length + 8)) y)[i - (data.length + 8)]? = some y := by rw [List.getElem?_set_self hlt]
    rw [e3] at e4
    apply hy
    unfold sealL
    simp only [List.getD]
    rw [List.getElem?_append_right (by omega), hb, e4]; rfl

end Go.Proofs.Ytfedalipoknilaa
