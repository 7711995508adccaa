/- The cipher, plain: what is sealed is opened; one changed byte is noticed. No program here. -/
import Derived.Test.YtfedalipoknilaaCiphS
import Derived.Test.YtfedalipoknilaaDigP
namespace Go.Proofs.Ytfedalipoknilaa

theorem byteAt_toNat (n : UInt64) (j : Nat) : (byteAt n j).toNat = n.toNat / 256 ^ j % 256 := by
  unfold byteAt; rw [UInt8.toNat_ofNat', show (2 : Nat) ^ (8 * j) = 256 ^ j by rw [Nat.pow_mul]]
theorem beList_val (n : UInt64) : ∀ (k : Nat) (u : UInt64), ((beList n k).foldl (fun n c => n * 256 + c.toUInt64) u).toNat = (u.toNat * 256 ^ k + n.toNat % 256 ^ k) % 2 ^ 64
  | 0, u => by have := u.toNat_lt; simp [beList, Nat.mod_one]
  | k + 1, u => by
    simp only [beList, List.foldl_cons]
    rw [beList_val n k]
    have e : (u * 256 + (byteAt n k).toUInt64).toNat = (u.toNat * 256 + n.toNat / 256 ^ k % 256) % 2 ^ 64 := by
      rw [UInt64.toNat_add, UInt64.toNat_mul]
      have : (byteAt n k).toUInt64.toNat = n.toNat / 256 ^ k % 256 := by rw [← byteAt_toNat]; simp
      rw [this]
      simp [Nat.add_mod]
    have key : ∀ M a b c : Nat, ((a % M) * b + c) % M = (a * b + c) % M := by
      intro M a b c; rw [Nat.add_mod, Nat.mul_mod, Nat.mod_mod, ← Nat.mul_mod, ← Nat.add_mod]
    have e2 : n.toNat % 256 ^ (k + 1) = n.toNat % 256 ^ k + 256 ^ k * (n.toNat / 256 ^ k % 256) := Nat.mod_pow_succ
    have e3 : (256 : Nat) ^ (k + 1) = 256 ^ k * 256 := Nat.pow_succ _ _
    rw [e, key, e2, e3]
    generalize (256 : Nat) ^ k = P
    generalize n.toNat / P % 256 = b
    rw [Nat.add_mul, Nat.mul_assoc, Nat.mul_comm 256 P, Nat.mul_comm b P, Nat.add_assoc, Nat.add_comm (P * b)]
theorem beVal_be8 (n : UInt64) : beVal (be8 n) = n := by
  apply UInt64.toNat_inj.1
  have := beList_val n 8 0
  have h := n.toNat_lt
  unfold beVal be8
  rw [this]
  simp
theorem xor_xor (x y : UInt8) : (x ^^^ y) ^^^ y = x := by rw [UInt8.xor_assoc, UInt8.xor_self, UInt8.xor_zero]
theorem mixL_mixL (d : UInt64) : ∀ (xs : List UInt8) (i : Nat), mixL d i (mixL d i xs) = xs
  | [], _ => rfl
  | x :: xs, i => by simp [mixL, xor_xor, mixL_mixL d xs (i + 1)]

theorem sealL_take (key nonce : UInt64) (data : List UInt8) : (sealL key nonce data).take (data.length + 8) = bodyL key nonce data := by
  rw [sealL, ← bodyL_length key nonce data]; simp
theorem sealL_drop (key nonce : UInt64) (data : List UInt8) : (sealL key nonce data).drop (data.length + 8) = be8 (digChain key (bodyL key nonce data)) := by
  rw [sealL, ← bodyL_length key nonce data]; simp
theorem sealL_nonce (key nonce : UInt64) (data : List UInt8) : (sealL key nonce data).take 8 = be8 nonce := by
  rw [sealL, bodyL, List.append_assoc, List.take_append_of_le_length (by rw [be8_length]; omega), List.take_of_length_le (by rw [be8_length]; omega)]
theorem bodyL_drop (key nonce : UInt64) (data : List UInt8) : (bodyL key nonce data).drop 8 = mixed key nonce data := by
  rw [bodyL, List.drop_append_of_le_length (by rw [be8_length]; omega), List.drop_of_length_le (by rw [be8_length]; omega)]; rfl
theorem mixed_mixed (key nonce : UInt64) (data : List UInt8) : mixed key nonce (mixed key nonce data) = data := mixL_mixL _ _ _

end Go.Proofs.Ytfedalipoknilaa
