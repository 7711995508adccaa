/- Digests, plain: one changed byte changes the digest; different digests stay different; the number of eight bytes. No program here. -/
import Derived.Test.YthbfmioikbphgaaDoorDig
namespace Go.Proofs.YthbfmioikbphgaaDoor
set_option maxRecDepth 100000

theorem mul_prime_inj {a b : UInt64} (h : a * 1099511628211 = b * 1099511628211) : a = b := by
  have e : ∀ x : UInt64, x * 1099511628211 * 14886173955864302971 = x := fun x => by
    rw [UInt64.mul_assoc, show (1099511628211 : UInt64) * 14886173955864302971 = 1 from by decide, UInt64.mul_one]
  rw [← e a, h, e b]
theorem dstep_inj {g h : UInt64} {c : UInt8} (e : dstep g c = dstep h c) : g = h := by
  have := mul_prime_inj e
  have h2 : (g ^^^ c.toUInt64) ^^^ c.toUInt64 = (h ^^^ c.toUInt64) ^^^ c.toUInt64 := by rw [this]
  simpa [UInt64.xor_assoc] using h2
theorem dstep_inj_byte {h : UInt64} {c d : UInt8} (e : dstep h c = dstep h d) : c = d := by
  have := mul_prime_inj e
  have h2 : h ^^^ (h ^^^ c.toUInt64) = h ^^^ (h ^^^ d.toUInt64) := by rw [this]
  simp [← UInt64.xor_assoc] at h2
  have h3 : c.toUInt64.toNat = d.toUInt64.toNat := by rw [h2]
  simp at h3
  exact UInt8.toNat_inj.1 h3
theorem digAdd_inj {g h : UInt64} : ∀ (xs : List UInt8), digAdd g xs = digAdd h xs → g = h := by
  intro xs
  induction xs generalizing g h with
  | nil => exact id
  | cons x xs ih => intro e; exact dstep_inj (ih e)
theorem digAdd_append (h : UInt64) (xs ys : List UInt8) : digAdd h (xs ++ ys) = digAdd (digAdd h xs) ys := by simp [digAdd]
/-- sequences that differ in one byte -/
theorem digAdd_mid (h : UInt64) (l r : List UInt8) (x y : UInt8) : digAdd h (l ++ x :: r) = digAdd h (l ++ y :: r) ↔ x = y := by
  constructor
  · intro e
    rw [digAdd_append, digAdd_append] at e
    exact dstep_inj_byte (digAdd_inj r e)
  · intro e; rw [e]
theorem split_at (xs : List UInt8) (i : Nat) (hi : i < xs.length) : xs = xs.take i ++ xs.getD i 0 :: xs.drop (i + 1) := by
  conv => lhs; rw [← List.take_append_drop i xs, drop_cons xs i 0 hi]
theorem digAdd_set (h : UInt64) (xs : List UInt8) (i : Nat) (hi : i < xs.length) (y : UInt8) : digAdd h xs = digAdd h (xs.set i y) ↔ xs.getD i 0 = y := by
  rw [List.set_eq_take_append_cons_drop, if_pos hi]
  conv => lhs; lhs; rw [split_at xs i hi]
  exact digAdd_mid h _ _ _ _

end Go.Proofs.YthbfmioikbphgaaDoor
