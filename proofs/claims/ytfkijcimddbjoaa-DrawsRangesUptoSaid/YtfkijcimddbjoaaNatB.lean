/- Natural numbers: what nat.Add and Sub return, for all limbs. Condition: the limbs can be read, and take at most 2^47 bytes. -/
import Derived.Test.YtfkijcimddbjoaaNatA
namespace Go.Proofs.Ytfkijcimddbjoaa
open Go.RowKit

theorem natOf_snoc_lim {zs : List Nat} (h : Lim zs) {c : Nat} (hc : c ≤ 1) : Lim (zs ++ [c]) := h.snoc (by omega)
theorem Owns.limbs' {w : World} {B : Nat} {e : TypeId} {a : Option Addr} {n cap : Nat} {xs : List Nat} (h : Owns w B e (.slice a n cap) (lvs xs)) (hl : Lim xs) : Limbs w a n cap xs := by
  obtain ⟨a', n', cap', e, h'⟩ := h.limbs hl
  cases e
  exact h'

/-- the borrow of one limb -/
def bor (x y c : Nat) : Nat := if x < y + c then 1 else 0
theorem bor_le (x y c : Nat) : bor x y c ≤ 1 := by unfold bor; split <;> omega
theorem bor_eq {x y c : Nat} (hx : x < 4294967296) (hy : y < 4294967296) (hc : c ≤ 1) : (x + 4294967296 * bor x y c - y - c) + y + c = x + 4294967296 * bor x y c ∧ x + 4294967296 * bor x y c - y - c < 4294967296 := by
  unfold bor; split <;> omega

theorem bor_form {x y c : Nat} (hx : x < 4294967296) (hy : y < 4294967296) (hc : c ≤ 1) : IntKind.u64.wrap (IntKind.u64.wrap ((x : Int) - c) - y) / 9223372036854775808 = (bor x y c : Nat) ∧
    IntKind.u64.wrap (IntKind.u64.wrap ((x : Int) - c) - y) % 4294967296 = (x + 4294967296 * bor x y c - y - c : Nat) := by
  simp only [IntKind.wrap_u64]
  unfold bor
  split <;> omega
theorem bor_form0 {x c : Nat} (hx : x < 4294967296) (hc : c ≤ 1) : IntKind.u64.wrap ((x : Int) - c) / 9223372036854775808 = (bor x 0 c : Nat) ∧
    IntKind.u64.wrap ((x : Int) - c) % 4294967296 = (x + 4294967296 * bor x 0 c - 0 - c : Nat) := by
  simp only [IntKind.wrap_u64]
  unfold bor
  split <;> omega

end Go.Proofs.Ytfkijcimddbjoaa
