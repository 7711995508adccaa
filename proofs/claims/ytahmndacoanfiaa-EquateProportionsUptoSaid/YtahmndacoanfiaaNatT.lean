/- Natural numbers: what the reference's Bits, Shift, half and DivMod return, for all limbs. Condition: the limbs can be read, and take at most 2^46 bytes. -/
import Derived.Test.YtahmndacoanfiaaNatS
import Derived.Test.YtahmndacoanfiaaNatQ
namespace Go.Proofs.Ytahmndacoanfiaa
set_option maxRecDepth 100000
open Go.RowKit

theorem bits_or_u32_nat (a b : Nat) (ha : a < 4294967296) (hb : b < 4294967296) : bits .or .u32 (a : Int) (b : Int) = ((a ||| b : Nat) : Int) := by
  have hx : a ||| b < 2 ^ 32 := Nat.or_lt_two_pow (by omega) (by omega)
  have h1 : (BitVec.ofInt 32 (a : Int)).toNat = a := by
    rw [BitVec.ofInt_natCast, BitVec.toNat_ofNat]; exact Nat.mod_eq_of_lt (by omega)
  have h2 : (BitVec.ofInt 32 (b : Int)).toNat = b := by
    rw [BitVec.ofInt_natCast, BitVec.toNat_ofNat]; exact Nat.mod_eq_of_lt (by omega)
  show IntKind.u32.wrap ((BitVec.ofInt 32 (a : Int) ||| BitVec.ofInt 32 (b : Int)).toNat : Int) = _
  rw [BitVec.toNat_or, h1, h2]
  simp [IntKind.wrap, IntKind.bits, IntKind.signed]
  omega
theorem or_u32 {z y : Nat} (hz : z < 4294967296) : bits .or .u32 (z : Int) ((y : Int) % 4294967296) = ((z ||| y % 4294967296 : Nat) : Int) := by
  rw [show ((y : Int) % 4294967296) = ((y % 4294967296 : Nat) : Int) by omega]
  exact bits_or_u32_nat _ _ hz (by omega)
theorem wrap_shl {x n : Nat} (h : x * 2 ^ n < 18446744073709551616) : IntKind.u64.wrap ((x : Int) * 2 ^ n) = ((x * 2 ^ n : Nat) : Int) := by
  rw [show ((x : Int) * 2 ^ n) = ((x * 2 ^ n : Nat) : Int) by simp, IntKind.wrap_u64]
  omega

end Go.Proofs.Ytahmndacoanfiaa
