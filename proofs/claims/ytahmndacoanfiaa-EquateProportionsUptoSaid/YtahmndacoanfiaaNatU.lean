/- Natural numbers: what the reference's DivMod returns, for all limbs. Condition: the limbs can be read, and take at most 2^46 bytes. -/
import Derived.Test.YtahmndacoanfiaaNatT
import Derived.Test.YtahmndacoanfiaaNatOff
namespace Go.Proofs.Ytahmndacoanfiaa
set_option maxRecDepth 100000
open Go.RowKit

theorem Num.len_le {w : World} {a : Option Addr} {len cap n k : Nat} (h : Limbs w a len cap (digs n)) (hk : n < 4294967296 ^ k) : len ≤ k := by rw [← h.1]; exact digs_length_le hk

theorem rdm_size {X Y k n : Nat} (hk : k ≤ blen X - blen Y) (hle : blen Y ≤ blen X) (hX : (digs X).length ≤ n) : Y * 2 ^ k < 4294967296 ^ n := by
  have h1 := lt_blen Y
  have h2 := blen_le_len hX
  have h3 : Y * 2 ^ k < 2 ^ blen Y * 2 ^ k := Nat.mul_lt_mul_of_pos_right h1 (Nat.pow_pos (by omega))
  rw [← Nat.pow_add] at h3
  rw [pow32]
  exact Nat.lt_of_lt_of_le h3 (Nat.pow_le_pow_right (by omega) (by omega))

theorem or_bit {z j : Nat} (hz : z < 4294967296) : bits .or .u32 (z : Int) (2 ^ (j % 32) % 4294967296) = ((z ||| 2 ^ (j % 32) : Nat) : Int) := by
  have hpow : 2 ^ (j % 32) < 4294967296 := Nat.pow_lt_pow_right (m := j % 32) (n := 32) (a := 2) (by omega) (by omega)
  rw [show ((2 : Int) ^ (j % 32)) = ((2 ^ (j % 32) : Nat) : Int) by simp]
  rw [or_u32 hz, Nat.mod_eq_of_lt hpow]

end Go.Proofs.Ytahmndacoanfiaa
