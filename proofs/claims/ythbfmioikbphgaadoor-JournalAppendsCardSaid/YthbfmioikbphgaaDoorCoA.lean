/- The codec: what fold, unfold, bits.Len64 and varintLen return. -/
import Derived.Test.YthbfmioikbphgaaDoorCo
import Derived.Lib.BitFns
import Derived.Laws.Bits64
import Derived.Laws.Bits64b
namespace Go.Proofs.YthbfmioikbphgaaDoor
set_option maxRecDepth 100000
open Go.RowKit

def blen (n : Nat) : Nat := if h : n = 0 then 0 else blen (n / 2) + 1
  termination_by n
  decreasing_by omega
theorem blen_zero : blen 0 = 0 := by unfold blen; simp
theorem blen_pos {n : Nat} (h : n ≠ 0) : blen n = blen (n / 2) + 1 := by rw [blen]; simp [h]
theorem lt_blen : ∀ n : Nat, n < 2 ^ blen n := by
  intro n
  induction n using Nat.strongRecOn with
  | ind n ih =>
    by_cases h : n = 0
    · subst h; simp [blen_zero]
    · rw [blen_pos h, Nat.pow_succ]; have := ih (n / 2) (by omega); omega
theorem blen_ge : ∀ n : Nat, n ≠ 0 → 2 ^ (blen n - 1) ≤ n := by
  intro n
  induction n using Nat.strongRecOn with
  | ind n ih =>
    intro h
    rw [blen_pos h, Nat.add_sub_cancel]
    by_cases h2 : n / 2 = 0
    · rw [h2, blen_zero]; simp; omega
    · have := ih (n / 2) (by omega) h2
      have h3 : blen (n / 2) = (blen (n / 2) - 1) + 1 := by rw [blen_pos h2]; omega
      rw [h3, Nat.pow_succ]; omega
theorem blen_unique {n k : Nat} (h1 : 2 ^ (k - 1) ≤ n) (h2 : n < 2 ^ k) (hk : 1 ≤ k) : blen n = k := by
  have hn : n ≠ 0 := by have : 0 < 2 ^ (k - 1) := Nat.pow_pos (by omega); omega
  have h3 := lt_blen n
  have h4 := blen_ge n hn
  have h5 : blen n ≠ 0 := by rw [blen_pos hn]; omega
  rcases Nat.lt_trichotomy (blen n) k with h | h | h
  · have : 2 ^ blen n ≤ 2 ^ (k - 1) := Nat.pow_le_pow_right (by omega) (by omega)
    omega
  · exact h
  · have : 2 ^ k ≤ 2 ^ (blen n - 1) := Nat.pow_le_pow_right (by omega) (by omega)
    omega
theorem bitLenAux_blen : ∀ (f x : Nat), x < 2 ^ f → Lib.bitLenAux f x = blen x
  | 0, x, h => by
    obtain rfl : x = 0 := by simpa using h
    rw [blen_zero]; rfl
  | f + 1, x, h => by
    rw [Lib.bitLenAux]
    by_cases h0 : x = 0
    · subst h0; rw [blen_zero]; rfl
    · rw [if_neg h0, bitLenAux_blen f (x / 2) (by rw [Nat.pow_succ] at h; omega), blen_pos h0]; omega
theorem bitLen_blen (x : Nat) (h : x < 18446744073709551616) : Lib.bitLen x = blen x := bitLenAux_blen 64 x (by simpa using h)
theorem blen_shift {x s : Nat} (h : 2 ^ s ≤ x) : blen x = s + blen (x / 2 ^ s) := by
  have hq : x / 2 ^ s ≠ 0 := by
    have := Nat.div_pos h (Nat.pow_pos (n := s) (by omega : 0 < 2)); omega
  have h1 := lt_blen (x / 2 ^ s)
  have h2 := blen_ge (x / 2 ^ s) hq
  have h3 : 1 ≤ blen (x / 2 ^ s) := by rw [blen_pos hq]; omega
  refine blen_unique ?_ ?_ (by omega)
  · rw [show s + blen (x / 2 ^ s) - 1 = (blen (x / 2 ^ s) - 1) + s by omega, Nat.pow_add]
    exact Nat.le_trans (Nat.mul_le_mul_right _ h2) (Nat.div_mul_le_self _ _)
  · rw [Nat.add_comm, Nat.pow_add]
    exact (Nat.div_lt_iff_lt_mul (Nat.pow_pos (by omega))).1 h1
theorem tab_at (n : Nat) (h : n < 256) : Lib.len8 (n : Int) = (blen n : Int) ∧ blen n ≤ 8 := by
  refine ⟨?_, ?_⟩
  · have := Lib.len8_eq ⟨n, h⟩
    rw [this]
    simp only
    rw [bitLen_blen n (by omega)]
  · have := Lib.bitLen_le8 ⟨n, h⟩
    simp only at this
    rwa [bitLen_blen n (by omega)] at this

theorem tabI (y : Int) (h0 : 0 ≤ y) (h1 : y ≤ 255) : Lib.len8 y = (blen y.toNat : Int) ∧ blen y.toNat ≤ 8 := by
  have := tab_at y.toNat (by omega)
  rwa [show ((y.toNat : Nat) : Int) = y by omega] at this

theorem xor_ones {y : Nat} (h : y < 18446744073709551616) : y ^^^ 18446744073709551615 = 18446744073709551615 - y := by
  have h1 := congrArg BitVec.toNat (BitVec.xor_allOnes (x := BitVec.ofNat 64 y))
  rw [BitVec.toNat_xor, BitVec.toNat_allOnes, BitVec.toNat_not, BitVec.toNat_ofNat, Nat.mod_eq_of_lt (by simpa using h)] at h1
  simpa using h1
theorem or_one (x : Nat) : x ||| 1 = x + 1 - x % 2 := by
  have h1 : (x ||| 1) / 2 = x / 2 := by rw [Nat.or_div_two]; simp
  have h2 : (x ||| 1) % 2 = 1 := by rw [Nat.or_mod_two_eq_one]; simp
  omega
theorem fold_bits {n : Int} (h : I64 n) : bits .xor .u64 (IntKind.u64.wrap (IntKind.u64.wrap n * 2)) (IntKind.u64.wrap (n / 9223372036854775808)) = (foldN n : Nat) := by
  unfold I64 at h
  simp only [IntKind.wrap_u64]
  by_cases h0 : 0 ≤ n
  · have e1 : n % 18446744073709551616 * 2 % 18446744073709551616 = ((2 * n).toNat : Nat) := by omega
    have e2 : n / 9223372036854775808 % 18446744073709551616 = ((0 : Nat) : Int) := by omega
    rw [e1, e2, bits_xor_u64_nat _ _ (by omega) (by omega), Nat.xor_zero]
    unfold foldN; rw [if_pos h0]
  · have e1 : n % 18446744073709551616 * 2 % 18446744073709551616 = ((2 * n + 18446744073709551616).toNat : Nat) := by omega
    have e2 : n / 9223372036854775808 % 18446744073709551616 = ((18446744073709551615 : Nat) : Int) := by omega
    rw [e1, e2, bits_xor_u64_nat _ _ (by omega) (by omega), xor_ones (by omega)]
    unfold foldN; rw [if_neg h0]; omega
theorem fold_any (n : Int) (w : World) (h : I64 n) : Calls Tryd.prog 60 #[.int .i64 n] w fun e w' => e = .returned (.int .u64 (foldN n : Nat)) ∧ w = w' := by
  have HF := Lib.hid (fold_bits h)
  unfold I64 at h
  go_enter Tryd.func60, Tryd.ntmps60
  go_wp2_with fail
  go_ret
  refine ⟨?_, rfl⟩
  rw [← HF.out]; rfl
theorem xor_i64_zero {a : Int} (h0 : 0 ≤ a) (h1 : a ≤ 9223372036854775807) : bits .xor .i64 a 0 = a := by
  have hb : (BitVec.ofInt 64 a).toNat = a.toNat := by rw [BitVec.toNat_ofInt]; simp; omega
  show IntKind.i64.wrap ((BitVec.ofInt 64 a ^^^ BitVec.ofInt 64 0).toNat : Int) = a
  rw [BitVec.toNat_xor, hb, IntKind.wrap_i64]
  simp
  omega
theorem xor_i64_ones {a : Int} (h0 : 0 ≤ a) (h1 : a ≤ 9223372036854775807) : bits .xor .i64 a (-1) = -a - 1 := by
  have hb : (BitVec.ofInt 64 a).toNat = a.toNat := by rw [BitVec.toNat_ofInt]; simp; omega
  have hc : (BitVec.ofInt 64 (-1)).toNat = 18446744073709551615 := by decide
  show IntKind.i64.wrap ((BitVec.ofInt 64 a ^^^ BitVec.ofInt 64 (-1)).toNat : Int) = -a - 1
  rw [BitVec.toNat_xor, hb, hc, xor_ones (by omega), IntKind.wrap_i64]
  omega
theorem unfold_bits {x : Nat} (h : x < 18446744073709551616) : bits .xor .i64 ((x : Int) / 2) (wrap64 (-wrap64 (bits .and .u64 (x : Int) 1))) = unfoldN x := by
  have e1 : bits .and .u64 (x : Int) 1 = ((x % 2 : Nat) : Int) := by
    have := bits_and_u64_nat x 1 h (by omega)
    rw [Nat.and_one_is_mod] at this
    simpa using this
  rw [e1]
  unfold unfoldN
  by_cases h2 : x % 2 = 0
  · rw [h2, if_pos rfl]
    have e2 : wrap64 (-wrap64 ((0 : Nat) : Int)) = 0 := by simp [wrap64]
    rw [e2, xor_i64_zero (by omega) (by omega)]; omega
  · have h3 : x % 2 = 1 := by omega
    rw [h3, if_neg (by omega)]
    have e2 : wrap64 (-wrap64 ((1 : Nat) : Int)) = -1 := by simp [wrap64]
    rw [e2, xor_i64_ones (by omega) (by omega)]; omega
theorem unfold_any (x : Nat) (w : World) (h : x < 18446744073709551616) : Calls Tryd.prog 76 #[.int .u64 (x : Int)] w fun e w' => e = .returned (.int .i64 (unfoldN x)) ∧ w = w' := by
  have HF := Lib.hid (unfold_bits h)
  go_enter Tryd.func76, Tryd.ntmps76
  go_wp2_with fail
  go_ret
  refine ⟨?_, rfl⟩
  rw [← HF.out]; rfl

theorem vEnc_len (x : Nat) : (vEnc x).length = (max 1 (blen x) + 6) / 7 := by
  induction x using Nat.strongRecOn with
  | ind x ih =>
    by_cases h : x < 128
    · rw [vEnc_small h]
      have : blen x ≤ 7 := by
        by_cases hz : x = 0
        · rw [hz, blen_zero]; omega
        · rcases Nat.lt_or_ge (blen x) 8 with h' | h'
          · omega
          · have h1 := blen_ge x hz
            have : 2 ^ 7 ≤ 2 ^ (blen x - 1) := Nat.pow_le_pow_right (by omega) (by omega)
            omega
      simp only [List.length_singleton]
      omega
    · rw [vEnc_big h, List.length_cons, ih (x / 128) (by omega)]
      have h1 := blen_shift (x := x) (s := 7) (by simpa using h)
      have h2 : 1 ≤ blen (x / 128) := by rw [blen_pos (by omega)]; omega
      have h3 : x / 2 ^ 7 = x / 128 := rfl
      rw [h3] at h1
      omega
theorem blen_or (x : Nat) : blen (x ||| 1) = max 1 (blen x) := by
  rw [or_one]
  by_cases hz : x = 0
  · subst hz; rw [blen_zero]; simp [blen_pos, blen_zero]
  · have e : blen (x + 1 - x % 2) = blen x := by
      rw [blen_pos hz, blen_pos (by omega), show (x + 1 - x % 2) / 2 = x / 2 by omega]
    rw [e]
    have : 1 ≤ blen x := by rw [blen_pos hz]; omega
    omega
theorem blen_le64 {x : Nat} (h : x < 18446744073709551616) : blen x ≤ 64 := by
  by_cases hz : x = 0
  · rw [hz, blen_zero]; omega
  · rcases Nat.lt_or_ge (blen x) 65 with h' | h'
    · omega
    · have h1 := blen_ge x hz
      have : 2 ^ 64 ≤ 2 ^ (blen x - 1) := Nat.pow_le_pow_right (by omega) (by omega)
      omega

set_option maxHeartbeats 8000000 in
theorem len64_int (x : Int) (w : World) (h0 : 0 ≤ x) (h1 : x ≤ 18446744073709551615) :
    Calls Tryd.prog 71 #[.int .u64 x] w fun e w' => e = .returned (.int .i64 ((blen x.toNat : Nat) : Int)) ∧ w = w' := by
  by_cases a0 : 4294967296 ≤ x
  · have A0 := Lib.hid (show blen (x.toNat) = 32 + blen (x.toNat / 4294967296) from blen_shift (x := x.toNat) (s := 32) (by omega))
    by_cases a1 : 65536 ≤ x / 4294967296
    · have A1 := Lib.hid (show blen (x.toNat / 4294967296) = 16 + blen (x.toNat / 4294967296 / 65536) from blen_shift (x := x.toNat / 4294967296) (s := 16) (by omega))
      by_cases a2 : 256 ≤ x / 4294967296 / 65536
      · have A2 := Lib.hid (show blen (x.toNat / 4294967296 / 65536) = 8 + blen (x.toNat / 4294967296 / 65536 / 256) from blen_shift (x := x.toNat / 4294967296 / 65536) (s := 8) (by omega))
        have q1 : x / 4294967296 / 65536 / 256 ≤ 255 := by omega
        have q2 : 0 ≤ x / 4294967296 / 65536 / 256 := by omega
        have HT := Lib.hid (tabI _ q2 q1)
        have HF := Lib.hid (show blen x.toNat = 56 + blen (x / 4294967296 / 65536 / 256).toNat by
          rw [A0.out, A1.out, A2.out, show x.toNat / 4294967296 / 65536 / 256 = (x / 4294967296 / 65536 / 256).toNat by omega]; try omega)
        go_enter Tryd.func71, Tryd.ntmps71
        go_wp2
        go_ret
        refine ⟨congrArg Ending.returned (congrArg (Value.int IntKind.i64) ?_), rfl⟩
        have h3 := HT.out
        have h4 := HF.out
        simp only [wrap64]
        simp [h3.1]
        omega
      · have q1 : x / 4294967296 / 65536 ≤ 255 := by omega
        have q2 : 0 ≤ x / 4294967296 / 65536 := by omega
        have HT := Lib.hid (tabI _ q2 q1)
        have HF := Lib.hid (show blen x.toNat = 48 + blen (x / 4294967296 / 65536).toNat by
          rw [A0.out, A1.out, show x.toNat / 4294967296 / 65536 = (x / 4294967296 / 65536).toNat by omega]; try omega)
        go_enter Tryd.func71, Tryd.ntmps71
        go_wp2
        go_ret
        refine ⟨congrArg Ending.returned (congrArg (Value.int IntKind.i64) ?_), rfl⟩
        have h3 := HT.out
        have h4 := HF.out
        simp only [wrap64]
        simp [h3.1]
        omega
    · by_cases a2 : 256 ≤ x / 4294967296
      · have A2 := Lib.hid (show blen (x.toNat / 4294967296) = 8 + blen (x.toNat / 4294967296 / 256) from blen_shift (x := x.toNat / 4294967296) (s := 8) (by omega))
        have q1 : x / 4294967296 / 256 ≤ 255 := by omega
        have q2 : 0 ≤ x / 4294967296 / 256 := by omega
        have HT := Lib.hid (tabI _ q2 q1)
        have HF := Lib.hid (show blen x.toNat = 40 + blen (x / 4294967296 / 256).toNat by
          rw [A0.out, A2.out, show x.toNat / 4294967296 / 256 = (x / 4294967296 / 256).toNat by omega]; try omega)
        go_enter Tryd.func71, Tryd.ntmps71
        go_wp2
        go_ret
        refine ⟨congrArg Ending.returned (congrArg (Value.int IntKind.i64) ?_), rfl⟩
        have h3 := HT.out
        have h4 := HF.out
        simp only [wrap64]
        simp [h3.1]
        omega
      · have q1 : x / 4294967296 ≤ 255 := by omega
        have q2 : 0 ≤ x / 4294967296 := by omega
        have HT := Lib.hid (tabI _ q2 q1)
        have HF := Lib.hid (show blen x.toNat = 32 + blen (x / 4294967296).toNat by
          rw [A0.out, show x.toNat / 4294967296 = (x / 4294967296).toNat by omega]; try omega)
        go_enter Tryd.func71, Tryd.ntmps71
        go_wp2
        go_ret
        refine ⟨congrArg Ending.returned (congrArg (Value.int IntKind.i64) ?_), rfl⟩
        have h3 := HT.out
        have h4 := HF.out
        simp only [wrap64]
        simp [h3.1]
        omega
  · by_cases a1 : 65536 ≤ x
    · have A1 := Lib.hid (show blen (x.toNat) = 16 + blen (x.toNat / 65536) from blen_shift (x := x.toNat) (s := 16) (by omega))
      by_cases a2 : 256 ≤ x / 65536
      · have A2 := Lib.hid (show blen (x.toNat / 65536) = 8 + blen (x.toNat / 65536 / 256) from blen_shift (x := x.toNat / 65536) (s := 8) (by omega))
        have q1 : x / 65536 / 256 ≤ 255 := by omega
        have q2 : 0 ≤ x / 65536 / 256 := by omega
        have HT := Lib.hid (tabI _ q2 q1)
        have HF := Lib.hid (show blen x.toNat = 24 + blen (x / 65536 / 256).toNat by
          rw [A1.out, A2.out, show x.toNat / 65536 / 256 = (x / 65536 / 256).toNat by omega]; try omega)
        go_enter Tryd.func71, Tryd.ntmps71
        go_wp2
        go_ret
        refine ⟨congrArg Ending.returned (congrArg (Value.int IntKind.i64) ?_), rfl⟩
        have h3 := HT.out
        have h4 := HF.out
        simp only [wrap64]
        simp [h3.1]
        omega
      · have q1 : x / 65536 ≤ 255 := by omega
        have q2 : 0 ≤ x / 65536 := by omega
        have HT := Lib.hid (tabI _ q2 q1)
        have HF := Lib.hid (show blen x.toNat = 16 + blen (x / 65536).toNat by
          rw [A1.out, show x.toNat / 65536 = (x / 65536).toNat by omega]; try omega)
        go_enter Tryd.func71, Tryd.ntmps71
        go_wp2
        go_ret
        refine ⟨congrArg Ending.returned (congrArg (Value.int IntKind.i64) ?_), rfl⟩
        have h3 := HT.out
        have h4 := HF.out
        simp only [wrap64]
        simp [h3.1]
        omega
    · by_cases a2 : 256 ≤ x
      · have A2 := Lib.hid (show blen (x.toNat) = 8 + blen (x.toNat / 256) from blen_shift (x := x.toNat) (s := 8) (by omega))
        have q1 : x / 256 ≤ 255 := by omega
        have q2 : 0 ≤ x / 256 := by omega
        have HT := Lib.hid (tabI _ q2 q1)
        have HF := Lib.hid (show blen x.toNat = 8 + blen (x / 256).toNat by
          rw [A2.out, show x.toNat / 256 = (x / 256).toNat by omega]; try omega)
        go_enter Tryd.func71, Tryd.ntmps71
        go_wp2
        go_ret
        refine ⟨congrArg Ending.returned (congrArg (Value.int IntKind.i64) ?_), rfl⟩
        have h3 := HT.out
        have h4 := HF.out
        simp only [wrap64]
        simp [h3.1]
        omega
      · have q1 : x ≤ 255 := by omega
        have q2 : 0 ≤ x := by omega
        have HT := Lib.hid (tabI _ q2 q1)
        have HF := Lib.hid (show blen x.toNat = 0 + blen (x).toNat by
          omega)
        go_enter Tryd.func71, Tryd.ntmps71
        go_wp2
        go_ret
        refine ⟨congrArg Ending.returned (congrArg (Value.int IntKind.i64) ?_), rfl⟩
        have h3 := HT.out
        have h4 := HF.out
        simp only [wrap64]
        simp [h3.1]
        omega

theorem len64_any (x : Nat) (w : World) (hx : x < 18446744073709551616) :
    Calls Tryd.prog 71 #[.int .u64 (x : Int)] w fun e w' => e = .returned (.int .i64 ((blen x : Nat) : Int)) ∧ w = w' := len64_int x w (by omega) (by omega)
theorem vlen_any (x : Nat) (w : World) (hx : x < 18446744073709551616) :
    Calls Tryd.prog 59 #[.int .u64 (x : Int)] w fun e w' => e = .returned (.int .i64 (((vEnc x).length : Nat) : Int)) ∧ w = w' := by
  have e1 : bits .or .u64 (x : Int) 1 = (((x ||| 1 : Nat)) : Int) := by simpa using bits_or_u64_nat x 1 hx (by omega)
  have hlt : x ||| 1 < 18446744073709551616 := by rw [or_one]; omega
  have HL := Lib.hid (show (vEnc x).length = (blen (x ||| 1) + 6) / 7 by rw [vEnc_len, blen_or])
  have hb := blen_le64 hlt
  go_enter Tryd.func59, Tryd.ntmps59
  go_wp2_with fail
  refine (len64_any _ _ hlt).mono ?_
  rintro e w1 ⟨rfl, rfl⟩
  generalize blen (x ||| 1) = b at *
  go_wp2_with fail
  go_ret
  refine ⟨?_, rfl⟩
  rw [HL.out]
  exact ret_int (by omega)

end Go.Proofs.YthbfmioikbphgaaDoor
