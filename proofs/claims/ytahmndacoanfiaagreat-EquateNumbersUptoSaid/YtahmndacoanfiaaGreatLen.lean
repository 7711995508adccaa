/- math/bits.Len32: the bit length of a limb. -/
import Derived.Test.YtahmndacoanfiaaGreatNatQ
import Derived.Test.YtahmndacoanfiaaGreatProg
import Derived.Lib.BitFns
namespace Go.Proofs.YtahmndacoanfiaaGreat
set_option maxRecDepth 100000
open Go.RowKit

theorem bitLenAux_blen : ∀ (f x : Nat), x < 2 ^ f → Lib.bitLenAux f x = blen x
  | 0, x, h => by
    obtain rfl : x = 0 := by simpa using h
    rw [blen_zero]; rfl
  | f + 1, x, h => by
    rw [Lib.bitLenAux]
    by_cases h0 : x = 0
    · subst h0; rw [blen_zero]; rfl
    · rw [if_neg h0, bitLenAux_blen f (x / 2) (by rw [Nat.pow_succ] at h; omega), blen_pos h0]; omega
theorem bitLen_blen (x : Nat) (h : x < 18446744073709551616) : Lib.bitLen x = blen x := bitLenAux_blen 64 x (by simpa using h)
theorem blen_shift {x s : Nat} (h : 2 ^ s ≤ x) : blen x = s + blen (x / 2 ^ s) := by
  have hq : x / 2 ^ s ≠ 0 := by
    have := Nat.div_pos h (Nat.pow_pos (n := s) (by omega : 0 < 2)); omega
  have h1 := lt_blen (x / 2 ^ s)
  have h2 := blen_ge (x / 2 ^ s) hq
  have h3 : 1 ≤ blen (x / 2 ^ s) := by rw [blen_pos hq]; omega
  refine blen_unique ?_ ?_ (by omega)
  · rw [show s + blen (x / 2 ^ s) - 1 = (blen (x / 2 ^ s) - 1) + s by omega, Nat.pow_add]
    exact Nat.le_trans (Nat.mul_le_mul_right _ h2) (Nat.div_mul_le_self _ _)
  · rw [Nat.add_comm, Nat.pow_add]
    exact (Nat.div_lt_iff_lt_mul (Nat.pow_pos (by omega))).1 h1
theorem tab_at (n : Nat) (h : n < 256) : Lib.len8 (n : Int) = (blen n : Int) ∧ blen n ≤ 8 := by
  refine ⟨?_, ?_⟩
  · have := Lib.len8_eq ⟨n, h⟩
    rw [this]
    simp only
    rw [bitLen_blen n (by omega)]
  · have := Lib.bitLen_le8 ⟨n, h⟩
    simp only at this
    rwa [bitLen_blen n (by omega)] at this

theorem tabI (y : Int) (h0 : 0 ≤ y) (h1 : y ≤ 255) : Lib.len8 y = (blen y.toNat : Int) ∧ blen y.toNat ≤ 8 := by
  have := tab_at y.toNat (by omega)
  rwa [show ((y.toNat : Nat) : Int) = y by omega] at this

set_option maxHeartbeats 4000000 in
set_option maxRecDepth 100000 in
theorem len32_int (x : Int) (w : World) (h0 : 0 ≤ x) (h1 : x ≤ 4294967295) :
    Calls Tryz.prog 127 #[.int .u32 x] w fun e w' => e = .returned (.int .i64 ((blen x.toNat : Nat) : Int)) ∧ w = w' := by
  by_cases a1 : 65536 ≤ x
  · have HA := Lib.hid (blen_shift (x := x.toNat) (s := 16) (by omega))
    by_cases a2 : 256 ≤ x / 65536
    · have HB := Lib.hid (blen_shift (x := x.toNat / 65536) (s := 8) (by omega))
      have HF := Lib.hid (show blen x.toNat = 24 + blen (x / 65536 / 256).toNat by
        rw [HA.out]; show 16 + blen (x.toNat / 65536) = _; rw [HB.out]; show 16 + (8 + blen (x.toNat / 65536 / 256)) = _
        rw [show x.toNat / 65536 / 256 = (x / 65536 / 256).toNat by omega]; omega)
      have q1 : x / 65536 / 256 ≤ 255 := by omega
      have q2 : 0 ≤ x / 65536 / 256 := by omega
      have HT := Lib.hid (tabI _ q2 q1)
      go_enter Tryz.func127, Tryz.ntmps127
      go_wp2
      go_ret
      refine ⟨congrArg Ending.returned (congrArg (Value.int IntKind.i64) ?_), rfl⟩
      have h3 := HT.out
      have h4 := HF.out
      simp only [wrap64]
      simp [h3.1]
      omega
    · have HF := Lib.hid (show blen x.toNat = 16 + blen (x / 65536).toNat by
        rw [HA.out]; show 16 + blen (x.toNat / 65536) = _; rw [show x.toNat / 65536 = (x / 65536).toNat by omega])
      have q1 : x / 65536 ≤ 255 := by omega
      have q2 : 0 ≤ x / 65536 := by omega
      have HT := Lib.hid (tabI _ q2 q1)
      go_enter Tryz.func127, Tryz.ntmps127
      go_wp2
      go_ret
      refine ⟨congrArg Ending.returned (congrArg (Value.int IntKind.i64) ?_), rfl⟩
      have h3 := HT.out
      have h4 := HF.out
      simp [wrap64, h3.1]
      omega
  · by_cases a2 : 256 ≤ x
    · have HA := Lib.hid (blen_shift (x := x.toNat) (s := 8) (by omega))
      have HF := Lib.hid (show blen x.toNat = 8 + blen (x / 256).toNat by
        rw [HA.out]; show 8 + blen (x.toNat / 256) = _; rw [show x.toNat / 256 = (x / 256).toNat by omega])
      have q1 : x / 256 ≤ 255 := by omega
      have q2 : 0 ≤ x / 256 := by omega
      have HT := Lib.hid (tabI _ q2 q1)
      go_enter Tryz.func127, Tryz.ntmps127
      go_wp2
      go_ret
      refine ⟨congrArg Ending.returned (congrArg (Value.int IntKind.i64) ?_), rfl⟩
      have h3 := HT.out
      have h4 := HF.out
      simp [wrap64, h3.1]
      omega
    · have q1 : x ≤ 255 := by omega
      have HT := Lib.hid (tabI _ h0 q1)
      go_enter Tryz.func127, Tryz.ntmps127
      go_wp2
      go_ret
      refine ⟨congrArg Ending.returned (congrArg (Value.int IntKind.i64) ?_), rfl⟩
      have h3 := HT.out
      simp [wrap64, h3.1]
      omega

theorem len32_any (x : Nat) (w : World) (hx : x < 4294967296) :
    Calls Tryz.prog 127 #[.int .u32 (x : Int)] w fun e w' => e = .returned (.int .i64 ((blen x : Nat) : Int)) ∧ w = w' := len32_int x w (by omega) (by omega)

theorem lz32_any (x : Nat) (w : World) (hx : x < 4294967296) :
    Calls Tryz.prog 120 #[.int .u32 (x : Int)] w fun e w' => e = .returned (.int .i64 ((32 - blen x : Nat) : Int)) ∧ w = w' := by
  have hb := blen_limb hx
  go_enter Tryz.func120, Tryz.ntmps120
  go_wp2_with fail
  refine (len32_any x _ hx).mono ?_
  rintro e w1 ⟨rfl, rfl⟩
  generalize hy : blen x = y at *
  have HY := Lib.hid hy
  clear hy
  go_wp2_with fail
  go_ret
  exact ⟨ret_int (by rw [HY.out]; omega), rfl⟩

end Go.Proofs.YtahmndacoanfiaaGreat
