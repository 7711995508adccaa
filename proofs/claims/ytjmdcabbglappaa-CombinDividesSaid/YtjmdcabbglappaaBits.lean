/- math/bits.Len32 and nat.Bits: the bit length. -/
import Derived.Test.YtjmdcabbglappaaNum
import Derived.Lib.BitFns
namespace Go.Proofs.Ytjmdcabbglappaa
open Go.RowKit

theorem bitLenAux_blen : ∀ (f x : Nat), x < 2 ^ f → Lib.bitLenAux f x = blen x
  | 0, x, h => by
    obtain rfl : x = 0 := by simpa using h
    rw [blen_zero]; rfl
  | f + 1, x, h => by
    rw [Lib.bitLenAux]
    by_cases h0 : x = 0
    · subst h0; rw [blen_zero]; rfl
    · rw [if_neg h0, bitLenAux_blen f (x / 2) (by rw [Nat.pow_succ] at h; omega), blen_pos h0]; omega
theorem bitLen_blen (x : Nat) (h : x < 18446744073709551616) : Lib.bitLen x = blen x := bitLenAux_blen 64 x (by simpa using h)
theorem blen_shift {x s : Nat} (h : 2 ^ s ≤ x) : blen x = s + blen (x / 2 ^ s) := by
  have hq : x / 2 ^ s ≠ 0 := by
    have := Nat.div_pos h (Nat.pow_pos (n := s) (by omega : 0 < 2)); omega
  have h1 := lt_blen (x / 2 ^ s)
  have h2 := blen_ge (x / 2 ^ s) hq
  have h3 : 1 ≤ blen (x / 2 ^ s) := by rw [blen_pos hq]; omega
  refine blen_unique ?_ ?_ (by omega)
  · rw [show s + blen (x / 2 ^ s) - 1 = (blen (x / 2 ^ s) - 1) + s by omega, Nat.pow_add]
    exact Nat.le_trans (Nat.mul_le_mul_right _ h2) (Nat.div_mul_le_self _ _)
  · rw [Nat.add_comm, Nat.pow_add]
    exact (Nat.div_lt_iff_lt_mul (Nat.pow_pos (by omega))).1 h1
theorem tab_at (n : Nat) (h : n < 256) : Lib.len8 (n : Int) = (blen n : Int) ∧ blen n ≤ 8 := by
  refine ⟨?_, ?_⟩
  · have := Lib.len8_eq ⟨n, h⟩
    rw [this]
    simp only
    rw [bitLen_blen n (by omega)]
  · have := Lib.bitLen_le8 ⟨n, h⟩
    simp only at this
    rwa [bitLen_blen n (by omega)] at this

theorem tabI (y : Int) (h0 : 0 ≤ y) (h1 : y ≤ 255) : Lib.len8 y = (blen y.toNat : Int) ∧ blen y.toNat ≤ 8 := by
  have := tab_at y.toNat (by omega)
  rwa [show ((y.toNat : Nat) : Int) = y by omega] at this

set_option maxHeartbeats 4000000 in
set_option maxRecDepth 100000 in
theorem len32_int (x : Int) (w : World) (h0 : 0 ≤ x) (h1 : x ≤ 4294967295) :
    Calls Try.prog 37 #[.int .u32 x] w fun e w' => e = .returned (.int .i64 ((blen x.toNat : Nat) : Int)) ∧ w = w' := by
  by_cases a1 : 65536 ≤ x
  · have HA := Lib.hid (blen_shift (x := x.toNat) (s := 16) (by omega))
    by_cases a2 : 256 ≤ x / 65536
    · have HB := Lib.hid (blen_shift (x := x.toNat / 65536) (s := 8) (by omega))
      have HF := Lib.hid (show blen x.toNat = 24 + blen (x / 65536 / 256).toNat by
        rw [HA.out]; show 16 + blen (x.toNat / 65536) = _; rw [HB.out]; show 16 + (8 + blen (x.toNat / 65536 / 256)) = _
        rw [show x.toNat / 65536 / 256 = (x / 65536 / 256).toNat by omega]; omega)
      have q1 : x / 65536 / 256 ≤ 255 := by omega
      have q2 : 0 ≤ x / 65536 / 256 := by omega
      have HT := Lib.hid (tabI _ q2 q1)
      go_enter Try.func37, Try.ntmps37
      go_wp2
      go_ret
      refine ⟨congrArg Ending.returned (congrArg (Value.int IntKind.i64) ?_), rfl⟩
      have h3 := HT.out
      have h4 := HF.out
      simp only [wrap64]
      simp [h3.1]
      omega
    · have HF := Lib.hid (show blen x.toNat = 16 + blen (x / 65536).toNat by
        rw [HA.out]; show 16 + blen (x.toNat / 65536) = _; rw [show x.toNat / 65536 = (x / 65536).toNat by omega])
      have q1 : x / 65536 ≤ 255 := by omega
      have q2 : 0 ≤ x / 65536 := by omega
      have HT := Lib.hid (tabI _ q2 q1)
      go_enter Try.func37, Try.ntmps37
      go_wp2
      go_ret
      refine ⟨congrArg Ending.returned (congrArg (Value.int IntKind.i64) ?_), rfl⟩
      have h3 := HT.out
      have h4 := HF.out
      simp [wrap64, h3.1]
      omega
  · by_cases a2 : 256 ≤ x
    · have HA := Lib.hid (blen_shift (x := x.toNat) (s := 8) (by omega))
      have HF := Lib.hid (show blen x.toNat = 8 + blen (x / 256).toNat by
        rw [HA.out]; show 8 + blen (x.toNat / 256) = _; rw [show x.toNat / 256 = (x / 256).toNat by omega])
      have q1 : x / 256 ≤ 255 := by omega
      have q2 : 0 ≤ x / 256 := by omega
      have HT := Lib.hid (tabI _ q2 q1)
      go_enter Try.func37, Try.ntmps37
      go_wp2
      go_ret
      refine ⟨congrArg Ending.returned (congrArg (Value.int IntKind.i64) ?_), rfl⟩
      have h3 := HT.out
      have h4 := HF.out
      simp [wrap64, h3.1]
      omega
    · have q1 : x ≤ 255 := by omega
      have HT := Lib.hid (tabI _ h0 q1)
      go_enter Try.func37, Try.ntmps37
      go_wp2
      go_ret
      refine ⟨congrArg Ending.returned (congrArg (Value.int IntKind.i64) ?_), rfl⟩
      have h3 := HT.out
      simp [wrap64, h3.1]
      omega

theorem len32_any (x : Nat) (w : World) (hx : x < 4294967296) :
    Calls Try.prog 37 #[.int .u32 (x : Int)] w fun e w' => e = .returned (.int .i64 ((blen x : Nat) : Int)) ∧ w = w' := len32_int x w (by omega) (by omega)

set_option maxHeartbeats 400000 in
theorem nbits_any (xs : List Nat) (a : Option Addr) (len cap : Nat) (w : World) (hx : Limbs w a len cap xs) (hm : len * 4 ≤ 281474976710656) :
    Calls Try.prog 20 #[.slice a len cap] w fun e w' => e = .returned (.int .i64 ((blen (natOf xs) : Nat) : Int)) ∧ w = w' := by
  have HX := Lib.hid hx
  have HN := Lib.hid hx.trim
  have hl := digs_length_of hx.2.1
  rw [hx.1] at hl
  clear hx
  go_enter Try.func20, Try.ntmps20
  go_wp2_with fail
  refine (trim_any xs a len cap _ HX.out).mono ?_
  rintro e w1 ⟨rfl, rfl⟩
  by_cases hz : natOf xs = 0
  · have HZ := Lib.hid (show (digs (natOf xs)).length = 0 by rw [hz, digs_zero]; rfl)
    have HF := Lib.hid (show blen (natOf xs) = 0 by rw [hz, blen_zero])
    rw [HZ.out]
    clear hz
    go_wp2_with fail
    go_ret
    exact ⟨by rw [HF.out]; rfl, rfl⟩
  · have HB := Lib.hid (blen_digs hz)
    have h0 : (digs (natOf xs)).length ≠ 0 := fun h => hz (digs_len_zero.1 h)
    clear HX
    generalize (digs (natOf xs)).length = n1 at *
    obtain ⟨b, off, rfl, _, hcc⟩ := HN.out.2.2.at (k := n1 - 1) (by omega)
    have c1 := hcc (n1 - 1) (by omega) w (Below.refl _ _)
    have ht1 := HN.out.2.1.getD (n1 - 1)
    clear hcc hz
    generalize (digs (natOf xs)).getD (n1 - 1) 0 = t0 at *
    have hn0 : 1 ≤ n1 := by omega
    have d0 : ((n1 : Int) == 0) = false := by simp; omega
    have hbl := blen_limb ht1
    clear h0
    go_wp2_with fail
    refine (len32_any t0 _ ht1).mono ?_
    rintro e w1 ⟨rfl, rfl⟩
    generalize blen t0 = bt at *
    go_wp2_with fail
    go_ret
    exact ⟨by rw [HB.out]; exact congrArg Ending.returned (int_eq (by omega)), rfl⟩

theorem nbits_num {w : World} {v : Value} {n : Nat} (hv : Num w v n) (hn : Sm n) :
    Calls Try.prog 20 #[v] w fun e w' => e = .returned (.int .i64 ((blen n : Nat) : Int)) ∧ w = w' := by
  obtain ⟨a, len, cap, rfl, hv⟩ := hv
  have h1 := Num.sm hv hn
  have := nbits_any _ _ _ _ w hv (by omega)
  rwa [natOf_digs] at this
theorem blen_ne {n : Nat} (h : n ≠ 0) : 1 ≤ blen n := by rw [blen_pos h]; omega

end Go.Proofs.Ytjmdcabbglappaa
