/- Digests: what digest.Of, Add, Number, Chain and the reference's return, for all bytes and numbers. No condition beyond 'the bytes can be read'. -/
import Derived.Test.YthbfmioikbphgaaDoorBase
import Derived.Test.YthbfmioikbphgaaDoorProg
namespace Go.Proofs.YthbfmioikbphgaaDoor
set_option maxRecDepth 100000
open Go.RowKit

/-! ### Plain -/
def dstep (h : UInt64) (c : UInt8) : UInt64 := (h ^^^ c.toUInt64) * 1099511628211
def digAdd (h : UInt64) (xs : List UInt8) : UInt64 := xs.foldl dstep h
def dstart : UInt64 := 14695981039346656037
/-- byte number j of a number, from the least significant one -/
def byteAt (n : UInt64) (j : Nat) : UInt8 := UInt8.ofNat (n.toNat / 2 ^ (8 * j))
/-- the k least significant bytes, the most significant one first -/
def beList (n : UInt64) : Nat → List UInt8
  | 0 => []
  | k + 1 => byteAt n k :: beList n k
def be8 (n : UInt64) : List UInt8 := beList n 8
def digNum (h n : UInt64) : UInt64 := digAdd h (be8 n)
def digOf (xs : List UInt8) : UInt64 := digAdd dstart xs
def digChain (p : UInt64) (xs : List UInt8) : UInt64 := digAdd (digNum dstart p) xs

theorem digAdd_cons (h : UInt64) (xs : List UInt8) (k : Nat) (hk : k < xs.length) : digAdd h (xs.drop k) = digAdd (dstep h (xs.getD k 0)) (xs.drop (k + 1)) := by
  rw [drop_cons xs k 0 hk]; rfl
theorem digAdd_end (h : UInt64) (xs : List UInt8) (k : Nat) (hk : xs.length ≤ k) : digAdd h (xs.drop k) = h := by
  rw [List.drop_of_length_le hk]; rfl

/-! ### The walk's own forms -/
theorem dstep_form (u : UInt64) (x : UInt8) : IntKind.u64.wrap (bits .xor .u64 (u.toNat : Int) (IntKind.u64.wrap (x.toNat : Int)) * 1099511628211) = ((dstep u x).toNat : Int) := by
  rw [wrap_u64_u8, xor_u64]
  exact wrap_mul_u64 _ 1099511628211
theorem byteAt_form (n : UInt64) (j : Nat) : IntKind.u8.wrap ((n.toNat : Int) / 2 ^ (8 * j)) = ((byteAt n j).toNat : Int) := by
  unfold byteAt
  rw [UInt8.toNat_ofNat']
  simp [IntKind.wrap, IntKind.bits, IntKind.signed]
theorem byteAt_mod (n : UInt64) (j : Nat) : (n.toNat : Int) / 2 ^ (8 * j) % 256 = ((byteAt n j).toNat : Int) := by
  unfold byteAt
  rw [UInt8.toNat_ofNat']
  simp
theorem and255 (a : Nat) (ha : a < 18446744073709551616) : bits .and .u64 ((a : Nat) : Int) 255 = ((a % 256 : Nat) : Int) := by
  have := bits_and_u64_nat a 255 ha (by decide)
  rw [show (255 : Int) = ((255 : Nat) : Int) from rfl, this, show 255 = 2 ^ 8 - 1 from rfl, Nat.and_two_pow_sub_one_eq_mod]
theorem byteAt_and (n : UInt64) (j : Nat) : bits .and .u64 ((n.toNat : Int) / 2 ^ (8 * j)) 255 = ((byteAt n j).toUInt64.toNat : Int) := by
  have e : ((n.toNat : Int) / 2 ^ (8 * j)) = ((n.toNat / 2 ^ (8 * j) : Nat) : Int) := by simp
  rw [e, and255 _ (Nat.lt_of_le_of_lt (Nat.div_le_self _ _) n.toNat_lt)]
  unfold byteAt
  simp

theorem infoByte : (Tryd.prog.info? 5).map (fun i => (i.zero, i.size, i.bytes)) = some (some (.int .u8 0), 1, 1) := by kernel_rfl

/-! ### The program -/
set_option maxHeartbeats 400000 in
theorem add_any (h : UInt64) (xs : List UInt8) (a : Option Addr) (len cap : Nat) (w : World) (hx : Bytes w a len cap xs) :
    Calls Tryd.prog 22 #[.int .u64 h.toNat, .slice a len cap] w fun e w' => e = .returned (.int .u64 (digAdd h xs).toNat) ∧ w = w' := by
  have hm : len ≤ 9223372036854775807 := by have h1 := hx.2.1; have h2 := hx.2.2.1; unfold maxLen at h2; omega
  have HL := Lib.hid hx.1
  have HC := Lib.hid hx.2
  clear hx
  go_enter Tryd.func22, Tryd.ntmps22
  go_wp2
  go_loop [0, 9] (fun g i => ∃ (k : Nat) (u : UInt64), k ≤ len ∧ i = .int .i64 k ∧ g = .int .u64 u.toNat ∧ Hid (digAdd h xs = digAdd u (xs.drop k))) (fun _ i => len - (intOf i).toNat)
  case atStart => exact ⟨0, h, by omega, rfl, rfl, by simp [Hid]⟩
  case round =>
    obtain ⟨k, u, hk, rfl, rfl, HD⟩ := hrel
    by_cases hlt : k < len
    · obtain ⟨b, off, rfl, _, hcc⟩ := HC.out.at hlt
      have c1 := hcc k hlt w (Below.refl _ _)
      have HS := Lib.hid (digAdd_cons u xs k (by rw [HL.out]; omega))
      clear hcc
      generalize xs.getD k 0 = x at *
      go_wp2
      go_round
      case rel => exact ⟨k + 1, dstep u x, by omega, by go_num, int_eq (dstep_form u x), by unfold Hid; rw [HD.out, HS.out]⟩
      case measure => simp [intOf]; omega
    · have HF := Lib.hid (show digAdd h xs = u by rw [HD.out]; exact digAdd_end u xs k (by rw [HL.out]; omega))
      go_wp2
      go_ret
      exact ⟨ret_int (by rw [HF.out]), rfl⟩

set_option maxHeartbeats 400000 in
theorem num_any (h n : UInt64) (w : World) :
    Calls Tryd.prog 21 #[.int .u64 h.toNat, .int .u64 n.toNat] w fun e w' => e = .returned (.int .u64 (digNum h n).toNat) ∧ w = w' := by
  go_enter Tryd.func21, Tryd.ntmps21
  go_wp2
  go_loop [0, 5] (fun g i => ∃ (k : Nat) (u : UInt64), k ≤ 8 ∧ i = .int .i64 (8 * k - 8) ∧ g = .int .u64 u.toNat ∧ Hid (digNum h n = digAdd u (beList n k))) (fun _ i => (8 + intOf i).toNat)
  case atStart => exact ⟨8, h, by omega, rfl, rfl, rfl⟩
  case round =>
    obtain ⟨k, u, hk, rfl, rfl, HD⟩ := hrel
    cases k with
    | succ j =>
      rw [show (8 * ((j + 1 : Nat) : Int) - 8) = ((8 * j : Nat) : Int) by omega]
      go_wp2
      go_round
      case rel => exact ⟨j, dstep u (byteAt n j), by omega, by go_num, int_eq (by rw [byteAt_and, xor_u64]; exact wrap_mul_u64 _ 1099511628211), by unfold Hid; rw [HD.out]; rfl⟩
      case measure => simp [intOf]; omega
    | zero =>
      have HF := Lib.hid (show digNum h n = u from HD.out)
      go_wp2
      go_ret
      exact ⟨ret_int (by rw [HF.out]), rfl⟩

theorem of_any (xs : List UInt8) (a : Option Addr) (len cap : Nat) (w : World) (hx : Bytes w a len cap xs) :
    Calls Tryd.prog 24 #[.slice a len cap] w fun e w' => e = .returned (.int .u64 (digOf xs).toNat) ∧ w = w' := by
  have H := Lib.hid hx; clear hx
  go_enter Tryd.func24, Tryd.ntmps24
  go_wp2_with fail
  refine (add_any dstart xs a len cap _ H.out).mono ?_
  rintro e w1 ⟨rfl, rfl⟩
  go_wp2_with fail
  go_ret
  exact ⟨rfl, rfl⟩

theorem chain_any (p : UInt64) (xs : List UInt8) (a : Option Addr) (len cap : Nat) (w : World) (hx : Bytes w a len cap xs) :
    Calls Tryd.prog 20 #[.int .u64 p.toNat, .slice a len cap] w fun e w' => e = .returned (.int .u64 (digChain p xs).toNat) ∧ w = w' := by
  have H := Lib.hid hx; clear hx
  go_enter Tryd.func20, Tryd.ntmps20
  go_wp2_with fail
  refine (num_any dstart p _).mono ?_
  rintro e w1 ⟨rfl, rfl⟩
  go_wp2_with fail
  refine (add_any _ xs a len cap _ H.out).mono ?_
  rintro e w1 ⟨rfl, rfl⟩
  go_wp2_with fail
  go_ret
  exact ⟨rfl, rfl⟩

end Go.Proofs.YthbfmioikbphgaaDoor
