/- Digests: what the reference's Of, Add, Number and Chain return: the same plain functions. -/
import Derived.Test.YthbfmioikbphgaaDoorDig
namespace Go.Proofs.YthbfmioikbphgaaDoor
set_option maxRecDepth 100000
open Go.RowKit

set_option maxHeartbeats 400000 in
theorem ref_extend_any (h : UInt64) (x : UInt8) (w : World) :
    Calls Tryd.prog 65 #[.int .u64 h.toNat, .int .u8 x.toNat] w fun e w' => e = .returned (.int .u64 (dstep h x).toNat) ∧ w = w' := by
  go_enter Tryd.func65, Tryd.ntmps65
  go_wp2_with fail
  go_ret
  exact ⟨ret_int (dstep_form h x), rfl⟩

set_option maxHeartbeats 400000 in
theorem ref_add_any (h : UInt64) (xs : List UInt8) (a : Option Addr) (len cap : Nat) (w : World) (hx : Bytes w a len cap xs) :
    Calls Tryd.prog 51 #[.int .u64 h.toNat, .slice a len cap] w fun e w' => e = .returned (.int .u64 (digAdd h xs).toNat) ∧ w = w' := by
  have hm : len ≤ 9223372036854775807 := by have h1 := hx.2.1; have h2 := hx.2.2.1; unfold maxLen at h2; omega
  have HL := Lib.hid hx.1
  have HC := Lib.hid hx.2
  clear hx
  go_enter Tryd.func51, Tryd.ntmps51
  go_wp2
  go_loop [0, 5] (fun g i => ∃ (k : Nat) (u : UInt64), k ≤ len ∧ i = .int .i64 k ∧ g = .int .u64 u.toNat ∧ Hid (digAdd h xs = digAdd u (xs.drop k))) (fun _ i => len - (intOf i).toNat)
  case atStart => exact ⟨0, h, by omega, rfl, rfl, by simp [Hid]⟩
  case round =>
    obtain ⟨k, u, hk, rfl, rfl, HD⟩ := hrel
    by_cases hlt : k < len
    · obtain ⟨b, off, rfl, _, hcc⟩ := HC.out.at hlt
      have c1 := hcc k hlt w (Below.refl _ _)
      have HS := Lib.hid (digAdd_cons u xs k (by rw [HL.out]; omega))
      clear hcc
      generalize xs.getD k 0 = x at *
      go_wp2_with fail
      refine (ref_extend_any u x _).mono ?_
      rintro e w1 ⟨rfl, rfl⟩
      go_wp2_with fail
      go_round
      case rel => exact ⟨k + 1, dstep u x, by omega, by go_num, rfl, by unfold Hid; rw [HD.out, HS.out]⟩
      case measure => simp [intOf]; omega
    · have HF := Lib.hid (show digAdd h xs = u by rw [HD.out]; exact digAdd_end u xs k (by rw [HL.out]; omega))
      go_wp2
      go_ret
      exact ⟨ret_int (by rw [HF.out]), rfl⟩

set_option maxHeartbeats 400000 in
theorem ref_num_any (h n : UInt64) (w : World) :
    Calls Tryd.prog 52 #[.int .u64 h.toNat, .int .u64 n.toNat] w fun e w' => e = .returned (.int .u64 (digNum h n).toNat) ∧ w = w' := by
  go_enter Tryd.func52, Tryd.ntmps52
  go_wp2
  go_loop [0, 5] (fun g i => ∃ (k : Nat) (u : UInt64), k ≤ 8 ∧ i = .int .i64 ((k : Int) - 1) ∧ g = .int .u64 u.toNat ∧ Hid (digNum h n = digAdd u (beList n k))) (fun _ i => (1 + intOf i).toNat)
  case atStart => exact ⟨8, h, by omega, rfl, rfl, rfl⟩
  case round =>
    obtain ⟨k, u, hk, rfl, rfl, HD⟩ := hrel
    cases k with
    | succ j =>
      rw [show (((j + 1 : Nat) : Int) - 1) = (j : Int) by omega]
      go_wp2_with fail
      rw [byteAt_mod]
      refine (ref_extend_any u (byteAt n j) _).mono ?_
      rintro e w1 ⟨rfl, rfl⟩
      go_wp2_with fail
      go_round
      case rel => exact ⟨j, dstep u (byteAt n j), by omega, rfl, rfl, by unfold Hid; rw [HD.out]; rfl⟩
      case measure => simp [intOf]; omega
    | zero =>
      have HF := Lib.hid (show digNum h n = u from HD.out)
      go_wp2
      go_ret
      exact ⟨ret_int (by rw [HF.out]), rfl⟩

theorem ref_of_any (xs : List UInt8) (a : Option Addr) (len cap : Nat) (w : World) (hx : Bytes w a len cap xs) :
    Calls Tryd.prog 47 #[.slice a len cap] w fun e w' => e = .returned (.int .u64 (digOf xs).toNat) ∧ w = w' := by
  have H := Lib.hid hx; clear hx
  go_enter Tryd.func47, Tryd.ntmps47
  go_wp2_with fail
  refine (ref_add_any dstart xs a len cap _ H.out).mono ?_
  rintro e w1 ⟨rfl, rfl⟩
  go_wp2_with fail
  go_ret
  exact ⟨rfl, rfl⟩

theorem ref_chain_any (p : UInt64) (xs : List UInt8) (a : Option Addr) (len cap : Nat) (w : World) (hx : Bytes w a len cap xs) :
    Calls Tryd.prog 39 #[.int .u64 p.toNat, .slice a len cap] w fun e w' => e = .returned (.int .u64 (digChain p xs).toNat) ∧ w = w' := by
  have H := Lib.hid hx; clear hx
  go_enter Tryd.func39, Tryd.ntmps39
  go_wp2_with fail
  refine (ref_num_any dstart p _).mono ?_
  rintro e w1 ⟨rfl, rfl⟩
  go_wp2_with fail
  refine (ref_add_any _ xs a len cap _ H.out).mono ?_
  rintro e w1 ⟨rfl, rfl⟩
  go_wp2_with fail
  go_ret
  exact ⟨rfl, rfl⟩

end Go.Proofs.YthbfmioikbphgaaDoor
