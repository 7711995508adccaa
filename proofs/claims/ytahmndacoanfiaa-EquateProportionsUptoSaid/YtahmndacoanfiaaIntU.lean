/- Small numbers: what nat.Uint, integer.Int64, nat.Pow with the exponent 0 and decimal.power(0) return, and the reference's. -/
import Derived.Test.YtahmndacoanfiaaIntA
namespace Go.Proofs.Ytahmndacoanfiaa
set_option maxRecDepth 100000
open Go.RowKit

theorem digs_one {n : Nat} (h : n < 4294967296) (h0 : n ≠ 0) : digs n = [n] := by
  rw [digs_pos h0, Nat.mod_eq_of_lt h, Nat.div_eq_of_lt h, digs_zero]

set_option maxHeartbeats 400000 in
theorem uint_small (xs : List Nat) (a : Option Addr) (len cap : Nat) (w : World) (hx : Limbs w a len cap xs) (hn : natOf xs < 4294967296) :
    Calls Try.prog 47 #[.slice a len cap] w fun e w' => e = .returned (.tuple #[.int .u64 (natOf xs : Int), .bool true]) ∧ w = w' := by
  have HX := Lib.hid hx
  have HT := Lib.hid hx.trim
  clear hx
  go_enter Try.func47, Try.ntmps47
  go_wp2_with fail
  refine (trim_any xs a len cap _ HX.out).mono ?_
  rintro e w1 ⟨rfl, rfl⟩
  by_cases h0 : natOf xs = 0
  · rw [h0, digs_zero]
    have e0 : ([] : List Nat).length = 0 := rfl
    rw [e0]
    go_wp2_with fail
    go_loop [4, 14] (fun s i => s = .int .u64 0 ∧ i = .int .i64 0) (fun _ _ => 0)
    case atStart => exact ⟨rfl, rfl⟩
    case round =>
      obtain ⟨rfl, rfl⟩ := hrel
      go_wp2_with fail
      go_ret2
      exact ⟨rfl, rfl⟩
  · have hd := digs_one hn h0
    rw [hd] at HT ⊢
    have e1 : [natOf xs].length = 1 := rfl
    rw [e1] at HT ⊢
    obtain ⟨b, off, rfl, _, hcc⟩ := HT.out.2.2.at (k := 0) (by omega)
    have c0 := hcc 0 (by omega) w (Below.refl _ _)
    simp only [Nat.add_zero, List.getD_cons_zero] at c0
    clear hcc hd HX HT
    generalize hN : natOf xs = n at *
    have HN := Lib.hid hN
    clear hN
    go_wp2_with fail
    go_loop [4, 14] (fun s i => (s = .int .u64 0 ∧ i = .int .i64 0) ∨ (s = .int .u64 (n : Int) ∧ i = .int .i64 1)) (fun _ i => 1 - (intOf i).toNat)
    case atStart => exact .inl ⟨rfl, rfl⟩
    case round =>
      rcases hrel with ⟨rfl, rfl⟩ | ⟨rfl, rfl⟩
      · have HO := Lib.hid (show bits .or .u64 0 (n : Int) = (n : Int) by
          have := bits_or_u64_nat 0 n (by omega) (by omega)
          simpa using this)
        go_wp2_with fail
        rw [HO.out]
        go_round
        case rel => exact .inr ⟨rfl, rfl⟩
        case measure => simp [intOf]
      · go_wp2_with fail
        go_ret2
        exact ⟨by rw [HN.out]; rfl, rfl⟩

set_option maxHeartbeats 400000 in
theorem iint64_small (v : Value) (z : Int) (L : Nat) (w : World) (hv : IntR w v z L) (h1 : -1000000 ≤ z) (h2 : z ≤ 1000000) :
    Calls Try.prog 31 #[v] w fun e w' => e = .returned (.tuple #[.int .i64 z, .bool true]) ∧ Below w.heap.size w w' := by
  obtain ⟨neg, a, len, cap, xs, rfl, hl, hz, hlL⟩ := hv
  have hb0 : Below w.heap.size w (w.alloc (.cells #[.bool neg, .slice a len cap] 31)) := (Below.refl _ _).alloc (Nat.le_refl _) _
  have hn : natOf xs ≤ 1000000 := by
    have : natOf xs = z.natAbs := by rw [← hz, sgn_abs]
    omega
  have HX := Lib.hid (hl.below hb0)
  have HZ := Lib.hid hz
  clear hl hz
  go_enter Try.func31, Try.ntmps31
  go_wp2_with fail
  refine (uint_small xs _ _ _ _ HX.out (by omega)).mono ?_
  rintro e w1 ⟨rfl, rfl⟩
  generalize natOf xs = n at *
  cases neg
  · have HZ' := Lib.hid (show z = (n : Int) by rw [← HZ.out]; rfl)
    go_wp2_with fail
    go_ret2
    exact ⟨by rw [HZ'.out]; rfl, hb0⟩
  · have HW := Lib.hid (show wrap64 (IntKind.u64.wrap (-(n : Int))) = -(n : Int) by
      rw [IntKind.wrap_u64]; unfold wrap64; omega)
    have HZ' := Lib.hid (show z = -(n : Int) by rw [← HZ.out]; rfl)
    go_wp2_with fail
    go_ret2
    exact ⟨by rw [HZ'.out]; exact ret_two (int_eq HW.out) rfl, hb0⟩

set_option maxHeartbeats 400000 in
theorem pow_none (xs : List Nat) (a : Option Addr) (len cap : Nat) (w : World) (hx : Limbs w a len cap xs) (hm : len * 4 ≤ 140737488355328) :
    Calls Try.prog 66 #[.slice a len cap, .int .i64 0] w fun e w' => ∃ v, e = .returned (.tuple #[v, .bool true]) ∧ Num w' v 1 ∧ Below w.heap.size w w' := by
  have HX := Lib.hid hx
  clear hx
  go_enter Try.func66, Try.ntmps66
  go_wp2_with fail
  refine (of_any 1 (by omega) _).mono ?_
  rintro e w1 ⟨v1, rfl, hv1, hb1⟩
  have HX1 := Lib.hid (HX.out.below hb1)
  have HV1 := Lib.hid hv1
  clear hv1
  go_wp2_with fail
  refine (norm_any xs _ _ _ _ HX1.out hm).mono ?_
  rintro e w2 ⟨v2, rfl, -, hb2⟩
  have HV2 := Lib.hid (HV1.out.below hb2)
  go_wp2_with fail
  go_loop [1, 6] (fun n r => n = .int .i64 0 ∧ r = v1) (fun _ _ => 0)
  case atStart => exact ⟨rfl, rfl⟩
  case round =>
    obtain ⟨rfl, rfl⟩ := hrel
    go_wp2_with fail
    go_ret2
    exact ⟨_, rfl, HV2.out, hb1.trans (hb2.mono hb1.size)⟩

end Go.Proofs.Ytahmndacoanfiaa
