/- Small numbers: what nat.Uint, integer.Int64, nat.Pow with the exponent 0 and decimal.power(0) return, and the reference's. -/
import Derived.Test.YtahmndacoanfiaaGreatIntA
namespace Go.Proofs.YtahmndacoanfiaaGreat
set_option maxRecDepth 100000
open Go.RowKit

theorem digs_one {n : Nat} (h : n < 4294967296) (h0 : n ≠ 0) : digs n = [n] := by
  rw [digs_pos h0, Nat.mod_eq_of_lt h, Nat.div_eq_of_lt h, digs_zero]

set_option maxHeartbeats 400000 in
theorem uint_small (xs : List Nat) (a : Option Addr) (len cap : Nat) (w : World) (hx : Limbs w a len cap xs) (hn : natOf xs < 4294967296) :
    Calls Tryz.prog 59 #[.slice a len cap] w fun e w' => e = .returned (.tuple #[.int .u64 (natOf xs : Int), .bool true]) ∧ w = w' := by
  have HX := Lib.hid hx
  have HT := Lib.hid hx.trim
  clear hx
  go_enter Tryz.func59, Tryz.ntmps59
  go_wp2_with fail
  refine (trim_any xs a len cap _ HX.out).mono ?_
  rintro e w1 ⟨rfl, rfl⟩
  by_cases h0 : natOf xs = 0
  · rw [h0, digs_zero]
    have e0 : ([] : List Nat).length = 0 := rfl
    rw [e0]
    go_wp2_with fail
    go_loop [4, 14] (fun s i => s = .int .u64 0 ∧ i = .int .i64 0) (fun _ _ => 0)
    case atStart => exact ⟨rfl, rfl⟩
    case round =>
      obtain ⟨rfl, rfl⟩ := hrel
      go_wp2_with fail
      go_ret2
      exact ⟨rfl, rfl⟩
  · have hd := digs_one hn h0
    rw [hd] at HT ⊢
    have e1 : [natOf xs].length = 1 := rfl
    rw [e1] at HT ⊢
    obtain ⟨b, off, rfl, _, hcc⟩ := HT.out.2.2.at (k := 0) (by omega)
    have c0 := hcc 0 (by omega) w (Below.refl _ _)
    simp only [Nat.add_zero, List.getD_cons_zero] at c0
    clear hcc hd HX HT
    generalize hN : natOf xs = n at *
    have HN := Lib.hid hN
    clear hN
    go_wp2_with fail
    go_loop [4, 14] (fun s i => (s = .int .u64 0 ∧ i = .int .i64 0) ∨ (s = .int .u64 (n : Int) ∧ i = .int .i64 1)) (fun _ i => 1 - (intOf i).toNat)
    case atStart => exact .inl ⟨rfl, rfl⟩
    case round =>
      rcases hrel with ⟨rfl, rfl⟩ | ⟨rfl, rfl⟩
      · have HO := Lib.hid (show bits .or .u64 0 (n : Int) = (n : Int) by
          have := bits_or_u64_nat 0 n (by omega) (by omega)
          simpa using this)
        go_wp2_with fail
        rw [HO.out]
        go_round
        case rel => exact .inr ⟨rfl, rfl⟩
        case measure => simp [intOf]
      · go_wp2_with fail
        go_ret2
        exact ⟨by rw [HN.out]; rfl, rfl⟩

set_option maxHeartbeats 400000 in
theorem iint64_small (v : Value) (z : Int) (L : Nat) (w : World) (hv : IntR w v z L) (h1 : -1000000 ≤ z) (h2 : z ≤ 1000000) :
    Calls Tryz.prog 29 #[v] w fun e w' => e = .returned (.tuple #[.int .i64 z, .bool true]) ∧ Below w.heap.size w w' := by
  obtain ⟨neg, a, len, cap, xs, rfl, hl, hz, hlL⟩ := hv
  have hb0 : Below w.heap.size w (w.alloc (.cells #[.bool neg, .slice a len cap] 26)) := (Below.refl _ _).alloc (Nat.le_refl _) _
  have hn : natOf xs ≤ 1000000 := by
    have : natOf xs = z.natAbs := by rw [← hz, sgn_abs]
    omega
  have HX := Lib.hid (hl.below hb0)
  have HZ := Lib.hid hz
  clear hl hz
  go_enter Tryz.func29, Tryz.ntmps29
  go_wp2_with fail
  refine (uint_small xs _ _ _ _ HX.out (by omega)).mono ?_
  rintro e w1 ⟨rfl, rfl⟩
  generalize natOf xs = n at *
  cases neg
  · have HZ' := Lib.hid (show z = (n : Int) by rw [← HZ.out]; rfl)
    go_wp2_with fail
    go_ret2
    exact ⟨by rw [HZ'.out]; rfl, hb0⟩
  · have HW := Lib.hid (show wrap64 (IntKind.u64.wrap (-(n : Int))) = -(n : Int) by
      rw [IntKind.wrap_u64]; unfold wrap64; omega)
    have HZ' := Lib.hid (show z = -(n : Int) by rw [← HZ.out]; rfl)
    go_wp2_with fail
    go_ret2
    exact ⟨by rw [HZ'.out]; exact ret_two (int_eq HW.out) rfl, hb0⟩

set_option maxHeartbeats 400000 in
theorem juint_small (xs : List Nat) (a : Option Addr) (len cap : Nat) (w : World) (hx : Limbs w a len cap xs) (hm : len * 4 ≤ 281474976710656) (hn : natOf xs < 4294967296) :
    Calls Tryz.prog 79 #[.slice a len cap] w fun e w' => e = .returned (.tuple #[.int .u64 (natOf xs : Int), .bool true]) ∧ Below w.heap.size w w' := by
  have HX := Lib.hid hx
  clear hx
  go_enter Tryz.func79, Tryz.ntmps79
  go_wp2_with fail
  refine (rnorm_any xs a len cap _ HX.out hm).mono ?_
  rintro e w1 ⟨v1, rfl, ⟨a1, n1, c1, rfl, hN1⟩, hb1⟩
  have hn1 : n1 ≤ 1 := by rw [← hN1.1]; exact digs_length_le (by simpa using hn)
  have HD0 := Lib.hid (show (digs (natOf xs)).getD 0 0 = natOf xs by
    by_cases h0 : natOf xs = 0
    · rw [h0, digs_zero]; rfl
    · rw [digs_one hn h0]; rfl)
  have HD1 := Lib.hid (show (digs (natOf xs)).getD 1 0 = 0 by
    by_cases h0 : natOf xs = 0
    · rw [h0, digs_zero]; rfl
    · rw [digs_one hn h0]; rfl)
  have HN1 := Lib.hid hN1
  clear hN1
  have d2 : decide (2 < (n1 : Int)) = false := by simp; omega
  go_wp2_with fail
  refine (rlimb_any _ _ _ _ 1 0 _ HN1.out HD1.out).mono ?_
  rintro e w2 ⟨rfl, rfl⟩
  go_wp2_with fail
  refine (rlimb_any _ _ _ _ 0 _ _ HN1.out HD0.out).mono ?_
  rintro e w2 ⟨rfl, rfl⟩
  generalize hN : natOf xs = n at *
  have HN := Lib.hid hN
  clear hN
  go_wp2_with fail
  go_ret2
  exact ⟨by rw [HN.out]; rfl, hb1⟩

set_option maxHeartbeats 400000 in
theorem jint64_small (v : Value) (z : Int) (L : Nat) (w : World) (hv : IntR w v z L) (hm : L * 4 ≤ 140737488355328) (h1 : -1000000 ≤ z) (h2 : z ≤ 1000000) :
    Calls Tryz.prog 49 #[v] w fun e w' => e = .returned (.tuple #[.int .i64 z, .bool true]) ∧ Below w.heap.size w w' := by
  have HV := Lib.hid hv
  obtain ⟨neg, a, len, cap, xs, rfl, -, -, -⟩ := hv
  have hb0 : Below w.heap.size w (w.alloc (.cells #[.bool neg, .slice a len cap] 26)) := (Below.refl _ _).alloc (Nat.le_refl _) _
  go_enter Tryz.func49, Tryz.ntmps49
  go_wp2_with fail
  refine (jnorm_any _ z L _ (HV.out.below hb0) (by omega)).mono ?_
  rintro e w1 ⟨v1, rfl, hv1, hb1⟩
  obtain ⟨a1, n1, c1, rfl, hl1, -⟩ := hv1
  have hb01 := hb0.trans (hb1.mono (by simp))
  have hn1 : n1 ≤ 1 := by rw [← hl1.1]; exact digs_length_le (by simp; omega)
  have hb2 : Below w1.heap.size w1 (w1.alloc (.cells #[.bool (decide (z < 0)), .slice a1 n1 c1] 26)) := (Below.refl _ _).alloc (Nat.le_refl _) _
  have hb02 := hb01.trans (hb2.mono hb01.size)
  have HL2 := Lib.hid (hl1.below hb2)
  clear hl1 hb1
  obtain ⟨n, hzn⟩ : ∃ n : Nat, z.natAbs = n := ⟨_, rfl⟩
  rw [hzn] at HL2
  have hnl : n ≤ 1000000 := by omega
  have HP := Lib.hid (show decide (z < 0) = false → z = (n : Int) from fun h => by have := of_decide_eq_false h; omega)
  have HNg := Lib.hid (show decide (z < 0) = true → 1 ≤ n ∧ z = -(n : Int) from fun h => by have := of_decide_eq_true h; omega)
  generalize decide (z < 0) = dz at *
  clear hzn
  cases dz
  · have HZ := Lib.hid (HP.out rfl)
    have d9 : decide ((9223372036854775808 : Int) ≤ (n : Int)) = false := by simp; omega
    clear HP HNg
    go_wp2_with fail
    refine (juint_small _ _ _ _ _ HL2.out (by omega) (by rw [natOf_digs]; omega)).mono ?_
    rintro e w3 ⟨rfl, hb3⟩
    rw [natOf_digs]
    obtain ⟨hc3, hf3⟩ := bcell hb3 w1.heap.size (by simp)
    go_wp2_with fail
    go_ret2
    exact ⟨by rw [HZ.out]; rfl, hb02.trans (hb3.mono hb02.size)⟩
  · have HZ := Lib.hid (HNg.out rfl).2
    have hn0 := (HNg.out rfl).1
    clear HP HNg
    go_wp2_with fail
    refine (juint_small _ _ _ _ _ HL2.out (by omega) (by rw [natOf_digs]; omega)).mono ?_
    rintro e w3 ⟨rfl, hb3⟩
    rw [natOf_digs]
    obtain ⟨hc3, hf3⟩ := bcell hb3 w1.heap.size (by simp)
    have HW := Lib.hid (show -((n : Int) - 1) - 1 = -(n : Int) by omega)
    go_wp2_with fail
    go_ret2
    exact ⟨by rw [HZ.out]; exact ret_two (int_eq HW.out) rfl, hb02.trans (hb3.mono hb02.size)⟩

set_option maxHeartbeats 400000 in
theorem pow_none (xs : List Nat) (a : Option Addr) (len cap : Nat) (w : World) (hx : Limbs w a len cap xs) (hm : len * 4 ≤ 140737488355328) :
    Calls Tryz.prog 117 #[.slice a len cap, .int .i64 0] w fun e w' => ∃ v, e = .returned (.tuple #[v, .bool true]) ∧ Num w' v 1 ∧ Below w.heap.size w w' := by
  have HX := Lib.hid hx
  clear hx
  go_enter Tryz.func117, Tryz.ntmps117
  go_wp2_with fail
  refine (of_any 1 (by omega) _).mono ?_
  rintro e w1 ⟨v1, rfl, hv1, hb1⟩
  have HX1 := Lib.hid (HX.out.below hb1)
  have HV1 := Lib.hid hv1
  clear hv1
  go_wp2_with fail
  refine (norm_any xs _ _ _ _ HX1.out hm).mono ?_
  rintro e w2 ⟨v2, rfl, -, hb2⟩
  have HV2 := Lib.hid (HV1.out.below hb2)
  go_wp2_with fail
  go_loop [1, 6] (fun n r => n = .int .i64 0 ∧ r = v1) (fun _ _ => 0)
  case atStart => exact ⟨rfl, rfl⟩
  case round =>
    obtain ⟨rfl, rfl⟩ := hrel
    go_wp2_with fail
    go_ret2
    exact ⟨_, rfl, HV2.out, hb1.trans (hb2.mono hb1.size)⟩

set_option maxHeartbeats 400000 in
theorem rpow_none (v : Value) (w : World) :
    Calls Tryz.prog 118 #[v, .int .i64 0] w fun e w' => ∃ v, e = .returned (.tuple #[v, .bool true]) ∧ Num w' v 1 ∧ Below w.heap.size w w' := by
  go_enter Tryz.func118, Tryz.ntmps118
  go_wp2_with fail
  refine (rof_any 1 (by omega) _).mono ?_
  rintro e w1 ⟨v1, rfl, hv1, hb1⟩
  have HV1 := Lib.hid hv1
  clear hv1
  go_wp2_with fail
  go_loop [6, 7] (fun r n => n = .int .i64 0 ∧ r = v1) (fun _ _ => 0)
  case atStart => exact ⟨rfl, rfl⟩
  case round =>
    obtain ⟨rfl, rfl⟩ := hrel
    go_wp2_with fail
    go_ret2
    exact ⟨_, rfl, HV1.out, hb1⟩

end Go.Proofs.YtahmndacoanfiaaGreat
