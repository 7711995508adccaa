/- Draws: what draws.New, Next, Below, Skip and the reference's return. -/
import Derived.Test.YtfkijcimddbjoaaDrP
import Derived.Test.YtfkijcimddbjoaaProg
namespace Go.Proofs.Ytfkijcimddbjoaa
open Go.RowKit

theorem new_draw (d : UInt64) (w : World) : Calls Try.prog 21 #[.int .u64 (d.toNat : Int)] w fun e w' => e = .returned (.int .u64 ((stepD d).toNat : Int)) ∧ w = w' := by
  have HS := Lib.hid (step_forms d)
  go_enter Try.func21, Try.ntmps21
  go_wp2_with fail
  go_ret
  exact ⟨by rw [← HS.out]; rfl, rfl⟩

theorem next_draw (d : UInt64) (w : World) : Calls Try.prog 20 #[.int .u64 (d.toNat : Int)] w fun e w' => e = .returned (.tuple #[.int .u32 (hiD d : Int), .int .u64 ((stepD d).toNat : Int)]) ∧ w = w' := by
  have h1 := (stepD d).toNat_lt
  have h2 : (hiD d : Int) = ((stepD d).toNat : Int) / 4294967296 := by unfold hiD; omega
  have H2 := Lib.hid h2
  clear h2
  go_enter Try.func20, Try.ntmps20
  go_wp2_with fail
  refine (new_draw d _).mono ?_
  rintro e w' ⟨rfl, rfl⟩
  go_wp2_with fail
  go_ret2
  exact ⟨by rw [H2.out]; rfl, rfl⟩

theorem below_draw (d : UInt64) (n : Int) (w : World) : Calls Try.prog 10 #[.int .u64 (d.toNat : Int), .int .i64 n] w fun e w' => e = .returned (.tuple #[.int .i64 (belD d n), .int .u64 ((belS d n).toNat : Int)]) ∧ w = w' := by
  by_cases hb : n < 1 ∨ 2147483648 < n
  · have H1 := Lib.hid (belD_no (d := d) (badN_of hb))
    have H2 := Lib.hid (belS_no (d := d) (badN_of hb))
    by_cases h1 : n < 1
    · go_enter Try.func10, Try.ntmps10
      go_wp2_with fail
      go_ret2
      exact ⟨by rw [H1.out, H2.out]; rfl, rfl⟩
    · have h2 : 2147483648 < n := by omega
      clear hb
      go_enter Try.func10, Try.ntmps10
      go_wp2_with fail
      go_ret2
      exact ⟨by rw [H1.out, H2.out]; rfl, rfl⟩
  · have h1 : ¬ n < 1 := by omega
    have h2 : ¬ 2147483648 < n := by omega
    have H1 := Lib.hid (belD_yes (d := d) (badN_no (n := n) (by omega) (by omega)))
    have H2 := Lib.hid (belS_yes (d := d) (badN_no (n := n) (by omega) (by omega)))
    obtain ⟨m, rfl⟩ : ∃ m : Nat, n = (m : Int) := ⟨n.toNat, by omega⟩
    have h3 : m ≤ 2147483648 := by omega
    clear hb
    go_enter Try.func10, Try.ntmps10
    go_wp2_with fail
    refine (next_draw d _).mono ?_
    rintro e w' ⟨rfl, rfl⟩
    have h4 := hiD_lt d
    generalize hiD d = x at *
    have h5 : x * m ≤ 4294967296 * 2147483648 := Nat.mul_le_mul (by omega) h3
    have HW := Lib.hid (show IntKind.u64.wrap ((x : Int) * (m : Int)) = ((x * m : Nat) : Int) by rw [IntKind.wrap_u64]; push_cast; rw [Int.emod_eq_of_lt] <;> omega)
    go_wp2_with fail
    go_ret2
    exact ⟨by rw [H1.out, H2.out]; rfl, rfl⟩

theorem skipN_le {n : Int} (h : n ≤ 9999999) : skipN n = n.toNat := by unfold skipN; omega
theorem skipN_gt {n : Int} (h : ¬ n ≤ 9999999) : skipN n = 9999999 := by unfold skipN; omega

theorem skip_draw (d : UInt64) (n : Int) (w : World) (hn1 : -9223372036854775808 ≤ n) (hn2 : n ≤ 9223372036854775807) : Calls Try.prog 27 #[.int .u64 (d.toNat : Int), .int .i64 n] w fun e w' => e = .returned (.int .u64 ((itD (skipN n) d).toNat : Int)) ∧ w = w' := by
  by_cases hle : n ≤ 9999999
  · have HN := Lib.hid (skipN_le hle)
    have hk0 : (skipN n : Int) ≤ 9999999 := by rw [HN.out]; omega
    have hmin : min n 9999999 = n := by omega
    go_enter Try.func27, Try.ntmps27
    go_wp2_with fail
    go_loop [0, 5] (fun s i => ∃ k : Nat, k ≤ skipN n ∧ i = .int .i64 k ∧ s = .int .u64 ((itD k d).toNat : Int)) (fun _ i => skipN n - (intOf i).toNat)
    case atStart => exact ⟨0, Nat.zero_le _, rfl, rfl⟩
    case round =>
      obtain ⟨k, hk, rfl, rfl⟩ := hrel
      by_cases hlt : (k : Int) < n
      · have hk2 : k + 1 ≤ skipN n := by rw [HN.out]; omega
        clear HN
        go_wp2_with fail
        refine (next_draw _ _).mono ?_
        rintro e w' ⟨rfl, rfl⟩
        go_wp2_with fail
        go_round
        case rel => exact ⟨k + 1, hk2, by go_num, rfl⟩
        case measure => simp [intOf]; omega
      · have hk3 : k = skipN n := by rw [HN.out] at hk ⊢; omega
        have HK := Lib.hid hk3
        clear hk3
        go_wp2_with fail
        go_ret
        exact ⟨by rw [← HK.out]; rfl, rfl⟩
  · have HN := Lib.hid (skipN_gt hle)
    have hmin : min n 9999999 = 9999999 := by omega
    go_enter Try.func27, Try.ntmps27
    go_wp2_with fail
    go_loop [0, 5] (fun s i => ∃ k : Nat, k ≤ 9999999 ∧ i = .int .i64 k ∧ s = .int .u64 ((itD k d).toNat : Int)) (fun _ i => 9999999 - (intOf i).toNat)
    case atStart => exact ⟨0, Nat.zero_le _, rfl, rfl⟩
    case round =>
      obtain ⟨k, hk, rfl, rfl⟩ := hrel
      by_cases hlt : (k : Int) < 9999999
      · go_wp2_with fail
        refine (next_draw _ _).mono ?_
        rintro e w' ⟨rfl, rfl⟩
        go_wp2_with fail
        go_round
        case rel => exact ⟨k + 1, by omega, by go_num, rfl⟩
        case measure => simp [intOf]; omega
      · have HK := Lib.hid (show k = 9999999 by omega)
        go_wp2_with fail
        go_ret
        exact ⟨by rw [HN.out, ← HK.out]; rfl, rfl⟩


/-! ### The reference -/
theorem rstep_draw (d : UInt64) (w : World) : Calls Try.prog 40 #[.int .u64 (d.toNat : Int)] w fun e w' => e = .returned (.int .u64 ((stepD d).toNat : Int)) ∧ w = w' := by
  have HS := Lib.hid (step_forms d)
  go_enter Try.func40, Try.ntmps40
  go_wp2_with fail
  go_ret
  exact ⟨by rw [← HS.out]; rfl, rfl⟩
theorem rnew_draw (d : UInt64) (w : World) : Calls Try.prog 26 #[.int .u64 (d.toNat : Int)] w fun e w' => e = .returned (.int .u64 ((stepD d).toNat : Int)) ∧ w = w' := by
  go_enter Try.func26, Try.ntmps26
  go_wp2_with fail
  refine (rstep_draw d _).mono ?_
  rintro e w' ⟨rfl, rfl⟩
  go_wp2_with fail
  go_ret
  exact ⟨rfl, rfl⟩
theorem rnext_draw (d : UInt64) (w : World) : Calls Try.prog 25 #[.int .u64 (d.toNat : Int)] w fun e w' => e = .returned (.tuple #[.int .u32 (hiD d : Int), .int .u64 ((stepD d).toNat : Int)]) ∧ w = w' := by
  have h1 := (stepD d).toNat_lt
  have h2 : (hiD d : Int) = ((stepD d).toNat : Int) / 4294967296 := by unfold hiD; omega
  have H2 := Lib.hid h2
  clear h2
  go_enter Try.func25, Try.ntmps25
  go_wp2_with fail
  refine (rstep_draw d _).mono ?_
  rintro e w' ⟨rfl, rfl⟩
  go_wp2_with fail
  go_ret2
  exact ⟨by rw [H2.out]; rfl, rfl⟩
theorem rbelow_draw (d : UInt64) (n : Int) (w : World) : Calls Try.prog 11 #[.int .u64 (d.toNat : Int), .int .i64 n] w fun e w' => e = .returned (.tuple #[.int .i64 (belD d n), .int .u64 ((belS d n).toNat : Int)]) ∧ w = w' := by
  by_cases hb : n < 1 ∨ 2147483648 < n
  · have H1 := Lib.hid (belD_no (d := d) (badN_of hb))
    have H2 := Lib.hid (belS_no (d := d) (badN_of hb))
    by_cases h1 : n < 1
    · go_enter Try.func11, Try.ntmps11
      go_wp2_with fail
      go_ret2
      exact ⟨by rw [H1.out, H2.out]; rfl, rfl⟩
    · have h2 : 2147483648 < n := by omega
      clear hb
      go_enter Try.func11, Try.ntmps11
      go_wp2_with fail
      go_ret2
      exact ⟨by rw [H1.out, H2.out]; rfl, rfl⟩
  · have h1 : ¬ n < 1 := by omega
    have h2 : ¬ 2147483648 < n := by omega
    have H1 := Lib.hid (belD_yes (d := d) (badN_no (n := n) (by omega) (by omega)))
    have H2 := Lib.hid (belS_yes (d := d) (badN_no (n := n) (by omega) (by omega)))
    obtain ⟨m, rfl⟩ : ∃ m : Nat, n = (m : Int) := ⟨n.toNat, by omega⟩
    have h3 : m ≤ 2147483648 := by omega
    clear hb
    go_enter Try.func11, Try.ntmps11
    go_wp2_with fail
    refine (rnext_draw d _).mono ?_
    rintro e w' ⟨rfl, rfl⟩
    have h4 := hiD_lt d
    generalize hiD d = x at *
    have h5 : x * m ≤ 4294967296 * 2147483648 := Nat.mul_le_mul (by omega) h3
    have HW := Lib.hid (show IntKind.u64.wrap ((x : Int) * (m : Int)) = ((x * m : Nat) : Int) by rw [IntKind.wrap_u64]; push_cast; rw [Int.emod_eq_of_lt] <;> omega)
    go_wp2_with fail
    go_ret2
    exact ⟨by rw [H1.out, H2.out]; rfl, rfl⟩

theorem rskip_draw (d : UInt64) (n : Int) (w : World) (hn1 : -9223372036854775808 ≤ n) (hn2 : n ≤ 9223372036854775807) : Calls Try.prog 28 #[.int .u64 (d.toNat : Int), .int .i64 n] w fun e w' => e = .returned (.int .u64 ((itD (skipN n) d).toNat : Int)) ∧ w = w' := by
  by_cases hle : n ≤ 9999999
  · have HN := Lib.hid (skipN_le hle)
    have hk0 : (skipN n : Int) ≤ 9999999 := by rw [HN.out]; omega
    go_enter Try.func28, Try.ntmps28
    go_wp2_with fail
    go_loop [5, 6] (fun s i => ∃ k : Nat, k ≤ skipN n ∧ i = .int .i64 k ∧ s = .int .u64 ((itD k d).toNat : Int)) (fun _ i => skipN n - (intOf i).toNat)
    case atStart => exact ⟨0, Nat.zero_le _, rfl, rfl⟩
    case round =>
      obtain ⟨k, hk, rfl, rfl⟩ := hrel
      by_cases hlt : (k : Int) < n
      · have hk2 : k + 1 ≤ skipN n := by rw [HN.out]; omega
        clear HN
        go_wp2_with fail
        refine (rstep_draw _ _).mono ?_
        rintro e w' ⟨rfl, rfl⟩
        go_wp2_with fail
        go_round
        case rel => exact ⟨k + 1, hk2, by go_num, rfl⟩
        case measure => simp [intOf]; omega
      · have hk3 : k = skipN n := by rw [HN.out] at hk ⊢; omega
        have HK := Lib.hid hk3
        clear hk3
        go_wp2_with fail
        go_ret
        exact ⟨by rw [← HK.out]; rfl, rfl⟩
  · have HN := Lib.hid (skipN_gt hle)
    have hgt : 9999999 < n := by omega
    go_enter Try.func28, Try.ntmps28
    go_wp2_with fail
    go_loop [5, 6] (fun s i => ∃ k : Nat, k ≤ 9999999 ∧ i = .int .i64 k ∧ s = .int .u64 ((itD k d).toNat : Int)) (fun _ i => 9999999 - (intOf i).toNat)
    case atStart => exact ⟨0, Nat.zero_le _, rfl, rfl⟩
    case round =>
      obtain ⟨k, hk, rfl, rfl⟩ := hrel
      by_cases hlt : (k : Int) < 9999999
      · go_wp2_with fail
        refine (rstep_draw _ _).mono ?_
        rintro e w' ⟨rfl, rfl⟩
        go_wp2_with fail
        go_round
        case rel => exact ⟨k + 1, by omega, by go_num, rfl⟩
        case measure => simp [intOf]; omega
      · have HK := Lib.hid (show k = 9999999 by omega)
        go_wp2_with fail
        go_ret
        exact ⟨by rw [HN.out, ← HK.out]; rfl, rfl⟩

end Go.Proofs.Ytfkijcimddbjoaa
