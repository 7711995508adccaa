/- The small functions of the statements about the cipher: same, middling. -/
import Derived.Test.YtfedalipoknilaaCiphR
namespace Go.Proofs.Ytfedalipoknilaa
open Go.RowKit

set_option maxHeartbeats 400000 in
theorem same_any (xs : List UInt8) (a a' : Option Addr) (len len' cap cap' : Nat) (w : World) (hx : Bytes w a len cap xs) (hy : Bytes w a' len' cap' xs) :
    Calls Try.prog 18 #[.slice a len cap, .slice a' len' cap'] w fun e w' => e = .returned (.bool true) ∧ Below w.heap.size w w' := by
  have hm : len ≤ 9223372036854775807 := by have h1 := hx.2.1; have h2 := hx.2.2.1; unfold maxLen at h2; omega
  obtain rfl : len = len' := by rw [← hx.1, ← hy.1]
  have HX := Lib.hid hx.2
  have HY := Lib.hid hy.2
  clear hx hy
  go_enter Try.func18, Try.ntmps18
  go_wp2
  go_loopw [5] (fun i wr => ∃ k : Nat, k ≤ len ∧ i = .int .i64 k ∧ Below w.heap.size w wr) (fun i _ => len - (intOf i).toNat)
  case atStart => exact ⟨0, by omega, rfl, Below.refl _ _⟩
  case round =>
    obtain ⟨k, hk, rfl, hb⟩ := hrel
    by_cases hlt : k < len
    · obtain ⟨b, off, rfl, hbs, hcc⟩ := HX.out.at hlt
      have c2 := hcc k hlt wr hb
      obtain ⟨b', off', rfl, hbs', hcc'⟩ := HY.out.at hlt
      have c3 := hcc' k hlt wr hb
      clear hcc hcc'
      generalize xs.getD k 0 = x at *
      go_wp2
      go_quiet (fail)
      go_wp2
      go_roundw
      case rel => exact ⟨k + 1, by omega, by go_num, below_drewN hb _⟩
      case measure => simp [intOf]; omega
    · go_wp2
      go_ret
      exact ⟨rfl, hb⟩

theorem middling_yes (n m : Nat) (w : World) (h1 : 4000 < n) (h2 : n ≤ m) : Calls Try.prog 15 #[.int .i64 n, .int .i64 m] w fun e w' => e = .returned (.bool true) ∧ w = w' := by
  have d1 : decide (4000 < (n : Int)) = true := by simp; omega
  have d2 : decide (n ≤ m) = true := by simp; omega
  go_enter Try.func15, Try.ntmps15
  go_wp2
  go_ret
  exact ⟨by simp, rfl⟩
theorem middling_no (n m : Nat) (w : World) (h : ¬ (4000 < n ∧ n ≤ m)) : Calls Try.prog 15 #[.int .i64 n, .int .i64 m] w fun e w' => e = .returned (.bool false) ∧ w = w' := by
  by_cases h1 : 4000 < n
  · have d2 : ¬ n ≤ m := fun h2 => h ⟨h1, h2⟩
    clear h
    go_enter Try.func15, Try.ntmps15
    go_wp2
    go_ret
    exact ⟨by simp, rfl⟩
  · have d1 : decide (4000 < (n : Int)) = false := by simp; omega
    clear h
    go_enter Try.func15, Try.ntmps15
    go_wp2
    go_ret
    exact ⟨by simp, rfl⟩

end Go.Proofs.Ytfedalipoknilaa
