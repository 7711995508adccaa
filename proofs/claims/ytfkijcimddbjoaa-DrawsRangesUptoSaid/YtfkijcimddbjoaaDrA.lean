/- The examples that the statements about draws begin with: equal, Chance and awake. -/
import Derived.Test.YtfkijcimddbjoaaDrK
import Derived.Test.YtfkijcimddbjoaaRatC
namespace Go.Proofs.Ytfkijcimddbjoaa
open Go.RowKit

set_option maxHeartbeats 400000 in
theorem equal_same (xs : List Int) (a a' : Option Addr) (len len' cap cap' : Nat) (w : World) (hx : Ints w a len cap xs) (hy : Ints w a' len' cap' xs) :
    Calls Try.prog 17 #[.slice a len cap, .slice a' len' cap'] w fun e w' => e = .returned (.bool true) ∧ Below w.heap.size w w' := by
  have hm : len ≤ 9223372036854775807 := by have h1 := hx.2.1; have h2 := hx.2.2.1; unfold maxLen at h2; omega
  obtain rfl : len = len' := by rw [← hx.1, ← hy.1]
  have HX := Lib.hid hx.2
  have HY := Lib.hid hy.2
  clear hx hy
  go_enter Try.func17, Try.ntmps17
  go_wp2
  go_loopw [13] (fun i wr => ∃ k : Nat, k ≤ len ∧ i = .int .i64 k ∧ Below w.heap.size w wr) (fun i _ => len - (intOf i).toNat)
  case atStart => exact ⟨0, by omega, rfl, Below.refl _ _⟩
  case round =>
    obtain ⟨k, hk, rfl, hb⟩ := hrel
    by_cases hlt : k < len
    · obtain ⟨b, off, rfl, hbs, hcc⟩ := HX.out.at hlt
      have c2 := hcc k hlt wr hb
      obtain ⟨b', off', rfl, hbs', hcc'⟩ := HY.out.at hlt
      have c3 := hcc' k hlt wr hb
      clear hcc hcc'
      generalize xs.getD k 0 = x at *
      go_wp2
      go_quiet (fail)
      go_wp2
      go_roundw
      case rel => exact ⟨k + 1, by omega, by go_num, below_drewN hb _⟩
      case measure => simp [intOf]; omega
    · go_wp2
      go_ret
      exact ⟨rfl, hb⟩

/-- whether an event of the probability r happens -/
def chB (d : UInt64) (r : Rat) : Bool := decide (rcmpI (Rat.divInt (hiD d) 4294967296) r < 0)

set_option maxHeartbeats 1000000 in
theorem chance_draw (d : UInt64) (v : Value) (r : Rat) (L : Nat) (w : World) (hv : RatV w v r L) (hL : 1 ≤ L) (hm : (2 + L) * 4 ≤ 140737488355328) :
    Calls Try.prog 12 #[.int .u64 (d.toNat : Int), v] w fun e w' => e = .returned (.tuple #[.bool (chB d r), .int .u64 ((stepD d).toNat : Int)]) ∧ Below w.heap.size w w' := by
  have HV := Lib.hid hv
  obtain ⟨p, q, ⟨neg, a', len', cap', xs, a, len, cap, ys, rfl, -, -, -, -, -, -⟩, -⟩ := hv
  have hb0 : Below w.heap.size w (w.alloc (.cells #[.bool neg, .slice a' len' cap', .slice a len cap] 29)) := (Below.refl _ _).alloc (Nat.le_refl _) _
  have hx := hiD_lt d
  have HCh := Lib.hid (show decide (rcmpI (Rat.divInt (hiD d) 4294967296) r < 0) = chB d r from rfl)
  go_enter Try.func12, Try.ntmps12
  go_wp2_with fail
  refine (next_draw d _).mono ?_
  rintro e w' ⟨rfl, rfl⟩
  generalize hiD d = x at *
  go_wp2_with fail
  refine (qof_any (x : Int) 4294967296 _ (by omega) (by omega) (by omega) (by omega) (by omega)).mono ?_
  rintro e w1 ⟨v1, rfl, hv1, hsz1, hb1⟩
  have HV1 := Lib.hid (hv1.raw hsz1)
  obtain ⟨x', l', k', y, l, k, rfl, -, -, -, -⟩ := hv1
  have hb01 := hb0.trans (hb1.mono (by simp))
  obtain ⟨hc1, hf1⟩ := bcell hb1 w.heap.size (by simp)
  have hlt1 : w.heap.size < w1.heap.size := by have := hb1.size; simp at this; omega
  generalize decide ((Rat.divInt (x : Int) 4294967296).num < 0) = dn at *
  have hb2 : Below w1.heap.size w1 (w1.alloc (.cells #[.bool dn, .slice x' l' k', .slice y l k] 29)) := (Below.refl _ _).alloc (Nat.le_refl _) _
  have HV2 := Lib.hid (HV1.out.below hb2)
  have hb02 := hb01.trans (hb2.mono hb01.size)
  have HP2 := Lib.hid (HV.out.below hb02)
  clear hsz1 hb1
  go_wp2_with fail
  refine (qcmp_any _ _ _ r 2 L _ HV2.out HP2.out (by omega) hL hm).mono ?_
  rintro e w3 ⟨rfl, hb3⟩
  go_wp2_with fail
  go_ret2
  exact ⟨by rw [← HCh.out]; rfl, hb02.trans (hb3.mono hb02.size)⟩

theorem awk1 : (stepD 0).toNat = 1442695040888963407 := by decide +kernel
theorem awk2 : hiD 0 = 335903614 := by decide +kernel
theorem awk3 : belD 0 1000 = 78 := by decide +kernel
theorem awk4 : (belS 0 1000).toNat = 1442695040888963407 := by decide +kernel
theorem awk5 : shuffleL 0 2 = [1, 0] := by decide +kernel
theorem awk6 : pickI 0 [0, 5, 5] = 1 := by decide +kernel
theorem awk7 : chB 0 (Rat.divInt 1 10) = true := by decide +kernel

set_option maxHeartbeats 1000000 in
theorem awake_any (w : World) : Calls Try.prog 14 #[] w fun e w' => e = .returned (.bool true) ∧ Below w.heap.size w w' := by
  have HI := Lib.hid (fun w : World => ints_lit w 3 [0, 5, 5] (by simp [maxLen]))
  have HI2 := Lib.hid (fun w : World => ints_lit w 3 [1, 0] (by simp [maxLen]))
  go_enter Try.func14, Try.ntmps14
  go_wp2_with fail
  refine (next_draw 0 _).mono ?_
  rintro e w' ⟨rfl, rfl⟩
  rw [awk1, awk2]
  go_wp2_with fail
  refine (below_draw 0 1000 _).mono ?_
  rintro e w' ⟨rfl, rfl⟩
  rw [awk3, awk4]
  go_wp2_with fail
  refine (shuffle_draw 0 2 _).mono ?_
  rintro e w1 ⟨a1, n1, c1, rfl, hi1, hb1⟩
  rw [awk5] at hi1
  have HS := Lib.hid hi1
  clear hi1
  generalize (shuffleS 0 2).toNat = s1
  go_wp2_with fail
  refine (pick_draw 0 [0, 5, 5] _ _ _ _ (HI.out w1)).mono ?_
  rintro e w2 ⟨rfl, hb2⟩
  rw [awk6]
  have hba : Below w1.heap.size w1 (w1.alloc (.cells (ivs [0, 5, 5]).toArray 3)) := (Below.refl _ _).alloc (Nat.le_refl _) _
  have hb12 := hba.trans (hb2.mono hba.size)
  have HS2 := Lib.hid (HS.out.below hb12)
  have hb02 := hb1.trans (hb12.mono hb1.size)
  clear hba hb12 hb2 hb1
  generalize (pickS 0 [0, 5, 5]).toNat = s2
  go_wp2_with fail
  refine (qof_any 1 10 _ (by omega) (by omega) (by omega) (by omega) (by omega)).mono ?_
  rintro e w3 ⟨v3, rfl, hv3, hsz3, hb3⟩
  have HV3 := Lib.hid (hv3.raw hsz3)
  obtain ⟨x', l', k', y, l, k, rfl, -, -, -, -⟩ := hv3
  generalize decide ((Rat.divInt 1 10).num < 0) = dn at *
  have hb03 := hb02.trans (hb3.mono hb02.size)
  have hb4 : Below w3.heap.size w3 (w3.alloc (.cells #[.bool dn, .slice x' l' k', .slice y l k] 29)) := (Below.refl _ _).alloc (Nat.le_refl _) _
  have HV4 := Lib.hid (HV3.out.below hb4)
  have HS4 := Lib.hid ((HS2.out.below hb3).below hb4)
  have hb04 := hb03.trans (hb4.mono hb03.size)
  clear hb3 hb4 hb02 hb03 hsz3
  go_wp2_with fail
  refine (chance_draw 0 _ _ 2 _ HV4.out (by omega) (by omega)).mono ?_
  rintro e w5 ⟨rfl, hb5⟩
  rw [awk7]
  have HS5 := Lib.hid (HS4.out.below hb5)
  have hb05 := hb04.trans (hb5.mono hb04.size)
  clear hb5 hb04
  go_wp2_with fail
  refine (new_draw 0 _).mono ?_
  rintro e w' ⟨rfl, rfl⟩
  rw [awk1]
  have hb6 : Below w5.heap.size w5 (w5.alloc (.cells (ivs [1, 0]).toArray 3)) := (Below.refl _ _).alloc (Nat.le_refl _) _
  have HS6 := Lib.hid (HS5.out.below hb6)
  have hb06 := hb05.trans (hb6.mono hb05.size)
  go_wp2_with fail
  refine (equal_same [1, 0] _ _ _ _ _ _ _ HS6.out (HI2.out w5)).mono ?_
  rintro e w7 ⟨rfl, hb7⟩
  go_wp2_with fail
  go_ret
  exact ⟨rfl, hb06.trans (hb7.mono hb06.size)⟩

end Go.Proofs.Ytfkijcimddbjoaa
