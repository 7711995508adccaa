/- The law EquateTables: Score and Table return what the document defines, or the first error. No condition. -/
import Derived.Test.YtahmndacoanfiaaGreatRQW
import Derived.Test.YtahmndacoanfiaaGreatEqV
import Derived.Test.YtahmndacoanfiaaGreatFrame
namespace Go.Proofs.YtahmndacoanfiaaGreat
set_option maxRecDepth 100000
open Go.ChangeShapes Go.WideShapes Go.ChangeAt Go.RowKit

set_option maxHeartbeats 8000000 in
theorem tables_f (f g : List Int) (a : Option Addr) (len cap : Nat) (a2 : Option Addr) (len2 cap2 : Nat) (x : Int) (w : World) (hI : Ints w a len cap f) (hI2 : Ints w a2 len2 cap2 g) (hE : eqE f ≠ 0) :
    Calls Tryz.prog 4 #[.slice a len cap, .slice a2 len2 cap2, .int .i64 x] w fun e w' => e = .returned (.bool true) ∧ Below w.heap.size w w' := by
  have HI := Lib.hid hI
  have HJ := Lib.hid hI2
  clear hI hI2
  have HNE := Lib.hid hE
  clear hE
  obtain ⟨ef, hef⟩ : ∃ ef, eqE f = ef := ⟨_, rfl⟩
  have HEF := Lib.hid hef
  clear hef
  go_enter Tryz.func4, Tryz.ntmps4
  go_wp2_with fail
  refine (escore_f f g _ _ _ _ _ _ x _ HI.out HJ.out HNE.out).mono ?_
  rintro e w1 ⟨v1, rfl, hv, hb⟩
  replace HI := Lib.hid (HI.out.below hb)
  replace HJ := Lib.hid (HJ.out.below hb)
  have hB := hb
  rw [HEF.out]
  have HV1 := Lib.hid (hv.mono (Nat.zero_le _))
  obtain ⟨p1', m1', q1', p1, m1, q1, rfl, -, -, -, -⟩ := hv
  generalize decide ((0 : Rat).num < 0) = d1 at *
  clear hb
  go_wp2_with fail
  have hbx : Below w1.heap.size w1 (w1.alloc (.cells #[.bool d1, .slice p1' m1' q1', .slice p1 m1 q1] 28)) := ((Below.refl _ _).alloc (Nat.le_refl _) _)
  generalize hWW : (w1.alloc (.cells #[.bool d1, .slice p1' m1' q1', .slice p1 m1 q1] 28)) = w1a at *
  replace HI := Lib.hid (HI.out.below hbx)
  replace HJ := Lib.hid (HJ.out.below hbx)
  replace HV1 := Lib.hid (HV1.out.below hbx)
  have cb10 : w1a.cell? ⟨w1.heap.size, 0, none⟩ = some (.bool d1) := by subst hWW; go_simp
  have cb11 : w1a.cell? ⟨w1.heap.size, 1, none⟩ = some (.slice p1' m1' q1') := by subst hWW; go_simp
  have cb12 : w1a.cell? ⟨w1.heap.size, 2, none⟩ = some (.slice p1 m1 q1) := by subst hWW; go_simp
  have ltb1 : w1.heap.size < w1a.heap.size := by subst hWW; simp
  replace hB := hB.trans (hbx.mono hB.size)
  clear hbx hWW
  refine (rscore_f f g _ _ _ _ _ _ x _ HI.out HJ.out HNE.out).mono ?_
  rintro e w2 ⟨v2, rfl, hv, hb⟩
  replace cb10 := bc hb ltb1 cb10
  replace cb11 := bc hb ltb1 cb11
  replace cb12 := bc hb ltb1 cb12
  replace ltb1 := bl hb ltb1
  replace HI := Lib.hid (HI.out.below hb)
  replace HJ := Lib.hid (HJ.out.below hb)
  replace HV1 := Lib.hid (HV1.out.below hb)
  replace hB := hB.trans (hb.mono hB.size)
  rw [HEF.out]
  have HV2 := Lib.hid (hv.mono (Nat.zero_le _))
  obtain ⟨p2', m2', q2', p2, m2, q2, rfl, -, -, -, -⟩ := hv
  generalize decide ((0 : Rat).num < 0) = d2 at *
  clear hb
  go_wp2_with fail
  have hbx : Below w2.heap.size w2 (w2.alloc (.cells #[.bool d2, .slice p2' m2' q2', .slice p2 m2 q2] 28)) := ((Below.refl _ _).alloc (Nat.le_refl _) _)
  generalize hWW : (w2.alloc (.cells #[.bool d2, .slice p2' m2' q2', .slice p2 m2 q2] 28)) = w2a at *
  replace cb10 := bc hbx ltb1 cb10
  replace cb11 := bc hbx ltb1 cb11
  replace cb12 := bc hbx ltb1 cb12
  replace ltb1 := bl hbx ltb1
  replace HI := Lib.hid (HI.out.below hbx)
  replace HJ := Lib.hid (HJ.out.below hbx)
  replace HV1 := Lib.hid (HV1.out.below hbx)
  replace HV2 := Lib.hid (HV2.out.below hbx)
  have cb20 : w2a.cell? ⟨w2.heap.size, 0, none⟩ = some (.bool d2) := by subst hWW; go_simp
  have cb21 : w2a.cell? ⟨w2.heap.size, 1, none⟩ = some (.slice p2' m2' q2') := by subst hWW; go_simp
  have cb22 : w2a.cell? ⟨w2.heap.size, 2, none⟩ = some (.slice p2 m2 q2) := by subst hWW; go_simp
  have ltb2 : w2.heap.size < w2a.heap.size := by subst hWW; simp
  replace hB := hB.trans (hbx.mono hB.size)
  clear hbx hWW
  refine (etable_f f _ _ _ _ _ _ _ HI.out HNE.out).mono ?_
  rintro e w3 ⟨rfl, hb⟩
  replace cb10 := bc hb ltb1 cb10
  replace cb11 := bc hb ltb1 cb11
  replace cb12 := bc hb ltb1 cb12
  replace ltb1 := bl hb ltb1
  replace cb20 := bc hb ltb2 cb20
  replace cb21 := bc hb ltb2 cb21
  replace cb22 := bc hb ltb2 cb22
  replace ltb2 := bl hb ltb2
  replace HI := Lib.hid (HI.out.below hb)
  replace HJ := Lib.hid (HJ.out.below hb)
  replace HV1 := Lib.hid (HV1.out.below hb)
  replace HV2 := Lib.hid (HV2.out.below hb)
  replace hB := hB.trans (hb.mono hB.size)
  rw [HEF.out]
  clear hb
  go_wp2_with fail
  refine (rtable_f f _ _ _ _ _ _ _ HI.out HNE.out).mono ?_
  rintro e w4 ⟨rfl, hb⟩
  replace cb10 := bc hb ltb1 cb10
  replace cb11 := bc hb ltb1 cb11
  replace cb12 := bc hb ltb1 cb12
  replace ltb1 := bl hb ltb1
  replace cb20 := bc hb ltb2 cb20
  replace cb21 := bc hb ltb2 cb21
  replace cb22 := bc hb ltb2 cb22
  replace ltb2 := bl hb ltb2
  replace HI := Lib.hid (HI.out.below hb)
  replace HJ := Lib.hid (HJ.out.below hb)
  replace HV1 := Lib.hid (HV1.out.below hb)
  replace HV2 := Lib.hid (HV2.out.below hb)
  replace hB := hB.trans (hb.mono hB.size)
  rw [HEF.out]
  clear hb
  go_wp2_with fail
  refine (equal_any _ _ _ _ _ _ HV1.out HV2.out).mono ?_
  rintro e w7 ⟨rfl, hb⟩
  replace cb10 := bc hb ltb1 cb10
  replace cb11 := bc hb ltb1 cb11
  replace cb12 := bc hb ltb1 cb12
  replace ltb1 := bl hb ltb1
  replace cb20 := bc hb ltb2 cb20
  replace cb21 := bc hb ltb2 cb21
  replace cb22 := bc hb ltb2 cb22
  replace ltb2 := bl hb ltb2
  replace HI := Lib.hid (HI.out.below hb)
  replace HJ := Lib.hid (HJ.out.below hb)
  replace HV1 := Lib.hid (HV1.out.below hb)
  replace HV2 := Lib.hid (HV2.out.below hb)
  replace hB := hB.trans (hb.mono hB.size)
  clear hb
  go_wp2_with fail
  refine (equals_any [] none none 0 0 0 28 28 _ (ratsN_nil _) (ratsN_nil _)).mono ?_
  rintro e w8 ⟨rfl, hb⟩
  replace cb10 := bc hb ltb1 cb10
  replace cb11 := bc hb ltb1 cb11
  replace cb12 := bc hb ltb1 cb12
  replace ltb1 := bl hb ltb1
  replace cb20 := bc hb ltb2 cb20
  replace cb21 := bc hb ltb2 cb21
  replace cb22 := bc hb ltb2 cb22
  replace ltb2 := bl hb ltb2
  replace HI := Lib.hid (HI.out.below hb)
  replace HJ := Lib.hid (HJ.out.below hb)
  replace HV1 := Lib.hid (HV1.out.below hb)
  replace HV2 := Lib.hid (HV2.out.below hb)
  replace hB := hB.trans (hb.mono hB.size)
  clear hb
  go_wp2_with fail
  refine (awake_any _).mono ?_
  rintro e w9 ⟨rfl, hb⟩
  replace cb10 := bc hb ltb1 cb10
  replace cb11 := bc hb ltb1 cb11
  replace cb12 := bc hb ltb1 cb12
  replace ltb1 := bl hb ltb1
  replace cb20 := bc hb ltb2 cb20
  replace cb21 := bc hb ltb2 cb21
  replace cb22 := bc hb ltb2 cb22
  replace ltb2 := bl hb ltb2
  replace HI := Lib.hid (HI.out.below hb)
  replace HJ := Lib.hid (HJ.out.below hb)
  replace HV1 := Lib.hid (HV1.out.below hb)
  replace HV2 := Lib.hid (HV2.out.below hb)
  replace hB := hB.trans (hb.mono hB.size)
  clear hb
  go_wp2_with fail
  go_ret
  exact ⟨rfl, hB⟩
set_option maxHeartbeats 8000000 in
theorem tables_g (f g : List Int) (a : Option Addr) (len cap : Nat) (a2 : Option Addr) (len2 cap2 : Nat) (x : Int) (w : World) (hI : Ints w a len cap f) (hI2 : Ints w a2 len2 cap2 g) (hO : OkF f) (hE : eqE g ≠ 0) :
    Calls Tryz.prog 4 #[.slice a len cap, .slice a2 len2 cap2, .int .i64 x] w fun e w' => e = .returned (.bool true) ∧ Below w.heap.size w w' := by
  have HI := Lib.hid hI
  have HJ := Lib.hid hI2
  clear hI hI2
  have HF := Lib.hid hO
  have HNE := Lib.hid hE
  clear hE hO
  obtain ⟨ef, hef⟩ : ∃ ef, eqE g = ef := ⟨_, rfl⟩
  have HEF := Lib.hid hef
  clear hef
  go_enter Tryz.func4, Tryz.ntmps4
  go_wp2_with fail
  refine (escore_g f g _ _ _ _ _ _ x _ HI.out HJ.out HF.out HNE.out).mono ?_
  rintro e w1 ⟨v1, rfl, hv, hb⟩
  replace HI := Lib.hid (HI.out.below hb)
  replace HJ := Lib.hid (HJ.out.below hb)
  have hB := hb
  rw [HEF.out]
  have HV1 := Lib.hid (hv.mono (Nat.zero_le _))
  obtain ⟨p1', m1', q1', p1, m1, q1, rfl, -, -, -, -⟩ := hv
  generalize decide ((0 : Rat).num < 0) = d1 at *
  clear hb
  go_wp2_with fail
  have hbx : Below w1.heap.size w1 (w1.alloc (.cells #[.bool d1, .slice p1' m1' q1', .slice p1 m1 q1] 28)) := ((Below.refl _ _).alloc (Nat.le_refl _) _)
  generalize hWW : (w1.alloc (.cells #[.bool d1, .slice p1' m1' q1', .slice p1 m1 q1] 28)) = w1a at *
  replace HI := Lib.hid (HI.out.below hbx)
  replace HJ := Lib.hid (HJ.out.below hbx)
  replace HV1 := Lib.hid (HV1.out.below hbx)
  have cb10 : w1a.cell? ⟨w1.heap.size, 0, none⟩ = some (.bool d1) := by subst hWW; go_simp
  have cb11 : w1a.cell? ⟨w1.heap.size, 1, none⟩ = some (.slice p1' m1' q1') := by subst hWW; go_simp
  have cb12 : w1a.cell? ⟨w1.heap.size, 2, none⟩ = some (.slice p1 m1 q1) := by subst hWW; go_simp
  have ltb1 : w1.heap.size < w1a.heap.size := by subst hWW; simp
  replace hB := hB.trans (hbx.mono hB.size)
  clear hbx hWW
  refine (rscore_g f g _ _ _ _ _ _ x _ HI.out HJ.out HF.out HNE.out).mono ?_
  rintro e w2 ⟨v2, rfl, hv, hb⟩
  replace cb10 := bc hb ltb1 cb10
  replace cb11 := bc hb ltb1 cb11
  replace cb12 := bc hb ltb1 cb12
  replace ltb1 := bl hb ltb1
  replace HI := Lib.hid (HI.out.below hb)
  replace HJ := Lib.hid (HJ.out.below hb)
  replace HV1 := Lib.hid (HV1.out.below hb)
  replace hB := hB.trans (hb.mono hB.size)
  rw [HEF.out]
  have HV2 := Lib.hid (hv.mono (Nat.zero_le _))
  obtain ⟨p2', m2', q2', p2, m2, q2, rfl, -, -, -, -⟩ := hv
  generalize decide ((0 : Rat).num < 0) = d2 at *
  clear hb
  go_wp2_with fail
  have hbx : Below w2.heap.size w2 (w2.alloc (.cells #[.bool d2, .slice p2' m2' q2', .slice p2 m2 q2] 28)) := ((Below.refl _ _).alloc (Nat.le_refl _) _)
  generalize hWW : (w2.alloc (.cells #[.bool d2, .slice p2' m2' q2', .slice p2 m2 q2] 28)) = w2a at *
  replace cb10 := bc hbx ltb1 cb10
  replace cb11 := bc hbx ltb1 cb11
  replace cb12 := bc hbx ltb1 cb12
  replace ltb1 := bl hbx ltb1
  replace HI := Lib.hid (HI.out.below hbx)
  replace HJ := Lib.hid (HJ.out.below hbx)
  replace HV1 := Lib.hid (HV1.out.below hbx)
  replace HV2 := Lib.hid (HV2.out.below hbx)
  have cb20 : w2a.cell? ⟨w2.heap.size, 0, none⟩ = some (.bool d2) := by subst hWW; go_simp
  have cb21 : w2a.cell? ⟨w2.heap.size, 1, none⟩ = some (.slice p2' m2' q2') := by subst hWW; go_simp
  have cb22 : w2a.cell? ⟨w2.heap.size, 2, none⟩ = some (.slice p2 m2 q2) := by subst hWW; go_simp
  have ltb2 : w2.heap.size < w2a.heap.size := by subst hWW; simp
  replace hB := hB.trans (hbx.mono hB.size)
  clear hbx hWW
  refine (etable_g f g _ _ _ _ _ _ _ HI.out HJ.out HF.out HNE.out).mono ?_
  rintro e w3 ⟨rfl, hb⟩
  replace cb10 := bc hb ltb1 cb10
  replace cb11 := bc hb ltb1 cb11
  replace cb12 := bc hb ltb1 cb12
  replace ltb1 := bl hb ltb1
  replace cb20 := bc hb ltb2 cb20
  replace cb21 := bc hb ltb2 cb21
  replace cb22 := bc hb ltb2 cb22
  replace ltb2 := bl hb ltb2
  replace HI := Lib.hid (HI.out.below hb)
  replace HJ := Lib.hid (HJ.out.below hb)
  replace HV1 := Lib.hid (HV1.out.below hb)
  replace HV2 := Lib.hid (HV2.out.below hb)
  replace hB := hB.trans (hb.mono hB.size)
  rw [HEF.out]
  clear hb
  go_wp2_with fail
  refine (rtable_g f g _ _ _ _ _ _ _ HI.out HJ.out HF.out HNE.out).mono ?_
  rintro e w4 ⟨rfl, hb⟩
  replace cb10 := bc hb ltb1 cb10
  replace cb11 := bc hb ltb1 cb11
  replace cb12 := bc hb ltb1 cb12
  replace ltb1 := bl hb ltb1
  replace cb20 := bc hb ltb2 cb20
  replace cb21 := bc hb ltb2 cb21
  replace cb22 := bc hb ltb2 cb22
  replace ltb2 := bl hb ltb2
  replace HI := Lib.hid (HI.out.below hb)
  replace HJ := Lib.hid (HJ.out.below hb)
  replace HV1 := Lib.hid (HV1.out.below hb)
  replace HV2 := Lib.hid (HV2.out.below hb)
  replace hB := hB.trans (hb.mono hB.size)
  rw [HEF.out]
  clear hb
  go_wp2_with fail
  refine (equal_any _ _ _ _ _ _ HV1.out HV2.out).mono ?_
  rintro e w7 ⟨rfl, hb⟩
  replace cb10 := bc hb ltb1 cb10
  replace cb11 := bc hb ltb1 cb11
  replace cb12 := bc hb ltb1 cb12
  replace ltb1 := bl hb ltb1
  replace cb20 := bc hb ltb2 cb20
  replace cb21 := bc hb ltb2 cb21
  replace cb22 := bc hb ltb2 cb22
  replace ltb2 := bl hb ltb2
  replace HI := Lib.hid (HI.out.below hb)
  replace HJ := Lib.hid (HJ.out.below hb)
  replace HV1 := Lib.hid (HV1.out.below hb)
  replace HV2 := Lib.hid (HV2.out.below hb)
  replace hB := hB.trans (hb.mono hB.size)
  clear hb
  go_wp2_with fail
  refine (equals_any [] none none 0 0 0 28 28 _ (ratsN_nil _) (ratsN_nil _)).mono ?_
  rintro e w8 ⟨rfl, hb⟩
  replace cb10 := bc hb ltb1 cb10
  replace cb11 := bc hb ltb1 cb11
  replace cb12 := bc hb ltb1 cb12
  replace ltb1 := bl hb ltb1
  replace cb20 := bc hb ltb2 cb20
  replace cb21 := bc hb ltb2 cb21
  replace cb22 := bc hb ltb2 cb22
  replace ltb2 := bl hb ltb2
  replace HI := Lib.hid (HI.out.below hb)
  replace HJ := Lib.hid (HJ.out.below hb)
  replace HV1 := Lib.hid (HV1.out.below hb)
  replace HV2 := Lib.hid (HV2.out.below hb)
  replace hB := hB.trans (hb.mono hB.size)
  clear hb
  go_wp2_with fail
  refine (awake_any _).mono ?_
  rintro e w9 ⟨rfl, hb⟩
  replace cb10 := bc hb ltb1 cb10
  replace cb11 := bc hb ltb1 cb11
  replace cb12 := bc hb ltb1 cb12
  replace ltb1 := bl hb ltb1
  replace cb20 := bc hb ltb2 cb20
  replace cb21 := bc hb ltb2 cb21
  replace cb22 := bc hb ltb2 cb22
  replace ltb2 := bl hb ltb2
  replace HI := Lib.hid (HI.out.below hb)
  replace HJ := Lib.hid (HJ.out.below hb)
  replace HV1 := Lib.hid (HV1.out.below hb)
  replace HV2 := Lib.hid (HV2.out.below hb)
  replace hB := hB.trans (hb.mono hB.size)
  clear hb
  go_wp2_with fail
  go_ret
  exact ⟨rfl, hB⟩
set_option maxHeartbeats 8000000 in
theorem tables_neg (f g : List Int) (a : Option Addr) (len cap : Nat) (a2 : Option Addr) (len2 cap2 : Nat) (x : Int) (w : World) (hI : Ints w a len cap f) (hI2 : Ints w a2 len2 cap2 g) (hO : OkF f) (hO2 : OkF g) (hx : x < 0) :
    Calls Tryz.prog 4 #[.slice a len cap, .slice a2 len2 cap2, .int .i64 x] w fun e w' => e = .returned (.bool true) ∧ Below w.heap.size w w' := by
  have HI := Lib.hid hI
  have HJ := Lib.hid hI2
  clear hI hI2
  have HF := Lib.hid hO
  have HG := Lib.hid hO2
  clear hO hO2
  have HX := Lib.hid hx
  clear hx
  go_enter Tryz.func4, Tryz.ntmps4
  go_wp2_with fail
  refine (escore_neg f g _ _ _ _ _ _ x _ HI.out HJ.out HF.out HG.out HX.out).mono ?_
  rintro e w1 ⟨v1, rfl, hv, hb⟩
  replace HI := Lib.hid (HI.out.below hb)
  replace HJ := Lib.hid (HJ.out.below hb)
  have hB := hb
  have HV1 := Lib.hid (hv.mono (Nat.zero_le _))
  obtain ⟨p1', m1', q1', p1, m1, q1, rfl, -, -, -, -⟩ := hv
  generalize decide ((0 : Rat).num < 0) = d1 at *
  clear hb
  go_wp2_with fail
  have hbx : Below w1.heap.size w1 (w1.alloc (.cells #[.bool d1, .slice p1' m1' q1', .slice p1 m1 q1] 28)) := ((Below.refl _ _).alloc (Nat.le_refl _) _)
  generalize hWW : (w1.alloc (.cells #[.bool d1, .slice p1' m1' q1', .slice p1 m1 q1] 28)) = w1a at *
  replace HI := Lib.hid (HI.out.below hbx)
  replace HJ := Lib.hid (HJ.out.below hbx)
  replace HV1 := Lib.hid (HV1.out.below hbx)
  have cb10 : w1a.cell? ⟨w1.heap.size, 0, none⟩ = some (.bool d1) := by subst hWW; go_simp
  have cb11 : w1a.cell? ⟨w1.heap.size, 1, none⟩ = some (.slice p1' m1' q1') := by subst hWW; go_simp
  have cb12 : w1a.cell? ⟨w1.heap.size, 2, none⟩ = some (.slice p1 m1 q1) := by subst hWW; go_simp
  have ltb1 : w1.heap.size < w1a.heap.size := by subst hWW; simp
  replace hB := hB.trans (hbx.mono hB.size)
  clear hbx hWW
  refine (rscore_neg f g _ _ _ _ _ _ x _ HI.out HJ.out HF.out HG.out HX.out).mono ?_
  rintro e w2 ⟨v2, rfl, hv, hb⟩
  replace cb10 := bc hb ltb1 cb10
  replace cb11 := bc hb ltb1 cb11
  replace cb12 := bc hb ltb1 cb12
  replace ltb1 := bl hb ltb1
  replace HI := Lib.hid (HI.out.below hb)
  replace HJ := Lib.hid (HJ.out.below hb)
  replace HV1 := Lib.hid (HV1.out.below hb)
  replace hB := hB.trans (hb.mono hB.size)
  have HV2 := Lib.hid (hv.mono (Nat.zero_le _))
  obtain ⟨p2', m2', q2', p2, m2, q2, rfl, -, -, -, -⟩ := hv
  generalize decide ((0 : Rat).num < 0) = d2 at *
  clear hb
  go_wp2_with fail
  have hbx : Below w2.heap.size w2 (w2.alloc (.cells #[.bool d2, .slice p2' m2' q2', .slice p2 m2 q2] 28)) := ((Below.refl _ _).alloc (Nat.le_refl _) _)
  generalize hWW : (w2.alloc (.cells #[.bool d2, .slice p2' m2' q2', .slice p2 m2 q2] 28)) = w2a at *
  replace cb10 := bc hbx ltb1 cb10
  replace cb11 := bc hbx ltb1 cb11
  replace cb12 := bc hbx ltb1 cb12
  replace ltb1 := bl hbx ltb1
  replace HI := Lib.hid (HI.out.below hbx)
  replace HJ := Lib.hid (HJ.out.below hbx)
  replace HV1 := Lib.hid (HV1.out.below hbx)
  replace HV2 := Lib.hid (HV2.out.below hbx)
  have cb20 : w2a.cell? ⟨w2.heap.size, 0, none⟩ = some (.bool d2) := by subst hWW; go_simp
  have cb21 : w2a.cell? ⟨w2.heap.size, 1, none⟩ = some (.slice p2' m2' q2') := by subst hWW; go_simp
  have cb22 : w2a.cell? ⟨w2.heap.size, 2, none⟩ = some (.slice p2 m2 q2) := by subst hWW; go_simp
  have ltb2 : w2.heap.size < w2a.heap.size := by subst hWW; simp
  replace hB := hB.trans (hbx.mono hB.size)
  clear hbx hWW
  refine (etable_any f g _ _ _ _ _ _ _ HI.out HJ.out HF.out HG.out).mono ?_
  rintro e w3 ⟨t3, rfl, ht, hb⟩
  replace cb10 := bc hb ltb1 cb10
  replace cb11 := bc hb ltb1 cb11
  replace cb12 := bc hb ltb1 cb12
  replace ltb1 := bl hb ltb1
  replace cb20 := bc hb ltb2 cb20
  replace cb21 := bc hb ltb2 cb21
  replace cb22 := bc hb ltb2 cb22
  replace ltb2 := bl hb ltb2
  replace HI := Lib.hid (HI.out.below hb)
  replace HJ := Lib.hid (HJ.out.below hb)
  replace HV1 := Lib.hid (HV1.out.below hb)
  replace HV2 := Lib.hid (HV2.out.below hb)
  replace hB := hB.trans (hb.mono hB.size)
  have HT3 := Lib.hid ht
  clear ht
  clear hb
  go_wp2_with fail
  refine (rtable46_any f g _ _ _ _ _ _ _ HI.out HJ.out HF.out HG.out).mono ?_
  rintro e w4 ⟨t4, s4, rfl, ht, hb⟩
  replace cb10 := bc hb ltb1 cb10
  replace cb11 := bc hb ltb1 cb11
  replace cb12 := bc hb ltb1 cb12
  replace ltb1 := bl hb ltb1
  replace cb20 := bc hb ltb2 cb20
  replace cb21 := bc hb ltb2 cb21
  replace cb22 := bc hb ltb2 cb22
  replace ltb2 := bl hb ltb2
  replace HI := Lib.hid (HI.out.below hb)
  replace HJ := Lib.hid (HJ.out.below hb)
  replace HV1 := Lib.hid (HV1.out.below hb)
  replace HV2 := Lib.hid (HV2.out.below hb)
  replace HT3 := Lib.hid (HT3.out.below hb)
  replace hB := hB.trans (hb.mono hB.size)
  have HT4 := Lib.hid ht
  clear ht
  clear hb
  go_wp2_with fail
  refine (equal_any _ _ _ _ _ _ HV1.out HV2.out).mono ?_
  rintro e w7 ⟨rfl, hb⟩
  replace cb10 := bc hb ltb1 cb10
  replace cb11 := bc hb ltb1 cb11
  replace cb12 := bc hb ltb1 cb12
  replace ltb1 := bl hb ltb1
  replace cb20 := bc hb ltb2 cb20
  replace cb21 := bc hb ltb2 cb21
  replace cb22 := bc hb ltb2 cb22
  replace ltb2 := bl hb ltb2
  replace HI := Lib.hid (HI.out.below hb)
  replace HJ := Lib.hid (HJ.out.below hb)
  replace HV1 := Lib.hid (HV1.out.below hb)
  replace HV2 := Lib.hid (HV2.out.below hb)
  replace HT3 := Lib.hid (HT3.out.below hb)
  replace HT4 := Lib.hid (HT4.out.below hb)
  replace hB := hB.trans (hb.mono hB.size)
  clear hb
  go_wp2_with fail
  refine (equals_any _ _ _ _ _ _ _ _ _ HT3.out HT4.out).mono ?_
  rintro e w8 ⟨rfl, hb⟩
  replace cb10 := bc hb ltb1 cb10
  replace cb11 := bc hb ltb1 cb11
  replace cb12 := bc hb ltb1 cb12
  replace ltb1 := bl hb ltb1
  replace cb20 := bc hb ltb2 cb20
  replace cb21 := bc hb ltb2 cb21
  replace cb22 := bc hb ltb2 cb22
  replace ltb2 := bl hb ltb2
  replace HI := Lib.hid (HI.out.below hb)
  replace HJ := Lib.hid (HJ.out.below hb)
  replace HV1 := Lib.hid (HV1.out.below hb)
  replace HV2 := Lib.hid (HV2.out.below hb)
  replace HT3 := Lib.hid (HT3.out.below hb)
  replace HT4 := Lib.hid (HT4.out.below hb)
  replace hB := hB.trans (hb.mono hB.size)
  clear hb
  go_wp2_with fail
  refine (awake_any _).mono ?_
  rintro e w9 ⟨rfl, hb⟩
  replace cb10 := bc hb ltb1 cb10
  replace cb11 := bc hb ltb1 cb11
  replace cb12 := bc hb ltb1 cb12
  replace ltb1 := bl hb ltb1
  replace cb20 := bc hb ltb2 cb20
  replace cb21 := bc hb ltb2 cb21
  replace cb22 := bc hb ltb2 cb22
  replace ltb2 := bl hb ltb2
  replace HI := Lib.hid (HI.out.below hb)
  replace HJ := Lib.hid (HJ.out.below hb)
  replace HV1 := Lib.hid (HV1.out.below hb)
  replace HV2 := Lib.hid (HV2.out.below hb)
  replace HT3 := Lib.hid (HT3.out.below hb)
  replace HT4 := Lib.hid (HT4.out.below hb)
  replace hB := hB.trans (hb.mono hB.size)
  clear hb
  go_wp2_with fail
  go_ret
  exact ⟨rfl, hB⟩
set_option maxHeartbeats 8000000 in
theorem tables_big (f g : List Int) (a : Option Addr) (len cap : Nat) (a2 : Option Addr) (len2 cap2 : Nat) (x : Int) (w : World) (hI : Ints w a len cap f) (hI2 : Ints w a2 len2 cap2 g) (hO : OkF f) (hO2 : OkF g) (hx : 0 ≤ x) (hx2 : (len : Int) ≤ x) :
    Calls Tryz.prog 4 #[.slice a len cap, .slice a2 len2 cap2, .int .i64 x] w fun e w' => e = .returned (.bool true) ∧ Below w.heap.size w w' := by
  have HI := Lib.hid hI
  have HJ := Lib.hid hI2
  clear hI hI2
  have HF := Lib.hid hO
  have HG := Lib.hid hO2
  clear hO hO2
  have HX := Lib.hid hx
  have HX2 := Lib.hid hx2
  clear hx hx2
  go_enter Tryz.func4, Tryz.ntmps4
  go_wp2_with fail
  refine (escore_big f g _ _ _ _ _ _ x _ HI.out HJ.out HF.out HG.out HX.out HX2.out).mono ?_
  rintro e w1 ⟨v1, rfl, hv, hb⟩
  replace HI := Lib.hid (HI.out.below hb)
  replace HJ := Lib.hid (HJ.out.below hb)
  have hB := hb
  have HV1 := Lib.hid (hv.mono (Nat.zero_le _))
  obtain ⟨p1', m1', q1', p1, m1, q1, rfl, -, -, -, -⟩ := hv
  generalize decide ((0 : Rat).num < 0) = d1 at *
  clear hb
  go_wp2_with fail
  have hbx : Below w1.heap.size w1 (w1.alloc (.cells #[.bool d1, .slice p1' m1' q1', .slice p1 m1 q1] 28)) := ((Below.refl _ _).alloc (Nat.le_refl _) _)
  generalize hWW : (w1.alloc (.cells #[.bool d1, .slice p1' m1' q1', .slice p1 m1 q1] 28)) = w1a at *
  replace HI := Lib.hid (HI.out.below hbx)
  replace HJ := Lib.hid (HJ.out.below hbx)
  replace HV1 := Lib.hid (HV1.out.below hbx)
  have cb10 : w1a.cell? ⟨w1.heap.size, 0, none⟩ = some (.bool d1) := by subst hWW; go_simp
  have cb11 : w1a.cell? ⟨w1.heap.size, 1, none⟩ = some (.slice p1' m1' q1') := by subst hWW; go_simp
  have cb12 : w1a.cell? ⟨w1.heap.size, 2, none⟩ = some (.slice p1 m1 q1) := by subst hWW; go_simp
  have ltb1 : w1.heap.size < w1a.heap.size := by subst hWW; simp
  replace hB := hB.trans (hbx.mono hB.size)
  clear hbx hWW
  refine (rscore_big f g _ _ _ _ _ _ x _ HI.out HJ.out HF.out HG.out HX.out HX2.out).mono ?_
  rintro e w2 ⟨v2, rfl, hv, hb⟩
  replace cb10 := bc hb ltb1 cb10
  replace cb11 := bc hb ltb1 cb11
  replace cb12 := bc hb ltb1 cb12
  replace ltb1 := bl hb ltb1
  replace HI := Lib.hid (HI.out.below hb)
  replace HJ := Lib.hid (HJ.out.below hb)
  replace HV1 := Lib.hid (HV1.out.below hb)
  replace hB := hB.trans (hb.mono hB.size)
  have HV2 := Lib.hid (hv.mono (Nat.zero_le _))
  obtain ⟨p2', m2', q2', p2, m2, q2, rfl, -, -, -, -⟩ := hv
  generalize decide ((0 : Rat).num < 0) = d2 at *
  clear hb
  go_wp2_with fail
  have hbx : Below w2.heap.size w2 (w2.alloc (.cells #[.bool d2, .slice p2' m2' q2', .slice p2 m2 q2] 28)) := ((Below.refl _ _).alloc (Nat.le_refl _) _)
  generalize hWW : (w2.alloc (.cells #[.bool d2, .slice p2' m2' q2', .slice p2 m2 q2] 28)) = w2a at *
  replace cb10 := bc hbx ltb1 cb10
  replace cb11 := bc hbx ltb1 cb11
  replace cb12 := bc hbx ltb1 cb12
  replace ltb1 := bl hbx ltb1
  replace HI := Lib.hid (HI.out.below hbx)
  replace HJ := Lib.hid (HJ.out.below hbx)
  replace HV1 := Lib.hid (HV1.out.below hbx)
  replace HV2 := Lib.hid (HV2.out.below hbx)
  have cb20 : w2a.cell? ⟨w2.heap.size, 0, none⟩ = some (.bool d2) := by subst hWW; go_simp
  have cb21 : w2a.cell? ⟨w2.heap.size, 1, none⟩ = some (.slice p2' m2' q2') := by subst hWW; go_simp
  have cb22 : w2a.cell? ⟨w2.heap.size, 2, none⟩ = some (.slice p2 m2 q2) := by subst hWW; go_simp
  have ltb2 : w2.heap.size < w2a.heap.size := by subst hWW; simp
  replace hB := hB.trans (hbx.mono hB.size)
  clear hbx hWW
  refine (etable_any f g _ _ _ _ _ _ _ HI.out HJ.out HF.out HG.out).mono ?_
  rintro e w3 ⟨t3, rfl, ht, hb⟩
  replace cb10 := bc hb ltb1 cb10
  replace cb11 := bc hb ltb1 cb11
  replace cb12 := bc hb ltb1 cb12
  replace ltb1 := bl hb ltb1
  replace cb20 := bc hb ltb2 cb20
  replace cb21 := bc hb ltb2 cb21
  replace cb22 := bc hb ltb2 cb22
  replace ltb2 := bl hb ltb2
  replace HI := Lib.hid (HI.out.below hb)
  replace HJ := Lib.hid (HJ.out.below hb)
  replace HV1 := Lib.hid (HV1.out.below hb)
  replace HV2 := Lib.hid (HV2.out.below hb)
  replace hB := hB.trans (hb.mono hB.size)
  have HT3 := Lib.hid ht
  clear ht
  clear hb
  go_wp2_with fail
  refine (rtable46_any f g _ _ _ _ _ _ _ HI.out HJ.out HF.out HG.out).mono ?_
  rintro e w4 ⟨t4, s4, rfl, ht, hb⟩
  replace cb10 := bc hb ltb1 cb10
  replace cb11 := bc hb ltb1 cb11
  replace cb12 := bc hb ltb1 cb12
  replace ltb1 := bl hb ltb1
  replace cb20 := bc hb ltb2 cb20
  replace cb21 := bc hb ltb2 cb21
  replace cb22 := bc hb ltb2 cb22
  replace ltb2 := bl hb ltb2
  replace HI := Lib.hid (HI.out.below hb)
  replace HJ := Lib.hid (HJ.out.below hb)
  replace HV1 := Lib.hid (HV1.out.below hb)
  replace HV2 := Lib.hid (HV2.out.below hb)
  replace HT3 := Lib.hid (HT3.out.below hb)
  replace hB := hB.trans (hb.mono hB.size)
  have HT4 := Lib.hid ht
  clear ht
  clear hb
  go_wp2_with fail
  refine (equal_any _ _ _ _ _ _ HV1.out HV2.out).mono ?_
  rintro e w7 ⟨rfl, hb⟩
  replace cb10 := bc hb ltb1 cb10
  replace cb11 := bc hb ltb1 cb11
  replace cb12 := bc hb ltb1 cb12
  replace ltb1 := bl hb ltb1
  replace cb20 := bc hb ltb2 cb20
  replace cb21 := bc hb ltb2 cb21
  replace cb22 := bc hb ltb2 cb22
  replace ltb2 := bl hb ltb2
  replace HI := Lib.hid (HI.out.below hb)
  replace HJ := Lib.hid (HJ.out.below hb)
  replace HV1 := Lib.hid (HV1.out.below hb)
  replace HV2 := Lib.hid (HV2.out.below hb)
  replace HT3 := Lib.hid (HT3.out.below hb)
  replace HT4 := Lib.hid (HT4.out.below hb)
  replace hB := hB.trans (hb.mono hB.size)
  clear hb
  go_wp2_with fail
  refine (equals_any _ _ _ _ _ _ _ _ _ HT3.out HT4.out).mono ?_
  rintro e w8 ⟨rfl, hb⟩
  replace cb10 := bc hb ltb1 cb10
  replace cb11 := bc hb ltb1 cb11
  replace cb12 := bc hb ltb1 cb12
  replace ltb1 := bl hb ltb1
  replace cb20 := bc hb ltb2 cb20
  replace cb21 := bc hb ltb2 cb21
  replace cb22 := bc hb ltb2 cb22
  replace ltb2 := bl hb ltb2
  replace HI := Lib.hid (HI.out.below hb)
  replace HJ := Lib.hid (HJ.out.below hb)
  replace HV1 := Lib.hid (HV1.out.below hb)
  replace HV2 := Lib.hid (HV2.out.below hb)
  replace HT3 := Lib.hid (HT3.out.below hb)
  replace HT4 := Lib.hid (HT4.out.below hb)
  replace hB := hB.trans (hb.mono hB.size)
  clear hb
  go_wp2_with fail
  refine (awake_any _).mono ?_
  rintro e w9 ⟨rfl, hb⟩
  replace cb10 := bc hb ltb1 cb10
  replace cb11 := bc hb ltb1 cb11
  replace cb12 := bc hb ltb1 cb12
  replace ltb1 := bl hb ltb1
  replace cb20 := bc hb ltb2 cb20
  replace cb21 := bc hb ltb2 cb21
  replace cb22 := bc hb ltb2 cb22
  replace ltb2 := bl hb ltb2
  replace HI := Lib.hid (HI.out.below hb)
  replace HJ := Lib.hid (HJ.out.below hb)
  replace HV1 := Lib.hid (HV1.out.below hb)
  replace HV2 := Lib.hid (HV2.out.below hb)
  replace HT3 := Lib.hid (HT3.out.below hb)
  replace HT4 := Lib.hid (HT4.out.below hb)
  replace hB := hB.trans (hb.mono hB.size)
  clear hb
  go_wp2_with fail
  go_ret
  exact ⟨rfl, hB⟩
set_option maxHeartbeats 8000000 in
theorem tables_in (f g : List Int) (a : Option Addr) (len cap : Nat) (a2 : Option Addr) (len2 cap2 : Nat) (k : Nat) (w : World) (hI : Ints w a len cap f) (hI2 : Ints w a2 len2 cap2 g) (hO : OkF f) (hO2 : OkF g) (hk : k < len) :
    Calls Tryz.prog 4 #[.slice a len cap, .slice a2 len2 cap2, .int .i64 (k : Int)] w fun e w' => e = .returned (.bool true) ∧ Below w.heap.size w w' := by
  have HI := Lib.hid hI
  have HJ := Lib.hid hI2
  clear hI hI2
  have HF := Lib.hid hO
  have HG := Lib.hid hO2
  clear hO hO2
  have HK := Lib.hid hk
  clear hk
  go_enter Tryz.func4, Tryz.ntmps4
  go_wp2_with fail
  refine (escore_any f g _ _ _ _ _ _ k _ HI.out HJ.out HF.out HG.out HK.out).mono ?_
  rintro e w1 ⟨v1, rfl, hv, hsz, hb⟩
  replace HI := Lib.hid (HI.out.below hb)
  replace HJ := Lib.hid (HJ.out.below hb)
  have hB := hb
  have HV1 := Lib.hid (hv.mono (Nat.zero_le _))
  obtain ⟨p1', m1', q1', p1, m1, q1, rfl, -, -, -, -⟩ := hv
  generalize decide ((scoreR f g k : Rat).num < 0) = d1 at *
  clear hsz
  clear hb
  go_wp2_with fail
  have hbx : Below w1.heap.size w1 (w1.alloc (.cells #[.bool d1, .slice p1' m1' q1', .slice p1 m1 q1] 28)) := ((Below.refl _ _).alloc (Nat.le_refl _) _)
  generalize hWW : (w1.alloc (.cells #[.bool d1, .slice p1' m1' q1', .slice p1 m1 q1] 28)) = w1a at *
  replace HI := Lib.hid (HI.out.below hbx)
  replace HJ := Lib.hid (HJ.out.below hbx)
  replace HV1 := Lib.hid (HV1.out.below hbx)
  have cb10 : w1a.cell? ⟨w1.heap.size, 0, none⟩ = some (.bool d1) := by subst hWW; go_simp
  have cb11 : w1a.cell? ⟨w1.heap.size, 1, none⟩ = some (.slice p1' m1' q1') := by subst hWW; go_simp
  have cb12 : w1a.cell? ⟨w1.heap.size, 2, none⟩ = some (.slice p1 m1 q1) := by subst hWW; go_simp
  have ltb1 : w1.heap.size < w1a.heap.size := by subst hWW; simp
  replace hB := hB.trans (hbx.mono hB.size)
  clear hbx hWW
  refine (rscore_any f g _ _ _ _ _ _ k _ HI.out HJ.out HF.out HG.out HK.out).mono ?_
  rintro e w2 ⟨v2, rfl, hv, hsz, hb⟩
  replace cb10 := bc hb ltb1 cb10
  replace cb11 := bc hb ltb1 cb11
  replace cb12 := bc hb ltb1 cb12
  replace ltb1 := bl hb ltb1
  replace HI := Lib.hid (HI.out.below hb)
  replace HJ := Lib.hid (HJ.out.below hb)
  replace HV1 := Lib.hid (HV1.out.below hb)
  replace hB := hB.trans (hb.mono hB.size)
  have HV2 := Lib.hid (hv.mono (Nat.zero_le _))
  obtain ⟨p2', m2', q2', p2, m2, q2, rfl, -, -, -, -⟩ := hv
  generalize decide ((scoreR f g k : Rat).num < 0) = d2 at *
  clear hsz
  clear hb
  go_wp2_with fail
  have hbx : Below w2.heap.size w2 (w2.alloc (.cells #[.bool d2, .slice p2' m2' q2', .slice p2 m2 q2] 28)) := ((Below.refl _ _).alloc (Nat.le_refl _) _)
  generalize hWW : (w2.alloc (.cells #[.bool d2, .slice p2' m2' q2', .slice p2 m2 q2] 28)) = w2a at *
  replace cb10 := bc hbx ltb1 cb10
  replace cb11 := bc hbx ltb1 cb11
  replace cb12 := bc hbx ltb1 cb12
  replace ltb1 := bl hbx ltb1
  replace HI := Lib.hid (HI.out.below hbx)
  replace HJ := Lib.hid (HJ.out.below hbx)
  replace HV1 := Lib.hid (HV1.out.below hbx)
  replace HV2 := Lib.hid (HV2.out.below hbx)
  have cb20 : w2a.cell? ⟨w2.heap.size, 0, none⟩ = some (.bool d2) := by subst hWW; go_simp
  have cb21 : w2a.cell? ⟨w2.heap.size, 1, none⟩ = some (.slice p2' m2' q2') := by subst hWW; go_simp
  have cb22 : w2a.cell? ⟨w2.heap.size, 2, none⟩ = some (.slice p2 m2 q2) := by subst hWW; go_simp
  have ltb2 : w2.heap.size < w2a.heap.size := by subst hWW; simp
  replace hB := hB.trans (hbx.mono hB.size)
  clear hbx hWW
  refine (etable_any f g _ _ _ _ _ _ _ HI.out HJ.out HF.out HG.out).mono ?_
  rintro e w3 ⟨t3, rfl, ht, hb⟩
  replace cb10 := bc hb ltb1 cb10
  replace cb11 := bc hb ltb1 cb11
  replace cb12 := bc hb ltb1 cb12
  replace ltb1 := bl hb ltb1
  replace cb20 := bc hb ltb2 cb20
  replace cb21 := bc hb ltb2 cb21
  replace cb22 := bc hb ltb2 cb22
  replace ltb2 := bl hb ltb2
  replace HI := Lib.hid (HI.out.below hb)
  replace HJ := Lib.hid (HJ.out.below hb)
  replace HV1 := Lib.hid (HV1.out.below hb)
  replace HV2 := Lib.hid (HV2.out.below hb)
  replace hB := hB.trans (hb.mono hB.size)
  have HT3 := Lib.hid ht
  clear ht
  clear hb
  go_wp2_with fail
  refine (rtable46_any f g _ _ _ _ _ _ _ HI.out HJ.out HF.out HG.out).mono ?_
  rintro e w4 ⟨t4, s4, rfl, ht, hb⟩
  replace cb10 := bc hb ltb1 cb10
  replace cb11 := bc hb ltb1 cb11
  replace cb12 := bc hb ltb1 cb12
  replace ltb1 := bl hb ltb1
  replace cb20 := bc hb ltb2 cb20
  replace cb21 := bc hb ltb2 cb21
  replace cb22 := bc hb ltb2 cb22
  replace ltb2 := bl hb ltb2
  replace HI := Lib.hid (HI.out.below hb)
  replace HJ := Lib.hid (HJ.out.below hb)
  replace HV1 := Lib.hid (HV1.out.below hb)
  replace HV2 := Lib.hid (HV2.out.below hb)
  replace HT3 := Lib.hid (HT3.out.below hb)
  replace hB := hB.trans (hb.mono hB.size)
  have HT4 := Lib.hid ht
  clear ht
  clear hb
  go_wp2_with fail
  refine (equal_any _ _ _ _ _ _ HV1.out HV2.out).mono ?_
  rintro e w7 ⟨rfl, hb⟩
  replace cb10 := bc hb ltb1 cb10
  replace cb11 := bc hb ltb1 cb11
  replace cb12 := bc hb ltb1 cb12
  replace ltb1 := bl hb ltb1
  replace cb20 := bc hb ltb2 cb20
  replace cb21 := bc hb ltb2 cb21
  replace cb22 := bc hb ltb2 cb22
  replace ltb2 := bl hb ltb2
  replace HI := Lib.hid (HI.out.below hb)
  replace HJ := Lib.hid (HJ.out.below hb)
  replace HV1 := Lib.hid (HV1.out.below hb)
  replace HV2 := Lib.hid (HV2.out.below hb)
  replace HT3 := Lib.hid (HT3.out.below hb)
  replace HT4 := Lib.hid (HT4.out.below hb)
  replace hB := hB.trans (hb.mono hB.size)
  clear hb
  go_wp2_with fail
  refine (equals_any _ _ _ _ _ _ _ _ _ HT3.out HT4.out).mono ?_
  rintro e w8 ⟨rfl, hb⟩
  replace cb10 := bc hb ltb1 cb10
  replace cb11 := bc hb ltb1 cb11
  replace cb12 := bc hb ltb1 cb12
  replace ltb1 := bl hb ltb1
  replace cb20 := bc hb ltb2 cb20
  replace cb21 := bc hb ltb2 cb21
  replace cb22 := bc hb ltb2 cb22
  replace ltb2 := bl hb ltb2
  replace HI := Lib.hid (HI.out.below hb)
  replace HJ := Lib.hid (HJ.out.below hb)
  replace HV1 := Lib.hid (HV1.out.below hb)
  replace HV2 := Lib.hid (HV2.out.below hb)
  replace HT3 := Lib.hid (HT3.out.below hb)
  replace HT4 := Lib.hid (HT4.out.below hb)
  replace hB := hB.trans (hb.mono hB.size)
  clear hb
  go_wp2_with fail
  refine (awake_any _).mono ?_
  rintro e w9 ⟨rfl, hb⟩
  replace cb10 := bc hb ltb1 cb10
  replace cb11 := bc hb ltb1 cb11
  replace cb12 := bc hb ltb1 cb12
  replace ltb1 := bl hb ltb1
  replace cb20 := bc hb ltb2 cb20
  replace cb21 := bc hb ltb2 cb21
  replace cb22 := bc hb ltb2 cb22
  replace ltb2 := bl hb ltb2
  replace HI := Lib.hid (HI.out.below hb)
  replace HJ := Lib.hid (HJ.out.below hb)
  replace HV1 := Lib.hid (HV1.out.below hb)
  replace HV2 := Lib.hid (HV2.out.below hb)
  replace HT3 := Lib.hid (HT3.out.below hb)
  replace HT4 := Lib.hid (HT4.out.below hb)
  replace hB := hB.trans (hb.mono hB.size)
  clear hb
  go_wp2_with fail
  go_ret
  exact ⟨rfl, hB⟩
theorem tables_calls (f g : List Int) (a : Option Addr) (len cap : Nat) (a2 : Option Addr) (len2 cap2 : Nat) (x : Int) (w : World) (hI : Ints w a len cap f) (hI2 : Ints w a2 len2 cap2 g) :
    Calls Tryz.prog 4 #[.slice a len cap, .slice a2 len2 cap2, .int .i64 x] w fun e w' => e = .returned (.bool true) ∧ Below w.heap.size w w' := by
  by_cases hE : eqE f = 0
  · have hO := eqE_OkF.1 hE
    by_cases hG : eqE g = 0
    · have hO2 := eqE_OkF.1 hG
      by_cases hx : x < 0
      · exact tables_neg f g a len cap a2 len2 cap2 x w hI hI2 hO hO2 hx
      · by_cases hx2 : (len : Int) ≤ x
        · exact tables_big f g a len cap a2 len2 cap2 x w hI hI2 hO hO2 (by omega) hx2
        · obtain ⟨k, rfl⟩ : ∃ k : Nat, x = (k : Int) := ⟨x.toNat, by omega⟩
          exact tables_in f g a len cap a2 len2 cap2 k w hI hI2 hO hO2 (by omega)
    · exact tables_g f g a len cap a2 len2 cap2 x w hI hI2 hO hG
  · exact tables_f f g a len cap a2 len2 cap2 x w hI hI2 hE



theorem equateTables_walk {H : Type} {enc : TypeId × Value → H} (W : World) (base : Nat) (args : Array Value) (ds gs : List (DataW H)) (before : List MemPlace)
    (hval : ∀ (j : Nat) t v, Tryz.f4.params[j]? = some t → args[j]? = some v → Value.okWide Tryz.prog W .any base t v)
    (hW : DataW.Whole enc Tryz.prog Tryz.f4.params.toList Rows.equateTablesSpec.vars false W args.toList ds gs before)
    (_hsz : (DataW.weightsEach Tryz.prog (Tryz.f4.params.toList ++ Rows.equateTablesSpec.plain.varTypes Tryz.prog) (ds ++ gs)).all (· ≤ reachBytes) = true) :
    Calls Tryz.prog 4 args W fun e w' => e = .returned (.bool true) ∧ Below W.heap.size W w' := by
  obtain ⟨p, q, hA, hV, -, -, -⟩ := hW
  obtain ⟨rfl, -⟩ := trodVars_none hV
  rw [Tryz.params4] at hA hval
  obtain ⟨v0, v1, v2, d0, d1, d2, p0, p1, p2, rfl, rfl, rfl, h0, h1, h2⟩ := trodAll_three hA
  obtain ⟨a, len, cap, xs, rfl, hrow, -⟩ := open_row Tryz.underlying22 Tryz.underlying3 (by kernel_rfl) (hval 0 _ _ rfl rfl) h0
  obtain ⟨a2, len2, cap2, ys, rfl, hrow2, -⟩ := open_row Tryz.underlying22 Tryz.underlying3 (by kernel_rfl) (hval 1 _ _ rfl rfl) h1
  obtain ⟨n, rfl, -, wn⟩ := open_num Tryz.underlying3 (hval 2 _ _ rfl rfl) h2
  exact tables_calls xs ys a len cap a2 len2 cap2 n W hrow.ints hrow2.ints

set_option maxRecDepth 100000 in
theorem equateTables_lifted (os : Os) (started : os.Started) (H : Type) (enc : TypeId × Value → H) :
    ReturnsInHanded {} Tryz.checked os 4 .any (Rows.equateTablesSpec.pre6 enc Tryz.prog Tryz.f4 Rows.equateTablesRow.domain false) (Rows.equateTablesSpec.post enc Tryz.prog Tryz.f4 false true false false) := by
  refine returnsInHanded_of_change_sized (C := Tryz.checked) own started (by kernel_rfl) Tryz.func4
    (ChangeSpec.witness6 (enc := enc) (C := Tryz.checked) false ⟨#[], #[.slice none 0 0, .slice none 0 0, .int .i64 0], []⟩ 8 (by kernel_rfl) (by kernel_rfl) (by kernel_rfl) (by kernel_rfl)) ?_
  intro W base args ds gs before hval hW _ hsz _
  exact law_post rfl (by kernel_rfl) (by kernel_rfl) (fun ds h => match ds, h with | [d0, d1, d2], _ => ⟨rfl, rfl, rfl⟩) hW (equateTables_walk W base args ds gs before hval hW hsz)

theorem equateTables_over : Rows.equateTablesRow.holds Tryz.pinned (OpenSpec.ofChange Rows.equateTablesSpec) :=
  OpenClaim.holds_of_wide 4 Tryz.f4 rfl rfl rfl rfl rfl rfl rfl ⟨rfl, rfl, rfl, rfl, rfl⟩ rfl rfl rfl rfl rfl (by kernel_rfl) Tryz.func4 (by kernel_rfl)
    (of_decide_eq_true (by kernel_rfl)) (by unfold Func.isWrapper; first | (rw [if_pos (by decide +kernel)]; kernel_rfl) | (rw [if_neg (by decide +kernel)]; exact ⟨rfl, rfl⟩))
    (fun os started H enc _ => equateTables_lifted os started H enc)

theorem equateTables_proved : Rows.EquateTablesSaid := equateTables_over

end Go.Proofs.YtahmndacoanfiaaGreat
