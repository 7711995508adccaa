/- The law EquateRanks, for arguments of bulk at most 1048576: Valid, Rank and Inverse return what the document defines, or the first error. -/
import Derived.Test.YtahmndacoanfiaaGreatRQU
import Derived.Test.YtahmndacoanfiaaGreatEqV
import Derived.Test.YtahmndacoanfiaaGreatFrame
import Derived.Test.YtahmndacoanfiaaGreatBulk
namespace Go.Proofs.YtahmndacoanfiaaGreat
set_option maxRecDepth 100000
open Go.ChangeShapes Go.WideShapes Go.ChangeAt Go.RowKit

set_option maxHeartbeats 8000000 in
theorem ranks_n (f : List Int) (a : Option Addr) (len cap : Nat) (vx vp : Value) (x p : Rat) (L : Nat) (w : World) (hI : Ints w a len cap f) (hx : RatV w vx x L) (hp : RatV w vp p L) (hE : eqE f ≠ 0) :
    Calls Tryz.prog 3 #[.slice a len cap, vx, vp] w fun e w' => e = .returned (.bool true) ∧ Below w.heap.size w w' := by
  have HI := Lib.hid hI
  have HX := Lib.hid hx
  have HP := Lib.hid hp
  obtain ⟨negx, ax', lenx', capx', ax, lenx, capx, rfl, -, -⟩ := hx.form
  obtain ⟨negp, ap', lenp', capp', ap, lenp, capp, rfl, -, -⟩ := hp.form
  clear hI hx hp
  have HNE := Lib.hid hE
  clear hE
  obtain ⟨ef, hef⟩ : ∃ ef, eqE f = ef := ⟨_, rfl⟩
  have HEF := Lib.hid hef
  clear hef
  go_enter Tryz.func3, Tryz.ntmps3
  go_wp2_with fail
  have hbx : Below w.heap.size w ((w.alloc (.cells #[.bool negx, .slice ax' lenx' capx', .slice ax lenx capx] 28)).alloc (.cells #[.bool negp, .slice ap' lenp' capp', .slice ap lenp capp] 28)) := (((Below.refl _ _).alloc (Nat.le_refl _) _).alloc (by simp) _)
  generalize hWW : ((w.alloc (.cells #[.bool negx, .slice ax' lenx' capx', .slice ax lenx capx] 28)).alloc (.cells #[.bool negp, .slice ap' lenp' capp', .slice ap lenp capp] 28)) = w0 at *
  replace HI := Lib.hid (HI.out.below hbx)
  replace HX := Lib.hid (HX.out.below hbx)
  replace HP := Lib.hid (HP.out.below hbx)
  have cA0 : w0.cell? ⟨w.heap.size, 0, none⟩ = some (.bool negx) := by subst hWW; go_simp
  have cA1 : w0.cell? ⟨w.heap.size, 1, none⟩ = some (.slice ax' lenx' capx') := by subst hWW; go_simp
  have cA2 : w0.cell? ⟨w.heap.size, 2, none⟩ = some (.slice ax lenx capx) := by subst hWW; go_simp
  have ltA : w.heap.size < w0.heap.size := by subst hWW; simp <;> omega
  have cB0 : w0.cell? ⟨w.heap.size + 1, 0, none⟩ = some (.bool negp) := by subst hWW; go_simp
  have cB1 : w0.cell? ⟨w.heap.size + 1, 1, none⟩ = some (.slice ap' lenp' capp') := by subst hWW; go_simp
  have cB2 : w0.cell? ⟨w.heap.size + 1, 2, none⟩ = some (.slice ap lenp capp) := by subst hWW; go_simp
  have ltB : w.heap.size + 1 < w0.heap.size := by subst hWW; simp
  have hB := hbx
  clear hbx hWW
  refine (erank_no f _ _ _ _ x L _ HI.out HX.out HNE.out).mono ?_
  rintro e w1 ⟨v1, rfl, hv, hb⟩
  replace cA0 := bc hb ltA cA0
  replace cA1 := bc hb ltA cA1
  replace cA2 := bc hb ltA cA2
  replace ltA := bl hb ltA
  replace cB0 := bc hb ltB cB0
  replace cB1 := bc hb ltB cB1
  replace cB2 := bc hb ltB cB2
  replace ltB := bl hb ltB
  replace HI := Lib.hid (HI.out.below hb)
  replace HX := Lib.hid (HX.out.below hb)
  replace HP := Lib.hid (HP.out.below hb)
  replace hB := hB.trans (hb.mono hB.size)
  rw [HEF.out]
  have HV1 := Lib.hid (hv.mono (Nat.zero_le _))
  obtain ⟨p1', m1', q1', p1, m1, q1, rfl, -, -, -, -⟩ := hv
  generalize decide ((0 : Rat).num < 0) = d1 at *
  clear hb
  go_wp2_with fail
  have hbx : Below w1.heap.size w1 (w1.alloc (.cells #[.bool d1, .slice p1' m1' q1', .slice p1 m1 q1] 28)) := ((Below.refl _ _).alloc (Nat.le_refl _) _)
  generalize hWW : (w1.alloc (.cells #[.bool d1, .slice p1' m1' q1', .slice p1 m1 q1] 28)) = w1a at *
  replace cA0 := bc hbx ltA cA0
  replace cA1 := bc hbx ltA cA1
  replace cA2 := bc hbx ltA cA2
  replace ltA := bl hbx ltA
  replace cB0 := bc hbx ltB cB0
  replace cB1 := bc hbx ltB cB1
  replace cB2 := bc hbx ltB cB2
  replace ltB := bl hbx ltB
  replace HI := Lib.hid (HI.out.below hbx)
  replace HX := Lib.hid (HX.out.below hbx)
  replace HP := Lib.hid (HP.out.below hbx)
  replace HV1 := Lib.hid (HV1.out.below hbx)
  have cb10 : w1a.cell? ⟨w1.heap.size, 0, none⟩ = some (.bool d1) := by subst hWW; go_simp
  have cb11 : w1a.cell? ⟨w1.heap.size, 1, none⟩ = some (.slice p1' m1' q1') := by subst hWW; go_simp
  have cb12 : w1a.cell? ⟨w1.heap.size, 2, none⟩ = some (.slice p1 m1 q1) := by subst hWW; go_simp
  have ltb1 : w1.heap.size < w1a.heap.size := by subst hWW; simp
  replace hB := hB.trans (hbx.mono hB.size)
  clear hbx hWW
  refine (rrank_no f _ _ _ _ x L _ HI.out HX.out HNE.out).mono ?_
  rintro e w2 ⟨v2, rfl, hv, hb⟩
  replace cA0 := bc hb ltA cA0
  replace cA1 := bc hb ltA cA1
  replace cA2 := bc hb ltA cA2
  replace ltA := bl hb ltA
  replace cB0 := bc hb ltB cB0
  replace cB1 := bc hb ltB cB1
  replace cB2 := bc hb ltB cB2
  replace ltB := bl hb ltB
  replace cb10 := bc hb ltb1 cb10
  replace cb11 := bc hb ltb1 cb11
  replace cb12 := bc hb ltb1 cb12
  replace ltb1 := bl hb ltb1
  replace HI := Lib.hid (HI.out.below hb)
  replace HX := Lib.hid (HX.out.below hb)
  replace HP := Lib.hid (HP.out.below hb)
  replace HV1 := Lib.hid (HV1.out.below hb)
  replace hB := hB.trans (hb.mono hB.size)
  rw [HEF.out]
  have HV2 := Lib.hid (hv.mono (Nat.zero_le _))
  obtain ⟨p2', m2', q2', p2, m2, q2, rfl, -, -, -, -⟩ := hv
  generalize decide ((0 : Rat).num < 0) = d2 at *
  clear hb
  go_wp2_with fail
  have hbx : Below w2.heap.size w2 (w2.alloc (.cells #[.bool d2, .slice p2' m2' q2', .slice p2 m2 q2] 28)) := ((Below.refl _ _).alloc (Nat.le_refl _) _)
  generalize hWW : (w2.alloc (.cells #[.bool d2, .slice p2' m2' q2', .slice p2 m2 q2] 28)) = w2a at *
  replace cA0 := bc hbx ltA cA0
  replace cA1 := bc hbx ltA cA1
  replace cA2 := bc hbx ltA cA2
  replace ltA := bl hbx ltA
  replace cB0 := bc hbx ltB cB0
  replace cB1 := bc hbx ltB cB1
  replace cB2 := bc hbx ltB cB2
  replace ltB := bl hbx ltB
  replace cb10 := bc hbx ltb1 cb10
  replace cb11 := bc hbx ltb1 cb11
  replace cb12 := bc hbx ltb1 cb12
  replace ltb1 := bl hbx ltb1
  replace HI := Lib.hid (HI.out.below hbx)
  replace HX := Lib.hid (HX.out.below hbx)
  replace HP := Lib.hid (HP.out.below hbx)
  replace HV1 := Lib.hid (HV1.out.below hbx)
  replace HV2 := Lib.hid (HV2.out.below hbx)
  have cb20 : w2a.cell? ⟨w2.heap.size, 0, none⟩ = some (.bool d2) := by subst hWW; go_simp
  have cb21 : w2a.cell? ⟨w2.heap.size, 1, none⟩ = some (.slice p2' m2' q2') := by subst hWW; go_simp
  have cb22 : w2a.cell? ⟨w2.heap.size, 2, none⟩ = some (.slice p2 m2 q2) := by subst hWW; go_simp
  have ltb2 : w2.heap.size < w2a.heap.size := by subst hWW; simp
  replace hB := hB.trans (hbx.mono hB.size)
  clear hbx hWW
  refine (einv_no f _ _ _ _ p L _ HI.out HP.out HNE.out).mono ?_
  rintro e w3 ⟨v3, rfl, hv, hb⟩
  replace cA0 := bc hb ltA cA0
  replace cA1 := bc hb ltA cA1
  replace cA2 := bc hb ltA cA2
  replace ltA := bl hb ltA
  replace cB0 := bc hb ltB cB0
  replace cB1 := bc hb ltB cB1
  replace cB2 := bc hb ltB cB2
  replace ltB := bl hb ltB
  replace cb10 := bc hb ltb1 cb10
  replace cb11 := bc hb ltb1 cb11
  replace cb12 := bc hb ltb1 cb12
  replace ltb1 := bl hb ltb1
  replace cb20 := bc hb ltb2 cb20
  replace cb21 := bc hb ltb2 cb21
  replace cb22 := bc hb ltb2 cb22
  replace ltb2 := bl hb ltb2
  replace HI := Lib.hid (HI.out.below hb)
  replace HX := Lib.hid (HX.out.below hb)
  replace HP := Lib.hid (HP.out.below hb)
  replace HV1 := Lib.hid (HV1.out.below hb)
  replace HV2 := Lib.hid (HV2.out.below hb)
  replace hB := hB.trans (hb.mono hB.size)
  rw [HEF.out]
  have HV3 := Lib.hid (hv.mono (Nat.zero_le _))
  obtain ⟨p3', m3', q3', p3, m3, q3, rfl, -, -, -, -⟩ := hv
  generalize decide ((0 : Rat).num < 0) = d3 at *
  clear hb
  go_wp2_with fail
  have hbx : Below w3.heap.size w3 (w3.alloc (.cells #[.bool d3, .slice p3' m3' q3', .slice p3 m3 q3] 28)) := ((Below.refl _ _).alloc (Nat.le_refl _) _)
  generalize hWW : (w3.alloc (.cells #[.bool d3, .slice p3' m3' q3', .slice p3 m3 q3] 28)) = w3a at *
  replace cA0 := bc hbx ltA cA0
  replace cA1 := bc hbx ltA cA1
  replace cA2 := bc hbx ltA cA2
  replace ltA := bl hbx ltA
  replace cB0 := bc hbx ltB cB0
  replace cB1 := bc hbx ltB cB1
  replace cB2 := bc hbx ltB cB2
  replace ltB := bl hbx ltB
  replace cb10 := bc hbx ltb1 cb10
  replace cb11 := bc hbx ltb1 cb11
  replace cb12 := bc hbx ltb1 cb12
  replace ltb1 := bl hbx ltb1
  replace cb20 := bc hbx ltb2 cb20
  replace cb21 := bc hbx ltb2 cb21
  replace cb22 := bc hbx ltb2 cb22
  replace ltb2 := bl hbx ltb2
  replace HI := Lib.hid (HI.out.below hbx)
  replace HX := Lib.hid (HX.out.below hbx)
  replace HP := Lib.hid (HP.out.below hbx)
  replace HV1 := Lib.hid (HV1.out.below hbx)
  replace HV2 := Lib.hid (HV2.out.below hbx)
  replace HV3 := Lib.hid (HV3.out.below hbx)
  have cb30 : w3a.cell? ⟨w3.heap.size, 0, none⟩ = some (.bool d3) := by subst hWW; go_simp
  have cb31 : w3a.cell? ⟨w3.heap.size, 1, none⟩ = some (.slice p3' m3' q3') := by subst hWW; go_simp
  have cb32 : w3a.cell? ⟨w3.heap.size, 2, none⟩ = some (.slice p3 m3 q3) := by subst hWW; go_simp
  have ltb3 : w3.heap.size < w3a.heap.size := by subst hWW; simp
  replace hB := hB.trans (hbx.mono hB.size)
  clear hbx hWW
  refine (rinv_no f _ _ _ _ p L _ HI.out HP.out HNE.out).mono ?_
  rintro e w4 ⟨v4, rfl, hv, hb⟩
  replace cA0 := bc hb ltA cA0
  replace cA1 := bc hb ltA cA1
  replace cA2 := bc hb ltA cA2
  replace ltA := bl hb ltA
  replace cB0 := bc hb ltB cB0
  replace cB1 := bc hb ltB cB1
  replace cB2 := bc hb ltB cB2
  replace ltB := bl hb ltB
  replace cb10 := bc hb ltb1 cb10
  replace cb11 := bc hb ltb1 cb11
  replace cb12 := bc hb ltb1 cb12
  replace ltb1 := bl hb ltb1
  replace cb20 := bc hb ltb2 cb20
  replace cb21 := bc hb ltb2 cb21
  replace cb22 := bc hb ltb2 cb22
  replace ltb2 := bl hb ltb2
  replace cb30 := bc hb ltb3 cb30
  replace cb31 := bc hb ltb3 cb31
  replace cb32 := bc hb ltb3 cb32
  replace ltb3 := bl hb ltb3
  replace HI := Lib.hid (HI.out.below hb)
  replace HX := Lib.hid (HX.out.below hb)
  replace HP := Lib.hid (HP.out.below hb)
  replace HV1 := Lib.hid (HV1.out.below hb)
  replace HV2 := Lib.hid (HV2.out.below hb)
  replace HV3 := Lib.hid (HV3.out.below hb)
  replace hB := hB.trans (hb.mono hB.size)
  rw [HEF.out]
  have HV4 := Lib.hid (hv.mono (Nat.zero_le _))
  obtain ⟨p4', m4', q4', p4, m4, q4, rfl, -, -, -, -⟩ := hv
  generalize decide ((0 : Rat).num < 0) = d4 at *
  clear hb
  go_wp2_with fail
  have hbx : Below w4.heap.size w4 (w4.alloc (.cells #[.bool d4, .slice p4' m4' q4', .slice p4 m4 q4] 28)) := ((Below.refl _ _).alloc (Nat.le_refl _) _)
  generalize hWW : (w4.alloc (.cells #[.bool d4, .slice p4' m4' q4', .slice p4 m4 q4] 28)) = w4a at *
  replace cA0 := bc hbx ltA cA0
  replace cA1 := bc hbx ltA cA1
  replace cA2 := bc hbx ltA cA2
  replace ltA := bl hbx ltA
  replace cB0 := bc hbx ltB cB0
  replace cB1 := bc hbx ltB cB1
  replace cB2 := bc hbx ltB cB2
  replace ltB := bl hbx ltB
  replace cb10 := bc hbx ltb1 cb10
  replace cb11 := bc hbx ltb1 cb11
  replace cb12 := bc hbx ltb1 cb12
  replace ltb1 := bl hbx ltb1
  replace cb20 := bc hbx ltb2 cb20
  replace cb21 := bc hbx ltb2 cb21
  replace cb22 := bc hbx ltb2 cb22
  replace ltb2 := bl hbx ltb2
  replace cb30 := bc hbx ltb3 cb30
  replace cb31 := bc hbx ltb3 cb31
  replace cb32 := bc hbx ltb3 cb32
  replace ltb3 := bl hbx ltb3
  replace HI := Lib.hid (HI.out.below hbx)
  replace HX := Lib.hid (HX.out.below hbx)
  replace HP := Lib.hid (HP.out.below hbx)
  replace HV1 := Lib.hid (HV1.out.below hbx)
  replace HV2 := Lib.hid (HV2.out.below hbx)
  replace HV3 := Lib.hid (HV3.out.below hbx)
  replace HV4 := Lib.hid (HV4.out.below hbx)
  have cb40 : w4a.cell? ⟨w4.heap.size, 0, none⟩ = some (.bool d4) := by subst hWW; go_simp
  have cb41 : w4a.cell? ⟨w4.heap.size, 1, none⟩ = some (.slice p4' m4' q4') := by subst hWW; go_simp
  have cb42 : w4a.cell? ⟨w4.heap.size, 2, none⟩ = some (.slice p4 m4 q4) := by subst hWW; go_simp
  have ltb4 : w4.heap.size < w4a.heap.size := by subst hWW; simp
  replace hB := hB.trans (hbx.mono hB.size)
  clear hbx hWW
  refine (evalid_b f _ _ _ _ HI.out).mono ?_
  rintro e w5 ⟨rfl, hb⟩
  replace cA0 := bc hb ltA cA0
  replace cA1 := bc hb ltA cA1
  replace cA2 := bc hb ltA cA2
  replace ltA := bl hb ltA
  replace cB0 := bc hb ltB cB0
  replace cB1 := bc hb ltB cB1
  replace cB2 := bc hb ltB cB2
  replace ltB := bl hb ltB
  replace cb10 := bc hb ltb1 cb10
  replace cb11 := bc hb ltb1 cb11
  replace cb12 := bc hb ltb1 cb12
  replace ltb1 := bl hb ltb1
  replace cb20 := bc hb ltb2 cb20
  replace cb21 := bc hb ltb2 cb21
  replace cb22 := bc hb ltb2 cb22
  replace ltb2 := bl hb ltb2
  replace cb30 := bc hb ltb3 cb30
  replace cb31 := bc hb ltb3 cb31
  replace cb32 := bc hb ltb3 cb32
  replace ltb3 := bl hb ltb3
  replace cb40 := bc hb ltb4 cb40
  replace cb41 := bc hb ltb4 cb41
  replace cb42 := bc hb ltb4 cb42
  replace ltb4 := bl hb ltb4
  replace HI := Lib.hid (HI.out.below hb)
  replace HX := Lib.hid (HX.out.below hb)
  replace HP := Lib.hid (HP.out.below hb)
  replace HV1 := Lib.hid (HV1.out.below hb)
  replace HV2 := Lib.hid (HV2.out.below hb)
  replace HV3 := Lib.hid (HV3.out.below hb)
  replace HV4 := Lib.hid (HV4.out.below hb)
  replace hB := hB.trans (hb.mono hB.size)
  rw [HEF.out]
  clear hb
  go_wp2_with fail
  refine (rvalid46_any f _ _ _ _ HI.out).mono ?_
  rintro e w6 ⟨rfl, hb⟩
  replace cA0 := bc hb ltA cA0
  replace cA1 := bc hb ltA cA1
  replace cA2 := bc hb ltA cA2
  replace ltA := bl hb ltA
  replace cB0 := bc hb ltB cB0
  replace cB1 := bc hb ltB cB1
  replace cB2 := bc hb ltB cB2
  replace ltB := bl hb ltB
  replace cb10 := bc hb ltb1 cb10
  replace cb11 := bc hb ltb1 cb11
  replace cb12 := bc hb ltb1 cb12
  replace ltb1 := bl hb ltb1
  replace cb20 := bc hb ltb2 cb20
  replace cb21 := bc hb ltb2 cb21
  replace cb22 := bc hb ltb2 cb22
  replace ltb2 := bl hb ltb2
  replace cb30 := bc hb ltb3 cb30
  replace cb31 := bc hb ltb3 cb31
  replace cb32 := bc hb ltb3 cb32
  replace ltb3 := bl hb ltb3
  replace cb40 := bc hb ltb4 cb40
  replace cb41 := bc hb ltb4 cb41
  replace cb42 := bc hb ltb4 cb42
  replace ltb4 := bl hb ltb4
  replace HI := Lib.hid (HI.out.below hb)
  replace HX := Lib.hid (HX.out.below hb)
  replace HP := Lib.hid (HP.out.below hb)
  replace HV1 := Lib.hid (HV1.out.below hb)
  replace HV2 := Lib.hid (HV2.out.below hb)
  replace HV3 := Lib.hid (HV3.out.below hb)
  replace HV4 := Lib.hid (HV4.out.below hb)
  replace hB := hB.trans (hb.mono hB.size)
  rw [HEF.out]
  clear hb
  go_wp2_with fail
  refine (equal_any _ _ _ _ _ _ HV1.out HV2.out).mono ?_
  rintro e w7 ⟨rfl, hb⟩
  replace cA0 := bc hb ltA cA0
  replace cA1 := bc hb ltA cA1
  replace cA2 := bc hb ltA cA2
  replace ltA := bl hb ltA
  replace cB0 := bc hb ltB cB0
  replace cB1 := bc hb ltB cB1
  replace cB2 := bc hb ltB cB2
  replace ltB := bl hb ltB
  replace cb10 := bc hb ltb1 cb10
  replace cb11 := bc hb ltb1 cb11
  replace cb12 := bc hb ltb1 cb12
  replace ltb1 := bl hb ltb1
  replace cb20 := bc hb ltb2 cb20
  replace cb21 := bc hb ltb2 cb21
  replace cb22 := bc hb ltb2 cb22
  replace ltb2 := bl hb ltb2
  replace cb30 := bc hb ltb3 cb30
  replace cb31 := bc hb ltb3 cb31
  replace cb32 := bc hb ltb3 cb32
  replace ltb3 := bl hb ltb3
  replace cb40 := bc hb ltb4 cb40
  replace cb41 := bc hb ltb4 cb41
  replace cb42 := bc hb ltb4 cb42
  replace ltb4 := bl hb ltb4
  replace HI := Lib.hid (HI.out.below hb)
  replace HX := Lib.hid (HX.out.below hb)
  replace HP := Lib.hid (HP.out.below hb)
  replace HV1 := Lib.hid (HV1.out.below hb)
  replace HV2 := Lib.hid (HV2.out.below hb)
  replace HV3 := Lib.hid (HV3.out.below hb)
  replace HV4 := Lib.hid (HV4.out.below hb)
  replace hB := hB.trans (hb.mono hB.size)
  clear hb
  go_wp2_with fail
  refine (equal_any _ _ _ _ _ _ HV3.out HV4.out).mono ?_
  rintro e w8 ⟨rfl, hb⟩
  replace cA0 := bc hb ltA cA0
  replace cA1 := bc hb ltA cA1
  replace cA2 := bc hb ltA cA2
  replace ltA := bl hb ltA
  replace cB0 := bc hb ltB cB0
  replace cB1 := bc hb ltB cB1
  replace cB2 := bc hb ltB cB2
  replace ltB := bl hb ltB
  replace cb10 := bc hb ltb1 cb10
  replace cb11 := bc hb ltb1 cb11
  replace cb12 := bc hb ltb1 cb12
  replace ltb1 := bl hb ltb1
  replace cb20 := bc hb ltb2 cb20
  replace cb21 := bc hb ltb2 cb21
  replace cb22 := bc hb ltb2 cb22
  replace ltb2 := bl hb ltb2
  replace cb30 := bc hb ltb3 cb30
  replace cb31 := bc hb ltb3 cb31
  replace cb32 := bc hb ltb3 cb32
  replace ltb3 := bl hb ltb3
  replace cb40 := bc hb ltb4 cb40
  replace cb41 := bc hb ltb4 cb41
  replace cb42 := bc hb ltb4 cb42
  replace ltb4 := bl hb ltb4
  replace HI := Lib.hid (HI.out.below hb)
  replace HX := Lib.hid (HX.out.below hb)
  replace HP := Lib.hid (HP.out.below hb)
  replace HV1 := Lib.hid (HV1.out.below hb)
  replace HV2 := Lib.hid (HV2.out.below hb)
  replace HV3 := Lib.hid (HV3.out.below hb)
  replace HV4 := Lib.hid (HV4.out.below hb)
  replace hB := hB.trans (hb.mono hB.size)
  clear hb
  go_wp2_with fail
  refine (awake_any _).mono ?_
  rintro e w9 ⟨rfl, hb⟩
  replace cA0 := bc hb ltA cA0
  replace cA1 := bc hb ltA cA1
  replace cA2 := bc hb ltA cA2
  replace ltA := bl hb ltA
  replace cB0 := bc hb ltB cB0
  replace cB1 := bc hb ltB cB1
  replace cB2 := bc hb ltB cB2
  replace ltB := bl hb ltB
  replace cb10 := bc hb ltb1 cb10
  replace cb11 := bc hb ltb1 cb11
  replace cb12 := bc hb ltb1 cb12
  replace ltb1 := bl hb ltb1
  replace cb20 := bc hb ltb2 cb20
  replace cb21 := bc hb ltb2 cb21
  replace cb22 := bc hb ltb2 cb22
  replace ltb2 := bl hb ltb2
  replace cb30 := bc hb ltb3 cb30
  replace cb31 := bc hb ltb3 cb31
  replace cb32 := bc hb ltb3 cb32
  replace ltb3 := bl hb ltb3
  replace cb40 := bc hb ltb4 cb40
  replace cb41 := bc hb ltb4 cb41
  replace cb42 := bc hb ltb4 cb42
  replace ltb4 := bl hb ltb4
  replace HI := Lib.hid (HI.out.below hb)
  replace HX := Lib.hid (HX.out.below hb)
  replace HP := Lib.hid (HP.out.below hb)
  replace HV1 := Lib.hid (HV1.out.below hb)
  replace HV2 := Lib.hid (HV2.out.below hb)
  replace HV3 := Lib.hid (HV3.out.below hb)
  replace HV4 := Lib.hid (HV4.out.below hb)
  replace hB := hB.trans (hb.mono hB.size)
  clear hb
  go_wp2_with fail
  go_ret
  exact ⟨rfl, hB⟩
set_option maxHeartbeats 8000000 in
theorem ranks_i (f : List Int) (a : Option Addr) (len cap : Nat) (vx vp : Value) (x p : Rat) (L : Nat) (w : World) (hI : Ints w a len cap f) (hx : RatV w vx x L) (hp : RatV w vp p L) (hL : 1 ≤ L) (hm : (2 * L + 200) * 4 ≤ 140737488355328) (hO : OkF f) (hp0 : 0 ≤ p) (hp1 : p ≤ 1) :
    Calls Tryz.prog 3 #[.slice a len cap, vx, vp] w fun e w' => e = .returned (.bool true) ∧ Below w.heap.size w w' := by
  have HI := Lib.hid hI
  have HX := Lib.hid hx
  have HP := Lib.hid hp
  obtain ⟨negx, ax', lenx', capx', ax, lenx, capx, rfl, -, -⟩ := hx.form
  obtain ⟨negp, ap', lenp', capp', ap, lenp, capp, rfl, -, -⟩ := hp.form
  clear hI hx hp
  have HF := Lib.hid hO
  have HEF := Lib.hid (eqE_OkF.2 hO)
  have HIn := Lib.hid (And.intro hp0 hp1)
  clear hO hp0 hp1
  go_enter Tryz.func3, Tryz.ntmps3
  go_wp2_with fail
  have hbx : Below w.heap.size w ((w.alloc (.cells #[.bool negx, .slice ax' lenx' capx', .slice ax lenx capx] 28)).alloc (.cells #[.bool negp, .slice ap' lenp' capp', .slice ap lenp capp] 28)) := (((Below.refl _ _).alloc (Nat.le_refl _) _).alloc (by simp) _)
  generalize hWW : ((w.alloc (.cells #[.bool negx, .slice ax' lenx' capx', .slice ax lenx capx] 28)).alloc (.cells #[.bool negp, .slice ap' lenp' capp', .slice ap lenp capp] 28)) = w0 at *
  replace HI := Lib.hid (HI.out.below hbx)
  replace HX := Lib.hid (HX.out.below hbx)
  replace HP := Lib.hid (HP.out.below hbx)
  have cA0 : w0.cell? ⟨w.heap.size, 0, none⟩ = some (.bool negx) := by subst hWW; go_simp
  have cA1 : w0.cell? ⟨w.heap.size, 1, none⟩ = some (.slice ax' lenx' capx') := by subst hWW; go_simp
  have cA2 : w0.cell? ⟨w.heap.size, 2, none⟩ = some (.slice ax lenx capx) := by subst hWW; go_simp
  have ltA : w.heap.size < w0.heap.size := by subst hWW; simp <;> omega
  have cB0 : w0.cell? ⟨w.heap.size + 1, 0, none⟩ = some (.bool negp) := by subst hWW; go_simp
  have cB1 : w0.cell? ⟨w.heap.size + 1, 1, none⟩ = some (.slice ap' lenp' capp') := by subst hWW; go_simp
  have cB2 : w0.cell? ⟨w.heap.size + 1, 2, none⟩ = some (.slice ap lenp capp) := by subst hWW; go_simp
  have ltB : w.heap.size + 1 < w0.heap.size := by subst hWW; simp
  have hB := hbx
  clear hbx hWW
  refine (erank_any f _ _ _ _ x L _ HI.out HX.out hL (by omega) HF.out).mono ?_
  rintro e w1 ⟨v1, rfl, hv, hsz, hb⟩
  replace cA0 := bc hb ltA cA0
  replace cA1 := bc hb ltA cA1
  replace cA2 := bc hb ltA cA2
  replace ltA := bl hb ltA
  replace cB0 := bc hb ltB cB0
  replace cB1 := bc hb ltB cB1
  replace cB2 := bc hb ltB cB2
  replace ltB := bl hb ltB
  replace HI := Lib.hid (HI.out.below hb)
  replace HX := Lib.hid (HX.out.below hb)
  replace HP := Lib.hid (HP.out.below hb)
  replace hB := hB.trans (hb.mono hB.size)
  have HV1 := Lib.hid (hv.mono (Nat.zero_le _))
  obtain ⟨p1', m1', q1', p1, m1, q1, rfl, -, -, -, -⟩ := hv
  generalize decide ((rankR f x : Rat).num < 0) = d1 at *
  clear hsz
  clear hb
  go_wp2_with fail
  have hbx : Below w1.heap.size w1 (w1.alloc (.cells #[.bool d1, .slice p1' m1' q1', .slice p1 m1 q1] 28)) := ((Below.refl _ _).alloc (Nat.le_refl _) _)
  generalize hWW : (w1.alloc (.cells #[.bool d1, .slice p1' m1' q1', .slice p1 m1 q1] 28)) = w1a at *
  replace cA0 := bc hbx ltA cA0
  replace cA1 := bc hbx ltA cA1
  replace cA2 := bc hbx ltA cA2
  replace ltA := bl hbx ltA
  replace cB0 := bc hbx ltB cB0
  replace cB1 := bc hbx ltB cB1
  replace cB2 := bc hbx ltB cB2
  replace ltB := bl hbx ltB
  replace HI := Lib.hid (HI.out.below hbx)
  replace HX := Lib.hid (HX.out.below hbx)
  replace HP := Lib.hid (HP.out.below hbx)
  replace HV1 := Lib.hid (HV1.out.below hbx)
  have cb10 : w1a.cell? ⟨w1.heap.size, 0, none⟩ = some (.bool d1) := by subst hWW; go_simp
  have cb11 : w1a.cell? ⟨w1.heap.size, 1, none⟩ = some (.slice p1' m1' q1') := by subst hWW; go_simp
  have cb12 : w1a.cell? ⟨w1.heap.size, 2, none⟩ = some (.slice p1 m1 q1) := by subst hWW; go_simp
  have ltb1 : w1.heap.size < w1a.heap.size := by subst hWW; simp
  replace hB := hB.trans (hbx.mono hB.size)
  clear hbx hWW
  refine (rrank_any f _ _ _ _ x L _ HI.out HX.out hL (by omega) HF.out).mono ?_
  rintro e w2 ⟨v2, rfl, hv, hsz, hb⟩
  replace cA0 := bc hb ltA cA0
  replace cA1 := bc hb ltA cA1
  replace cA2 := bc hb ltA cA2
  replace ltA := bl hb ltA
  replace cB0 := bc hb ltB cB0
  replace cB1 := bc hb ltB cB1
  replace cB2 := bc hb ltB cB2
  replace ltB := bl hb ltB
  replace cb10 := bc hb ltb1 cb10
  replace cb11 := bc hb ltb1 cb11
  replace cb12 := bc hb ltb1 cb12
  replace ltb1 := bl hb ltb1
  replace HI := Lib.hid (HI.out.below hb)
  replace HX := Lib.hid (HX.out.below hb)
  replace HP := Lib.hid (HP.out.below hb)
  replace HV1 := Lib.hid (HV1.out.below hb)
  replace hB := hB.trans (hb.mono hB.size)
  have HV2 := Lib.hid (hv.mono (Nat.zero_le _))
  obtain ⟨p2', m2', q2', p2, m2, q2, rfl, -, -, -, -⟩ := hv
  generalize decide ((rankR f x : Rat).num < 0) = d2 at *
  clear hsz
  clear hb
  go_wp2_with fail
  have hbx : Below w2.heap.size w2 (w2.alloc (.cells #[.bool d2, .slice p2' m2' q2', .slice p2 m2 q2] 28)) := ((Below.refl _ _).alloc (Nat.le_refl _) _)
  generalize hWW : (w2.alloc (.cells #[.bool d2, .slice p2' m2' q2', .slice p2 m2 q2] 28)) = w2a at *
  replace cA0 := bc hbx ltA cA0
  replace cA1 := bc hbx ltA cA1
  replace cA2 := bc hbx ltA cA2
  replace ltA := bl hbx ltA
  replace cB0 := bc hbx ltB cB0
  replace cB1 := bc hbx ltB cB1
  replace cB2 := bc hbx ltB cB2
  replace ltB := bl hbx ltB
  replace cb10 := bc hbx ltb1 cb10
  replace cb11 := bc hbx ltb1 cb11
  replace cb12 := bc hbx ltb1 cb12
  replace ltb1 := bl hbx ltb1
  replace HI := Lib.hid (HI.out.below hbx)
  replace HX := Lib.hid (HX.out.below hbx)
  replace HP := Lib.hid (HP.out.below hbx)
  replace HV1 := Lib.hid (HV1.out.below hbx)
  replace HV2 := Lib.hid (HV2.out.below hbx)
  have cb20 : w2a.cell? ⟨w2.heap.size, 0, none⟩ = some (.bool d2) := by subst hWW; go_simp
  have cb21 : w2a.cell? ⟨w2.heap.size, 1, none⟩ = some (.slice p2' m2' q2') := by subst hWW; go_simp
  have cb22 : w2a.cell? ⟨w2.heap.size, 2, none⟩ = some (.slice p2 m2 q2) := by subst hWW; go_simp
  have ltb2 : w2.heap.size < w2a.heap.size := by subst hWW; simp
  replace hB := hB.trans (hbx.mono hB.size)
  clear hbx hWW
  refine (einv_any f _ _ _ _ p L _ HI.out HP.out hL (by omega) HF.out HIn.out.1 HIn.out.2).mono ?_
  rintro e w3 ⟨v3, rfl, hv, hsz, hb⟩
  replace cA0 := bc hb ltA cA0
  replace cA1 := bc hb ltA cA1
  replace cA2 := bc hb ltA cA2
  replace ltA := bl hb ltA
  replace cB0 := bc hb ltB cB0
  replace cB1 := bc hb ltB cB1
  replace cB2 := bc hb ltB cB2
  replace ltB := bl hb ltB
  replace cb10 := bc hb ltb1 cb10
  replace cb11 := bc hb ltb1 cb11
  replace cb12 := bc hb ltb1 cb12
  replace ltb1 := bl hb ltb1
  replace cb20 := bc hb ltb2 cb20
  replace cb21 := bc hb ltb2 cb21
  replace cb22 := bc hb ltb2 cb22
  replace ltb2 := bl hb ltb2
  replace HI := Lib.hid (HI.out.below hb)
  replace HX := Lib.hid (HX.out.below hb)
  replace HP := Lib.hid (HP.out.below hb)
  replace HV1 := Lib.hid (HV1.out.below hb)
  replace HV2 := Lib.hid (HV2.out.below hb)
  replace hB := hB.trans (hb.mono hB.size)
  have HV3 := Lib.hid (hv.mono (Nat.zero_le _))
  obtain ⟨p3', m3', q3', p3, m3, q3, rfl, -, -, -, -⟩ := hv
  generalize decide ((invR f (p * (f.sum : Rat)) : Rat).num < 0) = d3 at *
  clear hsz
  clear hb
  go_wp2_with fail
  have hbx : Below w3.heap.size w3 (w3.alloc (.cells #[.bool d3, .slice p3' m3' q3', .slice p3 m3 q3] 28)) := ((Below.refl _ _).alloc (Nat.le_refl _) _)
  generalize hWW : (w3.alloc (.cells #[.bool d3, .slice p3' m3' q3', .slice p3 m3 q3] 28)) = w3a at *
  replace cA0 := bc hbx ltA cA0
  replace cA1 := bc hbx ltA cA1
  replace cA2 := bc hbx ltA cA2
  replace ltA := bl hbx ltA
  replace cB0 := bc hbx ltB cB0
  replace cB1 := bc hbx ltB cB1
  replace cB2 := bc hbx ltB cB2
  replace ltB := bl hbx ltB
  replace cb10 := bc hbx ltb1 cb10
  replace cb11 := bc hbx ltb1 cb11
  replace cb12 := bc hbx ltb1 cb12
  replace ltb1 := bl hbx ltb1
  replace cb20 := bc hbx ltb2 cb20
  replace cb21 := bc hbx ltb2 cb21
  replace cb22 := bc hbx ltb2 cb22
  replace ltb2 := bl hbx ltb2
  replace HI := Lib.hid (HI.out.below hbx)
  replace HX := Lib.hid (HX.out.below hbx)
  replace HP := Lib.hid (HP.out.below hbx)
  replace HV1 := Lib.hid (HV1.out.below hbx)
  replace HV2 := Lib.hid (HV2.out.below hbx)
  replace HV3 := Lib.hid (HV3.out.below hbx)
  have cb30 : w3a.cell? ⟨w3.heap.size, 0, none⟩ = some (.bool d3) := by subst hWW; go_simp
  have cb31 : w3a.cell? ⟨w3.heap.size, 1, none⟩ = some (.slice p3' m3' q3') := by subst hWW; go_simp
  have cb32 : w3a.cell? ⟨w3.heap.size, 2, none⟩ = some (.slice p3 m3 q3) := by subst hWW; go_simp
  have ltb3 : w3.heap.size < w3a.heap.size := by subst hWW; simp
  replace hB := hB.trans (hbx.mono hB.size)
  clear hbx hWW
  refine (rinv_any f _ _ _ _ p L _ HI.out HP.out hL (by omega) HF.out HIn.out.1 HIn.out.2).mono ?_
  rintro e w4 ⟨v4, rfl, hv, hsz, hb⟩
  replace cA0 := bc hb ltA cA0
  replace cA1 := bc hb ltA cA1
  replace cA2 := bc hb ltA cA2
  replace ltA := bl hb ltA
  replace cB0 := bc hb ltB cB0
  replace cB1 := bc hb ltB cB1
  replace cB2 := bc hb ltB cB2
  replace ltB := bl hb ltB
  replace cb10 := bc hb ltb1 cb10
  replace cb11 := bc hb ltb1 cb11
  replace cb12 := bc hb ltb1 cb12
  replace ltb1 := bl hb ltb1
  replace cb20 := bc hb ltb2 cb20
  replace cb21 := bc hb ltb2 cb21
  replace cb22 := bc hb ltb2 cb22
  replace ltb2 := bl hb ltb2
  replace cb30 := bc hb ltb3 cb30
  replace cb31 := bc hb ltb3 cb31
  replace cb32 := bc hb ltb3 cb32
  replace ltb3 := bl hb ltb3
  replace HI := Lib.hid (HI.out.below hb)
  replace HX := Lib.hid (HX.out.below hb)
  replace HP := Lib.hid (HP.out.below hb)
  replace HV1 := Lib.hid (HV1.out.below hb)
  replace HV2 := Lib.hid (HV2.out.below hb)
  replace HV3 := Lib.hid (HV3.out.below hb)
  replace hB := hB.trans (hb.mono hB.size)
  have HV4 := Lib.hid (hv.mono (Nat.zero_le _))
  obtain ⟨p4', m4', q4', p4, m4, q4, rfl, -, -, -, -⟩ := hv
  generalize decide ((invR f (p * (f.sum : Rat)) : Rat).num < 0) = d4 at *
  clear hsz
  clear hb
  go_wp2_with fail
  have hbx : Below w4.heap.size w4 (w4.alloc (.cells #[.bool d4, .slice p4' m4' q4', .slice p4 m4 q4] 28)) := ((Below.refl _ _).alloc (Nat.le_refl _) _)
  generalize hWW : (w4.alloc (.cells #[.bool d4, .slice p4' m4' q4', .slice p4 m4 q4] 28)) = w4a at *
  replace cA0 := bc hbx ltA cA0
  replace cA1 := bc hbx ltA cA1
  replace cA2 := bc hbx ltA cA2
  replace ltA := bl hbx ltA
  replace cB0 := bc hbx ltB cB0
  replace cB1 := bc hbx ltB cB1
  replace cB2 := bc hbx ltB cB2
  replace ltB := bl hbx ltB
  replace cb10 := bc hbx ltb1 cb10
  replace cb11 := bc hbx ltb1 cb11
  replace cb12 := bc hbx ltb1 cb12
  replace ltb1 := bl hbx ltb1
  replace cb20 := bc hbx ltb2 cb20
  replace cb21 := bc hbx ltb2 cb21
  replace cb22 := bc hbx ltb2 cb22
  replace ltb2 := bl hbx ltb2
  replace cb30 := bc hbx ltb3 cb30
  replace cb31 := bc hbx ltb3 cb31
  replace cb32 := bc hbx ltb3 cb32
  replace ltb3 := bl hbx ltb3
  replace HI := Lib.hid (HI.out.below hbx)
  replace HX := Lib.hid (HX.out.below hbx)
  replace HP := Lib.hid (HP.out.below hbx)
  replace HV1 := Lib.hid (HV1.out.below hbx)
  replace HV2 := Lib.hid (HV2.out.below hbx)
  replace HV3 := Lib.hid (HV3.out.below hbx)
  replace HV4 := Lib.hid (HV4.out.below hbx)
  have cb40 : w4a.cell? ⟨w4.heap.size, 0, none⟩ = some (.bool d4) := by subst hWW; go_simp
  have cb41 : w4a.cell? ⟨w4.heap.size, 1, none⟩ = some (.slice p4' m4' q4') := by subst hWW; go_simp
  have cb42 : w4a.cell? ⟨w4.heap.size, 2, none⟩ = some (.slice p4 m4 q4) := by subst hWW; go_simp
  have ltb4 : w4.heap.size < w4a.heap.size := by subst hWW; simp
  replace hB := hB.trans (hbx.mono hB.size)
  clear hbx hWW
  refine (evalid_b f _ _ _ _ HI.out).mono ?_
  rintro e w5 ⟨rfl, hb⟩
  replace cA0 := bc hb ltA cA0
  replace cA1 := bc hb ltA cA1
  replace cA2 := bc hb ltA cA2
  replace ltA := bl hb ltA
  replace cB0 := bc hb ltB cB0
  replace cB1 := bc hb ltB cB1
  replace cB2 := bc hb ltB cB2
  replace ltB := bl hb ltB
  replace cb10 := bc hb ltb1 cb10
  replace cb11 := bc hb ltb1 cb11
  replace cb12 := bc hb ltb1 cb12
  replace ltb1 := bl hb ltb1
  replace cb20 := bc hb ltb2 cb20
  replace cb21 := bc hb ltb2 cb21
  replace cb22 := bc hb ltb2 cb22
  replace ltb2 := bl hb ltb2
  replace cb30 := bc hb ltb3 cb30
  replace cb31 := bc hb ltb3 cb31
  replace cb32 := bc hb ltb3 cb32
  replace ltb3 := bl hb ltb3
  replace cb40 := bc hb ltb4 cb40
  replace cb41 := bc hb ltb4 cb41
  replace cb42 := bc hb ltb4 cb42
  replace ltb4 := bl hb ltb4
  replace HI := Lib.hid (HI.out.below hb)
  replace HX := Lib.hid (HX.out.below hb)
  replace HP := Lib.hid (HP.out.below hb)
  replace HV1 := Lib.hid (HV1.out.below hb)
  replace HV2 := Lib.hid (HV2.out.below hb)
  replace HV3 := Lib.hid (HV3.out.below hb)
  replace HV4 := Lib.hid (HV4.out.below hb)
  replace hB := hB.trans (hb.mono hB.size)
  rw [HEF.out]
  clear hb
  go_wp2_with fail
  refine (rvalid46_any f _ _ _ _ HI.out).mono ?_
  rintro e w6 ⟨rfl, hb⟩
  replace cA0 := bc hb ltA cA0
  replace cA1 := bc hb ltA cA1
  replace cA2 := bc hb ltA cA2
  replace ltA := bl hb ltA
  replace cB0 := bc hb ltB cB0
  replace cB1 := bc hb ltB cB1
  replace cB2 := bc hb ltB cB2
  replace ltB := bl hb ltB
  replace cb10 := bc hb ltb1 cb10
  replace cb11 := bc hb ltb1 cb11
  replace cb12 := bc hb ltb1 cb12
  replace ltb1 := bl hb ltb1
  replace cb20 := bc hb ltb2 cb20
  replace cb21 := bc hb ltb2 cb21
  replace cb22 := bc hb ltb2 cb22
  replace ltb2 := bl hb ltb2
  replace cb30 := bc hb ltb3 cb30
  replace cb31 := bc hb ltb3 cb31
  replace cb32 := bc hb ltb3 cb32
  replace ltb3 := bl hb ltb3
  replace cb40 := bc hb ltb4 cb40
  replace cb41 := bc hb ltb4 cb41
  replace cb42 := bc hb ltb4 cb42
  replace ltb4 := bl hb ltb4
  replace HI := Lib.hid (HI.out.below hb)
  replace HX := Lib.hid (HX.out.below hb)
  replace HP := Lib.hid (HP.out.below hb)
  replace HV1 := Lib.hid (HV1.out.below hb)
  replace HV2 := Lib.hid (HV2.out.below hb)
  replace HV3 := Lib.hid (HV3.out.below hb)
  replace HV4 := Lib.hid (HV4.out.below hb)
  replace hB := hB.trans (hb.mono hB.size)
  rw [HEF.out]
  clear hb
  go_wp2_with fail
  refine (equal_any _ _ _ _ _ _ HV1.out HV2.out).mono ?_
  rintro e w7 ⟨rfl, hb⟩
  replace cA0 := bc hb ltA cA0
  replace cA1 := bc hb ltA cA1
  replace cA2 := bc hb ltA cA2
  replace ltA := bl hb ltA
  replace cB0 := bc hb ltB cB0
  replace cB1 := bc hb ltB cB1
  replace cB2 := bc hb ltB cB2
  replace ltB := bl hb ltB
  replace cb10 := bc hb ltb1 cb10
  replace cb11 := bc hb ltb1 cb11
  replace cb12 := bc hb ltb1 cb12
  replace ltb1 := bl hb ltb1
  replace cb20 := bc hb ltb2 cb20
  replace cb21 := bc hb ltb2 cb21
  replace cb22 := bc hb ltb2 cb22
  replace ltb2 := bl hb ltb2
  replace cb30 := bc hb ltb3 cb30
  replace cb31 := bc hb ltb3 cb31
  replace cb32 := bc hb ltb3 cb32
  replace ltb3 := bl hb ltb3
  replace cb40 := bc hb ltb4 cb40
  replace cb41 := bc hb ltb4 cb41
  replace cb42 := bc hb ltb4 cb42
  replace ltb4 := bl hb ltb4
  replace HI := Lib.hid (HI.out.below hb)
  replace HX := Lib.hid (HX.out.below hb)
  replace HP := Lib.hid (HP.out.below hb)
  replace HV1 := Lib.hid (HV1.out.below hb)
  replace HV2 := Lib.hid (HV2.out.below hb)
  replace HV3 := Lib.hid (HV3.out.below hb)
  replace HV4 := Lib.hid (HV4.out.below hb)
  replace hB := hB.trans (hb.mono hB.size)
  clear hb
  go_wp2_with fail
  refine (equal_any _ _ _ _ _ _ HV3.out HV4.out).mono ?_
  rintro e w8 ⟨rfl, hb⟩
  replace cA0 := bc hb ltA cA0
  replace cA1 := bc hb ltA cA1
  replace cA2 := bc hb ltA cA2
  replace ltA := bl hb ltA
  replace cB0 := bc hb ltB cB0
  replace cB1 := bc hb ltB cB1
  replace cB2 := bc hb ltB cB2
  replace ltB := bl hb ltB
  replace cb10 := bc hb ltb1 cb10
  replace cb11 := bc hb ltb1 cb11
  replace cb12 := bc hb ltb1 cb12
  replace ltb1 := bl hb ltb1
  replace cb20 := bc hb ltb2 cb20
  replace cb21 := bc hb ltb2 cb21
  replace cb22 := bc hb ltb2 cb22
  replace ltb2 := bl hb ltb2
  replace cb30 := bc hb ltb3 cb30
  replace cb31 := bc hb ltb3 cb31
  replace cb32 := bc hb ltb3 cb32
  replace ltb3 := bl hb ltb3
  replace cb40 := bc hb ltb4 cb40
  replace cb41 := bc hb ltb4 cb41
  replace cb42 := bc hb ltb4 cb42
  replace ltb4 := bl hb ltb4
  replace HI := Lib.hid (HI.out.below hb)
  replace HX := Lib.hid (HX.out.below hb)
  replace HP := Lib.hid (HP.out.below hb)
  replace HV1 := Lib.hid (HV1.out.below hb)
  replace HV2 := Lib.hid (HV2.out.below hb)
  replace HV3 := Lib.hid (HV3.out.below hb)
  replace HV4 := Lib.hid (HV4.out.below hb)
  replace hB := hB.trans (hb.mono hB.size)
  clear hb
  go_wp2_with fail
  refine (awake_any _).mono ?_
  rintro e w9 ⟨rfl, hb⟩
  replace cA0 := bc hb ltA cA0
  replace cA1 := bc hb ltA cA1
  replace cA2 := bc hb ltA cA2
  replace ltA := bl hb ltA
  replace cB0 := bc hb ltB cB0
  replace cB1 := bc hb ltB cB1
  replace cB2 := bc hb ltB cB2
  replace ltB := bl hb ltB
  replace cb10 := bc hb ltb1 cb10
  replace cb11 := bc hb ltb1 cb11
  replace cb12 := bc hb ltb1 cb12
  replace ltb1 := bl hb ltb1
  replace cb20 := bc hb ltb2 cb20
  replace cb21 := bc hb ltb2 cb21
  replace cb22 := bc hb ltb2 cb22
  replace ltb2 := bl hb ltb2
  replace cb30 := bc hb ltb3 cb30
  replace cb31 := bc hb ltb3 cb31
  replace cb32 := bc hb ltb3 cb32
  replace ltb3 := bl hb ltb3
  replace cb40 := bc hb ltb4 cb40
  replace cb41 := bc hb ltb4 cb41
  replace cb42 := bc hb ltb4 cb42
  replace ltb4 := bl hb ltb4
  replace HI := Lib.hid (HI.out.below hb)
  replace HX := Lib.hid (HX.out.below hb)
  replace HP := Lib.hid (HP.out.below hb)
  replace HV1 := Lib.hid (HV1.out.below hb)
  replace HV2 := Lib.hid (HV2.out.below hb)
  replace HV3 := Lib.hid (HV3.out.below hb)
  replace HV4 := Lib.hid (HV4.out.below hb)
  replace hB := hB.trans (hb.mono hB.size)
  clear hb
  go_wp2_with fail
  go_ret
  exact ⟨rfl, hB⟩
set_option maxHeartbeats 8000000 in
theorem ranks_o (f : List Int) (a : Option Addr) (len cap : Nat) (vx vp : Value) (x p : Rat) (L : Nat) (w : World) (hI : Ints w a len cap f) (hx : RatV w vx x L) (hp : RatV w vp p L) (hL : 1 ≤ L) (hm : (2 * L + 200) * 4 ≤ 140737488355328) (hO : OkF f) (hpo : ¬ (0 ≤ p ∧ p ≤ 1)) :
    Calls Tryz.prog 3 #[.slice a len cap, vx, vp] w fun e w' => e = .returned (.bool true) ∧ Below w.heap.size w w' := by
  have HI := Lib.hid hI
  have HX := Lib.hid hx
  have HP := Lib.hid hp
  obtain ⟨negx, ax', lenx', capx', ax, lenx, capx, rfl, -, -⟩ := hx.form
  obtain ⟨negp, ap', lenp', capp', ap, lenp, capp, rfl, -, -⟩ := hp.form
  clear hI hx hp
  have HF := Lib.hid hO
  have HEF := Lib.hid (eqE_OkF.2 hO)
  have HPo := Lib.hid hpo
  clear hO hpo
  go_enter Tryz.func3, Tryz.ntmps3
  go_wp2_with fail
  have hbx : Below w.heap.size w ((w.alloc (.cells #[.bool negx, .slice ax' lenx' capx', .slice ax lenx capx] 28)).alloc (.cells #[.bool negp, .slice ap' lenp' capp', .slice ap lenp capp] 28)) := (((Below.refl _ _).alloc (Nat.le_refl _) _).alloc (by simp) _)
  generalize hWW : ((w.alloc (.cells #[.bool negx, .slice ax' lenx' capx', .slice ax lenx capx] 28)).alloc (.cells #[.bool negp, .slice ap' lenp' capp', .slice ap lenp capp] 28)) = w0 at *
  replace HI := Lib.hid (HI.out.below hbx)
  replace HX := Lib.hid (HX.out.below hbx)
  replace HP := Lib.hid (HP.out.below hbx)
  have cA0 : w0.cell? ⟨w.heap.size, 0, none⟩ = some (.bool negx) := by subst hWW; go_simp
  have cA1 : w0.cell? ⟨w.heap.size, 1, none⟩ = some (.slice ax' lenx' capx') := by subst hWW; go_simp
  have cA2 : w0.cell? ⟨w.heap.size, 2, none⟩ = some (.slice ax lenx capx) := by subst hWW; go_simp
  have ltA : w.heap.size < w0.heap.size := by subst hWW; simp <;> omega
  have cB0 : w0.cell? ⟨w.heap.size + 1, 0, none⟩ = some (.bool negp) := by subst hWW; go_simp
  have cB1 : w0.cell? ⟨w.heap.size + 1, 1, none⟩ = some (.slice ap' lenp' capp') := by subst hWW; go_simp
  have cB2 : w0.cell? ⟨w.heap.size + 1, 2, none⟩ = some (.slice ap lenp capp) := by subst hWW; go_simp
  have ltB : w.heap.size + 1 < w0.heap.size := by subst hWW; simp
  have hB := hbx
  clear hbx hWW
  refine (erank_any f _ _ _ _ x L _ HI.out HX.out hL (by omega) HF.out).mono ?_
  rintro e w1 ⟨v1, rfl, hv, hsz, hb⟩
  replace cA0 := bc hb ltA cA0
  replace cA1 := bc hb ltA cA1
  replace cA2 := bc hb ltA cA2
  replace ltA := bl hb ltA
  replace cB0 := bc hb ltB cB0
  replace cB1 := bc hb ltB cB1
  replace cB2 := bc hb ltB cB2
  replace ltB := bl hb ltB
  replace HI := Lib.hid (HI.out.below hb)
  replace HX := Lib.hid (HX.out.below hb)
  replace HP := Lib.hid (HP.out.below hb)
  replace hB := hB.trans (hb.mono hB.size)
  have HV1 := Lib.hid (hv.mono (Nat.zero_le _))
  obtain ⟨p1', m1', q1', p1, m1, q1, rfl, -, -, -, -⟩ := hv
  generalize decide ((rankR f x : Rat).num < 0) = d1 at *
  clear hsz
  clear hb
  go_wp2_with fail
  have hbx : Below w1.heap.size w1 (w1.alloc (.cells #[.bool d1, .slice p1' m1' q1', .slice p1 m1 q1] 28)) := ((Below.refl _ _).alloc (Nat.le_refl _) _)
  generalize hWW : (w1.alloc (.cells #[.bool d1, .slice p1' m1' q1', .slice p1 m1 q1] 28)) = w1a at *
  replace cA0 := bc hbx ltA cA0
  replace cA1 := bc hbx ltA cA1
  replace cA2 := bc hbx ltA cA2
  replace ltA := bl hbx ltA
  replace cB0 := bc hbx ltB cB0
  replace cB1 := bc hbx ltB cB1
  replace cB2 := bc hbx ltB cB2
  replace ltB := bl hbx ltB
  replace HI := Lib.hid (HI.out.below hbx)
  replace HX := Lib.hid (HX.out.below hbx)
  replace HP := Lib.hid (HP.out.below hbx)
  replace HV1 := Lib.hid (HV1.out.below hbx)
  have cb10 : w1a.cell? ⟨w1.heap.size, 0, none⟩ = some (.bool d1) := by subst hWW; go_simp
  have cb11 : w1a.cell? ⟨w1.heap.size, 1, none⟩ = some (.slice p1' m1' q1') := by subst hWW; go_simp
  have cb12 : w1a.cell? ⟨w1.heap.size, 2, none⟩ = some (.slice p1 m1 q1) := by subst hWW; go_simp
  have ltb1 : w1.heap.size < w1a.heap.size := by subst hWW; simp
  replace hB := hB.trans (hbx.mono hB.size)
  clear hbx hWW
  refine (rrank_any f _ _ _ _ x L _ HI.out HX.out hL (by omega) HF.out).mono ?_
  rintro e w2 ⟨v2, rfl, hv, hsz, hb⟩
  replace cA0 := bc hb ltA cA0
  replace cA1 := bc hb ltA cA1
  replace cA2 := bc hb ltA cA2
  replace ltA := bl hb ltA
  replace cB0 := bc hb ltB cB0
  replace cB1 := bc hb ltB cB1
  replace cB2 := bc hb ltB cB2
  replace ltB := bl hb ltB
  replace cb10 := bc hb ltb1 cb10
  replace cb11 := bc hb ltb1 cb11
  replace cb12 := bc hb ltb1 cb12
  replace ltb1 := bl hb ltb1
  replace HI := Lib.hid (HI.out.below hb)
  replace HX := Lib.hid (HX.out.below hb)
  replace HP := Lib.hid (HP.out.below hb)
  replace HV1 := Lib.hid (HV1.out.below hb)
  replace hB := hB.trans (hb.mono hB.size)
  have HV2 := Lib.hid (hv.mono (Nat.zero_le _))
  obtain ⟨p2', m2', q2', p2, m2, q2, rfl, -, -, -, -⟩ := hv
  generalize decide ((rankR f x : Rat).num < 0) = d2 at *
  clear hsz
  clear hb
  go_wp2_with fail
  have hbx : Below w2.heap.size w2 (w2.alloc (.cells #[.bool d2, .slice p2' m2' q2', .slice p2 m2 q2] 28)) := ((Below.refl _ _).alloc (Nat.le_refl _) _)
  generalize hWW : (w2.alloc (.cells #[.bool d2, .slice p2' m2' q2', .slice p2 m2 q2] 28)) = w2a at *
  replace cA0 := bc hbx ltA cA0
  replace cA1 := bc hbx ltA cA1
  replace cA2 := bc hbx ltA cA2
  replace ltA := bl hbx ltA
  replace cB0 := bc hbx ltB cB0
  replace cB1 := bc hbx ltB cB1
  replace cB2 := bc hbx ltB cB2
  replace ltB := bl hbx ltB
  replace cb10 := bc hbx ltb1 cb10
  replace cb11 := bc hbx ltb1 cb11
  replace cb12 := bc hbx ltb1 cb12
  replace ltb1 := bl hbx ltb1
  replace HI := Lib.hid (HI.out.below hbx)
  replace HX := Lib.hid (HX.out.below hbx)
  replace HP := Lib.hid (HP.out.below hbx)
  replace HV1 := Lib.hid (HV1.out.below hbx)
  replace HV2 := Lib.hid (HV2.out.below hbx)
  have cb20 : w2a.cell? ⟨w2.heap.size, 0, none⟩ = some (.bool d2) := by subst hWW; go_simp
  have cb21 : w2a.cell? ⟨w2.heap.size, 1, none⟩ = some (.slice p2' m2' q2') := by subst hWW; go_simp
  have cb22 : w2a.cell? ⟨w2.heap.size, 2, none⟩ = some (.slice p2 m2 q2) := by subst hWW; go_simp
  have ltb2 : w2.heap.size < w2a.heap.size := by subst hWW; simp
  replace hB := hB.trans (hbx.mono hB.size)
  clear hbx hWW
  refine (einv_out f _ _ _ _ p L _ HI.out HP.out hL (by omega) HF.out HPo.out).mono ?_
  rintro e w3 ⟨v3, rfl, hv, hb⟩
  replace cA0 := bc hb ltA cA0
  replace cA1 := bc hb ltA cA1
  replace cA2 := bc hb ltA cA2
  replace ltA := bl hb ltA
  replace cB0 := bc hb ltB cB0
  replace cB1 := bc hb ltB cB1
  replace cB2 := bc hb ltB cB2
  replace ltB := bl hb ltB
  replace cb10 := bc hb ltb1 cb10
  replace cb11 := bc hb ltb1 cb11
  replace cb12 := bc hb ltb1 cb12
  replace ltb1 := bl hb ltb1
  replace cb20 := bc hb ltb2 cb20
  replace cb21 := bc hb ltb2 cb21
  replace cb22 := bc hb ltb2 cb22
  replace ltb2 := bl hb ltb2
  replace HI := Lib.hid (HI.out.below hb)
  replace HX := Lib.hid (HX.out.below hb)
  replace HP := Lib.hid (HP.out.below hb)
  replace HV1 := Lib.hid (HV1.out.below hb)
  replace HV2 := Lib.hid (HV2.out.below hb)
  replace hB := hB.trans (hb.mono hB.size)
  have HV3 := Lib.hid (hv.mono (Nat.zero_le _))
  obtain ⟨p3', m3', q3', p3, m3, q3, rfl, -, -, -, -⟩ := hv
  generalize decide ((0 : Rat).num < 0) = d3 at *
  clear hb
  go_wp2_with fail
  have hbx : Below w3.heap.size w3 (w3.alloc (.cells #[.bool d3, .slice p3' m3' q3', .slice p3 m3 q3] 28)) := ((Below.refl _ _).alloc (Nat.le_refl _) _)
  generalize hWW : (w3.alloc (.cells #[.bool d3, .slice p3' m3' q3', .slice p3 m3 q3] 28)) = w3a at *
  replace cA0 := bc hbx ltA cA0
  replace cA1 := bc hbx ltA cA1
  replace cA2 := bc hbx ltA cA2
  replace ltA := bl hbx ltA
  replace cB0 := bc hbx ltB cB0
  replace cB1 := bc hbx ltB cB1
  replace cB2 := bc hbx ltB cB2
  replace ltB := bl hbx ltB
  replace cb10 := bc hbx ltb1 cb10
  replace cb11 := bc hbx ltb1 cb11
  replace cb12 := bc hbx ltb1 cb12
  replace ltb1 := bl hbx ltb1
  replace cb20 := bc hbx ltb2 cb20
  replace cb21 := bc hbx ltb2 cb21
  replace cb22 := bc hbx ltb2 cb22
  replace ltb2 := bl hbx ltb2
  replace HI := Lib.hid (HI.out.below hbx)
  replace HX := Lib.hid (HX.out.below hbx)
  replace HP := Lib.hid (HP.out.below hbx)
  replace HV1 := Lib.hid (HV1.out.below hbx)
  replace HV2 := Lib.hid (HV2.out.below hbx)
  replace HV3 := Lib.hid (HV3.out.below hbx)
  have cb30 : w3a.cell? ⟨w3.heap.size, 0, none⟩ = some (.bool d3) := by subst hWW; go_simp
  have cb31 : w3a.cell? ⟨w3.heap.size, 1, none⟩ = some (.slice p3' m3' q3') := by subst hWW; go_simp
  have cb32 : w3a.cell? ⟨w3.heap.size, 2, none⟩ = some (.slice p3 m3 q3) := by subst hWW; go_simp
  have ltb3 : w3.heap.size < w3a.heap.size := by subst hWW; simp
  replace hB := hB.trans (hbx.mono hB.size)
  clear hbx hWW
  refine (rinv_out f _ _ _ _ p L _ HI.out HP.out hL (by omega) HF.out HPo.out).mono ?_
  rintro e w4 ⟨v4, rfl, hv, hb⟩
  replace cA0 := bc hb ltA cA0
  replace cA1 := bc hb ltA cA1
  replace cA2 := bc hb ltA cA2
  replace ltA := bl hb ltA
  replace cB0 := bc hb ltB cB0
  replace cB1 := bc hb ltB cB1
  replace cB2 := bc hb ltB cB2
  replace ltB := bl hb ltB
  replace cb10 := bc hb ltb1 cb10
  replace cb11 := bc hb ltb1 cb11
  replace cb12 := bc hb ltb1 cb12
  replace ltb1 := bl hb ltb1
  replace cb20 := bc hb ltb2 cb20
  replace cb21 := bc hb ltb2 cb21
  replace cb22 := bc hb ltb2 cb22
  replace ltb2 := bl hb ltb2
  replace cb30 := bc hb ltb3 cb30
  replace cb31 := bc hb ltb3 cb31
  replace cb32 := bc hb ltb3 cb32
  replace ltb3 := bl hb ltb3
  replace HI := Lib.hid (HI.out.below hb)
  replace HX := Lib.hid (HX.out.below hb)
  replace HP := Lib.hid (HP.out.below hb)
  replace HV1 := Lib.hid (HV1.out.below hb)
  replace HV2 := Lib.hid (HV2.out.below hb)
  replace HV3 := Lib.hid (HV3.out.below hb)
  replace hB := hB.trans (hb.mono hB.size)
  have HV4 := Lib.hid (hv.mono (Nat.zero_le _))
  obtain ⟨p4', m4', q4', p4, m4, q4, rfl, -, -, -, -⟩ := hv
  generalize decide ((0 : Rat).num < 0) = d4 at *
  clear hb
  go_wp2_with fail
  have hbx : Below w4.heap.size w4 (w4.alloc (.cells #[.bool d4, .slice p4' m4' q4', .slice p4 m4 q4] 28)) := ((Below.refl _ _).alloc (Nat.le_refl _) _)
  generalize hWW : (w4.alloc (.cells #[.bool d4, .slice p4' m4' q4', .slice p4 m4 q4] 28)) = w4a at *
  replace cA0 := bc hbx ltA cA0
  replace cA1 := bc hbx ltA cA1
  replace cA2 := bc hbx ltA cA2
  replace ltA := bl hbx ltA
  replace cB0 := bc hbx ltB cB0
  replace cB1 := bc hbx ltB cB1
  replace cB2 := bc hbx ltB cB2
  replace ltB := bl hbx ltB
  replace cb10 := bc hbx ltb1 cb10
  replace cb11 := bc hbx ltb1 cb11
  replace cb12 := bc hbx ltb1 cb12
  replace ltb1 := bl hbx ltb1
  replace cb20 := bc hbx ltb2 cb20
  replace cb21 := bc hbx ltb2 cb21
  replace cb22 := bc hbx ltb2 cb22
  replace ltb2 := bl hbx ltb2
  replace cb30 := bc hbx ltb3 cb30
  replace cb31 := bc hbx ltb3 cb31
  replace cb32 := bc hbx ltb3 cb32
  replace ltb3 := bl hbx ltb3
  replace HI := Lib.hid (HI.out.below hbx)
  replace HX := Lib.hid (HX.out.below hbx)
  replace HP := Lib.hid (HP.out.below hbx)
  replace HV1 := Lib.hid (HV1.out.below hbx)
  replace HV2 := Lib.hid (HV2.out.below hbx)
  replace HV3 := Lib.hid (HV3.out.below hbx)
  replace HV4 := Lib.hid (HV4.out.below hbx)
  have cb40 : w4a.cell? ⟨w4.heap.size, 0, none⟩ = some (.bool d4) := by subst hWW; go_simp
  have cb41 : w4a.cell? ⟨w4.heap.size, 1, none⟩ = some (.slice p4' m4' q4') := by subst hWW; go_simp
  have cb42 : w4a.cell? ⟨w4.heap.size, 2, none⟩ = some (.slice p4 m4 q4) := by subst hWW; go_simp
  have ltb4 : w4.heap.size < w4a.heap.size := by subst hWW; simp
  replace hB := hB.trans (hbx.mono hB.size)
  clear hbx hWW
  refine (evalid_b f _ _ _ _ HI.out).mono ?_
  rintro e w5 ⟨rfl, hb⟩
  replace cA0 := bc hb ltA cA0
  replace cA1 := bc hb ltA cA1
  replace cA2 := bc hb ltA cA2
  replace ltA := bl hb ltA
  replace cB0 := bc hb ltB cB0
  replace cB1 := bc hb ltB cB1
  replace cB2 := bc hb ltB cB2
  replace ltB := bl hb ltB
  replace cb10 := bc hb ltb1 cb10
  replace cb11 := bc hb ltb1 cb11
  replace cb12 := bc hb ltb1 cb12
  replace ltb1 := bl hb ltb1
  replace cb20 := bc hb ltb2 cb20
  replace cb21 := bc hb ltb2 cb21
  replace cb22 := bc hb ltb2 cb22
  replace ltb2 := bl hb ltb2
  replace cb30 := bc hb ltb3 cb30
  replace cb31 := bc hb ltb3 cb31
  replace cb32 := bc hb ltb3 cb32
  replace ltb3 := bl hb ltb3
  replace cb40 := bc hb ltb4 cb40
  replace cb41 := bc hb ltb4 cb41
  replace cb42 := bc hb ltb4 cb42
  replace ltb4 := bl hb ltb4
  replace HI := Lib.hid (HI.out.below hb)
  replace HX := Lib.hid (HX.out.below hb)
  replace HP := Lib.hid (HP.out.below hb)
  replace HV1 := Lib.hid (HV1.out.below hb)
  replace HV2 := Lib.hid (HV2.out.below hb)
  replace HV3 := Lib.hid (HV3.out.below hb)
  replace HV4 := Lib.hid (HV4.out.below hb)
  replace hB := hB.trans (hb.mono hB.size)
  rw [HEF.out]
  clear hb
  go_wp2_with fail
  refine (rvalid46_any f _ _ _ _ HI.out).mono ?_
  rintro e w6 ⟨rfl, hb⟩
  replace cA0 := bc hb ltA cA0
  replace cA1 := bc hb ltA cA1
  replace cA2 := bc hb ltA cA2
  replace ltA := bl hb ltA
  replace cB0 := bc hb ltB cB0
  replace cB1 := bc hb ltB cB1
  replace cB2 := bc hb ltB cB2
  replace ltB := bl hb ltB
  replace cb10 := bc hb ltb1 cb10
  replace cb11 := bc hb ltb1 cb11
  replace cb12 := bc hb ltb1 cb12
  replace ltb1 := bl hb ltb1
  replace cb20 := bc hb ltb2 cb20
  replace cb21 := bc hb ltb2 cb21
  replace cb22 := bc hb ltb2 cb22
  replace ltb2 := bl hb ltb2
  replace cb30 := bc hb ltb3 cb30
  replace cb31 := bc hb ltb3 cb31
  replace cb32 := bc hb ltb3 cb32
  replace ltb3 := bl hb ltb3
  replace cb40 := bc hb ltb4 cb40
  replace cb41 := bc hb ltb4 cb41
  replace cb42 := bc hb ltb4 cb42
  replace ltb4 := bl hb ltb4
  replace HI := Lib.hid (HI.out.below hb)
  replace HX := Lib.hid (HX.out.below hb)
  replace HP := Lib.hid (HP.out.below hb)
  replace HV1 := Lib.hid (HV1.out.below hb)
  replace HV2 := Lib.hid (HV2.out.below hb)
  replace HV3 := Lib.hid (HV3.out.below hb)
  replace HV4 := Lib.hid (HV4.out.below hb)
  replace hB := hB.trans (hb.mono hB.size)
  rw [HEF.out]
  clear hb
  go_wp2_with fail
  refine (equal_any _ _ _ _ _ _ HV1.out HV2.out).mono ?_
  rintro e w7 ⟨rfl, hb⟩
  replace cA0 := bc hb ltA cA0
  replace cA1 := bc hb ltA cA1
  replace cA2 := bc hb ltA cA2
  replace ltA := bl hb ltA
  replace cB0 := bc hb ltB cB0
  replace cB1 := bc hb ltB cB1
  replace cB2 := bc hb ltB cB2
  replace ltB := bl hb ltB
  replace cb10 := bc hb ltb1 cb10
  replace cb11 := bc hb ltb1 cb11
  replace cb12 := bc hb ltb1 cb12
  replace ltb1 := bl hb ltb1
  replace cb20 := bc hb ltb2 cb20
  replace cb21 := bc hb ltb2 cb21
  replace cb22 := bc hb ltb2 cb22
  replace ltb2 := bl hb ltb2
  replace cb30 := bc hb ltb3 cb30
  replace cb31 := bc hb ltb3 cb31
  replace cb32 := bc hb ltb3 cb32
  replace ltb3 := bl hb ltb3
  replace cb40 := bc hb ltb4 cb40
  replace cb41 := bc hb ltb4 cb41
  replace cb42 := bc hb ltb4 cb42
  replace ltb4 := bl hb ltb4
  replace HI := Lib.hid (HI.out.below hb)
  replace HX := Lib.hid (HX.out.below hb)
  replace HP := Lib.hid (HP.out.below hb)
  replace HV1 := Lib.hid (HV1.out.below hb)
  replace HV2 := Lib.hid (HV2.out.below hb)
  replace HV3 := Lib.hid (HV3.out.below hb)
  replace HV4 := Lib.hid (HV4.out.below hb)
  replace hB := hB.trans (hb.mono hB.size)
  clear hb
  go_wp2_with fail
  refine (equal_any _ _ _ _ _ _ HV3.out HV4.out).mono ?_
  rintro e w8 ⟨rfl, hb⟩
  replace cA0 := bc hb ltA cA0
  replace cA1 := bc hb ltA cA1
  replace cA2 := bc hb ltA cA2
  replace ltA := bl hb ltA
  replace cB0 := bc hb ltB cB0
  replace cB1 := bc hb ltB cB1
  replace cB2 := bc hb ltB cB2
  replace ltB := bl hb ltB
  replace cb10 := bc hb ltb1 cb10
  replace cb11 := bc hb ltb1 cb11
  replace cb12 := bc hb ltb1 cb12
  replace ltb1 := bl hb ltb1
  replace cb20 := bc hb ltb2 cb20
  replace cb21 := bc hb ltb2 cb21
  replace cb22 := bc hb ltb2 cb22
  replace ltb2 := bl hb ltb2
  replace cb30 := bc hb ltb3 cb30
  replace cb31 := bc hb ltb3 cb31
  replace cb32 := bc hb ltb3 cb32
  replace ltb3 := bl hb ltb3
  replace cb40 := bc hb ltb4 cb40
  replace cb41 := bc hb ltb4 cb41
  replace cb42 := bc hb ltb4 cb42
  replace ltb4 := bl hb ltb4
  replace HI := Lib.hid (HI.out.below hb)
  replace HX := Lib.hid (HX.out.below hb)
  replace HP := Lib.hid (HP.out.below hb)
  replace HV1 := Lib.hid (HV1.out.below hb)
  replace HV2 := Lib.hid (HV2.out.below hb)
  replace HV3 := Lib.hid (HV3.out.below hb)
  replace HV4 := Lib.hid (HV4.out.below hb)
  replace hB := hB.trans (hb.mono hB.size)
  clear hb
  go_wp2_with fail
  refine (awake_any _).mono ?_
  rintro e w9 ⟨rfl, hb⟩
  replace cA0 := bc hb ltA cA0
  replace cA1 := bc hb ltA cA1
  replace cA2 := bc hb ltA cA2
  replace ltA := bl hb ltA
  replace cB0 := bc hb ltB cB0
  replace cB1 := bc hb ltB cB1
  replace cB2 := bc hb ltB cB2
  replace ltB := bl hb ltB
  replace cb10 := bc hb ltb1 cb10
  replace cb11 := bc hb ltb1 cb11
  replace cb12 := bc hb ltb1 cb12
  replace ltb1 := bl hb ltb1
  replace cb20 := bc hb ltb2 cb20
  replace cb21 := bc hb ltb2 cb21
  replace cb22 := bc hb ltb2 cb22
  replace ltb2 := bl hb ltb2
  replace cb30 := bc hb ltb3 cb30
  replace cb31 := bc hb ltb3 cb31
  replace cb32 := bc hb ltb3 cb32
  replace ltb3 := bl hb ltb3
  replace cb40 := bc hb ltb4 cb40
  replace cb41 := bc hb ltb4 cb41
  replace cb42 := bc hb ltb4 cb42
  replace ltb4 := bl hb ltb4
  replace HI := Lib.hid (HI.out.below hb)
  replace HX := Lib.hid (HX.out.below hb)
  replace HP := Lib.hid (HP.out.below hb)
  replace HV1 := Lib.hid (HV1.out.below hb)
  replace HV2 := Lib.hid (HV2.out.below hb)
  replace HV3 := Lib.hid (HV3.out.below hb)
  replace HV4 := Lib.hid (HV4.out.below hb)
  replace hB := hB.trans (hb.mono hB.size)
  clear hb
  go_wp2_with fail
  go_ret
  exact ⟨rfl, hB⟩
theorem ranks_calls (f : List Int) (a : Option Addr) (len cap : Nat) (vx vp : Value) (x p : Rat) (L : Nat) (w : World) (hI : Ints w a len cap f) (hx : RatV w vx x L) (hp : RatV w vp p L) (hL : 1 ≤ L) (hm : (2 * L + 200) * 4 ≤ 140737488355328) :
    Calls Tryz.prog 3 #[.slice a len cap, vx, vp] w fun e w' => e = .returned (.bool true) ∧ Below w.heap.size w w' := by
  by_cases hE : eqE f = 0
  · have hO := eqE_OkF.1 hE
    by_cases hpp : 0 ≤ p ∧ p ≤ 1
    · exact ranks_i f a len cap vx vp x p L w hI hx hp hL hm hO hpp.1 hpp.2
    · exact ranks_o f a len cap vx vp x p L w hI hx hp hL hm hO hpp
  · exact ranks_n f a len cap vx vp x p L w hI hx hp hE



theorem equateRanks_walk {H : Type} {enc : TypeId × Value → H} (W : World) (base : Nat) (args : Array Value) (ds gs : List (DataW H)) (before : List MemPlace)
    (hval : ∀ (j : Nat) t v, Tryz.f3.params[j]? = some t → args[j]? = some v → Value.okWide Tryz.prog W .any base t v)
    (hW : DataW.Whole enc Tryz.prog Tryz.f3.params.toList Rows.equateRanksSpec.vars false W args.toList ds gs before)
    (hk : Rows.uptoSmall H (ds ++ gs) = true)
    (_hsz : (DataW.weightsEach Tryz.prog (Tryz.f3.params.toList ++ (Rows.OpenSpec.upto Rows.equateRanksSpec).bare.plain.varTypes Tryz.prog) (ds ++ gs)).all (· ≤ reachBytes) = true) :
    Calls Tryz.prog 3 args W fun e w' => e = .returned (.bool true) ∧ Below W.heap.size W w' := by
  obtain ⟨p, q, hA, hV, -, -, -⟩ := hW
  obtain ⟨rfl, -⟩ := trodVars_none hV
  rw [Tryz.params3] at hA hval
  obtain ⟨v0, v1, v2, d0, d1, d2, p0, p1, p2, rfl, rfl, rfl, h0, h1, h2⟩ := trodAll_three hA
  obtain ⟨a, len, cap, xs, rfl, hrow, -⟩ := open_row Tryz.underlying22 Tryz.underlying3 (by kernel_rfl) (hval 0 _ _ rfl rfl) h0
  obtain ⟨x, L, hX, -, hB⟩ := open_ratio (hval 1 _ _ rfl rfl) h1
  obtain ⟨p, N, hP, -, hB2⟩ := open_ratio (hval 2 _ _ rfl rfl) h2
  have hk' := of_decide_eq_true hk
  simp only [List.append_nil, Rows.uptoBulkAll] at hk'
  exact ranks_calls xs a len cap v1 v2 x p 1048576 W hrow.ints (hX.mono (by omega)) (hP.mono (by omega)) (by omega) (by omega)

set_option maxRecDepth 100000 in
theorem equateRanks_lifted (os : Os) (started : os.Started) (H : Type) (enc : TypeId × Value → H) (F : Stop.Interp) :
    ReturnsInHanded {} Tryz.checked os 3 .any ((Rows.OpenSpec.upto Rows.equateRanksSpec).pre6 enc Tryz.prog Tryz.f3 Rows.equateRanksUptoRow.domain false) (((Rows.OpenSpec.upto Rows.equateRanksSpec).at F).post enc Tryz.prog Tryz.f3 false true false false) := by
  refine returnsInHanded_of_cond_sized (C := Tryz.checked) (s := Rows.OpenSpec.upto Rows.equateRanksSpec) (k := Rows.uptoSmall) rfl own started (by kernel_rfl) Tryz.func3
    (OpenSpec.witness (enc := enc) (C := Tryz.checked) (s := Rows.OpenSpec.upto Rows.equateRanksSpec) (k := Rows.uptoSmall) rfl false ⟨#[], #[.slice none 0 0, .agg #[.bool false, .slice none 0 0, .slice none 0 0], .agg #[.bool false, .slice none 0 0, .slice none 0 0]], []⟩ 8 (by kernel_rfl) (by kernel_rfl) (by kernel_rfl)
      (x := ([.nil, .agg [.agg [.lit (.bool false), .nil], .nil], .agg [.agg [.lit (.bool false), .nil], .nil]], [], [])) (by kernel_rfl) rfl (by kernel_rfl)) ?_
  intro W base args ds gs before hval hW _ hk hsz _
  exact law_post (s := Rows.equateRanksSpec) rfl (by kernel_rfl) (by kernel_rfl) (fun ds h => match ds, h with | [d0, d1, d2], _ => ⟨rfl, rfl, rfl⟩) hW (equateRanks_walk W base args ds gs before hval hW hk hsz)

theorem equateRanks_over : Rows.equateRanksUptoRow.holds Tryz.pinned (Rows.OpenSpec.upto Rows.equateRanksSpec) :=
  OpenClaim.holds_of_cond 3 Tryz.f3 rfl rfl rfl rfl rfl rfl rfl ⟨rfl, rfl, rfl, rfl, rfl⟩ rfl rfl rfl rfl rfl (by kernel_rfl) Tryz.func3 (by kernel_rfl)
    (of_decide_eq_true (by kernel_rfl)) (by unfold Func.isWrapper; first | (rw [if_pos (by decide +kernel)]; kernel_rfl) | (rw [if_neg (by decide +kernel)]; exact ⟨rfl, rfl⟩))
    (fun os started H enc _ F => equateRanks_lifted os started H enc F)

theorem equateRanks_proved : Rows.EquateRanksUptoSaid := equateRanks_over

end Go.Proofs.YtahmndacoanfiaaGreat
