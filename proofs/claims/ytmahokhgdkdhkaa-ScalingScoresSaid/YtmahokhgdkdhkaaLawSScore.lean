/- The law ScalingScores: scores and errors are those of the reference. No condition. -/
import Derived.Test.YtmahokhgdkdhkaaRScl
namespace Go.Proofs.Ytmahokhgdkdhkaa
set_option maxRecDepth 100000
open Go.ChangeShapes Go.WideShapes Go.ChangeAt Go.RowKit

set_option maxHeartbeats 4000000 in
theorem sScores_walk (na : Bool) (aa' aa : Option Addr) (la' ca' la ca : Nat) (nb : Bool) (ab' ab : Option Addr) (lb' cb' lb cb : Nat) (lo hi m : Int) (nx : Bool) (ax' ax : Option Addr) (lx' cx' lx cx : Nat) (A B x : Rat) (L M : Nat) (w : World) (hA : RatV w (.agg #[.bool na, .slice aa' la' ca', .slice aa la ca]) A L) (hB0 : RatV w (.agg #[.bool nb, .slice ab' lb' cb', .slice ab lb cb]) B L) (hX : RatV w (.agg #[.bool nx, .slice ax' lx' cx', .slice ax lx cx]) x M) :
    Calls Try.prog 3 #[.agg #[.bool na, .slice aa' la' ca', .slice aa la ca, .bool nb, .slice ab' lb' cb', .slice ab lb cb, .int .i64 lo, .int .i64 hi, .int .i64 m], .agg #[.bool nx, .slice ax' lx' cx', .slice ax lx cx]] w fun e w' => e = .returned (.bool true) ∧ Below w.heap.size w w' := by
  obtain ⟨_, _, _, _, _, _, _, e1, b1, b2⟩ := hA.form
  obtain ⟨_, _, _, _, _, _, _, e2, b3, b4⟩ := hB0.form
  obtain ⟨_, _, _, _, _, _, _, e3, b5, b6⟩ := hX.form
  cases e1; cases e2; cases e3
  have HA := Lib.hid hA
  have HB0 := Lib.hid hB0
  have HX := Lib.hid hX
  clear hA hB0 hX
  go_enter Try.func3, Try.ntmps3
  go_wp2_with fail
  have hbx : Below w.heap.size w ((w.alloc (.cells #[.bool na, .slice aa' la' ca', .slice aa la ca, .bool nb, .slice ab' lb' cb', .slice ab lb cb, .int .i64 lo, .int .i64 hi, .int .i64 m] 29)).alloc (.cells #[.bool nx, .slice ax' lx' cx', .slice ax lx cx] 27)) := (((Below.refl _ _).alloc (Nat.le_refl _) _).alloc (by simp) _)
  replace HA := Lib.hid (HA.out.below hbx)
  replace HB0 := Lib.hid (HB0.out.below hbx)
  replace HX := Lib.hid (HX.out.below hbx)
  have cK0 : ((w.alloc (.cells #[.bool na, .slice aa' la' ca', .slice aa la ca, .bool nb, .slice ab' lb' cb', .slice ab lb cb, .int .i64 lo, .int .i64 hi, .int .i64 m] 29)).alloc (.cells #[.bool nx, .slice ax' lx' cx', .slice ax lx cx] 27)).cell? ⟨w.heap.size, 0, none⟩ = some (.bool na) := by go_simp
  have cK1 : ((w.alloc (.cells #[.bool na, .slice aa' la' ca', .slice aa la ca, .bool nb, .slice ab' lb' cb', .slice ab lb cb, .int .i64 lo, .int .i64 hi, .int .i64 m] 29)).alloc (.cells #[.bool nx, .slice ax' lx' cx', .slice ax lx cx] 27)).cell? ⟨w.heap.size, 1, none⟩ = some (.slice aa' la' ca') := by go_simp
  have cK2 : ((w.alloc (.cells #[.bool na, .slice aa' la' ca', .slice aa la ca, .bool nb, .slice ab' lb' cb', .slice ab lb cb, .int .i64 lo, .int .i64 hi, .int .i64 m] 29)).alloc (.cells #[.bool nx, .slice ax' lx' cx', .slice ax lx cx] 27)).cell? ⟨w.heap.size, 2, none⟩ = some (.slice aa la ca) := by go_simp
  have cK3 : ((w.alloc (.cells #[.bool na, .slice aa' la' ca', .slice aa la ca, .bool nb, .slice ab' lb' cb', .slice ab lb cb, .int .i64 lo, .int .i64 hi, .int .i64 m] 29)).alloc (.cells #[.bool nx, .slice ax' lx' cx', .slice ax lx cx] 27)).cell? ⟨w.heap.size, 3, none⟩ = some (.bool nb) := by go_simp
  have cK4 : ((w.alloc (.cells #[.bool na, .slice aa' la' ca', .slice aa la ca, .bool nb, .slice ab' lb' cb', .slice ab lb cb, .int .i64 lo, .int .i64 hi, .int .i64 m] 29)).alloc (.cells #[.bool nx, .slice ax' lx' cx', .slice ax lx cx] 27)).cell? ⟨w.heap.size, 4, none⟩ = some (.slice ab' lb' cb') := by go_simp
  have cK5 : ((w.alloc (.cells #[.bool na, .slice aa' la' ca', .slice aa la ca, .bool nb, .slice ab' lb' cb', .slice ab lb cb, .int .i64 lo, .int .i64 hi, .int .i64 m] 29)).alloc (.cells #[.bool nx, .slice ax' lx' cx', .slice ax lx cx] 27)).cell? ⟨w.heap.size, 5, none⟩ = some (.slice ab lb cb) := by go_simp
  have cK6 : ((w.alloc (.cells #[.bool na, .slice aa' la' ca', .slice aa la ca, .bool nb, .slice ab' lb' cb', .slice ab lb cb, .int .i64 lo, .int .i64 hi, .int .i64 m] 29)).alloc (.cells #[.bool nx, .slice ax' lx' cx', .slice ax lx cx] 27)).cell? ⟨w.heap.size, 6, none⟩ = some (.int .i64 lo) := by go_simp
  have cK7 : ((w.alloc (.cells #[.bool na, .slice aa' la' ca', .slice aa la ca, .bool nb, .slice ab' lb' cb', .slice ab lb cb, .int .i64 lo, .int .i64 hi, .int .i64 m] 29)).alloc (.cells #[.bool nx, .slice ax' lx' cx', .slice ax lx cx] 27)).cell? ⟨w.heap.size, 7, none⟩ = some (.int .i64 hi) := by go_simp
  have cK8 : ((w.alloc (.cells #[.bool na, .slice aa' la' ca', .slice aa la ca, .bool nb, .slice ab' lb' cb', .slice ab lb cb, .int .i64 lo, .int .i64 hi, .int .i64 m] 29)).alloc (.cells #[.bool nx, .slice ax' lx' cx', .slice ax lx cx] 27)).cell? ⟨w.heap.size, 8, none⟩ = some (.int .i64 m) := by go_simp
  have ltK : w.heap.size < ((w.alloc (.cells #[.bool na, .slice aa' la' ca', .slice aa la ca, .bool nb, .slice ab' lb' cb', .slice ab lb cb, .int .i64 lo, .int .i64 hi, .int .i64 m] 29)).alloc (.cells #[.bool nx, .slice ax' lx' cx', .slice ax lx cx] 27)).heap.size := by simp <;> omega
  have cX0 : ((w.alloc (.cells #[.bool na, .slice aa' la' ca', .slice aa la ca, .bool nb, .slice ab' lb' cb', .slice ab lb cb, .int .i64 lo, .int .i64 hi, .int .i64 m] 29)).alloc (.cells #[.bool nx, .slice ax' lx' cx', .slice ax lx cx] 27)).cell? ⟨w.heap.size + 1, 0, none⟩ = some (.bool nx) := by go_simp
  have cX1 : ((w.alloc (.cells #[.bool na, .slice aa' la' ca', .slice aa la ca, .bool nb, .slice ab' lb' cb', .slice ab lb cb, .int .i64 lo, .int .i64 hi, .int .i64 m] 29)).alloc (.cells #[.bool nx, .slice ax' lx' cx', .slice ax lx cx] 27)).cell? ⟨w.heap.size + 1, 1, none⟩ = some (.slice ax' lx' cx') := by go_simp
  have cX2 : ((w.alloc (.cells #[.bool na, .slice aa' la' ca', .slice aa la ca, .bool nb, .slice ab' lb' cb', .slice ab lb cb, .int .i64 lo, .int .i64 hi, .int .i64 m] 29)).alloc (.cells #[.bool nx, .slice ax' lx' cx', .slice ax lx cx] 27)).cell? ⟨w.heap.size + 1, 2, none⟩ = some (.slice ax lx cx) := by go_simp
  have ltX : w.heap.size + 1 < ((w.alloc (.cells #[.bool na, .slice aa' la' ca', .slice aa la ca, .bool nb, .slice ab' lb' cb', .slice ab lb cb, .int .i64 lo, .int .i64 hi, .int .i64 m] 29)).alloc (.cells #[.bool nx, .slice ax' lx' cx', .slice ax lx cx] 27)).heap.size := by simp
  have hB := hbx
  generalize ((w.alloc (.cells #[.bool na, .slice aa' la' ca', .slice aa la ca, .bool nb, .slice ab' lb' cb', .slice ab lb cb, .int .i64 lo, .int .i64 hi, .int .i64 m] 29)).alloc (.cells #[.bool nx, .slice ax' lx' cx', .slice ax lx cx] 27)) = w0 at *
  clear hbx
  refine (wide_any _ _ _ _ _ _ _ _ _ _ _ _ _ _ lo hi m _ b1 b2 b3 b4).mono ?_
  rintro e w1 ⟨rfl, hb⟩
  replace cK0 := ((bcell hb (w.heap.size) ltK).1 0).trans cK0
  replace cK1 := ((bcell hb (w.heap.size) ltK).1 1).trans cK1
  replace cK2 := ((bcell hb (w.heap.size) ltK).1 2).trans cK2
  replace cK3 := ((bcell hb (w.heap.size) ltK).1 3).trans cK3
  replace cK4 := ((bcell hb (w.heap.size) ltK).1 4).trans cK4
  replace cK5 := ((bcell hb (w.heap.size) ltK).1 5).trans cK5
  replace cK6 := ((bcell hb (w.heap.size) ltK).1 6).trans cK6
  replace cK7 := ((bcell hb (w.heap.size) ltK).1 7).trans cK7
  replace cK8 := ((bcell hb (w.heap.size) ltK).1 8).trans cK8
  replace ltK := Nat.lt_of_lt_of_le ltK hb.size
  replace cX0 := ((bcell hb (w.heap.size + 1) ltX).1 0).trans cX0
  replace cX1 := ((bcell hb (w.heap.size + 1) ltX).1 1).trans cX1
  replace cX2 := ((bcell hb (w.heap.size + 1) ltX).1 2).trans cX2
  replace ltX := Nat.lt_of_lt_of_le ltX hb.size
  replace HA := Lib.hid (HA.out.below hb)
  replace HB0 := Lib.hid (HB0.out.below hb)
  replace HX := Lib.hid (HX.out.below hb)
  replace hB := hB.trans (hb.mono hB.size)
  clear hb
  by_cases hg : (lgN la' la || lgN lb' lb) = true
  · rw [hg]
    clear hg
    go_wp2_with fail
    go_ret
    exact ⟨rfl, hB⟩
  have hg' : (lgN la' la || lgN lb' lb) = false := by simpa using hg
  rw [hg']
  simp at hg'
  have HV := Lib.hid (show LinV w1 (.agg #[.bool na, .slice aa' la' ca', .slice aa la ca, .bool nb, .slice ab' lb' cb', .slice ab lb cb, .int .i64 lo, .int .i64 hi, .int .i64 m]) A B lo hi m 20 from ⟨na, aa', la', ca', aa, la, ca, nb, ab', lb', cb', ab, lb, cb, rfl, HA.out.small hg'.1, HB0.out.small hg'.2⟩)
  clear hg hg' HA HB0
  go_wp2_with fail
  refine (large_any _ _ _ _ _ _ _ _ b5 b6).mono ?_
  rintro e w2 ⟨rfl, hb⟩
  replace cK0 := ((bcell hb (w.heap.size) ltK).1 0).trans cK0
  replace cK1 := ((bcell hb (w.heap.size) ltK).1 1).trans cK1
  replace cK2 := ((bcell hb (w.heap.size) ltK).1 2).trans cK2
  replace cK3 := ((bcell hb (w.heap.size) ltK).1 3).trans cK3
  replace cK4 := ((bcell hb (w.heap.size) ltK).1 4).trans cK4
  replace cK5 := ((bcell hb (w.heap.size) ltK).1 5).trans cK5
  replace cK6 := ((bcell hb (w.heap.size) ltK).1 6).trans cK6
  replace cK7 := ((bcell hb (w.heap.size) ltK).1 7).trans cK7
  replace cK8 := ((bcell hb (w.heap.size) ltK).1 8).trans cK8
  replace ltK := Nat.lt_of_lt_of_le ltK hb.size
  replace cX0 := ((bcell hb (w.heap.size + 1) ltX).1 0).trans cX0
  replace cX1 := ((bcell hb (w.heap.size + 1) ltX).1 1).trans cX1
  replace cX2 := ((bcell hb (w.heap.size + 1) ltX).1 2).trans cX2
  replace ltX := Nat.lt_of_lt_of_le ltX hb.size
  replace HV := Lib.hid (HV.out.below hb)
  replace HX := Lib.hid (HX.out.below hb)
  replace hB := hB.trans (hb.mono hB.size)
  clear hb
  by_cases hg : lgN lx' lx = true
  · rw [hg]
    clear hg
    go_wp2_with fail
    go_ret
    exact ⟨rfl, hB⟩
  have hg' : lgN lx' lx = false := by simpa using hg
  rw [hg']
  replace HX := Lib.hid (HX.out.small hg')
  clear hg hg'
  have HS : ∃ n e : Int, Hid (∀ w', Below w2.heap.size w2 w' → (Calls Try.prog 10 #[.agg #[.bool na, .slice aa' la' ca', .slice aa la ca, .bool nb, .slice ab' lb' cb', .slice ab lb cb, .int .i64 lo, .int .i64 hi, .int .i64 m], .agg #[.bool nx, .slice ax' lx' cx', .slice ax lx cx]] w' fun e' w'' => e' = .returned (.tuple #[.int .i64 n, .int .i64 e]) ∧ Below w'.heap.size w' w'') ∧ (Calls Try.prog 11 #[.agg #[.bool na, .slice aa' la' ca', .slice aa la ca, .bool nb, .slice ab' lb' cb', .slice ab lb cb, .int .i64 lo, .int .i64 hi, .int .i64 m], .agg #[.bool nx, .slice ax' lx' cx', .slice ax lx cx]] w' fun e' w'' => e' = .returned (.tuple #[.int .i64 n, .int .i64 e]) ∧ Below w'.heap.size w' w'')) := by
    by_cases ho : validE A lo hi m = 0
    · exact ⟨_, _, Lib.hid fun w' hb => ⟨Score_any _ _ A B x lo hi m 20 w' (HV.out.below hb) (HX.out.below hb) (by omega) (by omega) ho, rScore_any _ _ A B x lo hi m 20 w' (HV.out.below hb) (HX.out.below hb) (by omega) (by omega) ho⟩⟩
    · exact ⟨_, _, Lib.hid fun w' hb => ⟨Score_no _ _ A B x lo hi m 20 w' (HV.out.below hb) (HX.out.below hb) (by omega) ho, rScore_no _ _ A B x lo hi m 20 w' (HV.out.below hb) (HX.out.below hb) (by omega) ho⟩⟩
  obtain ⟨n, er, HS⟩ := HS
  have HS1 := Lib.hid (HS.out _ (Below.refl _ _)).1
  go_wp2_with fail
  refine (HS1.out).mono ?_
  rintro e w3 ⟨rfl, hb⟩
  replace cK0 := ((bcell hb (w.heap.size) ltK).1 0).trans cK0
  replace cK1 := ((bcell hb (w.heap.size) ltK).1 1).trans cK1
  replace cK2 := ((bcell hb (w.heap.size) ltK).1 2).trans cK2
  replace cK3 := ((bcell hb (w.heap.size) ltK).1 3).trans cK3
  replace cK4 := ((bcell hb (w.heap.size) ltK).1 4).trans cK4
  replace cK5 := ((bcell hb (w.heap.size) ltK).1 5).trans cK5
  replace cK6 := ((bcell hb (w.heap.size) ltK).1 6).trans cK6
  replace cK7 := ((bcell hb (w.heap.size) ltK).1 7).trans cK7
  replace cK8 := ((bcell hb (w.heap.size) ltK).1 8).trans cK8
  replace ltK := Nat.lt_of_lt_of_le ltK hb.size
  replace cX0 := ((bcell hb (w.heap.size + 1) ltX).1 0).trans cX0
  replace cX1 := ((bcell hb (w.heap.size + 1) ltX).1 1).trans cX1
  replace cX2 := ((bcell hb (w.heap.size + 1) ltX).1 2).trans cX2
  replace ltX := Nat.lt_of_lt_of_le ltX hb.size
  replace HV := Lib.hid (HV.out.below hb)
  replace hB := hB.trans (hb.mono hB.size)
  have HS2 := Lib.hid (HS.out _ hb).2
  clear HS HS1
  clear hb
  go_wp2_with fail
  refine (HS2.out).mono ?_
  rintro e w4 ⟨rfl, hb⟩
  replace cK0 := ((bcell hb (w.heap.size) ltK).1 0).trans cK0
  replace cK1 := ((bcell hb (w.heap.size) ltK).1 1).trans cK1
  replace cK2 := ((bcell hb (w.heap.size) ltK).1 2).trans cK2
  replace cK3 := ((bcell hb (w.heap.size) ltK).1 3).trans cK3
  replace cK4 := ((bcell hb (w.heap.size) ltK).1 4).trans cK4
  replace cK5 := ((bcell hb (w.heap.size) ltK).1 5).trans cK5
  replace cK6 := ((bcell hb (w.heap.size) ltK).1 6).trans cK6
  replace cK7 := ((bcell hb (w.heap.size) ltK).1 7).trans cK7
  replace cK8 := ((bcell hb (w.heap.size) ltK).1 8).trans cK8
  replace ltK := Nat.lt_of_lt_of_le ltK hb.size
  replace cX0 := ((bcell hb (w.heap.size + 1) ltX).1 0).trans cX0
  replace cX1 := ((bcell hb (w.heap.size + 1) ltX).1 1).trans cX1
  replace cX2 := ((bcell hb (w.heap.size + 1) ltX).1 2).trans cX2
  replace ltX := Nat.lt_of_lt_of_le ltX hb.size
  replace HV := Lib.hid (HV.out.below hb)
  replace hB := hB.trans (hb.mono hB.size)
  clear HS2
  clear hb
  go_wp2_with fail
  have eK0 := box_ext (B := w4.heap.size) cK0 ltK
  have eK1 := box_ext (B := w4.heap.size) cK1 ltK
  have eK2 := box_ext (B := w4.heap.size) cK2 ltK
  have eK3 := box_ext (B := w4.heap.size) cK3 ltK
  have eK4 := box_ext (B := w4.heap.size) cK4 ltK
  have eK5 := box_ext (B := w4.heap.size) cK5 ltK
  have eK6 := box_ext (B := w4.heap.size) cK6 ltK
  have eK7 := box_ext (B := w4.heap.size) cK7 ltK
  have eK8 := box_ext (B := w4.heap.size) cK8 ltK
  have eX0 := box_ext (B := w4.heap.size) cX0 ltX
  have eX1 := box_ext (B := w4.heap.size) cX1 ltX
  have eX2 := box_ext (B := w4.heap.size) cX2 ltX
  refine wp_region_sched [(0, false), (2, false), (1, true), (3, true), (4, false), (5, false), (6, false), (7, false), (8, false), (9, false), (10, false), (11, false), (12, false), (13, false), (14, false), (15, false)] (fun w' => ∃ W : Ext w4.heap.size w4, w' = W.1) (by kernel_rfl) (by kernel_rfl) ⟨⟨w4.drew, (Below.refl _ _).drew⟩, rfl⟩ ?_
  repeat (refine wpSched_calm rfl (fun K hK => ?_); go_simp; refine hK _ ?_; clear hK K)
  clear eK0 eK1 eK2 eK3 eK4 eK5 eK6 eK7 eK8 eX0 eX1 eX2
  have hbx : Below w4.heap.size w4 w4.drew := (Below.refl _ _).drew
  have hM := hbx
  replace cK0 := ((bcell hbx (w.heap.size) ltK).1 0).trans cK0
  replace cK1 := ((bcell hbx (w.heap.size) ltK).1 1).trans cK1
  replace cK2 := ((bcell hbx (w.heap.size) ltK).1 2).trans cK2
  replace cK3 := ((bcell hbx (w.heap.size) ltK).1 3).trans cK3
  replace cK4 := ((bcell hbx (w.heap.size) ltK).1 4).trans cK4
  replace cK5 := ((bcell hbx (w.heap.size) ltK).1 5).trans cK5
  replace cK6 := ((bcell hbx (w.heap.size) ltK).1 6).trans cK6
  replace cK7 := ((bcell hbx (w.heap.size) ltK).1 7).trans cK7
  replace cK8 := ((bcell hbx (w.heap.size) ltK).1 8).trans cK8
  replace ltK := Nat.lt_of_lt_of_le ltK hbx.size
  replace cX0 := ((bcell hbx (w.heap.size + 1) ltX).1 0).trans cX0
  replace cX1 := ((bcell hbx (w.heap.size + 1) ltX).1 1).trans cX1
  replace cX2 := ((bcell hbx (w.heap.size + 1) ltX).1 2).trans cX2
  replace ltX := Nat.lt_of_lt_of_le ltX hbx.size
  replace HV := Lib.hid (HV.out.below hbx)
  replace hB := hB.trans (hbx.mono hB.size)
  clear hbx
  generalize w4.drew = ww4d at *
  refine wpSched_eff rfl rfl (fun K hK => ?_)
  go_simp
  refine (svalid_any _ A B lo hi m 20 _ HV.out (by omega)).mono ?_
  rintro e w5 ⟨rfl, hb⟩
  replace cK0 := ((bcell hb (w.heap.size) ltK).1 0).trans cK0
  replace cK1 := ((bcell hb (w.heap.size) ltK).1 1).trans cK1
  replace cK2 := ((bcell hb (w.heap.size) ltK).1 2).trans cK2
  replace cK3 := ((bcell hb (w.heap.size) ltK).1 3).trans cK3
  replace cK4 := ((bcell hb (w.heap.size) ltK).1 4).trans cK4
  replace cK5 := ((bcell hb (w.heap.size) ltK).1 5).trans cK5
  replace cK6 := ((bcell hb (w.heap.size) ltK).1 6).trans cK6
  replace cK7 := ((bcell hb (w.heap.size) ltK).1 7).trans cK7
  replace cK8 := ((bcell hb (w.heap.size) ltK).1 8).trans cK8
  replace ltK := Nat.lt_of_lt_of_le ltK hb.size
  replace cX0 := ((bcell hb (w.heap.size + 1) ltX).1 0).trans cX0
  replace cX1 := ((bcell hb (w.heap.size + 1) ltX).1 1).trans cX1
  replace cX2 := ((bcell hb (w.heap.size + 1) ltX).1 2).trans cX2
  replace ltX := Nat.lt_of_lt_of_le ltX hb.size
  replace HV := Lib.hid (HV.out.below hb)
  replace hM := hM.trans (hb.mono hM.size)
  replace hB := hB.trans (hb.mono hB.size)
  clear hb
  refine hK _ _ ⟨⟨w5, hM⟩, rfl⟩ ?_
  clear hK K
  refine wpSched_eff rfl rfl (fun K hK => ?_)
  go_simp
  refine (rvalid_any _ A B lo hi m 20 _ HV.out (by omega)).mono ?_
  rintro e w6 ⟨rfl, hb⟩
  replace cK0 := ((bcell hb (w.heap.size) ltK).1 0).trans cK0
  replace cK1 := ((bcell hb (w.heap.size) ltK).1 1).trans cK1
  replace cK2 := ((bcell hb (w.heap.size) ltK).1 2).trans cK2
  replace cK3 := ((bcell hb (w.heap.size) ltK).1 3).trans cK3
  replace cK4 := ((bcell hb (w.heap.size) ltK).1 4).trans cK4
  replace cK5 := ((bcell hb (w.heap.size) ltK).1 5).trans cK5
  replace cK6 := ((bcell hb (w.heap.size) ltK).1 6).trans cK6
  replace cK7 := ((bcell hb (w.heap.size) ltK).1 7).trans cK7
  replace cK8 := ((bcell hb (w.heap.size) ltK).1 8).trans cK8
  replace ltK := Nat.lt_of_lt_of_le ltK hb.size
  replace cX0 := ((bcell hb (w.heap.size + 1) ltX).1 0).trans cX0
  replace cX1 := ((bcell hb (w.heap.size + 1) ltX).1 1).trans cX1
  replace cX2 := ((bcell hb (w.heap.size + 1) ltX).1 2).trans cX2
  replace ltX := Nat.lt_of_lt_of_le ltX hb.size
  replace HV := Lib.hid (HV.out.below hb)
  replace hM := hM.trans (hb.mono hM.size)
  replace hB := hB.trans (hb.mono hB.size)
  generalize validE A lo hi m = ve at *
  clear hb
  refine hK _ _ ⟨⟨w6, hM⟩, rfl⟩ ?_
  clear hK K
  repeat (refine wpSched_calm rfl (fun K hK => ?_); go_simp; refine hK _ ?_; clear hK K)
  refine wpSched_nil ?_
  go_wp2_with fail
  go_ret
  exact ⟨rfl, hB⟩

theorem scalingScores_walk {H : Type} {enc : TypeId × Value → H} (W : World) (base : Nat) (args : Array Value) (ds gs : List (DataW H)) (before : List MemPlace)
    (hval : ∀ (j : Nat) t v, Try.f3.params[j]? = some t → args[j]? = some v → Value.okWide Try.prog W .any base t v)
    (hW : DataW.Whole enc Try.prog Try.f3.params.toList Rows.scalingScoresSpec.vars false W args.toList ds gs before)
    (_hsz : (DataW.weightsEach Try.prog (Try.f3.params.toList ++ Rows.scalingScoresSpec.plain.varTypes Try.prog) (ds ++ gs)).all (· ≤ reachBytes) = true) :
    Calls Try.prog 3 args W fun e w' => e = .returned (.bool true) ∧ Below W.heap.size W w' := by
  obtain ⟨p, q, hA, hV, -, -, -⟩ := hW
  obtain ⟨rfl, -⟩ := trodVars_none hV
  rw [Try.params3] at hA hval
  obtain ⟨v0, v1, d0, d1, p0, p1, rfl, rfl, rfl, h0, h1⟩ := trodAll_two hA
  obtain ⟨A, B, lo, hi, m, hX⟩ := open_linear (hval 0 _ _ rfl rfl) h0
  obtain ⟨x, M, hx, -, -⟩ := open_ratio (hval 1 _ _ rfl rfl) h1
  obtain ⟨L, na, aa', la', ca', aa, la, ca, nb, ab', lb', cb', ab, lb, cb, rfl, hA', hB'⟩ := hX
  obtain ⟨nx, ax', lx', cx', ax, lx, cx, rfl, -, -⟩ := hx.form
  exact sScores_walk na aa' aa la' ca' la ca nb ab' ab lb' cb' lb cb lo hi m nx ax' ax lx' cx' lx cx A B x L M W hA' hB' hx

set_option maxRecDepth 100000 in
theorem scalingScores_lifted (os : Os) (started : os.Started) (H : Type) (enc : TypeId × Value → H) :
    ReturnsInHanded {} Try.checked os 3 .any (Rows.scalingScoresSpec.pre6 enc Try.prog Try.f3 Rows.scalingScoresRow.domain false) (Rows.scalingScoresSpec.post enc Try.prog Try.f3 false true false false) := by
  refine returnsInHanded_of_change_sized (C := Try.checked) own started (by kernel_rfl) Try.func3
    (ChangeSpec.witness6 (enc := enc) (C := Try.checked) false ⟨#[], #[.agg #[.bool false, .slice none 0 0, .slice none 0 0, .bool false, .slice none 0 0, .slice none 0 0, .int .i64 0, .int .i64 0, .int .i64 0], .agg #[.bool false, .slice none 0 0, .slice none 0 0]], []⟩ 8 (by kernel_rfl) (by kernel_rfl) (by kernel_rfl) (by kernel_rfl)) ?_
  intro W base args ds gs before hval hW _ hsz _
  exact law_post rfl (by kernel_rfl) (by kernel_rfl) (fun ds h => match ds, h with | [d0, d1], _ => ⟨rfl, rfl, rfl⟩) hW (scalingScores_walk W base args ds gs before hval hW hsz)

theorem scalingScores_over : Rows.scalingScoresRow.holds Try.pinned (OpenSpec.ofChange Rows.scalingScoresSpec) :=
  OpenClaim.holds_of_wide 3 Try.f3 rfl rfl rfl rfl rfl rfl rfl ⟨rfl, rfl, rfl, rfl, rfl⟩ rfl rfl rfl rfl rfl (by kernel_rfl) Try.func3 (by kernel_rfl)
    (of_decide_eq_true (by kernel_rfl)) (by unfold Func.isWrapper; first | (rw [if_pos (by decide +kernel)]; kernel_rfl) | (rw [if_neg (by decide +kernel)]; exact ⟨rfl, rfl⟩))
    (fun os started H enc _ => scalingScores_lifted os started H enc)

theorem scalingScores_proved : Rows.ScalingScoresSaid := scalingScores_over

end Go.Proofs.Ytmahokhgdkdhkaa
