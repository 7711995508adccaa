/- The law ScalingMonotone: a higher ability never gets a lower scaled score. No condition. -/
import Derived.Test.YtmahokhgdkdhkaaSclO
namespace Go.Proofs.Ytmahokhgdkdhkaa
set_option maxRecDepth 100000
open Go.ChangeShapes Go.WideShapes Go.ChangeAt Go.RowKit

set_option maxHeartbeats 2000000 in
theorem sMono_w (na : Bool) (aa' aa : Option Addr) (la' ca' la ca : Nat) (nb : Bool) (ab' ab : Option Addr) (lb' cb' lb cb : Nat) (lo hi m : Int) (nx : Bool) (ax' ax : Option Addr) (lx' cx' lx cx : Nat) (ny : Bool) (ay' ay : Option Addr) (ly' cy' ly cy : Nat) (A B x y : Rat) (L : Nat) (w : World) (hA : RatV w (.agg #[.bool na, .slice aa' la' ca', .slice aa la ca]) A L) (hB0 : RatV w (.agg #[.bool nb, .slice ab' lb' cb', .slice ab lb cb]) B L) (hX : RatV w (.agg #[.bool nx, .slice ax' lx' cx', .slice ax lx cx]) x L) (hY : RatV w (.agg #[.bool ny, .slice ay' ly' cy', .slice ay ly cy]) y L) (g1 : (lgN la' la || lgN lb' lb) = true) :
    Calls Try.prog 4 #[.agg #[.bool na, .slice aa' la' ca', .slice aa la ca, .bool nb, .slice ab' lb' cb', .slice ab lb cb, .int .i64 lo, .int .i64 hi, .int .i64 m], .agg #[.bool nx, .slice ax' lx' cx', .slice ax lx cx], .agg #[.bool ny, .slice ay' ly' cy', .slice ay ly cy]] w fun e w' => e = .returned (.bool true) ∧ Below w.heap.size w w' := by
  obtain ⟨_, _, _, _, _, _, _, e1, b1, b2⟩ := hA.form
  obtain ⟨_, _, _, _, _, _, _, e2, b3, b4⟩ := hB0.form
  obtain ⟨_, _, _, _, _, _, _, e3, b5, b6⟩ := hX.form
  obtain ⟨_, _, _, _, _, _, _, e4, b7, b8⟩ := hY.form
  cases e1; cases e2; cases e3; cases e4
  have HG1 := Lib.hid g1
  clear g1 
  clear hA hB0 hX hY
  go_enter Try.func4, Try.ntmps4
  go_wp2_with fail
  have hbx : Below w.heap.size w (((w.alloc (.cells #[.bool na, .slice aa' la' ca', .slice aa la ca, .bool nb, .slice ab' lb' cb', .slice ab lb cb, .int .i64 lo, .int .i64 hi, .int .i64 m] 29)).alloc (.cells #[.bool nx, .slice ax' lx' cx', .slice ax lx cx] 27)).alloc (.cells #[.bool ny, .slice ay' ly' cy', .slice ay ly cy] 27)) := ((((Below.refl _ _).alloc (Nat.le_refl _) _).alloc (by simp) _).alloc (by simp <;> omega) _)
  have cK0 : (((w.alloc (.cells #[.bool na, .slice aa' la' ca', .slice aa la ca, .bool nb, .slice ab' lb' cb', .slice ab lb cb, .int .i64 lo, .int .i64 hi, .int .i64 m] 29)).alloc (.cells #[.bool nx, .slice ax' lx' cx', .slice ax lx cx] 27)).alloc (.cells #[.bool ny, .slice ay' ly' cy', .slice ay ly cy] 27)).cell? ⟨w.heap.size, 0, none⟩ = some (.bool na) := by go_simp
  have cK1 : (((w.alloc (.cells #[.bool na, .slice aa' la' ca', .slice aa la ca, .bool nb, .slice ab' lb' cb', .slice ab lb cb, .int .i64 lo, .int .i64 hi, .int .i64 m] 29)).alloc (.cells #[.bool nx, .slice ax' lx' cx', .slice ax lx cx] 27)).alloc (.cells #[.bool ny, .slice ay' ly' cy', .slice ay ly cy] 27)).cell? ⟨w.heap.size, 1, none⟩ = some (.slice aa' la' ca') := by go_simp
  have cK2 : (((w.alloc (.cells #[.bool na, .slice aa' la' ca', .slice aa la ca, .bool nb, .slice ab' lb' cb', .slice ab lb cb, .int .i64 lo, .int .i64 hi, .int .i64 m] 29)).alloc (.cells #[.bool nx, .slice ax' lx' cx', .slice ax lx cx] 27)).alloc (.cells #[.bool ny, .slice ay' ly' cy', .slice ay ly cy] 27)).cell? ⟨w.heap.size, 2, none⟩ = some (.slice aa la ca) := by go_simp
  have cK3 : (((w.alloc (.cells #[.bool na, .slice aa' la' ca', .slice aa la ca, .bool nb, .slice ab' lb' cb', .slice ab lb cb, .int .i64 lo, .int .i64 hi, .int .i64 m] 29)).alloc (.cells #[.bool nx, .slice ax' lx' cx', .slice ax lx cx] 27)).alloc (.cells #[.bool ny, .slice ay' ly' cy', .slice ay ly cy] 27)).cell? ⟨w.heap.size, 3, none⟩ = some (.bool nb) := by go_simp
  have cK4 : (((w.alloc (.cells #[.bool na, .slice aa' la' ca', .slice aa la ca, .bool nb, .slice ab' lb' cb', .slice ab lb cb, .int .i64 lo, .int .i64 hi, .int .i64 m] 29)).alloc (.cells #[.bool nx, .slice ax' lx' cx', .slice ax lx cx] 27)).alloc (.cells #[.bool ny, .slice ay' ly' cy', .slice ay ly cy] 27)).cell? ⟨w.heap.size, 4, none⟩ = some (.slice ab' lb' cb') := by go_simp
  have cK5 : (((w.alloc (.cells #[.bool na, .slice aa' la' ca', .slice aa la ca, .bool nb, .slice ab' lb' cb', .slice ab lb cb, .int .i64 lo, .int .i64 hi, .int .i64 m] 29)).alloc (.cells #[.bool nx, .slice ax' lx' cx', .slice ax lx cx] 27)).alloc (.cells #[.bool ny, .slice ay' ly' cy', .slice ay ly cy] 27)).cell? ⟨w.heap.size, 5, none⟩ = some (.slice ab lb cb) := by go_simp
  have cK6 : (((w.alloc (.cells #[.bool na, .slice aa' la' ca', .slice aa la ca, .bool nb, .slice ab' lb' cb', .slice ab lb cb, .int .i64 lo, .int .i64 hi, .int .i64 m] 29)).alloc (.cells #[.bool nx, .slice ax' lx' cx', .slice ax lx cx] 27)).alloc (.cells #[.bool ny, .slice ay' ly' cy', .slice ay ly cy] 27)).cell? ⟨w.heap.size, 6, none⟩ = some (.int .i64 lo) := by go_simp
  have cK7 : (((w.alloc (.cells #[.bool na, .slice aa' la' ca', .slice aa la ca, .bool nb, .slice ab' lb' cb', .slice ab lb cb, .int .i64 lo, .int .i64 hi, .int .i64 m] 29)).alloc (.cells #[.bool nx, .slice ax' lx' cx', .slice ax lx cx] 27)).alloc (.cells #[.bool ny, .slice ay' ly' cy', .slice ay ly cy] 27)).cell? ⟨w.heap.size, 7, none⟩ = some (.int .i64 hi) := by go_simp
  have cK8 : (((w.alloc (.cells #[.bool na, .slice aa' la' ca', .slice aa la ca, .bool nb, .slice ab' lb' cb', .slice ab lb cb, .int .i64 lo, .int .i64 hi, .int .i64 m] 29)).alloc (.cells #[.bool nx, .slice ax' lx' cx', .slice ax lx cx] 27)).alloc (.cells #[.bool ny, .slice ay' ly' cy', .slice ay ly cy] 27)).cell? ⟨w.heap.size, 8, none⟩ = some (.int .i64 m) := by go_simp
  have ltK : w.heap.size < (((w.alloc (.cells #[.bool na, .slice aa' la' ca', .slice aa la ca, .bool nb, .slice ab' lb' cb', .slice ab lb cb, .int .i64 lo, .int .i64 hi, .int .i64 m] 29)).alloc (.cells #[.bool nx, .slice ax' lx' cx', .slice ax lx cx] 27)).alloc (.cells #[.bool ny, .slice ay' ly' cy', .slice ay ly cy] 27)).heap.size := by simp <;> omega
  have cX0 : (((w.alloc (.cells #[.bool na, .slice aa' la' ca', .slice aa la ca, .bool nb, .slice ab' lb' cb', .slice ab lb cb, .int .i64 lo, .int .i64 hi, .int .i64 m] 29)).alloc (.cells #[.bool nx, .slice ax' lx' cx', .slice ax lx cx] 27)).alloc (.cells #[.bool ny, .slice ay' ly' cy', .slice ay ly cy] 27)).cell? ⟨w.heap.size + 1, 0, none⟩ = some (.bool nx) := by go_simp
  have cX1 : (((w.alloc (.cells #[.bool na, .slice aa' la' ca', .slice aa la ca, .bool nb, .slice ab' lb' cb', .slice ab lb cb, .int .i64 lo, .int .i64 hi, .int .i64 m] 29)).alloc (.cells #[.bool nx, .slice ax' lx' cx', .slice ax lx cx] 27)).alloc (.cells #[.bool ny, .slice ay' ly' cy', .slice ay ly cy] 27)).cell? ⟨w.heap.size + 1, 1, none⟩ = some (.slice ax' lx' cx') := by go_simp
  have cX2 : (((w.alloc (.cells #[.bool na, .slice aa' la' ca', .slice aa la ca, .bool nb, .slice ab' lb' cb', .slice ab lb cb, .int .i64 lo, .int .i64 hi, .int .i64 m] 29)).alloc (.cells #[.bool nx, .slice ax' lx' cx', .slice ax lx cx] 27)).alloc (.cells #[.bool ny, .slice ay' ly' cy', .slice ay ly cy] 27)).cell? ⟨w.heap.size + 1, 2, none⟩ = some (.slice ax lx cx) := by go_simp
  have ltX : w.heap.size + 1 < (((w.alloc (.cells #[.bool na, .slice aa' la' ca', .slice aa la ca, .bool nb, .slice ab' lb' cb', .slice ab lb cb, .int .i64 lo, .int .i64 hi, .int .i64 m] 29)).alloc (.cells #[.bool nx, .slice ax' lx' cx', .slice ax lx cx] 27)).alloc (.cells #[.bool ny, .slice ay' ly' cy', .slice ay ly cy] 27)).heap.size := by simp <;> omega
  have cY0 : (((w.alloc (.cells #[.bool na, .slice aa' la' ca', .slice aa la ca, .bool nb, .slice ab' lb' cb', .slice ab lb cb, .int .i64 lo, .int .i64 hi, .int .i64 m] 29)).alloc (.cells #[.bool nx, .slice ax' lx' cx', .slice ax lx cx] 27)).alloc (.cells #[.bool ny, .slice ay' ly' cy', .slice ay ly cy] 27)).cell? ⟨w.heap.size + 1 + 1, 0, none⟩ = some (.bool ny) := by go_simp
  have cY1 : (((w.alloc (.cells #[.bool na, .slice aa' la' ca', .slice aa la ca, .bool nb, .slice ab' lb' cb', .slice ab lb cb, .int .i64 lo, .int .i64 hi, .int .i64 m] 29)).alloc (.cells #[.bool nx, .slice ax' lx' cx', .slice ax lx cx] 27)).alloc (.cells #[.bool ny, .slice ay' ly' cy', .slice ay ly cy] 27)).cell? ⟨w.heap.size + 1 + 1, 1, none⟩ = some (.slice ay' ly' cy') := by go_simp
  have cY2 : (((w.alloc (.cells #[.bool na, .slice aa' la' ca', .slice aa la ca, .bool nb, .slice ab' lb' cb', .slice ab lb cb, .int .i64 lo, .int .i64 hi, .int .i64 m] 29)).alloc (.cells #[.bool nx, .slice ax' lx' cx', .slice ax lx cx] 27)).alloc (.cells #[.bool ny, .slice ay' ly' cy', .slice ay ly cy] 27)).cell? ⟨w.heap.size + 1 + 1, 2, none⟩ = some (.slice ay ly cy) := by go_simp
  have ltY : w.heap.size + 1 + 1 < (((w.alloc (.cells #[.bool na, .slice aa' la' ca', .slice aa la ca, .bool nb, .slice ab' lb' cb', .slice ab lb cb, .int .i64 lo, .int .i64 hi, .int .i64 m] 29)).alloc (.cells #[.bool nx, .slice ax' lx' cx', .slice ax lx cx] 27)).alloc (.cells #[.bool ny, .slice ay' ly' cy', .slice ay ly cy] 27)).heap.size := by simp
  have hB := hbx
  generalize (((w.alloc (.cells #[.bool na, .slice aa' la' ca', .slice aa la ca, .bool nb, .slice ab' lb' cb', .slice ab lb cb, .int .i64 lo, .int .i64 hi, .int .i64 m] 29)).alloc (.cells #[.bool nx, .slice ax' lx' cx', .slice ax lx cx] 27)).alloc (.cells #[.bool ny, .slice ay' ly' cy', .slice ay ly cy] 27)) = w0 at *
  clear hbx
  refine (wide_any _ _ _ _ _ _ _ _ _ _ _ _ _ _ lo hi m _ b1 b2 b3 b4).mono ?_
  rintro e w1 ⟨rfl, hb⟩
  replace cK0 := ((bcell hb (w.heap.size) ltK).1 0).trans cK0
  replace cK1 := ((bcell hb (w.heap.size) ltK).1 1).trans cK1
  replace cK2 := ((bcell hb (w.heap.size) ltK).1 2).trans cK2
  replace cK3 := ((bcell hb (w.heap.size) ltK).1 3).trans cK3
  replace cK4 := ((bcell hb (w.heap.size) ltK).1 4).trans cK4
  replace cK5 := ((bcell hb (w.heap.size) ltK).1 5).trans cK5
  replace cK6 := ((bcell hb (w.heap.size) ltK).1 6).trans cK6
  replace cK7 := ((bcell hb (w.heap.size) ltK).1 7).trans cK7
  replace cK8 := ((bcell hb (w.heap.size) ltK).1 8).trans cK8
  replace ltK := Nat.lt_of_lt_of_le ltK hb.size
  replace cX0 := ((bcell hb (w.heap.size + 1) ltX).1 0).trans cX0
  replace cX1 := ((bcell hb (w.heap.size + 1) ltX).1 1).trans cX1
  replace cX2 := ((bcell hb (w.heap.size + 1) ltX).1 2).trans cX2
  replace ltX := Nat.lt_of_lt_of_le ltX hb.size
  replace cY0 := ((bcell hb (w.heap.size + 1 + 1) ltY).1 0).trans cY0
  replace cY1 := ((bcell hb (w.heap.size + 1 + 1) ltY).1 1).trans cY1
  replace cY2 := ((bcell hb (w.heap.size + 1 + 1) ltY).1 2).trans cY2
  replace ltY := Nat.lt_of_lt_of_le ltY hb.size
  replace hB := hB.trans (hb.mono hB.size)
  rw [HG1.out]
  clear hb
  go_wp2_with fail
  go_ret
  exact ⟨rfl, hB⟩

set_option maxHeartbeats 2000000 in
theorem sMono_x (na : Bool) (aa' aa : Option Addr) (la' ca' la ca : Nat) (nb : Bool) (ab' ab : Option Addr) (lb' cb' lb cb : Nat) (lo hi m : Int) (nx : Bool) (ax' ax : Option Addr) (lx' cx' lx cx : Nat) (ny : Bool) (ay' ay : Option Addr) (ly' cy' ly cy : Nat) (A B x y : Rat) (L : Nat) (w : World) (hA : RatV w (.agg #[.bool na, .slice aa' la' ca', .slice aa la ca]) A L) (hB0 : RatV w (.agg #[.bool nb, .slice ab' lb' cb', .slice ab lb cb]) B L) (hX : RatV w (.agg #[.bool nx, .slice ax' lx' cx', .slice ax lx cx]) x L) (hY : RatV w (.agg #[.bool ny, .slice ay' ly' cy', .slice ay ly cy]) y L) (g1 : (lgN la' la || lgN lb' lb) = false) (g2 : lgN lx' lx = true) :
    Calls Try.prog 4 #[.agg #[.bool na, .slice aa' la' ca', .slice aa la ca, .bool nb, .slice ab' lb' cb', .slice ab lb cb, .int .i64 lo, .int .i64 hi, .int .i64 m], .agg #[.bool nx, .slice ax' lx' cx', .slice ax lx cx], .agg #[.bool ny, .slice ay' ly' cy', .slice ay ly cy]] w fun e w' => e = .returned (.bool true) ∧ Below w.heap.size w w' := by
  obtain ⟨_, _, _, _, _, _, _, e1, b1, b2⟩ := hA.form
  obtain ⟨_, _, _, _, _, _, _, e2, b3, b4⟩ := hB0.form
  obtain ⟨_, _, _, _, _, _, _, e3, b5, b6⟩ := hX.form
  obtain ⟨_, _, _, _, _, _, _, e4, b7, b8⟩ := hY.form
  cases e1; cases e2; cases e3; cases e4
  have HG1 := Lib.hid g1
  have HG2 := Lib.hid g2
  clear g1 g2 
  clear hA hB0 hX hY
  go_enter Try.func4, Try.ntmps4
  go_wp2_with fail
  have hbx : Below w.heap.size w (((w.alloc (.cells #[.bool na, .slice aa' la' ca', .slice aa la ca, .bool nb, .slice ab' lb' cb', .slice ab lb cb, .int .i64 lo, .int .i64 hi, .int .i64 m] 29)).alloc (.cells #[.bool nx, .slice ax' lx' cx', .slice ax lx cx] 27)).alloc (.cells #[.bool ny, .slice ay' ly' cy', .slice ay ly cy] 27)) := ((((Below.refl _ _).alloc (Nat.le_refl _) _).alloc (by simp) _).alloc (by simp <;> omega) _)
  have cK0 : (((w.alloc (.cells #[.bool na, .slice aa' la' ca', .slice aa la ca, .bool nb, .slice ab' lb' cb', .slice ab lb cb, .int .i64 lo, .int .i64 hi, .int .i64 m] 29)).alloc (.cells #[.bool nx, .slice ax' lx' cx', .slice ax lx cx] 27)).alloc (.cells #[.bool ny, .slice ay' ly' cy', .slice ay ly cy] 27)).cell? ⟨w.heap.size, 0, none⟩ = some (.bool na) := by go_simp
  have cK1 : (((w.alloc (.cells #[.bool na, .slice aa' la' ca', .slice aa la ca, .bool nb, .slice ab' lb' cb', .slice ab lb cb, .int .i64 lo, .int .i64 hi, .int .i64 m] 29)).alloc (.cells #[.bool nx, .slice ax' lx' cx', .slice ax lx cx] 27)).alloc (.cells #[.bool ny, .slice ay' ly' cy', .slice ay ly cy] 27)).cell? ⟨w.heap.size, 1, none⟩ = some (.slice aa' la' ca') := by go_simp
  have cK2 : (((w.alloc (.cells #[.bool na, .slice aa' la' ca', .slice aa la ca, .bool nb, .slice ab' lb' cb', .slice ab lb cb, .int .i64 lo, .int .i64 hi, .int .i64 m] 29)).alloc (.cells #[.bool nx, .slice ax' lx' cx', .slice ax lx cx] 27)).alloc (.cells #[.bool ny, .slice ay' ly' cy', .slice ay ly cy] 27)).cell? ⟨w.heap.size, 2, none⟩ = some (.slice aa la ca) := by go_simp
  have cK3 : (((w.alloc (.cells #[.bool na, .slice aa' la' ca', .slice aa la ca, .bool nb, .slice ab' lb' cb', .slice ab lb cb, .int .i64 lo, .int .i64 hi, .int .i64 m] 29)).alloc (.cells #[.bool nx, .slice ax' lx' cx', .slice ax lx cx] 27)).alloc (.cells #[.bool ny, .slice ay' ly' cy', .slice ay ly cy] 27)).cell? ⟨w.heap.size, 3, none⟩ = some (.bool nb) := by go_simp
  have cK4 : (((w.alloc (.cells #[.bool na, .slice aa' la' ca', .slice aa la ca, .bool nb, .slice ab' lb' cb', .slice ab lb cb, .int .i64 lo, .int .i64 hi, .int .i64 m] 29)).alloc (.cells #[.bool nx, .slice ax' lx' cx', .slice ax lx cx] 27)).alloc (.cells #[.bool ny, .slice ay' ly' cy', .slice ay ly cy] 27)).cell? ⟨w.heap.size, 4, none⟩ = some (.slice ab' lb' cb') := by go_simp
  have cK5 : (((w.alloc (.cells #[.bool na, .slice aa' la' ca', .slice aa la ca, .bool nb, .slice ab' lb' cb', .slice ab lb cb, .int .i64 lo, .int .i64 hi, .int .i64 m] 29)).alloc (.cells #[.bool nx, .slice ax' lx' cx', .slice ax lx cx] 27)).alloc (.cells #[.bool ny, .slice ay' ly' cy', .slice ay ly cy] 27)).cell? ⟨w.heap.size, 5, none⟩ = some (.slice ab lb cb) := by go_simp
  have cK6 : (((w.alloc (.cells #[.bool na, .slice aa' la' ca', .slice aa la ca, .bool nb, .slice ab' lb' cb', .slice ab lb cb, .int .i64 lo, .int .i64 hi, .int .i64 m] 29)).alloc (.cells #[.bool nx, .slice ax' lx' cx', .slice ax lx cx] 27)).alloc (.cells #[.bool ny, .slice ay' ly' cy', .slice ay ly cy] 27)).cell? ⟨w.heap.size, 6, none⟩ = some (.int .i64 lo) := by go_simp
  have cK7 : (((w.alloc (.cells #[.bool na, .slice aa' la' ca', .slice aa la ca, .bool nb, .slice ab' lb' cb', .slice ab lb cb, .int .i64 lo, .int .i64 hi, .int .i64 m] 29)).alloc (.cells #[.bool nx, .slice ax' lx' cx', .slice ax lx cx] 27)).alloc (.cells #[.bool ny, .slice ay' ly' cy', .slice ay ly cy] 27)).cell? ⟨w.heap.size, 7, none⟩ = some (.int .i64 hi) := by go_simp
  have cK8 : (((w.alloc (.cells #[.bool na, .slice aa' la' ca', .slice aa la ca, .bool nb, .slice ab' lb' cb', .slice ab lb cb, .int .i64 lo, .int .i64 hi, .int .i64 m] 29)).alloc (.cells #[.bool nx, .slice ax' lx' cx', .slice ax lx cx] 27)).alloc (.cells #[.bool ny, .slice ay' ly' cy', .slice ay ly cy] 27)).cell? ⟨w.heap.size, 8, none⟩ = some (.int .i64 m) := by go_simp
  have ltK : w.heap.size < (((w.alloc (.cells #[.bool na, .slice aa' la' ca', .slice aa la ca, .bool nb, .slice ab' lb' cb', .slice ab lb cb, .int .i64 lo, .int .i64 hi, .int .i64 m] 29)).alloc (.cells #[.bool nx, .slice ax' lx' cx', .slice ax lx cx] 27)).alloc (.cells #[.bool ny, .slice ay' ly' cy', .slice ay ly cy] 27)).heap.size := by simp <;> omega
  have cX0 : (((w.alloc (.cells #[.bool na, .slice aa' la' ca', .slice aa la ca, .bool nb, .slice ab' lb' cb', .slice ab lb cb, .int .i64 lo, .int .i64 hi, .int .i64 m] 29)).alloc (.cells #[.bool nx, .slice ax' lx' cx', .slice ax lx cx] 27)).alloc (.cells #[.bool ny, .slice ay' ly' cy', .slice ay ly cy] 27)).cell? ⟨w.heap.size + 1, 0, none⟩ = some (.bool nx) := by go_simp
  have cX1 : (((w.alloc (.cells #[.bool na, .slice aa' la' ca', .slice aa la ca, .bool nb, .slice ab' lb' cb', .slice ab lb cb, .int .i64 lo, .int .i64 hi, .int .i64 m] 29)).alloc (.cells #[.bool nx, .slice ax' lx' cx', .slice ax lx cx] 27)).alloc (.cells #[.bool ny, .slice ay' ly' cy', .slice ay ly cy] 27)).cell? ⟨w.heap.size + 1, 1, none⟩ = some (.slice ax' lx' cx') := by go_simp
  have cX2 : (((w.alloc (.cells #[.bool na, .slice aa' la' ca', .slice aa la ca, .bool nb, .slice ab' lb' cb', .slice ab lb cb, .int .i64 lo, .int .i64 hi, .int .i64 m] 29)).alloc (.cells #[.bool nx, .slice ax' lx' cx', .slice ax lx cx] 27)).alloc (.cells #[.bool ny, .slice ay' ly' cy', .slice ay ly cy] 27)).cell? ⟨w.heap.size + 1, 2, none⟩ = some (.slice ax lx cx) := by go_simp
  have ltX : w.heap.size + 1 < (((w.alloc (.cells #[.bool na, .slice aa' la' ca', .slice aa la ca, .bool nb, .slice ab' lb' cb', .slice ab lb cb, .int .i64 lo, .int .i64 hi, .int .i64 m] 29)).alloc (.cells #[.bool nx, .slice ax' lx' cx', .slice ax lx cx] 27)).alloc (.cells #[.bool ny, .slice ay' ly' cy', .slice ay ly cy] 27)).heap.size := by simp <;> omega
  have cY0 : (((w.alloc (.cells #[.bool na, .slice aa' la' ca', .slice aa la ca, .bool nb, .slice ab' lb' cb', .slice ab lb cb, .int .i64 lo, .int .i64 hi, .int .i64 m] 29)).alloc (.cells #[.bool nx, .slice ax' lx' cx', .slice ax lx cx] 27)).alloc (.cells #[.bool ny, .slice ay' ly' cy', .slice ay ly cy] 27)).cell? ⟨w.heap.size + 1 + 1, 0, none⟩ = some (.bool ny) := by go_simp
  have cY1 : (((w.alloc (.cells #[.bool na, .slice aa' la' ca', .slice aa la ca, .bool nb, .slice ab' lb' cb', .slice ab lb cb, .int .i64 lo, .int .i64 hi, .int .i64 m] 29)).alloc (.cells #[.bool nx, .slice ax' lx' cx', .slice ax lx cx] 27)).alloc (.cells #[.bool ny, .slice ay' ly' cy', .slice ay ly cy] 27)).cell? ⟨w.heap.size + 1 + 1, 1, none⟩ = some (.slice ay' ly' cy') := by go_simp
  have cY2 : (((w.alloc (.cells #[.bool na, .slice aa' la' ca', .slice aa la ca, .bool nb, .slice ab' lb' cb', .slice ab lb cb, .int .i64 lo, .int .i64 hi, .int .i64 m] 29)).alloc (.cells #[.bool nx, .slice ax' lx' cx', .slice ax lx cx] 27)).alloc (.cells #[.bool ny, .slice ay' ly' cy', .slice ay ly cy] 27)).cell? ⟨w.heap.size + 1 + 1, 2, none⟩ = some (.slice ay ly cy) := by go_simp
  have ltY : w.heap.size + 1 + 1 < (((w.alloc (.cells #[.bool na, .slice aa' la' ca', .slice aa la ca, .bool nb, .slice ab' lb' cb', .slice ab lb cb, .int .i64 lo, .int .i64 hi, .int .i64 m] 29)).alloc (.cells #[.bool nx, .slice ax' lx' cx', .slice ax lx cx] 27)).alloc (.cells #[.bool ny, .slice ay' ly' cy', .slice ay ly cy] 27)).heap.size := by simp
  have hB := hbx
  generalize (((w.alloc (.cells #[.bool na, .slice aa' la' ca', .slice aa la ca, .bool nb, .slice ab' lb' cb', .slice ab lb cb, .int .i64 lo, .int .i64 hi, .int .i64 m] 29)).alloc (.cells #[.bool nx, .slice ax' lx' cx', .slice ax lx cx] 27)).alloc (.cells #[.bool ny, .slice ay' ly' cy', .slice ay ly cy] 27)) = w0 at *
  clear hbx
  refine (wide_any _ _ _ _ _ _ _ _ _ _ _ _ _ _ lo hi m _ b1 b2 b3 b4).mono ?_
  rintro e w1 ⟨rfl, hb⟩
  replace cK0 := ((bcell hb (w.heap.size) ltK).1 0).trans cK0
  replace cK1 := ((bcell hb (w.heap.size) ltK).1 1).trans cK1
  replace cK2 := ((bcell hb (w.heap.size) ltK).1 2).trans cK2
  replace cK3 := ((bcell hb (w.heap.size) ltK).1 3).trans cK3
  replace cK4 := ((bcell hb (w.heap.size) ltK).1 4).trans cK4
  replace cK5 := ((bcell hb (w.heap.size) ltK).1 5).trans cK5
  replace cK6 := ((bcell hb (w.heap.size) ltK).1 6).trans cK6
  replace cK7 := ((bcell hb (w.heap.size) ltK).1 7).trans cK7
  replace cK8 := ((bcell hb (w.heap.size) ltK).1 8).trans cK8
  replace ltK := Nat.lt_of_lt_of_le ltK hb.size
  replace cX0 := ((bcell hb (w.heap.size + 1) ltX).1 0).trans cX0
  replace cX1 := ((bcell hb (w.heap.size + 1) ltX).1 1).trans cX1
  replace cX2 := ((bcell hb (w.heap.size + 1) ltX).1 2).trans cX2
  replace ltX := Nat.lt_of_lt_of_le ltX hb.size
  replace cY0 := ((bcell hb (w.heap.size + 1 + 1) ltY).1 0).trans cY0
  replace cY1 := ((bcell hb (w.heap.size + 1 + 1) ltY).1 1).trans cY1
  replace cY2 := ((bcell hb (w.heap.size + 1 + 1) ltY).1 2).trans cY2
  replace ltY := Nat.lt_of_lt_of_le ltY hb.size
  replace hB := hB.trans (hb.mono hB.size)
  rw [HG1.out]
  clear hb
  go_wp2_with fail
  refine (large_any _ _ _ _ _ _ _ _ b5 b6).mono ?_
  rintro e w2 ⟨rfl, hb⟩
  replace cK0 := ((bcell hb (w.heap.size) ltK).1 0).trans cK0
  replace cK1 := ((bcell hb (w.heap.size) ltK).1 1).trans cK1
  replace cK2 := ((bcell hb (w.heap.size) ltK).1 2).trans cK2
  replace cK3 := ((bcell hb (w.heap.size) ltK).1 3).trans cK3
  replace cK4 := ((bcell hb (w.heap.size) ltK).1 4).trans cK4
  replace cK5 := ((bcell hb (w.heap.size) ltK).1 5).trans cK5
  replace cK6 := ((bcell hb (w.heap.size) ltK).1 6).trans cK6
  replace cK7 := ((bcell hb (w.heap.size) ltK).1 7).trans cK7
  replace cK8 := ((bcell hb (w.heap.size) ltK).1 8).trans cK8
  replace ltK := Nat.lt_of_lt_of_le ltK hb.size
  replace cX0 := ((bcell hb (w.heap.size + 1) ltX).1 0).trans cX0
  replace cX1 := ((bcell hb (w.heap.size + 1) ltX).1 1).trans cX1
  replace cX2 := ((bcell hb (w.heap.size + 1) ltX).1 2).trans cX2
  replace ltX := Nat.lt_of_lt_of_le ltX hb.size
  replace cY0 := ((bcell hb (w.heap.size + 1 + 1) ltY).1 0).trans cY0
  replace cY1 := ((bcell hb (w.heap.size + 1 + 1) ltY).1 1).trans cY1
  replace cY2 := ((bcell hb (w.heap.size + 1 + 1) ltY).1 2).trans cY2
  replace ltY := Nat.lt_of_lt_of_le ltY hb.size
  replace hB := hB.trans (hb.mono hB.size)
  rw [HG2.out]
  clear hb
  go_wp2_with fail
  go_ret
  exact ⟨rfl, hB⟩

set_option maxHeartbeats 2000000 in
theorem sMono_y (na : Bool) (aa' aa : Option Addr) (la' ca' la ca : Nat) (nb : Bool) (ab' ab : Option Addr) (lb' cb' lb cb : Nat) (lo hi m : Int) (nx : Bool) (ax' ax : Option Addr) (lx' cx' lx cx : Nat) (ny : Bool) (ay' ay : Option Addr) (ly' cy' ly cy : Nat) (A B x y : Rat) (L : Nat) (w : World) (hA : RatV w (.agg #[.bool na, .slice aa' la' ca', .slice aa la ca]) A L) (hB0 : RatV w (.agg #[.bool nb, .slice ab' lb' cb', .slice ab lb cb]) B L) (hX : RatV w (.agg #[.bool nx, .slice ax' lx' cx', .slice ax lx cx]) x L) (hY : RatV w (.agg #[.bool ny, .slice ay' ly' cy', .slice ay ly cy]) y L) (g1 : (lgN la' la || lgN lb' lb) = false) (g2 : lgN lx' lx = false) (g3 : lgN ly' ly = true) :
    Calls Try.prog 4 #[.agg #[.bool na, .slice aa' la' ca', .slice aa la ca, .bool nb, .slice ab' lb' cb', .slice ab lb cb, .int .i64 lo, .int .i64 hi, .int .i64 m], .agg #[.bool nx, .slice ax' lx' cx', .slice ax lx cx], .agg #[.bool ny, .slice ay' ly' cy', .slice ay ly cy]] w fun e w' => e = .returned (.bool true) ∧ Below w.heap.size w w' := by
  obtain ⟨_, _, _, _, _, _, _, e1, b1, b2⟩ := hA.form
  obtain ⟨_, _, _, _, _, _, _, e2, b3, b4⟩ := hB0.form
  obtain ⟨_, _, _, _, _, _, _, e3, b5, b6⟩ := hX.form
  obtain ⟨_, _, _, _, _, _, _, e4, b7, b8⟩ := hY.form
  cases e1; cases e2; cases e3; cases e4
  have HG1 := Lib.hid g1
  have HG2 := Lib.hid g2
  have HG3 := Lib.hid g3
  clear g1 g2 g3
  clear hA hB0 hX hY
  go_enter Try.func4, Try.ntmps4
  go_wp2_with fail
  have hbx : Below w.heap.size w (((w.alloc (.cells #[.bool na, .slice aa' la' ca', .slice aa la ca, .bool nb, .slice ab' lb' cb', .slice ab lb cb, .int .i64 lo, .int .i64 hi, .int .i64 m] 29)).alloc (.cells #[.bool nx, .slice ax' lx' cx', .slice ax lx cx] 27)).alloc (.cells #[.bool ny, .slice ay' ly' cy', .slice ay ly cy] 27)) := ((((Below.refl _ _).alloc (Nat.le_refl _) _).alloc (by simp) _).alloc (by simp <;> omega) _)
  have cK0 : (((w.alloc (.cells #[.bool na, .slice aa' la' ca', .slice aa la ca, .bool nb, .slice ab' lb' cb', .slice ab lb cb, .int .i64 lo, .int .i64 hi, .int .i64 m] 29)).alloc (.cells #[.bool nx, .slice ax' lx' cx', .slice ax lx cx] 27)).alloc (.cells #[.bool ny, .slice ay' ly' cy', .slice ay ly cy] 27)).cell? ⟨w.heap.size, 0, none⟩ = some (.bool na) := by go_simp
  have cK1 : (((w.alloc (.cells #[.bool na, .slice aa' la' ca', .slice aa la ca, .bool nb, .slice ab' lb' cb', .slice ab lb cb, .int .i64 lo, .int .i64 hi, .int .i64 m] 29)).alloc (.cells #[.bool nx, .slice ax' lx' cx', .slice ax lx cx] 27)).alloc (.cells #[.bool ny, .slice ay' ly' cy', .slice ay ly cy] 27)).cell? ⟨w.heap.size, 1, none⟩ = some (.slice aa' la' ca') := by go_simp
  have cK2 : (((w.alloc (.cells #[.bool na, .slice aa' la' ca', .slice aa la ca, .bool nb, .slice ab' lb' cb', .slice ab lb cb, .int .i64 lo, .int .i64 hi, .int .i64 m] 29)).alloc (.cells #[.bool nx, .slice ax' lx' cx', .slice ax lx cx] 27)).alloc (.cells #[.bool ny, .slice ay' ly' cy', .slice ay ly cy] 27)).cell? ⟨w.heap.size, 2, none⟩ = some (.slice aa la ca) := by go_simp
  have cK3 : (((w.alloc (.cells #[.bool na, .slice aa' la' ca', .slice aa la ca, .bool nb, .slice ab' lb' cb', .slice ab lb cb, .int .i64 lo, .int .i64 hi, .int .i64 m] 29)).alloc (.cells #[.bool nx, .slice ax' lx' cx', .slice ax lx cx] 27)).alloc (.cells #[.bool ny, .slice ay' ly' cy', .slice ay ly cy] 27)).cell? ⟨w.heap.size, 3, none⟩ = some (.bool nb) := by go_simp
  have cK4 : (((w.alloc (.cells #[.bool na, .slice aa' la' ca', .slice aa la ca, .bool nb, .slice ab' lb' cb', .slice ab lb cb, .int .i64 lo, .int .i64 hi, .int .i64 m] 29)).alloc (.cells #[.bool nx, .slice ax' lx' cx', .slice ax lx cx] 27)).alloc (.cells #[.bool ny, .slice ay' ly' cy', .slice ay ly cy] 27)).cell? ⟨w.heap.size, 4, none⟩ = some (.slice ab' lb' cb') := by go_simp
  have cK5 : (((w.alloc (.cells #[.bool na, .slice aa' la' ca', .slice aa la ca, .bool nb, .slice ab' lb' cb', .slice ab lb cb, .int .i64 lo, .int .i64 hi, .int .i64 m] 29)).alloc (.cells #[.bool nx, .slice ax' lx' cx', .slice ax lx cx] 27)).alloc (.cells #[.bool ny, .slice ay' ly' cy', .slice ay ly cy] 27)).cell? ⟨w.heap.size, 5, none⟩ = some (.slice ab lb cb) := by go_simp
  have cK6 : (((w.alloc (.cells #[.bool na, .slice aa' la' ca', .slice aa la ca, .bool nb, .slice ab' lb' cb', .slice ab lb cb, .int .i64 lo, .int .i64 hi, .int .i64 m] 29)).alloc (.cells #[.bool nx, .slice ax' lx' cx', .slice ax lx cx] 27)).alloc (.cells #[.bool ny, .slice ay' ly' cy', .slice ay ly cy] 27)).cell? ⟨w.heap.size, 6, none⟩ = some (.int .i64 lo) := by go_simp
  have cK7 : (((w.alloc (.cells #[.bool na, .slice aa' la' ca', .slice aa la ca, .bool nb, .slice ab' lb' cb', .slice ab lb cb, .int .i64 lo, .int .i64 hi, .int .i64 m] 29)).alloc (.cells #[.bool nx, .slice ax' lx' cx', .slice ax lx cx] 27)).alloc (.cells #[.bool ny, .slice ay' ly' cy', .slice ay ly cy] 27)).cell? ⟨w.heap.size, 7, none⟩ = some (.int .i64 hi) := by go_simp
  have cK8 : (((w.alloc (.cells #[.bool na, .slice aa' la' ca', .slice aa la ca, .bool nb, .slice ab' lb' cb', .slice ab lb cb, .int .i64 lo, .int .i64 hi, .int .i64 m] 29)).alloc (.cells #[.bool nx, .slice ax' lx' cx', .slice ax lx cx] 27)).alloc (.cells #[.bool ny, .slice ay' ly' cy', .slice ay ly cy] 27)).cell? ⟨w.heap.size, 8, none⟩ = some (.int .i64 m) := by go_simp
  have ltK : w.heap.size < (((w.alloc (.cells #[.bool na, .slice aa' la' ca', .slice aa la ca, .bool nb, .slice ab' lb' cb', .slice ab lb cb, .int .i64 lo, .int .i64 hi, .int .i64 m] 29)).alloc (.cells #[.bool nx, .slice ax' lx' cx', .slice ax lx cx] 27)).alloc (.cells #[.bool ny, .slice ay' ly' cy', .slice ay ly cy] 27)).heap.size := by simp <;> omega
  have cX0 : (((w.alloc (.cells #[.bool na, .slice aa' la' ca', .slice aa la ca, .bool nb, .slice ab' lb' cb', .slice ab lb cb, .int .i64 lo, .int .i64 hi, .int .i64 m] 29)).alloc (.cells #[.bool nx, .slice ax' lx' cx', .slice ax lx cx] 27)).alloc (.cells #[.bool ny, .slice ay' ly' cy', .slice ay ly cy] 27)).cell? ⟨w.heap.size + 1, 0, none⟩ = some (.bool nx) := by go_simp
  have cX1 : (((w.alloc (.cells #[.bool na, .slice aa' la' ca', .slice aa la ca, .bool nb, .slice ab' lb' cb', .slice ab lb cb, .int .i64 lo, .int .i64 hi, .int .i64 m] 29)).alloc (.cells #[.bool nx, .slice ax' lx' cx', .slice ax lx cx] 27)).alloc (.cells #[.bool ny, .slice ay' ly' cy', .slice ay ly cy] 27)).cell? ⟨w.heap.size + 1, 1, none⟩ = some (.slice ax' lx' cx') := by go_simp
  have cX2 : (((w.alloc (.cells #[.bool na, .slice aa' la' ca', .slice aa la ca, .bool nb, .slice ab' lb' cb', .slice ab lb cb, .int .i64 lo, .int .i64 hi, .int .i64 m] 29)).alloc (.cells #[.bool nx, .slice ax' lx' cx', .slice ax lx cx] 27)).alloc (.cells #[.bool ny, .slice ay' ly' cy', .slice ay ly cy] 27)).cell? ⟨w.heap.size + 1, 2, none⟩ = some (.slice ax lx cx) := by go_simp
  have ltX : w.heap.size + 1 < (((w.alloc (.cells #[.bool na, .slice aa' la' ca', .slice aa la ca, .bool nb, .slice ab' lb' cb', .slice ab lb cb, .int .i64 lo, .int .i64 hi, .int .i64 m] 29)).alloc (.cells #[.bool nx, .slice ax' lx' cx', .slice ax lx cx] 27)).alloc (.cells #[.bool ny, .slice ay' ly' cy', .slice ay ly cy] 27)).heap.size := by simp <;> omega
  have cY0 : (((w.alloc (.cells #[.bool na, .slice aa' la' ca', .slice aa la ca, .bool nb, .slice ab' lb' cb', .slice ab lb cb, .int .i64 lo, .int .i64 hi, .int .i64 m] 29)).alloc (.cells #[.bool nx, .slice ax' lx' cx', .slice ax lx cx] 27)).alloc (.cells #[.bool ny, .slice ay' ly' cy', .slice ay ly cy] 27)).cell? ⟨w.heap.size + 1 + 1, 0, none⟩ = some (.bool ny) := by go_simp
  have cY1 : (((w.alloc (.cells #[.bool na, .slice aa' la' ca', .slice aa la ca, .bool nb, .slice ab' lb' cb', .slice ab lb cb, .int .i64 lo, .int .i64 hi, .int .i64 m] 29)).alloc (.cells #[.bool nx, .slice ax' lx' cx', .slice ax lx cx] 27)).alloc (.cells #[.bool ny, .slice ay' ly' cy', .slice ay ly cy] 27)).cell? ⟨w.heap.size + 1 + 1, 1, none⟩ = some (.slice ay' ly' cy') := by go_simp
  have cY2 : (((w.alloc (.cells #[.bool na, .slice aa' la' ca', .slice aa la ca, .bool nb, .slice ab' lb' cb', .slice ab lb cb, .int .i64 lo, .int .i64 hi, .int .i64 m] 29)).alloc (.cells #[.bool nx, .slice ax' lx' cx', .slice ax lx cx] 27)).alloc (.cells #[.bool ny, .slice ay' ly' cy', .slice ay ly cy] 27)).cell? ⟨w.heap.size + 1 + 1, 2, none⟩ = some (.slice ay ly cy) := by go_simp
  have ltY : w.heap.size + 1 + 1 < (((w.alloc (.cells #[.bool na, .slice aa' la' ca', .slice aa la ca, .bool nb, .slice ab' lb' cb', .slice ab lb cb, .int .i64 lo, .int .i64 hi, .int .i64 m] 29)).alloc (.cells #[.bool nx, .slice ax' lx' cx', .slice ax lx cx] 27)).alloc (.cells #[.bool ny, .slice ay' ly' cy', .slice ay ly cy] 27)).heap.size := by simp
  have hB := hbx
  generalize (((w.alloc (.cells #[.bool na, .slice aa' la' ca', .slice aa la ca, .bool nb, .slice ab' lb' cb', .slice ab lb cb, .int .i64 lo, .int .i64 hi, .int .i64 m] 29)).alloc (.cells #[.bool nx, .slice ax' lx' cx', .slice ax lx cx] 27)).alloc (.cells #[.bool ny, .slice ay' ly' cy', .slice ay ly cy] 27)) = w0 at *
  clear hbx
  refine (wide_any _ _ _ _ _ _ _ _ _ _ _ _ _ _ lo hi m _ b1 b2 b3 b4).mono ?_
  rintro e w1 ⟨rfl, hb⟩
  replace cK0 := ((bcell hb (w.heap.size) ltK).1 0).trans cK0
  replace cK1 := ((bcell hb (w.heap.size) ltK).1 1).trans cK1
  replace cK2 := ((bcell hb (w.heap.size) ltK).1 2).trans cK2
  replace cK3 := ((bcell hb (w.heap.size) ltK).1 3).trans cK3
  replace cK4 := ((bcell hb (w.heap.size) ltK).1 4).trans cK4
  replace cK5 := ((bcell hb (w.heap.size) ltK).1 5).trans cK5
  replace cK6 := ((bcell hb (w.heap.size) ltK).1 6).trans cK6
  replace cK7 := ((bcell hb (w.heap.size) ltK).1 7).trans cK7
  replace cK8 := ((bcell hb (w.heap.size) ltK).1 8).trans cK8
  replace ltK := Nat.lt_of_lt_of_le ltK hb.size
  replace cX0 := ((bcell hb (w.heap.size + 1) ltX).1 0).trans cX0
  replace cX1 := ((bcell hb (w.heap.size + 1) ltX).1 1).trans cX1
  replace cX2 := ((bcell hb (w.heap.size + 1) ltX).1 2).trans cX2
  replace ltX := Nat.lt_of_lt_of_le ltX hb.size
  replace cY0 := ((bcell hb (w.heap.size + 1 + 1) ltY).1 0).trans cY0
  replace cY1 := ((bcell hb (w.heap.size + 1 + 1) ltY).1 1).trans cY1
  replace cY2 := ((bcell hb (w.heap.size + 1 + 1) ltY).1 2).trans cY2
  replace ltY := Nat.lt_of_lt_of_le ltY hb.size
  replace hB := hB.trans (hb.mono hB.size)
  rw [HG1.out]
  clear hb
  go_wp2_with fail
  refine (large_any _ _ _ _ _ _ _ _ b5 b6).mono ?_
  rintro e w2 ⟨rfl, hb⟩
  replace cK0 := ((bcell hb (w.heap.size) ltK).1 0).trans cK0
  replace cK1 := ((bcell hb (w.heap.size) ltK).1 1).trans cK1
  replace cK2 := ((bcell hb (w.heap.size) ltK).1 2).trans cK2
  replace cK3 := ((bcell hb (w.heap.size) ltK).1 3).trans cK3
  replace cK4 := ((bcell hb (w.heap.size) ltK).1 4).trans cK4
  replace cK5 := ((bcell hb (w.heap.size) ltK).1 5).trans cK5
  replace cK6 := ((bcell hb (w.heap.size) ltK).1 6).trans cK6
  replace cK7 := ((bcell hb (w.heap.size) ltK).1 7).trans cK7
  replace cK8 := ((bcell hb (w.heap.size) ltK).1 8).trans cK8
  replace ltK := Nat.lt_of_lt_of_le ltK hb.size
  replace cX0 := ((bcell hb (w.heap.size + 1) ltX).1 0).trans cX0
  replace cX1 := ((bcell hb (w.heap.size + 1) ltX).1 1).trans cX1
  replace cX2 := ((bcell hb (w.heap.size + 1) ltX).1 2).trans cX2
  replace ltX := Nat.lt_of_lt_of_le ltX hb.size
  replace cY0 := ((bcell hb (w.heap.size + 1 + 1) ltY).1 0).trans cY0
  replace cY1 := ((bcell hb (w.heap.size + 1 + 1) ltY).1 1).trans cY1
  replace cY2 := ((bcell hb (w.heap.size + 1 + 1) ltY).1 2).trans cY2
  replace ltY := Nat.lt_of_lt_of_le ltY hb.size
  replace hB := hB.trans (hb.mono hB.size)
  rw [HG2.out]
  clear hb
  go_wp2_with fail
  refine (large_any _ _ _ _ _ _ _ _ b7 b8).mono ?_
  rintro e w3 ⟨rfl, hb⟩
  replace cK0 := ((bcell hb (w.heap.size) ltK).1 0).trans cK0
  replace cK1 := ((bcell hb (w.heap.size) ltK).1 1).trans cK1
  replace cK2 := ((bcell hb (w.heap.size) ltK).1 2).trans cK2
  replace cK3 := ((bcell hb (w.heap.size) ltK).1 3).trans cK3
  replace cK4 := ((bcell hb (w.heap.size) ltK).1 4).trans cK4
  replace cK5 := ((bcell hb (w.heap.size) ltK).1 5).trans cK5
  replace cK6 := ((bcell hb (w.heap.size) ltK).1 6).trans cK6
  replace cK7 := ((bcell hb (w.heap.size) ltK).1 7).trans cK7
  replace cK8 := ((bcell hb (w.heap.size) ltK).1 8).trans cK8
  replace ltK := Nat.lt_of_lt_of_le ltK hb.size
  replace cX0 := ((bcell hb (w.heap.size + 1) ltX).1 0).trans cX0
  replace cX1 := ((bcell hb (w.heap.size + 1) ltX).1 1).trans cX1
  replace cX2 := ((bcell hb (w.heap.size + 1) ltX).1 2).trans cX2
  replace ltX := Nat.lt_of_lt_of_le ltX hb.size
  replace cY0 := ((bcell hb (w.heap.size + 1 + 1) ltY).1 0).trans cY0
  replace cY1 := ((bcell hb (w.heap.size + 1 + 1) ltY).1 1).trans cY1
  replace cY2 := ((bcell hb (w.heap.size + 1 + 1) ltY).1 2).trans cY2
  replace ltY := Nat.lt_of_lt_of_le ltY hb.size
  replace hB := hB.trans (hb.mono hB.size)
  rw [HG3.out]
  clear hb
  go_wp2_with fail
  go_ret
  exact ⟨rfl, hB⟩

set_option maxHeartbeats 2000000 in
theorem sMono_no (na : Bool) (aa' aa : Option Addr) (la' ca' la ca : Nat) (nb : Bool) (ab' ab : Option Addr) (lb' cb' lb cb : Nat) (lo hi m : Int) (nx : Bool) (ax' ax : Option Addr) (lx' cx' lx cx : Nat) (ny : Bool) (ay' ay : Option Addr) (ly' cy' ly cy : Nat) (A B x y : Rat) (L : Nat) (w : World) (hA : RatV w (.agg #[.bool na, .slice aa' la' ca', .slice aa la ca]) A L) (hB0 : RatV w (.agg #[.bool nb, .slice ab' lb' cb', .slice ab lb cb]) B L) (hX : RatV w (.agg #[.bool nx, .slice ax' lx' cx', .slice ax lx cx]) x L) (hY : RatV w (.agg #[.bool ny, .slice ay' ly' cy', .slice ay ly cy]) y L) (g1 : (lgN la' la || lgN lb' lb) = false) (g2 : lgN lx' lx = false) (g3 : lgN ly' ly = false) (ho : validE A lo hi m ≠ 0) :
    Calls Try.prog 4 #[.agg #[.bool na, .slice aa' la' ca', .slice aa la ca, .bool nb, .slice ab' lb' cb', .slice ab lb cb, .int .i64 lo, .int .i64 hi, .int .i64 m], .agg #[.bool nx, .slice ax' lx' cx', .slice ax lx cx], .agg #[.bool ny, .slice ay' ly' cy', .slice ay ly cy]] w fun e w' => e = .returned (.bool true) ∧ Below w.heap.size w w' := by
  obtain ⟨_, _, _, _, _, _, _, e1, b1, b2⟩ := hA.form
  obtain ⟨_, _, _, _, _, _, _, e2, b3, b4⟩ := hB0.form
  obtain ⟨_, _, _, _, _, _, _, e3, b5, b6⟩ := hX.form
  obtain ⟨_, _, _, _, _, _, _, e4, b7, b8⟩ := hY.form
  cases e1; cases e2; cases e3; cases e4
  have HG1 := Lib.hid g1
  have HG2 := Lib.hid g2
  have HG3 := Lib.hid g3
  have g4 := Bool.or_eq_false_iff.1 g1
  have HK := Lib.hid (show LinV w (.agg #[.bool na, .slice aa' la' ca', .slice aa la ca, .bool nb, .slice ab' lb' cb', .slice ab lb cb, .int .i64 lo, .int .i64 hi, .int .i64 m]) A B lo hi m 20 from ⟨na, aa', la', ca', aa, la, ca, nb, ab', lb', cb', ab, lb, cb, rfl, hA.small g4.1, hB0.small g4.2⟩)
  have HX := Lib.hid (hX.small g2)
  have HY := Lib.hid (hY.small g3)
  clear g1 g2 g3 g4 hA hB0 hX hY
  have HO := Lib.hid ho
  have hz : (validE A lo hi m == 0) = false := by simpa using ho
  clear ho
  go_enter Try.func4, Try.ntmps4
  go_wp2_with fail
  have hbx : Below w.heap.size w (((w.alloc (.cells #[.bool na, .slice aa' la' ca', .slice aa la ca, .bool nb, .slice ab' lb' cb', .slice ab lb cb, .int .i64 lo, .int .i64 hi, .int .i64 m] 29)).alloc (.cells #[.bool nx, .slice ax' lx' cx', .slice ax lx cx] 27)).alloc (.cells #[.bool ny, .slice ay' ly' cy', .slice ay ly cy] 27)) := ((((Below.refl _ _).alloc (Nat.le_refl _) _).alloc (by simp) _).alloc (by simp <;> omega) _)
  replace HK := Lib.hid (HK.out.below hbx)
  replace HX := Lib.hid (HX.out.below hbx)
  replace HY := Lib.hid (HY.out.below hbx)
  have cK0 : (((w.alloc (.cells #[.bool na, .slice aa' la' ca', .slice aa la ca, .bool nb, .slice ab' lb' cb', .slice ab lb cb, .int .i64 lo, .int .i64 hi, .int .i64 m] 29)).alloc (.cells #[.bool nx, .slice ax' lx' cx', .slice ax lx cx] 27)).alloc (.cells #[.bool ny, .slice ay' ly' cy', .slice ay ly cy] 27)).cell? ⟨w.heap.size, 0, none⟩ = some (.bool na) := by go_simp
  have cK1 : (((w.alloc (.cells #[.bool na, .slice aa' la' ca', .slice aa la ca, .bool nb, .slice ab' lb' cb', .slice ab lb cb, .int .i64 lo, .int .i64 hi, .int .i64 m] 29)).alloc (.cells #[.bool nx, .slice ax' lx' cx', .slice ax lx cx] 27)).alloc (.cells #[.bool ny, .slice ay' ly' cy', .slice ay ly cy] 27)).cell? ⟨w.heap.size, 1, none⟩ = some (.slice aa' la' ca') := by go_simp
  have cK2 : (((w.alloc (.cells #[.bool na, .slice aa' la' ca', .slice aa la ca, .bool nb, .slice ab' lb' cb', .slice ab lb cb, .int .i64 lo, .int .i64 hi, .int .i64 m] 29)).alloc (.cells #[.bool nx, .slice ax' lx' cx', .slice ax lx cx] 27)).alloc (.cells #[.bool ny, .slice ay' ly' cy', .slice ay ly cy] 27)).cell? ⟨w.heap.size, 2, none⟩ = some (.slice aa la ca) := by go_simp
  have cK3 : (((w.alloc (.cells #[.bool na, .slice aa' la' ca', .slice aa la ca, .bool nb, .slice ab' lb' cb', .slice ab lb cb, .int .i64 lo, .int .i64 hi, .int .i64 m] 29)).alloc (.cells #[.bool nx, .slice ax' lx' cx', .slice ax lx cx] 27)).alloc (.cells #[.bool ny, .slice ay' ly' cy', .slice ay ly cy] 27)).cell? ⟨w.heap.size, 3, none⟩ = some (.bool nb) := by go_simp
  have cK4 : (((w.alloc (.cells #[.bool na, .slice aa' la' ca', .slice aa la ca, .bool nb, .slice ab' lb' cb', .slice ab lb cb, .int .i64 lo, .int .i64 hi, .int .i64 m] 29)).alloc (.cells #[.bool nx, .slice ax' lx' cx', .slice ax lx cx] 27)).alloc (.cells #[.bool ny, .slice ay' ly' cy', .slice ay ly cy] 27)).cell? ⟨w.heap.size, 4, none⟩ = some (.slice ab' lb' cb') := by go_simp
  have cK5 : (((w.alloc (.cells #[.bool na, .slice aa' la' ca', .slice aa la ca, .bool nb, .slice ab' lb' cb', .slice ab lb cb, .int .i64 lo, .int .i64 hi, .int .i64 m] 29)).alloc (.cells #[.bool nx, .slice ax' lx' cx', .slice ax lx cx] 27)).alloc (.cells #[.bool ny, .slice ay' ly' cy', .slice ay ly cy] 27)).cell? ⟨w.heap.size, 5, none⟩ = some (.slice ab lb cb) := by go_simp
  have cK6 : (((w.alloc (.cells #[.bool na, .slice aa' la' ca', .slice aa la ca, .bool nb, .slice ab' lb' cb', .slice ab lb cb, .int .i64 lo, .int .i64 hi, .int .i64 m] 29)).alloc (.cells #[.bool nx, .slice ax' lx' cx', .slice ax lx cx] 27)).alloc (.cells #[.bool ny, .slice ay' ly' cy', .slice ay ly cy] 27)).cell? ⟨w.heap.size, 6, none⟩ = some (.int .i64 lo) := by go_simp
  have cK7 : (((w.alloc (.cells #[.bool na, .slice aa' la' ca', .slice aa la ca, .bool nb, .slice ab' lb' cb', .slice ab lb cb, .int .i64 lo, .int .i64 hi, .int .i64 m] 29)).alloc (.cells #[.bool nx, .slice ax' lx' cx', .slice ax lx cx] 27)).alloc (.cells #[.bool ny, .slice ay' ly' cy', .slice ay ly cy] 27)).cell? ⟨w.heap.size, 7, none⟩ = some (.int .i64 hi) := by go_simp
  have cK8 : (((w.alloc (.cells #[.bool na, .slice aa' la' ca', .slice aa la ca, .bool nb, .slice ab' lb' cb', .slice ab lb cb, .int .i64 lo, .int .i64 hi, .int .i64 m] 29)).alloc (.cells #[.bool nx, .slice ax' lx' cx', .slice ax lx cx] 27)).alloc (.cells #[.bool ny, .slice ay' ly' cy', .slice ay ly cy] 27)).cell? ⟨w.heap.size, 8, none⟩ = some (.int .i64 m) := by go_simp
  have ltK : w.heap.size < (((w.alloc (.cells #[.bool na, .slice aa' la' ca', .slice aa la ca, .bool nb, .slice ab' lb' cb', .slice ab lb cb, .int .i64 lo, .int .i64 hi, .int .i64 m] 29)).alloc (.cells #[.bool nx, .slice ax' lx' cx', .slice ax lx cx] 27)).alloc (.cells #[.bool ny, .slice ay' ly' cy', .slice ay ly cy] 27)).heap.size := by simp <;> omega
  have cX0 : (((w.alloc (.cells #[.bool na, .slice aa' la' ca', .slice aa la ca, .bool nb, .slice ab' lb' cb', .slice ab lb cb, .int .i64 lo, .int .i64 hi, .int .i64 m] 29)).alloc (.cells #[.bool nx, .slice ax' lx' cx', .slice ax lx cx] 27)).alloc (.cells #[.bool ny, .slice ay' ly' cy', .slice ay ly cy] 27)).cell? ⟨w.heap.size + 1, 0, none⟩ = some (.bool nx) := by go_simp
  have cX1 : (((w.alloc (.cells #[.bool na, .slice aa' la' ca', .slice aa la ca, .bool nb, .slice ab' lb' cb', .slice ab lb cb, .int .i64 lo, .int .i64 hi, .int .i64 m] 29)).alloc (.cells #[.bool nx, .slice ax' lx' cx', .slice ax lx cx] 27)).alloc (.cells #[.bool ny, .slice ay' ly' cy', .slice ay ly cy] 27)).cell? ⟨w.heap.size + 1, 1, none⟩ = some (.slice ax' lx' cx') := by go_simp
  have cX2 : (((w.alloc (.cells #[.bool na, .slice aa' la' ca', .slice aa la ca, .bool nb, .slice ab' lb' cb', .slice ab lb cb, .int .i64 lo, .int .i64 hi, .int .i64 m] 29)).alloc (.cells #[.bool nx, .slice ax' lx' cx', .slice ax lx cx] 27)).alloc (.cells #[.bool ny, .slice ay' ly' cy', .slice ay ly cy] 27)).cell? ⟨w.heap.size + 1, 2, none⟩ = some (.slice ax lx cx) := by go_simp
  have ltX : w.heap.size + 1 < (((w.alloc (.cells #[.bool na, .slice aa' la' ca', .slice aa la ca, .bool nb, .slice ab' lb' cb', .slice ab lb cb, .int .i64 lo, .int .i64 hi, .int .i64 m] 29)).alloc (.cells #[.bool nx, .slice ax' lx' cx', .slice ax lx cx] 27)).alloc (.cells #[.bool ny, .slice ay' ly' cy', .slice ay ly cy] 27)).heap.size := by simp <;> omega
  have cY0 : (((w.alloc (.cells #[.bool na, .slice aa' la' ca', .slice aa la ca, .bool nb, .slice ab' lb' cb', .slice ab lb cb, .int .i64 lo, .int .i64 hi, .int .i64 m] 29)).alloc (.cells #[.bool nx, .slice ax' lx' cx', .slice ax lx cx] 27)).alloc (.cells #[.bool ny, .slice ay' ly' cy', .slice ay ly cy] 27)).cell? ⟨w.heap.size + 1 + 1, 0, none⟩ = some (.bool ny) := by go_simp
  have cY1 : (((w.alloc (.cells #[.bool na, .slice aa' la' ca', .slice aa la ca, .bool nb, .slice ab' lb' cb', .slice ab lb cb, .int .i64 lo, .int .i64 hi, .int .i64 m] 29)).alloc (.cells #[.bool nx, .slice ax' lx' cx', .slice ax lx cx] 27)).alloc (.cells #[.bool ny, .slice ay' ly' cy', .slice ay ly cy] 27)).cell? ⟨w.heap.size + 1 + 1, 1, none⟩ = some (.slice ay' ly' cy') := by go_simp
  have cY2 : (((w.alloc (.cells #[.bool na, .slice aa' la' ca', .slice aa la ca, .bool nb, .slice ab' lb' cb', .slice ab lb cb, .int .i64 lo, .int .i64 hi, .int .i64 m] 29)).alloc (.cells #[.bool nx, .slice ax' lx' cx', .slice ax lx cx] 27)).alloc (.cells #[.bool ny, .slice ay' ly' cy', .slice ay ly cy] 27)).cell? ⟨w.heap.size + 1 + 1, 2, none⟩ = some (.slice ay ly cy) := by go_simp
  have ltY : w.heap.size + 1 + 1 < (((w.alloc (.cells #[.bool na, .slice aa' la' ca', .slice aa la ca, .bool nb, .slice ab' lb' cb', .slice ab lb cb, .int .i64 lo, .int .i64 hi, .int .i64 m] 29)).alloc (.cells #[.bool nx, .slice ax' lx' cx', .slice ax lx cx] 27)).alloc (.cells #[.bool ny, .slice ay' ly' cy', .slice ay ly cy] 27)).heap.size := by simp
  have hB := hbx
  generalize (((w.alloc (.cells #[.bool na, .slice aa' la' ca', .slice aa la ca, .bool nb, .slice ab' lb' cb', .slice ab lb cb, .int .i64 lo, .int .i64 hi, .int .i64 m] 29)).alloc (.cells #[.bool nx, .slice ax' lx' cx', .slice ax lx cx] 27)).alloc (.cells #[.bool ny, .slice ay' ly' cy', .slice ay ly cy] 27)) = w0 at *
  clear hbx
  refine (wide_any _ _ _ _ _ _ _ _ _ _ _ _ _ _ lo hi m _ b1 b2 b3 b4).mono ?_
  rintro e w1 ⟨rfl, hb⟩
  replace cK0 := ((bcell hb (w.heap.size) ltK).1 0).trans cK0
  replace cK1 := ((bcell hb (w.heap.size) ltK).1 1).trans cK1
  replace cK2 := ((bcell hb (w.heap.size) ltK).1 2).trans cK2
  replace cK3 := ((bcell hb (w.heap.size) ltK).1 3).trans cK3
  replace cK4 := ((bcell hb (w.heap.size) ltK).1 4).trans cK4
  replace cK5 := ((bcell hb (w.heap.size) ltK).1 5).trans cK5
  replace cK6 := ((bcell hb (w.heap.size) ltK).1 6).trans cK6
  replace cK7 := ((bcell hb (w.heap.size) ltK).1 7).trans cK7
  replace cK8 := ((bcell hb (w.heap.size) ltK).1 8).trans cK8
  replace ltK := Nat.lt_of_lt_of_le ltK hb.size
  replace cX0 := ((bcell hb (w.heap.size + 1) ltX).1 0).trans cX0
  replace cX1 := ((bcell hb (w.heap.size + 1) ltX).1 1).trans cX1
  replace cX2 := ((bcell hb (w.heap.size + 1) ltX).1 2).trans cX2
  replace ltX := Nat.lt_of_lt_of_le ltX hb.size
  replace cY0 := ((bcell hb (w.heap.size + 1 + 1) ltY).1 0).trans cY0
  replace cY1 := ((bcell hb (w.heap.size + 1 + 1) ltY).1 1).trans cY1
  replace cY2 := ((bcell hb (w.heap.size + 1 + 1) ltY).1 2).trans cY2
  replace ltY := Nat.lt_of_lt_of_le ltY hb.size
  replace HK := Lib.hid (HK.out.below hb)
  replace HX := Lib.hid (HX.out.below hb)
  replace HY := Lib.hid (HY.out.below hb)
  replace hB := hB.trans (hb.mono hB.size)
  rw [HG1.out]
  clear hb
  go_wp2_with fail
  refine (large_any _ _ _ _ _ _ _ _ b5 b6).mono ?_
  rintro e w2 ⟨rfl, hb⟩
  replace cK0 := ((bcell hb (w.heap.size) ltK).1 0).trans cK0
  replace cK1 := ((bcell hb (w.heap.size) ltK).1 1).trans cK1
  replace cK2 := ((bcell hb (w.heap.size) ltK).1 2).trans cK2
  replace cK3 := ((bcell hb (w.heap.size) ltK).1 3).trans cK3
  replace cK4 := ((bcell hb (w.heap.size) ltK).1 4).trans cK4
  replace cK5 := ((bcell hb (w.heap.size) ltK).1 5).trans cK5
  replace cK6 := ((bcell hb (w.heap.size) ltK).1 6).trans cK6
  replace cK7 := ((bcell hb (w.heap.size) ltK).1 7).trans cK7
  replace cK8 := ((bcell hb (w.heap.size) ltK).1 8).trans cK8
  replace ltK := Nat.lt_of_lt_of_le ltK hb.size
  replace cX0 := ((bcell hb (w.heap.size + 1) ltX).1 0).trans cX0
  replace cX1 := ((bcell hb (w.heap.size + 1) ltX).1 1).trans cX1
  replace cX2 := ((bcell hb (w.heap.size + 1) ltX).1 2).trans cX2
  replace ltX := Nat.lt_of_lt_of_le ltX hb.size
  replace cY0 := ((bcell hb (w.heap.size + 1 + 1) ltY).1 0).trans cY0
  replace cY1 := ((bcell hb (w.heap.size + 1 + 1) ltY).1 1).trans cY1
  replace cY2 := ((bcell hb (w.heap.size + 1 + 1) ltY).1 2).trans cY2
  replace ltY := Nat.lt_of_lt_of_le ltY hb.size
  replace HK := Lib.hid (HK.out.below hb)
  replace HX := Lib.hid (HX.out.below hb)
  replace HY := Lib.hid (HY.out.below hb)
  replace hB := hB.trans (hb.mono hB.size)
  rw [HG2.out]
  clear hb
  go_wp2_with fail
  refine (large_any _ _ _ _ _ _ _ _ b7 b8).mono ?_
  rintro e w3 ⟨rfl, hb⟩
  replace cK0 := ((bcell hb (w.heap.size) ltK).1 0).trans cK0
  replace cK1 := ((bcell hb (w.heap.size) ltK).1 1).trans cK1
  replace cK2 := ((bcell hb (w.heap.size) ltK).1 2).trans cK2
  replace cK3 := ((bcell hb (w.heap.size) ltK).1 3).trans cK3
  replace cK4 := ((bcell hb (w.heap.size) ltK).1 4).trans cK4
  replace cK5 := ((bcell hb (w.heap.size) ltK).1 5).trans cK5
  replace cK6 := ((bcell hb (w.heap.size) ltK).1 6).trans cK6
  replace cK7 := ((bcell hb (w.heap.size) ltK).1 7).trans cK7
  replace cK8 := ((bcell hb (w.heap.size) ltK).1 8).trans cK8
  replace ltK := Nat.lt_of_lt_of_le ltK hb.size
  replace cX0 := ((bcell hb (w.heap.size + 1) ltX).1 0).trans cX0
  replace cX1 := ((bcell hb (w.heap.size + 1) ltX).1 1).trans cX1
  replace cX2 := ((bcell hb (w.heap.size + 1) ltX).1 2).trans cX2
  replace ltX := Nat.lt_of_lt_of_le ltX hb.size
  replace cY0 := ((bcell hb (w.heap.size + 1 + 1) ltY).1 0).trans cY0
  replace cY1 := ((bcell hb (w.heap.size + 1 + 1) ltY).1 1).trans cY1
  replace cY2 := ((bcell hb (w.heap.size + 1 + 1) ltY).1 2).trans cY2
  replace ltY := Nat.lt_of_lt_of_le ltY hb.size
  replace HK := Lib.hid (HK.out.below hb)
  replace HX := Lib.hid (HX.out.below hb)
  replace HY := Lib.hid (HY.out.below hb)
  replace hB := hB.trans (hb.mono hB.size)
  rw [HG3.out]
  clear hb
  go_wp2_with fail
  refine (Score_no _ _ A B x lo hi m 20 _ HK.out HX.out (by omega) HO.out).mono ?_
  rintro e w4 ⟨rfl, hb⟩
  replace cK0 := ((bcell hb (w.heap.size) ltK).1 0).trans cK0
  replace cK1 := ((bcell hb (w.heap.size) ltK).1 1).trans cK1
  replace cK2 := ((bcell hb (w.heap.size) ltK).1 2).trans cK2
  replace cK3 := ((bcell hb (w.heap.size) ltK).1 3).trans cK3
  replace cK4 := ((bcell hb (w.heap.size) ltK).1 4).trans cK4
  replace cK5 := ((bcell hb (w.heap.size) ltK).1 5).trans cK5
  replace cK6 := ((bcell hb (w.heap.size) ltK).1 6).trans cK6
  replace cK7 := ((bcell hb (w.heap.size) ltK).1 7).trans cK7
  replace cK8 := ((bcell hb (w.heap.size) ltK).1 8).trans cK8
  replace ltK := Nat.lt_of_lt_of_le ltK hb.size
  replace cX0 := ((bcell hb (w.heap.size + 1) ltX).1 0).trans cX0
  replace cX1 := ((bcell hb (w.heap.size + 1) ltX).1 1).trans cX1
  replace cX2 := ((bcell hb (w.heap.size + 1) ltX).1 2).trans cX2
  replace ltX := Nat.lt_of_lt_of_le ltX hb.size
  replace cY0 := ((bcell hb (w.heap.size + 1 + 1) ltY).1 0).trans cY0
  replace cY1 := ((bcell hb (w.heap.size + 1 + 1) ltY).1 1).trans cY1
  replace cY2 := ((bcell hb (w.heap.size + 1 + 1) ltY).1 2).trans cY2
  replace ltY := Nat.lt_of_lt_of_le ltY hb.size
  replace HK := Lib.hid (HK.out.below hb)
  replace HX := Lib.hid (HX.out.below hb)
  replace HY := Lib.hid (HY.out.below hb)
  replace hB := hB.trans (hb.mono hB.size)
  clear hb
  go_wp2_with fail
  refine (Score_no _ _ A B y lo hi m 20 _ HK.out HY.out (by omega) HO.out).mono ?_
  rintro e w5 ⟨rfl, hb⟩
  replace cK0 := ((bcell hb (w.heap.size) ltK).1 0).trans cK0
  replace cK1 := ((bcell hb (w.heap.size) ltK).1 1).trans cK1
  replace cK2 := ((bcell hb (w.heap.size) ltK).1 2).trans cK2
  replace cK3 := ((bcell hb (w.heap.size) ltK).1 3).trans cK3
  replace cK4 := ((bcell hb (w.heap.size) ltK).1 4).trans cK4
  replace cK5 := ((bcell hb (w.heap.size) ltK).1 5).trans cK5
  replace cK6 := ((bcell hb (w.heap.size) ltK).1 6).trans cK6
  replace cK7 := ((bcell hb (w.heap.size) ltK).1 7).trans cK7
  replace cK8 := ((bcell hb (w.heap.size) ltK).1 8).trans cK8
  replace ltK := Nat.lt_of_lt_of_le ltK hb.size
  replace cX0 := ((bcell hb (w.heap.size + 1) ltX).1 0).trans cX0
  replace cX1 := ((bcell hb (w.heap.size + 1) ltX).1 1).trans cX1
  replace cX2 := ((bcell hb (w.heap.size + 1) ltX).1 2).trans cX2
  replace ltX := Nat.lt_of_lt_of_le ltX hb.size
  replace cY0 := ((bcell hb (w.heap.size + 1 + 1) ltY).1 0).trans cY0
  replace cY1 := ((bcell hb (w.heap.size + 1 + 1) ltY).1 1).trans cY1
  replace cY2 := ((bcell hb (w.heap.size + 1 + 1) ltY).1 2).trans cY2
  replace ltY := Nat.lt_of_lt_of_le ltY hb.size
  replace HK := Lib.hid (HK.out.below hb)
  replace HX := Lib.hid (HX.out.below hb)
  replace HY := Lib.hid (HY.out.below hb)
  replace hB := hB.trans (hb.mono hB.size)
  clear hb
  clear HO
  have HVd := Lib.hid (fun w' (h : LinV w' (.agg #[.bool na, .slice aa' la' ca', .slice aa la ca, .bool nb, .slice ab' lb' cb', .slice ab lb cb, .int .i64 lo, .int .i64 hi, .int .i64 m]) A B lo hi m 20) => svalid_any _ A B lo hi m 20 w' h (by omega))
  generalize validE A lo hi m = ev at *
  go_wp2_with fail
  refine (HVd.out _ HK.out).mono ?_
  rintro e w6 ⟨rfl, hb⟩
  replace cK0 := ((bcell hb (w.heap.size) ltK).1 0).trans cK0
  replace cK1 := ((bcell hb (w.heap.size) ltK).1 1).trans cK1
  replace cK2 := ((bcell hb (w.heap.size) ltK).1 2).trans cK2
  replace cK3 := ((bcell hb (w.heap.size) ltK).1 3).trans cK3
  replace cK4 := ((bcell hb (w.heap.size) ltK).1 4).trans cK4
  replace cK5 := ((bcell hb (w.heap.size) ltK).1 5).trans cK5
  replace cK6 := ((bcell hb (w.heap.size) ltK).1 6).trans cK6
  replace cK7 := ((bcell hb (w.heap.size) ltK).1 7).trans cK7
  replace cK8 := ((bcell hb (w.heap.size) ltK).1 8).trans cK8
  replace ltK := Nat.lt_of_lt_of_le ltK hb.size
  replace cX0 := ((bcell hb (w.heap.size + 1) ltX).1 0).trans cX0
  replace cX1 := ((bcell hb (w.heap.size + 1) ltX).1 1).trans cX1
  replace cX2 := ((bcell hb (w.heap.size + 1) ltX).1 2).trans cX2
  replace ltX := Nat.lt_of_lt_of_le ltX hb.size
  replace cY0 := ((bcell hb (w.heap.size + 1 + 1) ltY).1 0).trans cY0
  replace cY1 := ((bcell hb (w.heap.size + 1 + 1) ltY).1 1).trans cY1
  replace cY2 := ((bcell hb (w.heap.size + 1 + 1) ltY).1 2).trans cY2
  replace ltY := Nat.lt_of_lt_of_le ltY hb.size
  replace HK := Lib.hid (HK.out.below hb)
  replace HX := Lib.hid (HX.out.below hb)
  replace HY := Lib.hid (HY.out.below hb)
  replace hB := hB.trans (hb.mono hB.size)
  clear hb
  go_wp2_with fail
  go_ret
  exact ⟨rfl, hB⟩

set_option maxHeartbeats 2000000 in
theorem sMono_le (na : Bool) (aa' aa : Option Addr) (la' ca' la ca : Nat) (nb : Bool) (ab' ab : Option Addr) (lb' cb' lb cb : Nat) (lo hi m : Int) (nx : Bool) (ax' ax : Option Addr) (lx' cx' lx cx : Nat) (ny : Bool) (ay' ay : Option Addr) (ly' cy' ly cy : Nat) (A B x y : Rat) (L : Nat) (w : World) (hA : RatV w (.agg #[.bool na, .slice aa' la' ca', .slice aa la ca]) A L) (hB0 : RatV w (.agg #[.bool nb, .slice ab' lb' cb', .slice ab lb cb]) B L) (hX : RatV w (.agg #[.bool nx, .slice ax' lx' cx', .slice ax lx cx]) x L) (hY : RatV w (.agg #[.bool ny, .slice ay' ly' cy', .slice ay ly cy]) y L) (g1 : (lgN la' la || lgN lb' lb) = false) (g2 : lgN lx' lx = false) (g3 : lgN ly' ly = false) (ho : validE A lo hi m = 0) (hc : rcmpI x y ≤ 0) :
    Calls Try.prog 4 #[.agg #[.bool na, .slice aa' la' ca', .slice aa la ca, .bool nb, .slice ab' lb' cb', .slice ab lb cb, .int .i64 lo, .int .i64 hi, .int .i64 m], .agg #[.bool nx, .slice ax' lx' cx', .slice ax lx cx], .agg #[.bool ny, .slice ay' ly' cy', .slice ay ly cy]] w fun e w' => e = .returned (.bool true) ∧ Below w.heap.size w w' := by
  obtain ⟨_, _, _, _, _, _, _, e1, b1, b2⟩ := hA.form
  obtain ⟨_, _, _, _, _, _, _, e2, b3, b4⟩ := hB0.form
  obtain ⟨_, _, _, _, _, _, _, e3, b5, b6⟩ := hX.form
  obtain ⟨_, _, _, _, _, _, _, e4, b7, b8⟩ := hY.form
  cases e1; cases e2; cases e3; cases e4
  have HG1 := Lib.hid g1
  have HG2 := Lib.hid g2
  have HG3 := Lib.hid g3
  have g4 := Bool.or_eq_false_iff.1 g1
  have HK := Lib.hid (show LinV w (.agg #[.bool na, .slice aa' la' ca', .slice aa la ca, .bool nb, .slice ab' lb' cb', .slice ab lb cb, .int .i64 lo, .int .i64 hi, .int .i64 m]) A B lo hi m 20 from ⟨na, aa', la', ca', aa, la, ca, nb, ab', lb', cb', ab, lb, cb, rfl, hA.small g4.1, hB0.small g4.2⟩)
  have HX := Lib.hid (hX.small g2)
  have HY := Lib.hid (hY.small g3)
  clear g1 g2 g3 g4 hA hB0 hX hY
  have HO := Lib.hid ho
  have hvo := valid_ok ho
  have hbx := clamp_bd (n := roundI m (A * x + B)) hvo.2.2.2.1
  have hby := clamp_bd (n := roundI m (A * y + B)) hvo.2.2.2.1
  have hmo := score_mono (x := x) (y := y) (B := B) (m := m) hvo.1 hvo.2.2.2.1 (cmpI_le.1 hc)
  have hx1 : lo ≤ scoreI A B lo hi m x := hbx.1
  have hx2 : scoreI A B lo hi m x ≤ hi := hbx.2
  have hy1 : lo ≤ scoreI A B lo hi m y := hby.1
  have hy2 : scoreI A B lo hi m y ≤ hi := hby.2
  clear ho hbx hby hvo
  go_enter Try.func4, Try.ntmps4
  go_wp2_with fail
  have hbx : Below w.heap.size w (((w.alloc (.cells #[.bool na, .slice aa' la' ca', .slice aa la ca, .bool nb, .slice ab' lb' cb', .slice ab lb cb, .int .i64 lo, .int .i64 hi, .int .i64 m] 29)).alloc (.cells #[.bool nx, .slice ax' lx' cx', .slice ax lx cx] 27)).alloc (.cells #[.bool ny, .slice ay' ly' cy', .slice ay ly cy] 27)) := ((((Below.refl _ _).alloc (Nat.le_refl _) _).alloc (by simp) _).alloc (by simp <;> omega) _)
  replace HK := Lib.hid (HK.out.below hbx)
  replace HX := Lib.hid (HX.out.below hbx)
  replace HY := Lib.hid (HY.out.below hbx)
  have cK0 : (((w.alloc (.cells #[.bool na, .slice aa' la' ca', .slice aa la ca, .bool nb, .slice ab' lb' cb', .slice ab lb cb, .int .i64 lo, .int .i64 hi, .int .i64 m] 29)).alloc (.cells #[.bool nx, .slice ax' lx' cx', .slice ax lx cx] 27)).alloc (.cells #[.bool ny, .slice ay' ly' cy', .slice ay ly cy] 27)).cell? ⟨w.heap.size, 0, none⟩ = some (.bool na) := by go_simp
  have cK1 : (((w.alloc (.cells #[.bool na, .slice aa' la' ca', .slice aa la ca, .bool nb, .slice ab' lb' cb', .slice ab lb cb, .int .i64 lo, .int .i64 hi, .int .i64 m] 29)).alloc (.cells #[.bool nx, .slice ax' lx' cx', .slice ax lx cx] 27)).alloc (.cells #[.bool ny, .slice ay' ly' cy', .slice ay ly cy] 27)).cell? ⟨w.heap.size, 1, none⟩ = some (.slice aa' la' ca') := by go_simp
  have cK2 : (((w.alloc (.cells #[.bool na, .slice aa' la' ca', .slice aa la ca, .bool nb, .slice ab' lb' cb', .slice ab lb cb, .int .i64 lo, .int .i64 hi, .int .i64 m] 29)).alloc (.cells #[.bool nx, .slice ax' lx' cx', .slice ax lx cx] 27)).alloc (.cells #[.bool ny, .slice ay' ly' cy', .slice ay ly cy] 27)).cell? ⟨w.heap.size, 2, none⟩ = some (.slice aa la ca) := by go_simp
  have cK3 : (((w.alloc (.cells #[.bool na, .slice aa' la' ca', .slice aa la ca, .bool nb, .slice ab' lb' cb', .slice ab lb cb, .int .i64 lo, .int .i64 hi, .int .i64 m] 29)).alloc (.cells #[.bool nx, .slice ax' lx' cx', .slice ax lx cx] 27)).alloc (.cells #[.bool ny, .slice ay' ly' cy', .slice ay ly cy] 27)).cell? ⟨w.heap.size, 3, none⟩ = some (.bool nb) := by go_simp
  have cK4 : (((w.alloc (.cells #[.bool na, .slice aa' la' ca', .slice aa la ca, .bool nb, .slice ab' lb' cb', .slice ab lb cb, .int .i64 lo, .int .i64 hi, .int .i64 m] 29)).alloc (.cells #[.bool nx, .slice ax' lx' cx', .slice ax lx cx] 27)).alloc (.cells #[.bool ny, .slice ay' ly' cy', .slice ay ly cy] 27)).cell? ⟨w.heap.size, 4, none⟩ = some (.slice ab' lb' cb') := by go_simp
  have cK5 : (((w.alloc (.cells #[.bool na, .slice aa' la' ca', .slice aa la ca, .bool nb, .slice ab' lb' cb', .slice ab lb cb, .int .i64 lo, .int .i64 hi, .int .i64 m] 29)).alloc (.cells #[.bool nx, .slice ax' lx' cx', .slice ax lx cx] 27)).alloc (.cells #[.bool ny, .slice ay' ly' cy', .slice ay ly cy] 27)).cell? ⟨w.heap.size, 5, none⟩ = some (.slice ab lb cb) := by go_simp
  have cK6 : (((w.alloc (.cells #[.bool na, .slice aa' la' ca', .slice aa la ca, .bool nb, .slice ab' lb' cb', .slice ab lb cb, .int .i64 lo, .int .i64 hi, .int .i64 m] 29)).alloc (.cells #[.bool nx, .slice ax' lx' cx', .slice ax lx cx] 27)).alloc (.cells #[.bool ny, .slice ay' ly' cy', .slice ay ly cy] 27)).cell? ⟨w.heap.size, 6, none⟩ = some (.int .i64 lo) := by go_simp
  have cK7 : (((w.alloc (.cells #[.bool na, .slice aa' la' ca', .slice aa la ca, .bool nb, .slice ab' lb' cb', .slice ab lb cb, .int .i64 lo, .int .i64 hi, .int .i64 m] 29)).alloc (.cells #[.bool nx, .slice ax' lx' cx', .slice ax lx cx] 27)).alloc (.cells #[.bool ny, .slice ay' ly' cy', .slice ay ly cy] 27)).cell? ⟨w.heap.size, 7, none⟩ = some (.int .i64 hi) := by go_simp
  have cK8 : (((w.alloc (.cells #[.bool na, .slice aa' la' ca', .slice aa la ca, .bool nb, .slice ab' lb' cb', .slice ab lb cb, .int .i64 lo, .int .i64 hi, .int .i64 m] 29)).alloc (.cells #[.bool nx, .slice ax' lx' cx', .slice ax lx cx] 27)).alloc (.cells #[.bool ny, .slice ay' ly' cy', .slice ay ly cy] 27)).cell? ⟨w.heap.size, 8, none⟩ = some (.int .i64 m) := by go_simp
  have ltK : w.heap.size < (((w.alloc (.cells #[.bool na, .slice aa' la' ca', .slice aa la ca, .bool nb, .slice ab' lb' cb', .slice ab lb cb, .int .i64 lo, .int .i64 hi, .int .i64 m] 29)).alloc (.cells #[.bool nx, .slice ax' lx' cx', .slice ax lx cx] 27)).alloc (.cells #[.bool ny, .slice ay' ly' cy', .slice ay ly cy] 27)).heap.size := by simp <;> omega
  have cX0 : (((w.alloc (.cells #[.bool na, .slice aa' la' ca', .slice aa la ca, .bool nb, .slice ab' lb' cb', .slice ab lb cb, .int .i64 lo, .int .i64 hi, .int .i64 m] 29)).alloc (.cells #[.bool nx, .slice ax' lx' cx', .slice ax lx cx] 27)).alloc (.cells #[.bool ny, .slice ay' ly' cy', .slice ay ly cy] 27)).cell? ⟨w.heap.size + 1, 0, none⟩ = some (.bool nx) := by go_simp
  have cX1 : (((w.alloc (.cells #[.bool na, .slice aa' la' ca', .slice aa la ca, .bool nb, .slice ab' lb' cb', .slice ab lb cb, .int .i64 lo, .int .i64 hi, .int .i64 m] 29)).alloc (.cells #[.bool nx, .slice ax' lx' cx', .slice ax lx cx] 27)).alloc (.cells #[.bool ny, .slice ay' ly' cy', .slice ay ly cy] 27)).cell? ⟨w.heap.size + 1, 1, none⟩ = some (.slice ax' lx' cx') := by go_simp
  have cX2 : (((w.alloc (.cells #[.bool na, .slice aa' la' ca', .slice aa la ca, .bool nb, .slice ab' lb' cb', .slice ab lb cb, .int .i64 lo, .int .i64 hi, .int .i64 m] 29)).alloc (.cells #[.bool nx, .slice ax' lx' cx', .slice ax lx cx] 27)).alloc (.cells #[.bool ny, .slice ay' ly' cy', .slice ay ly cy] 27)).cell? ⟨w.heap.size + 1, 2, none⟩ = some (.slice ax lx cx) := by go_simp
  have ltX : w.heap.size + 1 < (((w.alloc (.cells #[.bool na, .slice aa' la' ca', .slice aa la ca, .bool nb, .slice ab' lb' cb', .slice ab lb cb, .int .i64 lo, .int .i64 hi, .int .i64 m] 29)).alloc (.cells #[.bool nx, .slice ax' lx' cx', .slice ax lx cx] 27)).alloc (.cells #[.bool ny, .slice ay' ly' cy', .slice ay ly cy] 27)).heap.size := by simp <;> omega
  have cY0 : (((w.alloc (.cells #[.bool na, .slice aa' la' ca', .slice aa la ca, .bool nb, .slice ab' lb' cb', .slice ab lb cb, .int .i64 lo, .int .i64 hi, .int .i64 m] 29)).alloc (.cells #[.bool nx, .slice ax' lx' cx', .slice ax lx cx] 27)).alloc (.cells #[.bool ny, .slice ay' ly' cy', .slice ay ly cy] 27)).cell? ⟨w.heap.size + 1 + 1, 0, none⟩ = some (.bool ny) := by go_simp
  have cY1 : (((w.alloc (.cells #[.bool na, .slice aa' la' ca', .slice aa la ca, .bool nb, .slice ab' lb' cb', .slice ab lb cb, .int .i64 lo, .int .i64 hi, .int .i64 m] 29)).alloc (.cells #[.bool nx, .slice ax' lx' cx', .slice ax lx cx] 27)).alloc (.cells #[.bool ny, .slice ay' ly' cy', .slice ay ly cy] 27)).cell? ⟨w.heap.size + 1 + 1, 1, none⟩ = some (.slice ay' ly' cy') := by go_simp
  have cY2 : (((w.alloc (.cells #[.bool na, .slice aa' la' ca', .slice aa la ca, .bool nb, .slice ab' lb' cb', .slice ab lb cb, .int .i64 lo, .int .i64 hi, .int .i64 m] 29)).alloc (.cells #[.bool nx, .slice ax' lx' cx', .slice ax lx cx] 27)).alloc (.cells #[.bool ny, .slice ay' ly' cy', .slice ay ly cy] 27)).cell? ⟨w.heap.size + 1 + 1, 2, none⟩ = some (.slice ay ly cy) := by go_simp
  have ltY : w.heap.size + 1 + 1 < (((w.alloc (.cells #[.bool na, .slice aa' la' ca', .slice aa la ca, .bool nb, .slice ab' lb' cb', .slice ab lb cb, .int .i64 lo, .int .i64 hi, .int .i64 m] 29)).alloc (.cells #[.bool nx, .slice ax' lx' cx', .slice ax lx cx] 27)).alloc (.cells #[.bool ny, .slice ay' ly' cy', .slice ay ly cy] 27)).heap.size := by simp
  have hB := hbx
  generalize (((w.alloc (.cells #[.bool na, .slice aa' la' ca', .slice aa la ca, .bool nb, .slice ab' lb' cb', .slice ab lb cb, .int .i64 lo, .int .i64 hi, .int .i64 m] 29)).alloc (.cells #[.bool nx, .slice ax' lx' cx', .slice ax lx cx] 27)).alloc (.cells #[.bool ny, .slice ay' ly' cy', .slice ay ly cy] 27)) = w0 at *
  clear hbx
  refine (wide_any _ _ _ _ _ _ _ _ _ _ _ _ _ _ lo hi m _ b1 b2 b3 b4).mono ?_
  rintro e w1 ⟨rfl, hb⟩
  replace cK0 := ((bcell hb (w.heap.size) ltK).1 0).trans cK0
  replace cK1 := ((bcell hb (w.heap.size) ltK).1 1).trans cK1
  replace cK2 := ((bcell hb (w.heap.size) ltK).1 2).trans cK2
  replace cK3 := ((bcell hb (w.heap.size) ltK).1 3).trans cK3
  replace cK4 := ((bcell hb (w.heap.size) ltK).1 4).trans cK4
  replace cK5 := ((bcell hb (w.heap.size) ltK).1 5).trans cK5
  replace cK6 := ((bcell hb (w.heap.size) ltK).1 6).trans cK6
  replace cK7 := ((bcell hb (w.heap.size) ltK).1 7).trans cK7
  replace cK8 := ((bcell hb (w.heap.size) ltK).1 8).trans cK8
  replace ltK := Nat.lt_of_lt_of_le ltK hb.size
  replace cX0 := ((bcell hb (w.heap.size + 1) ltX).1 0).trans cX0
  replace cX1 := ((bcell hb (w.heap.size + 1) ltX).1 1).trans cX1
  replace cX2 := ((bcell hb (w.heap.size + 1) ltX).1 2).trans cX2
  replace ltX := Nat.lt_of_lt_of_le ltX hb.size
  replace cY0 := ((bcell hb (w.heap.size + 1 + 1) ltY).1 0).trans cY0
  replace cY1 := ((bcell hb (w.heap.size + 1 + 1) ltY).1 1).trans cY1
  replace cY2 := ((bcell hb (w.heap.size + 1 + 1) ltY).1 2).trans cY2
  replace ltY := Nat.lt_of_lt_of_le ltY hb.size
  replace HK := Lib.hid (HK.out.below hb)
  replace HX := Lib.hid (HX.out.below hb)
  replace HY := Lib.hid (HY.out.below hb)
  replace hB := hB.trans (hb.mono hB.size)
  rw [HG1.out]
  clear hb
  go_wp2_with fail
  refine (large_any _ _ _ _ _ _ _ _ b5 b6).mono ?_
  rintro e w2 ⟨rfl, hb⟩
  replace cK0 := ((bcell hb (w.heap.size) ltK).1 0).trans cK0
  replace cK1 := ((bcell hb (w.heap.size) ltK).1 1).trans cK1
  replace cK2 := ((bcell hb (w.heap.size) ltK).1 2).trans cK2
  replace cK3 := ((bcell hb (w.heap.size) ltK).1 3).trans cK3
  replace cK4 := ((bcell hb (w.heap.size) ltK).1 4).trans cK4
  replace cK5 := ((bcell hb (w.heap.size) ltK).1 5).trans cK5
  replace cK6 := ((bcell hb (w.heap.size) ltK).1 6).trans cK6
  replace cK7 := ((bcell hb (w.heap.size) ltK).1 7).trans cK7
  replace cK8 := ((bcell hb (w.heap.size) ltK).1 8).trans cK8
  replace ltK := Nat.lt_of_lt_of_le ltK hb.size
  replace cX0 := ((bcell hb (w.heap.size + 1) ltX).1 0).trans cX0
  replace cX1 := ((bcell hb (w.heap.size + 1) ltX).1 1).trans cX1
  replace cX2 := ((bcell hb (w.heap.size + 1) ltX).1 2).trans cX2
  replace ltX := Nat.lt_of_lt_of_le ltX hb.size
  replace cY0 := ((bcell hb (w.heap.size + 1 + 1) ltY).1 0).trans cY0
  replace cY1 := ((bcell hb (w.heap.size + 1 + 1) ltY).1 1).trans cY1
  replace cY2 := ((bcell hb (w.heap.size + 1 + 1) ltY).1 2).trans cY2
  replace ltY := Nat.lt_of_lt_of_le ltY hb.size
  replace HK := Lib.hid (HK.out.below hb)
  replace HX := Lib.hid (HX.out.below hb)
  replace HY := Lib.hid (HY.out.below hb)
  replace hB := hB.trans (hb.mono hB.size)
  rw [HG2.out]
  clear hb
  go_wp2_with fail
  refine (large_any _ _ _ _ _ _ _ _ b7 b8).mono ?_
  rintro e w3 ⟨rfl, hb⟩
  replace cK0 := ((bcell hb (w.heap.size) ltK).1 0).trans cK0
  replace cK1 := ((bcell hb (w.heap.size) ltK).1 1).trans cK1
  replace cK2 := ((bcell hb (w.heap.size) ltK).1 2).trans cK2
  replace cK3 := ((bcell hb (w.heap.size) ltK).1 3).trans cK3
  replace cK4 := ((bcell hb (w.heap.size) ltK).1 4).trans cK4
  replace cK5 := ((bcell hb (w.heap.size) ltK).1 5).trans cK5
  replace cK6 := ((bcell hb (w.heap.size) ltK).1 6).trans cK6
  replace cK7 := ((bcell hb (w.heap.size) ltK).1 7).trans cK7
  replace cK8 := ((bcell hb (w.heap.size) ltK).1 8).trans cK8
  replace ltK := Nat.lt_of_lt_of_le ltK hb.size
  replace cX0 := ((bcell hb (w.heap.size + 1) ltX).1 0).trans cX0
  replace cX1 := ((bcell hb (w.heap.size + 1) ltX).1 1).trans cX1
  replace cX2 := ((bcell hb (w.heap.size + 1) ltX).1 2).trans cX2
  replace ltX := Nat.lt_of_lt_of_le ltX hb.size
  replace cY0 := ((bcell hb (w.heap.size + 1 + 1) ltY).1 0).trans cY0
  replace cY1 := ((bcell hb (w.heap.size + 1 + 1) ltY).1 1).trans cY1
  replace cY2 := ((bcell hb (w.heap.size + 1 + 1) ltY).1 2).trans cY2
  replace ltY := Nat.lt_of_lt_of_le ltY hb.size
  replace HK := Lib.hid (HK.out.below hb)
  replace HX := Lib.hid (HX.out.below hb)
  replace HY := Lib.hid (HY.out.below hb)
  replace hB := hB.trans (hb.mono hB.size)
  rw [HG3.out]
  clear hb
  go_wp2_with fail
  refine (Score_any _ _ A B x lo hi m 20 _ HK.out HX.out (by omega) (by omega) HO.out).mono ?_
  rintro e w4 ⟨rfl, hb⟩
  replace cK0 := ((bcell hb (w.heap.size) ltK).1 0).trans cK0
  replace cK1 := ((bcell hb (w.heap.size) ltK).1 1).trans cK1
  replace cK2 := ((bcell hb (w.heap.size) ltK).1 2).trans cK2
  replace cK3 := ((bcell hb (w.heap.size) ltK).1 3).trans cK3
  replace cK4 := ((bcell hb (w.heap.size) ltK).1 4).trans cK4
  replace cK5 := ((bcell hb (w.heap.size) ltK).1 5).trans cK5
  replace cK6 := ((bcell hb (w.heap.size) ltK).1 6).trans cK6
  replace cK7 := ((bcell hb (w.heap.size) ltK).1 7).trans cK7
  replace cK8 := ((bcell hb (w.heap.size) ltK).1 8).trans cK8
  replace ltK := Nat.lt_of_lt_of_le ltK hb.size
  replace cX0 := ((bcell hb (w.heap.size + 1) ltX).1 0).trans cX0
  replace cX1 := ((bcell hb (w.heap.size + 1) ltX).1 1).trans cX1
  replace cX2 := ((bcell hb (w.heap.size + 1) ltX).1 2).trans cX2
  replace ltX := Nat.lt_of_lt_of_le ltX hb.size
  replace cY0 := ((bcell hb (w.heap.size + 1 + 1) ltY).1 0).trans cY0
  replace cY1 := ((bcell hb (w.heap.size + 1 + 1) ltY).1 1).trans cY1
  replace cY2 := ((bcell hb (w.heap.size + 1 + 1) ltY).1 2).trans cY2
  replace ltY := Nat.lt_of_lt_of_le ltY hb.size
  replace HK := Lib.hid (HK.out.below hb)
  replace HX := Lib.hid (HX.out.below hb)
  replace HY := Lib.hid (HY.out.below hb)
  replace hB := hB.trans (hb.mono hB.size)
  clear hb
  go_wp2_with fail
  refine (Score_any _ _ A B y lo hi m 20 _ HK.out HY.out (by omega) (by omega) HO.out).mono ?_
  rintro e w5 ⟨rfl, hb⟩
  replace cK0 := ((bcell hb (w.heap.size) ltK).1 0).trans cK0
  replace cK1 := ((bcell hb (w.heap.size) ltK).1 1).trans cK1
  replace cK2 := ((bcell hb (w.heap.size) ltK).1 2).trans cK2
  replace cK3 := ((bcell hb (w.heap.size) ltK).1 3).trans cK3
  replace cK4 := ((bcell hb (w.heap.size) ltK).1 4).trans cK4
  replace cK5 := ((bcell hb (w.heap.size) ltK).1 5).trans cK5
  replace cK6 := ((bcell hb (w.heap.size) ltK).1 6).trans cK6
  replace cK7 := ((bcell hb (w.heap.size) ltK).1 7).trans cK7
  replace cK8 := ((bcell hb (w.heap.size) ltK).1 8).trans cK8
  replace ltK := Nat.lt_of_lt_of_le ltK hb.size
  replace cX0 := ((bcell hb (w.heap.size + 1) ltX).1 0).trans cX0
  replace cX1 := ((bcell hb (w.heap.size + 1) ltX).1 1).trans cX1
  replace cX2 := ((bcell hb (w.heap.size + 1) ltX).1 2).trans cX2
  replace ltX := Nat.lt_of_lt_of_le ltX hb.size
  replace cY0 := ((bcell hb (w.heap.size + 1 + 1) ltY).1 0).trans cY0
  replace cY1 := ((bcell hb (w.heap.size + 1 + 1) ltY).1 1).trans cY1
  replace cY2 := ((bcell hb (w.heap.size + 1 + 1) ltY).1 2).trans cY2
  replace ltY := Nat.lt_of_lt_of_le ltY hb.size
  replace HK := Lib.hid (HK.out.below hb)
  replace HX := Lib.hid (HX.out.below hb)
  replace HY := Lib.hid (HY.out.below hb)
  replace hB := hB.trans (hb.mono hB.size)
  generalize scoreI A B lo hi m x = sx at *
  generalize scoreI A B lo hi m y = sy at *
  clear hb
  go_wp2_with fail
  refine (qof_any 2 1 _ (by omega) (by omega) (by omega) (by omega) (by omega)).mono ?_
  rintro e w6 ⟨v6, rfl, hv6, hsz, hb⟩
  replace cK0 := ((bcell hb (w.heap.size) ltK).1 0).trans cK0
  replace cK1 := ((bcell hb (w.heap.size) ltK).1 1).trans cK1
  replace cK2 := ((bcell hb (w.heap.size) ltK).1 2).trans cK2
  replace cK3 := ((bcell hb (w.heap.size) ltK).1 3).trans cK3
  replace cK4 := ((bcell hb (w.heap.size) ltK).1 4).trans cK4
  replace cK5 := ((bcell hb (w.heap.size) ltK).1 5).trans cK5
  replace cK6 := ((bcell hb (w.heap.size) ltK).1 6).trans cK6
  replace cK7 := ((bcell hb (w.heap.size) ltK).1 7).trans cK7
  replace cK8 := ((bcell hb (w.heap.size) ltK).1 8).trans cK8
  replace ltK := Nat.lt_of_lt_of_le ltK hb.size
  replace cX0 := ((bcell hb (w.heap.size + 1) ltX).1 0).trans cX0
  replace cX1 := ((bcell hb (w.heap.size + 1) ltX).1 1).trans cX1
  replace cX2 := ((bcell hb (w.heap.size + 1) ltX).1 2).trans cX2
  replace ltX := Nat.lt_of_lt_of_le ltX hb.size
  replace cY0 := ((bcell hb (w.heap.size + 1 + 1) ltY).1 0).trans cY0
  replace cY1 := ((bcell hb (w.heap.size + 1 + 1) ltY).1 1).trans cY1
  replace cY2 := ((bcell hb (w.heap.size + 1 + 1) ltY).1 2).trans cY2
  replace ltY := Nat.lt_of_lt_of_le ltY hb.size
  replace HK := Lib.hid (HK.out.below hb)
  replace HX := Lib.hid (HX.out.below hb)
  replace HY := Lib.hid (HY.out.below hb)
  replace hB := hB.trans (hb.mono hB.size)
  have H2 := Lib.hid ((hv6.raw hsz).mono (show 2 ≤ 20 by omega))
  obtain ⟨a6', l6', c6', a6, l6, c6, rfl, -, -, -, -⟩ := hv6
  clear hsz
  generalize decide ((Rat.divInt 2 1).num < 0) = d6 at *
  clear hb
  go_wp2_with fail
  have hbx : Below w6.heap.size w6 ((w6.alloc (.cells #[.bool d6, .slice a6' l6' c6', .slice a6 l6 c6] 27)).alloc (.cells #[.bool d6, .slice a6' l6' c6', .slice a6 l6 c6, .bool false, .slice none 0 0, .slice none 0 0, .int .i64 (-9), .int .i64 9, .int .i64 6] 29)) := (((Below.refl _ _).alloc (Nat.le_refl _) _).alloc (by simp) _)
  replace cK0 := ((bcell hbx (w.heap.size) ltK).1 0).trans cK0
  replace cK1 := ((bcell hbx (w.heap.size) ltK).1 1).trans cK1
  replace cK2 := ((bcell hbx (w.heap.size) ltK).1 2).trans cK2
  replace cK3 := ((bcell hbx (w.heap.size) ltK).1 3).trans cK3
  replace cK4 := ((bcell hbx (w.heap.size) ltK).1 4).trans cK4
  replace cK5 := ((bcell hbx (w.heap.size) ltK).1 5).trans cK5
  replace cK6 := ((bcell hbx (w.heap.size) ltK).1 6).trans cK6
  replace cK7 := ((bcell hbx (w.heap.size) ltK).1 7).trans cK7
  replace cK8 := ((bcell hbx (w.heap.size) ltK).1 8).trans cK8
  replace ltK := Nat.lt_of_lt_of_le ltK hbx.size
  replace cX0 := ((bcell hbx (w.heap.size + 1) ltX).1 0).trans cX0
  replace cX1 := ((bcell hbx (w.heap.size + 1) ltX).1 1).trans cX1
  replace cX2 := ((bcell hbx (w.heap.size + 1) ltX).1 2).trans cX2
  replace ltX := Nat.lt_of_lt_of_le ltX hbx.size
  replace cY0 := ((bcell hbx (w.heap.size + 1 + 1) ltY).1 0).trans cY0
  replace cY1 := ((bcell hbx (w.heap.size + 1 + 1) ltY).1 1).trans cY1
  replace cY2 := ((bcell hbx (w.heap.size + 1 + 1) ltY).1 2).trans cY2
  replace ltY := Nat.lt_of_lt_of_le ltY hbx.size
  replace HK := Lib.hid (HK.out.below hbx)
  replace HX := Lib.hid (HX.out.below hbx)
  replace HY := Lib.hid (HY.out.below hbx)
  replace H2 := Lib.hid (H2.out.below hbx)
  have cT0 : ((w6.alloc (.cells #[.bool d6, .slice a6' l6' c6', .slice a6 l6 c6] 27)).alloc (.cells #[.bool d6, .slice a6' l6' c6', .slice a6 l6 c6, .bool false, .slice none 0 0, .slice none 0 0, .int .i64 (-9), .int .i64 9, .int .i64 6] 29)).cell? ⟨w6.heap.size, 0, none⟩ = some (.bool d6) := by go_simp
  have cT1 : ((w6.alloc (.cells #[.bool d6, .slice a6' l6' c6', .slice a6 l6 c6] 27)).alloc (.cells #[.bool d6, .slice a6' l6' c6', .slice a6 l6 c6, .bool false, .slice none 0 0, .slice none 0 0, .int .i64 (-9), .int .i64 9, .int .i64 6] 29)).cell? ⟨w6.heap.size, 1, none⟩ = some (.slice a6' l6' c6') := by go_simp
  have cT2 : ((w6.alloc (.cells #[.bool d6, .slice a6' l6' c6', .slice a6 l6 c6] 27)).alloc (.cells #[.bool d6, .slice a6' l6' c6', .slice a6 l6 c6, .bool false, .slice none 0 0, .slice none 0 0, .int .i64 (-9), .int .i64 9, .int .i64 6] 29)).cell? ⟨w6.heap.size, 2, none⟩ = some (.slice a6 l6 c6) := by go_simp
  have ltT : w6.heap.size < ((w6.alloc (.cells #[.bool d6, .slice a6' l6' c6', .slice a6 l6 c6] 27)).alloc (.cells #[.bool d6, .slice a6' l6' c6', .slice a6 l6 c6, .bool false, .slice none 0 0, .slice none 0 0, .int .i64 (-9), .int .i64 9, .int .i64 6] 29)).heap.size := by simp <;> omega
  have cP0 : ((w6.alloc (.cells #[.bool d6, .slice a6' l6' c6', .slice a6 l6 c6] 27)).alloc (.cells #[.bool d6, .slice a6' l6' c6', .slice a6 l6 c6, .bool false, .slice none 0 0, .slice none 0 0, .int .i64 (-9), .int .i64 9, .int .i64 6] 29)).cell? ⟨w6.heap.size + 1, 0, none⟩ = some (.bool d6) := by go_simp
  have cP1 : ((w6.alloc (.cells #[.bool d6, .slice a6' l6' c6', .slice a6 l6 c6] 27)).alloc (.cells #[.bool d6, .slice a6' l6' c6', .slice a6 l6 c6, .bool false, .slice none 0 0, .slice none 0 0, .int .i64 (-9), .int .i64 9, .int .i64 6] 29)).cell? ⟨w6.heap.size + 1, 1, none⟩ = some (.slice a6' l6' c6') := by go_simp
  have cP2 : ((w6.alloc (.cells #[.bool d6, .slice a6' l6' c6', .slice a6 l6 c6] 27)).alloc (.cells #[.bool d6, .slice a6' l6' c6', .slice a6 l6 c6, .bool false, .slice none 0 0, .slice none 0 0, .int .i64 (-9), .int .i64 9, .int .i64 6] 29)).cell? ⟨w6.heap.size + 1, 2, none⟩ = some (.slice a6 l6 c6) := by go_simp
  have cP3 : ((w6.alloc (.cells #[.bool d6, .slice a6' l6' c6', .slice a6 l6 c6] 27)).alloc (.cells #[.bool d6, .slice a6' l6' c6', .slice a6 l6 c6, .bool false, .slice none 0 0, .slice none 0 0, .int .i64 (-9), .int .i64 9, .int .i64 6] 29)).cell? ⟨w6.heap.size + 1, 3, none⟩ = some (.bool false) := by go_simp
  have cP4 : ((w6.alloc (.cells #[.bool d6, .slice a6' l6' c6', .slice a6 l6 c6] 27)).alloc (.cells #[.bool d6, .slice a6' l6' c6', .slice a6 l6 c6, .bool false, .slice none 0 0, .slice none 0 0, .int .i64 (-9), .int .i64 9, .int .i64 6] 29)).cell? ⟨w6.heap.size + 1, 4, none⟩ = some (.slice none 0 0) := by go_simp
  have cP5 : ((w6.alloc (.cells #[.bool d6, .slice a6' l6' c6', .slice a6 l6 c6] 27)).alloc (.cells #[.bool d6, .slice a6' l6' c6', .slice a6 l6 c6, .bool false, .slice none 0 0, .slice none 0 0, .int .i64 (-9), .int .i64 9, .int .i64 6] 29)).cell? ⟨w6.heap.size + 1, 5, none⟩ = some (.slice none 0 0) := by go_simp
  have cP6 : ((w6.alloc (.cells #[.bool d6, .slice a6' l6' c6', .slice a6 l6 c6] 27)).alloc (.cells #[.bool d6, .slice a6' l6' c6', .slice a6 l6 c6, .bool false, .slice none 0 0, .slice none 0 0, .int .i64 (-9), .int .i64 9, .int .i64 6] 29)).cell? ⟨w6.heap.size + 1, 6, none⟩ = some (.int .i64 (-9)) := by go_simp
  have cP7 : ((w6.alloc (.cells #[.bool d6, .slice a6' l6' c6', .slice a6 l6 c6] 27)).alloc (.cells #[.bool d6, .slice a6' l6' c6', .slice a6 l6 c6, .bool false, .slice none 0 0, .slice none 0 0, .int .i64 (-9), .int .i64 9, .int .i64 6] 29)).cell? ⟨w6.heap.size + 1, 7, none⟩ = some (.int .i64 9) := by go_simp
  have cP8 : ((w6.alloc (.cells #[.bool d6, .slice a6' l6' c6', .slice a6 l6 c6] 27)).alloc (.cells #[.bool d6, .slice a6' l6' c6', .slice a6 l6 c6, .bool false, .slice none 0 0, .slice none 0 0, .int .i64 (-9), .int .i64 9, .int .i64 6] 29)).cell? ⟨w6.heap.size + 1, 8, none⟩ = some (.int .i64 6) := by go_simp
  have ltP : w6.heap.size + 1 < ((w6.alloc (.cells #[.bool d6, .slice a6' l6' c6', .slice a6 l6 c6] 27)).alloc (.cells #[.bool d6, .slice a6' l6' c6', .slice a6 l6 c6, .bool false, .slice none 0 0, .slice none 0 0, .int .i64 (-9), .int .i64 9, .int .i64 6] 29)).heap.size := by simp
  replace hB := hB.trans (hbx.mono hB.size)
  generalize ((w6.alloc (.cells #[.bool d6, .slice a6' l6' c6', .slice a6 l6 c6] 27)).alloc (.cells #[.bool d6, .slice a6' l6' c6', .slice a6 l6 c6, .bool false, .slice none 0 0, .slice none 0 0, .int .i64 (-9), .int .i64 9, .int .i64 6] 29)) = w7 at *
  clear hbx
  have HPl := Lib.hid (show LinV w7 (.agg #[.bool d6, .slice a6' l6' c6', .slice a6 l6 c6, .bool false, .slice none 0 0, .slice none 0 0, .int .i64 (-9), .int .i64 9, .int .i64 6]) (Rat.divInt 2 1) 0 (-9) 9 6 20 from ⟨d6, a6', l6', c6', a6, l6, c6, false, none, 0, 0, none, 0, 0, rfl, H2.out, ⟨0, 0, ⟨false, none, 0, 0, [], none, 0, 0, [], rfl, limbs_nil _, rfl, by omega, limbs_nil _, rfl, by omega⟩, rfl⟩⟩)
  refine (Score_any _ _ (Rat.divInt 2 1) 0 (Rat.divInt 2 1) (-9) 9 6 20 _ HPl.out H2.out (by omega) (by omega) (by decide +kernel)).mono ?_
  rintro e w8 ⟨rfl, hb⟩
  replace cK0 := ((bcell hb (w.heap.size) ltK).1 0).trans cK0
  replace cK1 := ((bcell hb (w.heap.size) ltK).1 1).trans cK1
  replace cK2 := ((bcell hb (w.heap.size) ltK).1 2).trans cK2
  replace cK3 := ((bcell hb (w.heap.size) ltK).1 3).trans cK3
  replace cK4 := ((bcell hb (w.heap.size) ltK).1 4).trans cK4
  replace cK5 := ((bcell hb (w.heap.size) ltK).1 5).trans cK5
  replace cK6 := ((bcell hb (w.heap.size) ltK).1 6).trans cK6
  replace cK7 := ((bcell hb (w.heap.size) ltK).1 7).trans cK7
  replace cK8 := ((bcell hb (w.heap.size) ltK).1 8).trans cK8
  replace ltK := Nat.lt_of_lt_of_le ltK hb.size
  replace cX0 := ((bcell hb (w.heap.size + 1) ltX).1 0).trans cX0
  replace cX1 := ((bcell hb (w.heap.size + 1) ltX).1 1).trans cX1
  replace cX2 := ((bcell hb (w.heap.size + 1) ltX).1 2).trans cX2
  replace ltX := Nat.lt_of_lt_of_le ltX hb.size
  replace cY0 := ((bcell hb (w.heap.size + 1 + 1) ltY).1 0).trans cY0
  replace cY1 := ((bcell hb (w.heap.size + 1 + 1) ltY).1 1).trans cY1
  replace cY2 := ((bcell hb (w.heap.size + 1 + 1) ltY).1 2).trans cY2
  replace ltY := Nat.lt_of_lt_of_le ltY hb.size
  replace cT0 := ((bcell hb (w6.heap.size) ltT).1 0).trans cT0
  replace cT1 := ((bcell hb (w6.heap.size) ltT).1 1).trans cT1
  replace cT2 := ((bcell hb (w6.heap.size) ltT).1 2).trans cT2
  replace ltT := Nat.lt_of_lt_of_le ltT hb.size
  replace cP0 := ((bcell hb (w6.heap.size + 1) ltP).1 0).trans cP0
  replace cP1 := ((bcell hb (w6.heap.size + 1) ltP).1 1).trans cP1
  replace cP2 := ((bcell hb (w6.heap.size + 1) ltP).1 2).trans cP2
  replace cP3 := ((bcell hb (w6.heap.size + 1) ltP).1 3).trans cP3
  replace cP4 := ((bcell hb (w6.heap.size + 1) ltP).1 4).trans cP4
  replace cP5 := ((bcell hb (w6.heap.size + 1) ltP).1 5).trans cP5
  replace cP6 := ((bcell hb (w6.heap.size + 1) ltP).1 6).trans cP6
  replace cP7 := ((bcell hb (w6.heap.size + 1) ltP).1 7).trans cP7
  replace cP8 := ((bcell hb (w6.heap.size + 1) ltP).1 8).trans cP8
  replace ltP := Nat.lt_of_lt_of_le ltP hb.size
  replace HK := Lib.hid (HK.out.below hb)
  replace HX := Lib.hid (HX.out.below hb)
  replace HY := Lib.hid (HY.out.below hb)
  replace H2 := Lib.hid (H2.out.below hb)
  replace HPl := Lib.hid (HPl.out.below hb)
  replace hB := hB.trans (hb.mono hB.size)
  rw [show scoreI (Rat.divInt 2 1) 0 (-9) 9 6 (Rat.divInt 2 1) = 4 by decide +kernel]
  clear hb
  go_wp2_with fail
  refine (qcmp_any _ _ x y 20 20 _ HX.out HY.out (by omega) (by omega) (by omega)).mono ?_
  rintro e w9 ⟨rfl, hb⟩
  replace cK0 := ((bcell hb (w.heap.size) ltK).1 0).trans cK0
  replace cK1 := ((bcell hb (w.heap.size) ltK).1 1).trans cK1
  replace cK2 := ((bcell hb (w.heap.size) ltK).1 2).trans cK2
  replace cK3 := ((bcell hb (w.heap.size) ltK).1 3).trans cK3
  replace cK4 := ((bcell hb (w.heap.size) ltK).1 4).trans cK4
  replace cK5 := ((bcell hb (w.heap.size) ltK).1 5).trans cK5
  replace cK6 := ((bcell hb (w.heap.size) ltK).1 6).trans cK6
  replace cK7 := ((bcell hb (w.heap.size) ltK).1 7).trans cK7
  replace cK8 := ((bcell hb (w.heap.size) ltK).1 8).trans cK8
  replace ltK := Nat.lt_of_lt_of_le ltK hb.size
  replace cX0 := ((bcell hb (w.heap.size + 1) ltX).1 0).trans cX0
  replace cX1 := ((bcell hb (w.heap.size + 1) ltX).1 1).trans cX1
  replace cX2 := ((bcell hb (w.heap.size + 1) ltX).1 2).trans cX2
  replace ltX := Nat.lt_of_lt_of_le ltX hb.size
  replace cY0 := ((bcell hb (w.heap.size + 1 + 1) ltY).1 0).trans cY0
  replace cY1 := ((bcell hb (w.heap.size + 1 + 1) ltY).1 1).trans cY1
  replace cY2 := ((bcell hb (w.heap.size + 1 + 1) ltY).1 2).trans cY2
  replace ltY := Nat.lt_of_lt_of_le ltY hb.size
  replace cT0 := ((bcell hb (w6.heap.size) ltT).1 0).trans cT0
  replace cT1 := ((bcell hb (w6.heap.size) ltT).1 1).trans cT1
  replace cT2 := ((bcell hb (w6.heap.size) ltT).1 2).trans cT2
  replace ltT := Nat.lt_of_lt_of_le ltT hb.size
  replace cP0 := ((bcell hb (w6.heap.size + 1) ltP).1 0).trans cP0
  replace cP1 := ((bcell hb (w6.heap.size + 1) ltP).1 1).trans cP1
  replace cP2 := ((bcell hb (w6.heap.size + 1) ltP).1 2).trans cP2
  replace cP3 := ((bcell hb (w6.heap.size + 1) ltP).1 3).trans cP3
  replace cP4 := ((bcell hb (w6.heap.size + 1) ltP).1 4).trans cP4
  replace cP5 := ((bcell hb (w6.heap.size + 1) ltP).1 5).trans cP5
  replace cP6 := ((bcell hb (w6.heap.size + 1) ltP).1 6).trans cP6
  replace cP7 := ((bcell hb (w6.heap.size + 1) ltP).1 7).trans cP7
  replace cP8 := ((bcell hb (w6.heap.size + 1) ltP).1 8).trans cP8
  replace ltP := Nat.lt_of_lt_of_le ltP hb.size
  replace HK := Lib.hid (HK.out.below hb)
  replace HX := Lib.hid (HX.out.below hb)
  replace HY := Lib.hid (HY.out.below hb)
  replace H2 := Lib.hid (H2.out.below hb)
  replace HPl := Lib.hid (HPl.out.below hb)
  replace hB := hB.trans (hb.mono hB.size)
  generalize rcmpI x y = cv at *
  clear hb
  go_wp2_with fail
  go_ret
  exact ⟨by first | rfl | (simp; omega), hB⟩

set_option maxHeartbeats 2000000 in
theorem sMono_gt (na : Bool) (aa' aa : Option Addr) (la' ca' la ca : Nat) (nb : Bool) (ab' ab : Option Addr) (lb' cb' lb cb : Nat) (lo hi m : Int) (nx : Bool) (ax' ax : Option Addr) (lx' cx' lx cx : Nat) (ny : Bool) (ay' ay : Option Addr) (ly' cy' ly cy : Nat) (A B x y : Rat) (L : Nat) (w : World) (hA : RatV w (.agg #[.bool na, .slice aa' la' ca', .slice aa la ca]) A L) (hB0 : RatV w (.agg #[.bool nb, .slice ab' lb' cb', .slice ab lb cb]) B L) (hX : RatV w (.agg #[.bool nx, .slice ax' lx' cx', .slice ax lx cx]) x L) (hY : RatV w (.agg #[.bool ny, .slice ay' ly' cy', .slice ay ly cy]) y L) (g1 : (lgN la' la || lgN lb' lb) = false) (g2 : lgN lx' lx = false) (g3 : lgN ly' ly = false) (ho : validE A lo hi m = 0) (hc : ¬ rcmpI x y ≤ 0) :
    Calls Try.prog 4 #[.agg #[.bool na, .slice aa' la' ca', .slice aa la ca, .bool nb, .slice ab' lb' cb', .slice ab lb cb, .int .i64 lo, .int .i64 hi, .int .i64 m], .agg #[.bool nx, .slice ax' lx' cx', .slice ax lx cx], .agg #[.bool ny, .slice ay' ly' cy', .slice ay ly cy]] w fun e w' => e = .returned (.bool true) ∧ Below w.heap.size w w' := by
  obtain ⟨_, _, _, _, _, _, _, e1, b1, b2⟩ := hA.form
  obtain ⟨_, _, _, _, _, _, _, e2, b3, b4⟩ := hB0.form
  obtain ⟨_, _, _, _, _, _, _, e3, b5, b6⟩ := hX.form
  obtain ⟨_, _, _, _, _, _, _, e4, b7, b8⟩ := hY.form
  cases e1; cases e2; cases e3; cases e4
  have HG1 := Lib.hid g1
  have HG2 := Lib.hid g2
  have HG3 := Lib.hid g3
  have g4 := Bool.or_eq_false_iff.1 g1
  have HK := Lib.hid (show LinV w (.agg #[.bool na, .slice aa' la' ca', .slice aa la ca, .bool nb, .slice ab' lb' cb', .slice ab lb cb, .int .i64 lo, .int .i64 hi, .int .i64 m]) A B lo hi m 20 from ⟨na, aa', la', ca', aa, la, ca, nb, ab', lb', cb', ab, lb, cb, rfl, hA.small g4.1, hB0.small g4.2⟩)
  have HX := Lib.hid (hX.small g2)
  have HY := Lib.hid (hY.small g3)
  clear g1 g2 g3 g4 hA hB0 hX hY
  have HO := Lib.hid ho
  have hvo := valid_ok ho
  have hbx := clamp_bd (n := roundI m (A * x + B)) hvo.2.2.2.1
  have hby := clamp_bd (n := roundI m (A * y + B)) hvo.2.2.2.1
  have hmo := score_mono (x := y) (y := x) (B := B) (m := m) hvo.1 hvo.2.2.2.1 (by have h := mt cmpI_le.2 hc; rw [Rat.not_le] at h; exact Rat.le_of_lt h)
  have hx1 : lo ≤ scoreI A B lo hi m x := hbx.1
  have hx2 : scoreI A B lo hi m x ≤ hi := hbx.2
  have hy1 : lo ≤ scoreI A B lo hi m y := hby.1
  have hy2 : scoreI A B lo hi m y ≤ hi := hby.2
  clear ho hbx hby hvo
  go_enter Try.func4, Try.ntmps4
  go_wp2_with fail
  have hbx : Below w.heap.size w (((w.alloc (.cells #[.bool na, .slice aa' la' ca', .slice aa la ca, .bool nb, .slice ab' lb' cb', .slice ab lb cb, .int .i64 lo, .int .i64 hi, .int .i64 m] 29)).alloc (.cells #[.bool nx, .slice ax' lx' cx', .slice ax lx cx] 27)).alloc (.cells #[.bool ny, .slice ay' ly' cy', .slice ay ly cy] 27)) := ((((Below.refl _ _).alloc (Nat.le_refl _) _).alloc (by simp) _).alloc (by simp <;> omega) _)
  replace HK := Lib.hid (HK.out.below hbx)
  replace HX := Lib.hid (HX.out.below hbx)
  replace HY := Lib.hid (HY.out.below hbx)
  have cK0 : (((w.alloc (.cells #[.bool na, .slice aa' la' ca', .slice aa la ca, .bool nb, .slice ab' lb' cb', .slice ab lb cb, .int .i64 lo, .int .i64 hi, .int .i64 m] 29)).alloc (.cells #[.bool nx, .slice ax' lx' cx', .slice ax lx cx] 27)).alloc (.cells #[.bool ny, .slice ay' ly' cy', .slice ay ly cy] 27)).cell? ⟨w.heap.size, 0, none⟩ = some (.bool na) := by go_simp
  have cK1 : (((w.alloc (.cells #[.bool na, .slice aa' la' ca', .slice aa la ca, .bool nb, .slice ab' lb' cb', .slice ab lb cb, .int .i64 lo, .int .i64 hi, .int .i64 m] 29)).alloc (.cells #[.bool nx, .slice ax' lx' cx', .slice ax lx cx] 27)).alloc (.cells #[.bool ny, .slice ay' ly' cy', .slice ay ly cy] 27)).cell? ⟨w.heap.size, 1, none⟩ = some (.slice aa' la' ca') := by go_simp
  have cK2 : (((w.alloc (.cells #[.bool na, .slice aa' la' ca', .slice aa la ca, .bool nb, .slice ab' lb' cb', .slice ab lb cb, .int .i64 lo, .int .i64 hi, .int .i64 m] 29)).alloc (.cells #[.bool nx, .slice ax' lx' cx', .slice ax lx cx] 27)).alloc (.cells #[.bool ny, .slice ay' ly' cy', .slice ay ly cy] 27)).cell? ⟨w.heap.size, 2, none⟩ = some (.slice aa la ca) := by go_simp
  have cK3 : (((w.alloc (.cells #[.bool na, .slice aa' la' ca', .slice aa la ca, .bool nb, .slice ab' lb' cb', .slice ab lb cb, .int .i64 lo, .int .i64 hi, .int .i64 m] 29)).alloc (.cells #[.bool nx, .slice ax' lx' cx', .slice ax lx cx] 27)).alloc (.cells #[.bool ny, .slice ay' ly' cy', .slice ay ly cy] 27)).cell? ⟨w.heap.size, 3, none⟩ = some (.bool nb) := by go_simp
  have cK4 : (((w.alloc (.cells #[.bool na, .slice aa' la' ca', .slice aa la ca, .bool nb, .slice ab' lb' cb', .slice ab lb cb, .int .i64 lo, .int .i64 hi, .int .i64 m] 29)).alloc (.cells #[.bool nx, .slice ax' lx' cx', .slice ax lx cx] 27)).alloc (.cells #[.bool ny, .slice ay' ly' cy', .slice ay ly cy] 27)).cell? ⟨w.heap.size, 4, none⟩ = some (.slice ab' lb' cb') := by go_simp
  have cK5 : (((w.alloc (.cells #[.bool na, .slice aa' la' ca', .slice aa la ca, .bool nb, .slice ab' lb' cb', .slice ab lb cb, .int .i64 lo, .int .i64 hi, .int .i64 m] 29)).alloc (.cells #[.bool nx, .slice ax' lx' cx', .slice ax lx cx] 27)).alloc (.cells #[.bool ny, .slice ay' ly' cy', .slice ay ly cy] 27)).cell? ⟨w.heap.size, 5, none⟩ = some (.slice ab lb cb) := by go_simp
  have cK6 : (((w.alloc (.cells #[.bool na, .slice aa' la' ca', .slice aa la ca, .bool nb, .slice ab' lb' cb', .slice ab lb cb, .int .i64 lo, .int .i64 hi, .int .i64 m] 29)).alloc (.cells #[.bool nx, .slice ax' lx' cx', .slice ax lx cx] 27)).alloc (.cells #[.bool ny, .slice ay' ly' cy', .slice ay ly cy] 27)).cell? ⟨w.heap.size, 6, none⟩ = some (.int .i64 lo) := by go_simp
  have cK7 : (((w.alloc (.cells #[.bool na, .slice aa' la' ca', .slice aa la ca, .bool nb, .slice ab' lb' cb', .slice ab lb cb, .int .i64 lo, .int .i64 hi, .int .i64 m] 29)).alloc (.cells #[.bool nx, .slice ax' lx' cx', .slice ax lx cx] 27)).alloc (.cells #[.bool ny, .slice ay' ly' cy', .slice ay ly cy] 27)).cell? ⟨w.heap.size, 7, none⟩ = some (.int .i64 hi) := by go_simp
  have cK8 : (((w.alloc (.cells #[.bool na, .slice aa' la' ca', .slice aa la ca, .bool nb, .slice ab' lb' cb', .slice ab lb cb, .int .i64 lo, .int .i64 hi, .int .i64 m] 29)).alloc (.cells #[.bool nx, .slice ax' lx' cx', .slice ax lx cx] 27)).alloc (.cells #[.bool ny, .slice ay' ly' cy', .slice ay ly cy] 27)).cell? ⟨w.heap.size, 8, none⟩ = some (.int .i64 m) := by go_simp
  have ltK : w.heap.size < (((w.alloc (.cells #[.bool na, .slice aa' la' ca', .slice aa la ca, .bool nb, .slice ab' lb' cb', .slice ab lb cb, .int .i64 lo, .int .i64 hi, .int .i64 m] 29)).alloc (.cells #[.bool nx, .slice ax' lx' cx', .slice ax lx cx] 27)).alloc (.cells #[.bool ny, .slice ay' ly' cy', .slice ay ly cy] 27)).heap.size := by simp <;> omega
  have cX0 : (((w.alloc (.cells #[.bool na, .slice aa' la' ca', .slice aa la ca, .bool nb, .slice ab' lb' cb', .slice ab lb cb, .int .i64 lo, .int .i64 hi, .int .i64 m] 29)).alloc (.cells #[.bool nx, .slice ax' lx' cx', .slice ax lx cx] 27)).alloc (.cells #[.bool ny, .slice ay' ly' cy', .slice ay ly cy] 27)).cell? ⟨w.heap.size + 1, 0, none⟩ = some (.bool nx) := by go_simp
  have cX1 : (((w.alloc (.cells #[.bool na, .slice aa' la' ca', .slice aa la ca, .bool nb, .slice ab' lb' cb', .slice ab lb cb, .int .i64 lo, .int .i64 hi, .int .i64 m] 29)).alloc (.cells #[.bool nx, .slice ax' lx' cx', .slice ax lx cx] 27)).alloc (.cells #[.bool ny, .slice ay' ly' cy', .slice ay ly cy] 27)).cell? ⟨w.heap.size + 1, 1, none⟩ = some (.slice ax' lx' cx') := by go_simp
  have cX2 : (((w.alloc (.cells #[.bool na, .slice aa' la' ca', .slice aa la ca, .bool nb, .slice ab' lb' cb', .slice ab lb cb, .int .i64 lo, .int .i64 hi, .int .i64 m] 29)).alloc (.cells #[.bool nx, .slice ax' lx' cx', .slice ax lx cx] 27)).alloc (.cells #[.bool ny, .slice ay' ly' cy', .slice ay ly cy] 27)).cell? ⟨w.heap.size + 1, 2, none⟩ = some (.slice ax lx cx) := by go_simp
  have ltX : w.heap.size + 1 < (((w.alloc (.cells #[.bool na, .slice aa' la' ca', .slice aa la ca, .bool nb, .slice ab' lb' cb', .slice ab lb cb, .int .i64 lo, .int .i64 hi, .int .i64 m] 29)).alloc (.cells #[.bool nx, .slice ax' lx' cx', .slice ax lx cx] 27)).alloc (.cells #[.bool ny, .slice ay' ly' cy', .slice ay ly cy] 27)).heap.size := by simp <;> omega
  have cY0 : (((w.alloc (.cells #[.bool na, .slice aa' la' ca', .slice aa la ca, .bool nb, .slice ab' lb' cb', .slice ab lb cb, .int .i64 lo, .int .i64 hi, .int .i64 m] 29)).alloc (.cells #[.bool nx, .slice ax' lx' cx', .slice ax lx cx] 27)).alloc (.cells #[.bool ny, .slice ay' ly' cy', .slice ay ly cy] 27)).cell? ⟨w.heap.size + 1 + 1, 0, none⟩ = some (.bool ny) := by go_simp
  have cY1 : (((w.alloc (.cells #[.bool na, .slice aa' la' ca', .slice aa la ca, .bool nb, .slice ab' lb' cb', .slice ab lb cb, .int .i64 lo, .int .i64 hi, .int .i64 m] 29)).alloc (.cells #[.bool nx, .slice ax' lx' cx', .slice ax lx cx] 27)).alloc (.cells #[.bool ny, .slice ay' ly' cy', .slice ay ly cy] 27)).cell? ⟨w.heap.size + 1 + 1, 1, none⟩ = some (.slice ay' ly' cy') := by go_simp
  have cY2 : (((w.alloc (.cells #[.bool na, .slice aa' la' ca', .slice aa la ca, .bool nb, .slice ab' lb' cb', .slice ab lb cb, .int .i64 lo, .int .i64 hi, .int .i64 m] 29)).alloc (.cells #[.bool nx, .slice ax' lx' cx', .slice ax lx cx] 27)).alloc (.cells #[.bool ny, .slice ay' ly' cy', .slice ay ly cy] 27)).cell? ⟨w.heap.size + 1 + 1, 2, none⟩ = some (.slice ay ly cy) := by go_simp
  have ltY : w.heap.size + 1 + 1 < (((w.alloc (.cells #[.bool na, .slice aa' la' ca', .slice aa la ca, .bool nb, .slice ab' lb' cb', .slice ab lb cb, .int .i64 lo, .int .i64 hi, .int .i64 m] 29)).alloc (.cells #[.bool nx, .slice ax' lx' cx', .slice ax lx cx] 27)).alloc (.cells #[.bool ny, .slice ay' ly' cy', .slice ay ly cy] 27)).heap.size := by simp
  have hB := hbx
  generalize (((w.alloc (.cells #[.bool na, .slice aa' la' ca', .slice aa la ca, .bool nb, .slice ab' lb' cb', .slice ab lb cb, .int .i64 lo, .int .i64 hi, .int .i64 m] 29)).alloc (.cells #[.bool nx, .slice ax' lx' cx', .slice ax lx cx] 27)).alloc (.cells #[.bool ny, .slice ay' ly' cy', .slice ay ly cy] 27)) = w0 at *
  clear hbx
  refine (wide_any _ _ _ _ _ _ _ _ _ _ _ _ _ _ lo hi m _ b1 b2 b3 b4).mono ?_
  rintro e w1 ⟨rfl, hb⟩
  replace cK0 := ((bcell hb (w.heap.size) ltK).1 0).trans cK0
  replace cK1 := ((bcell hb (w.heap.size) ltK).1 1).trans cK1
  replace cK2 := ((bcell hb (w.heap.size) ltK).1 2).trans cK2
  replace cK3 := ((bcell hb (w.heap.size) ltK).1 3).trans cK3
  replace cK4 := ((bcell hb (w.heap.size) ltK).1 4).trans cK4
  replace cK5 := ((bcell hb (w.heap.size) ltK).1 5).trans cK5
  replace cK6 := ((bcell hb (w.heap.size) ltK).1 6).trans cK6
  replace cK7 := ((bcell hb (w.heap.size) ltK).1 7).trans cK7
  replace cK8 := ((bcell hb (w.heap.size) ltK).1 8).trans cK8
  replace ltK := Nat.lt_of_lt_of_le ltK hb.size
  replace cX0 := ((bcell hb (w.heap.size + 1) ltX).1 0).trans cX0
  replace cX1 := ((bcell hb (w.heap.size + 1) ltX).1 1).trans cX1
  replace cX2 := ((bcell hb (w.heap.size + 1) ltX).1 2).trans cX2
  replace ltX := Nat.lt_of_lt_of_le ltX hb.size
  replace cY0 := ((bcell hb (w.heap.size + 1 + 1) ltY).1 0).trans cY0
  replace cY1 := ((bcell hb (w.heap.size + 1 + 1) ltY).1 1).trans cY1
  replace cY2 := ((bcell hb (w.heap.size + 1 + 1) ltY).1 2).trans cY2
  replace ltY := Nat.lt_of_lt_of_le ltY hb.size
  replace HK := Lib.hid (HK.out.below hb)
  replace HX := Lib.hid (HX.out.below hb)
  replace HY := Lib.hid (HY.out.below hb)
  replace hB := hB.trans (hb.mono hB.size)
  rw [HG1.out]
  clear hb
  go_wp2_with fail
  refine (large_any _ _ _ _ _ _ _ _ b5 b6).mono ?_
  rintro e w2 ⟨rfl, hb⟩
  replace cK0 := ((bcell hb (w.heap.size) ltK).1 0).trans cK0
  replace cK1 := ((bcell hb (w.heap.size) ltK).1 1).trans cK1
  replace cK2 := ((bcell hb (w.heap.size) ltK).1 2).trans cK2
  replace cK3 := ((bcell hb (w.heap.size) ltK).1 3).trans cK3
  replace cK4 := ((bcell hb (w.heap.size) ltK).1 4).trans cK4
  replace cK5 := ((bcell hb (w.heap.size) ltK).1 5).trans cK5
  replace cK6 := ((bcell hb (w.heap.size) ltK).1 6).trans cK6
  replace cK7 := ((bcell hb (w.heap.size) ltK).1 7).trans cK7
  replace cK8 := ((bcell hb (w.heap.size) ltK).1 8).trans cK8
  replace ltK := Nat.lt_of_lt_of_le ltK hb.size
  replace cX0 := ((bcell hb (w.heap.size + 1) ltX).1 0).trans cX0
  replace cX1 := ((bcell hb (w.heap.size + 1) ltX).1 1).trans cX1
  replace cX2 := ((bcell hb (w.heap.size + 1) ltX).1 2).trans cX2
  replace ltX := Nat.lt_of_lt_of_le ltX hb.size
  replace cY0 := ((bcell hb (w.heap.size + 1 + 1) ltY).1 0).trans cY0
  replace cY1 := ((bcell hb (w.heap.size + 1 + 1) ltY).1 1).trans cY1
  replace cY2 := ((bcell hb (w.heap.size + 1 + 1) ltY).1 2).trans cY2
  replace ltY := Nat.lt_of_lt_of_le ltY hb.size
  replace HK := Lib.hid (HK.out.below hb)
  replace HX := Lib.hid (HX.out.below hb)
  replace HY := Lib.hid (HY.out.below hb)
  replace hB := hB.trans (hb.mono hB.size)
  rw [HG2.out]
  clear hb
  go_wp2_with fail
  refine (large_any _ _ _ _ _ _ _ _ b7 b8).mono ?_
  rintro e w3 ⟨rfl, hb⟩
  replace cK0 := ((bcell hb (w.heap.size) ltK).1 0).trans cK0
  replace cK1 := ((bcell hb (w.heap.size) ltK).1 1).trans cK1
  replace cK2 := ((bcell hb (w.heap.size) ltK).1 2).trans cK2
  replace cK3 := ((bcell hb (w.heap.size) ltK).1 3).trans cK3
  replace cK4 := ((bcell hb (w.heap.size) ltK).1 4).trans cK4
  replace cK5 := ((bcell hb (w.heap.size) ltK).1 5).trans cK5
  replace cK6 := ((bcell hb (w.heap.size) ltK).1 6).trans cK6
  replace cK7 := ((bcell hb (w.heap.size) ltK).1 7).trans cK7
  replace cK8 := ((bcell hb (w.heap.size) ltK).1 8).trans cK8
  replace ltK := Nat.lt_of_lt_of_le ltK hb.size
  replace cX0 := ((bcell hb (w.heap.size + 1) ltX).1 0).trans cX0
  replace cX1 := ((bcell hb (w.heap.size + 1) ltX).1 1).trans cX1
  replace cX2 := ((bcell hb (w.heap.size + 1) ltX).1 2).trans cX2
  replace ltX := Nat.lt_of_lt_of_le ltX hb.size
  replace cY0 := ((bcell hb (w.heap.size + 1 + 1) ltY).1 0).trans cY0
  replace cY1 := ((bcell hb (w.heap.size + 1 + 1) ltY).1 1).trans cY1
  replace cY2 := ((bcell hb (w.heap.size + 1 + 1) ltY).1 2).trans cY2
  replace ltY := Nat.lt_of_lt_of_le ltY hb.size
  replace HK := Lib.hid (HK.out.below hb)
  replace HX := Lib.hid (HX.out.below hb)
  replace HY := Lib.hid (HY.out.below hb)
  replace hB := hB.trans (hb.mono hB.size)
  rw [HG3.out]
  clear hb
  go_wp2_with fail
  refine (Score_any _ _ A B x lo hi m 20 _ HK.out HX.out (by omega) (by omega) HO.out).mono ?_
  rintro e w4 ⟨rfl, hb⟩
  replace cK0 := ((bcell hb (w.heap.size) ltK).1 0).trans cK0
  replace cK1 := ((bcell hb (w.heap.size) ltK).1 1).trans cK1
  replace cK2 := ((bcell hb (w.heap.size) ltK).1 2).trans cK2
  replace cK3 := ((bcell hb (w.heap.size) ltK).1 3).trans cK3
  replace cK4 := ((bcell hb (w.heap.size) ltK).1 4).trans cK4
  replace cK5 := ((bcell hb (w.heap.size) ltK).1 5).trans cK5
  replace cK6 := ((bcell hb (w.heap.size) ltK).1 6).trans cK6
  replace cK7 := ((bcell hb (w.heap.size) ltK).1 7).trans cK7
  replace cK8 := ((bcell hb (w.heap.size) ltK).1 8).trans cK8
  replace ltK := Nat.lt_of_lt_of_le ltK hb.size
  replace cX0 := ((bcell hb (w.heap.size + 1) ltX).1 0).trans cX0
  replace cX1 := ((bcell hb (w.heap.size + 1) ltX).1 1).trans cX1
  replace cX2 := ((bcell hb (w.heap.size + 1) ltX).1 2).trans cX2
  replace ltX := Nat.lt_of_lt_of_le ltX hb.size
  replace cY0 := ((bcell hb (w.heap.size + 1 + 1) ltY).1 0).trans cY0
  replace cY1 := ((bcell hb (w.heap.size + 1 + 1) ltY).1 1).trans cY1
  replace cY2 := ((bcell hb (w.heap.size + 1 + 1) ltY).1 2).trans cY2
  replace ltY := Nat.lt_of_lt_of_le ltY hb.size
  replace HK := Lib.hid (HK.out.below hb)
  replace HX := Lib.hid (HX.out.below hb)
  replace HY := Lib.hid (HY.out.below hb)
  replace hB := hB.trans (hb.mono hB.size)
  clear hb
  go_wp2_with fail
  refine (Score_any _ _ A B y lo hi m 20 _ HK.out HY.out (by omega) (by omega) HO.out).mono ?_
  rintro e w5 ⟨rfl, hb⟩
  replace cK0 := ((bcell hb (w.heap.size) ltK).1 0).trans cK0
  replace cK1 := ((bcell hb (w.heap.size) ltK).1 1).trans cK1
  replace cK2 := ((bcell hb (w.heap.size) ltK).1 2).trans cK2
  replace cK3 := ((bcell hb (w.heap.size) ltK).1 3).trans cK3
  replace cK4 := ((bcell hb (w.heap.size) ltK).1 4).trans cK4
  replace cK5 := ((bcell hb (w.heap.size) ltK).1 5).trans cK5
  replace cK6 := ((bcell hb (w.heap.size) ltK).1 6).trans cK6
  replace cK7 := ((bcell hb (w.heap.size) ltK).1 7).trans cK7
  replace cK8 := ((bcell hb (w.heap.size) ltK).1 8).trans cK8
  replace ltK := Nat.lt_of_lt_of_le ltK hb.size
  replace cX0 := ((bcell hb (w.heap.size + 1) ltX).1 0).trans cX0
  replace cX1 := ((bcell hb (w.heap.size + 1) ltX).1 1).trans cX1
  replace cX2 := ((bcell hb (w.heap.size + 1) ltX).1 2).trans cX2
  replace ltX := Nat.lt_of_lt_of_le ltX hb.size
  replace cY0 := ((bcell hb (w.heap.size + 1 + 1) ltY).1 0).trans cY0
  replace cY1 := ((bcell hb (w.heap.size + 1 + 1) ltY).1 1).trans cY1
  replace cY2 := ((bcell hb (w.heap.size + 1 + 1) ltY).1 2).trans cY2
  replace ltY := Nat.lt_of_lt_of_le ltY hb.size
  replace HK := Lib.hid (HK.out.below hb)
  replace HX := Lib.hid (HX.out.below hb)
  replace HY := Lib.hid (HY.out.below hb)
  replace hB := hB.trans (hb.mono hB.size)
  generalize scoreI A B lo hi m x = sx at *
  generalize scoreI A B lo hi m y = sy at *
  clear hb
  go_wp2_with fail
  refine (qof_any 2 1 _ (by omega) (by omega) (by omega) (by omega) (by omega)).mono ?_
  rintro e w6 ⟨v6, rfl, hv6, hsz, hb⟩
  replace cK0 := ((bcell hb (w.heap.size) ltK).1 0).trans cK0
  replace cK1 := ((bcell hb (w.heap.size) ltK).1 1).trans cK1
  replace cK2 := ((bcell hb (w.heap.size) ltK).1 2).trans cK2
  replace cK3 := ((bcell hb (w.heap.size) ltK).1 3).trans cK3
  replace cK4 := ((bcell hb (w.heap.size) ltK).1 4).trans cK4
  replace cK5 := ((bcell hb (w.heap.size) ltK).1 5).trans cK5
  replace cK6 := ((bcell hb (w.heap.size) ltK).1 6).trans cK6
  replace cK7 := ((bcell hb (w.heap.size) ltK).1 7).trans cK7
  replace cK8 := ((bcell hb (w.heap.size) ltK).1 8).trans cK8
  replace ltK := Nat.lt_of_lt_of_le ltK hb.size
  replace cX0 := ((bcell hb (w.heap.size + 1) ltX).1 0).trans cX0
  replace cX1 := ((bcell hb (w.heap.size + 1) ltX).1 1).trans cX1
  replace cX2 := ((bcell hb (w.heap.size + 1) ltX).1 2).trans cX2
  replace ltX := Nat.lt_of_lt_of_le ltX hb.size
  replace cY0 := ((bcell hb (w.heap.size + 1 + 1) ltY).1 0).trans cY0
  replace cY1 := ((bcell hb (w.heap.size + 1 + 1) ltY).1 1).trans cY1
  replace cY2 := ((bcell hb (w.heap.size + 1 + 1) ltY).1 2).trans cY2
  replace ltY := Nat.lt_of_lt_of_le ltY hb.size
  replace HK := Lib.hid (HK.out.below hb)
  replace HX := Lib.hid (HX.out.below hb)
  replace HY := Lib.hid (HY.out.below hb)
  replace hB := hB.trans (hb.mono hB.size)
  have H2 := Lib.hid ((hv6.raw hsz).mono (show 2 ≤ 20 by omega))
  obtain ⟨a6', l6', c6', a6, l6, c6, rfl, -, -, -, -⟩ := hv6
  clear hsz
  generalize decide ((Rat.divInt 2 1).num < 0) = d6 at *
  clear hb
  go_wp2_with fail
  have hbx : Below w6.heap.size w6 ((w6.alloc (.cells #[.bool d6, .slice a6' l6' c6', .slice a6 l6 c6] 27)).alloc (.cells #[.bool d6, .slice a6' l6' c6', .slice a6 l6 c6, .bool false, .slice none 0 0, .slice none 0 0, .int .i64 (-9), .int .i64 9, .int .i64 6] 29)) := (((Below.refl _ _).alloc (Nat.le_refl _) _).alloc (by simp) _)
  replace cK0 := ((bcell hbx (w.heap.size) ltK).1 0).trans cK0
  replace cK1 := ((bcell hbx (w.heap.size) ltK).1 1).trans cK1
  replace cK2 := ((bcell hbx (w.heap.size) ltK).1 2).trans cK2
  replace cK3 := ((bcell hbx (w.heap.size) ltK).1 3).trans cK3
  replace cK4 := ((bcell hbx (w.heap.size) ltK).1 4).trans cK4
  replace cK5 := ((bcell hbx (w.heap.size) ltK).1 5).trans cK5
  replace cK6 := ((bcell hbx (w.heap.size) ltK).1 6).trans cK6
  replace cK7 := ((bcell hbx (w.heap.size) ltK).1 7).trans cK7
  replace cK8 := ((bcell hbx (w.heap.size) ltK).1 8).trans cK8
  replace ltK := Nat.lt_of_lt_of_le ltK hbx.size
  replace cX0 := ((bcell hbx (w.heap.size + 1) ltX).1 0).trans cX0
  replace cX1 := ((bcell hbx (w.heap.size + 1) ltX).1 1).trans cX1
  replace cX2 := ((bcell hbx (w.heap.size + 1) ltX).1 2).trans cX2
  replace ltX := Nat.lt_of_lt_of_le ltX hbx.size
  replace cY0 := ((bcell hbx (w.heap.size + 1 + 1) ltY).1 0).trans cY0
  replace cY1 := ((bcell hbx (w.heap.size + 1 + 1) ltY).1 1).trans cY1
  replace cY2 := ((bcell hbx (w.heap.size + 1 + 1) ltY).1 2).trans cY2
  replace ltY := Nat.lt_of_lt_of_le ltY hbx.size
  replace HK := Lib.hid (HK.out.below hbx)
  replace HX := Lib.hid (HX.out.below hbx)
  replace HY := Lib.hid (HY.out.below hbx)
  replace H2 := Lib.hid (H2.out.below hbx)
  have cT0 : ((w6.alloc (.cells #[.bool d6, .slice a6' l6' c6', .slice a6 l6 c6] 27)).alloc (.cells #[.bool d6, .slice a6' l6' c6', .slice a6 l6 c6, .bool false, .slice none 0 0, .slice none 0 0, .int .i64 (-9), .int .i64 9, .int .i64 6] 29)).cell? ⟨w6.heap.size, 0, none⟩ = some (.bool d6) := by go_simp
  have cT1 : ((w6.alloc (.cells #[.bool d6, .slice a6' l6' c6', .slice a6 l6 c6] 27)).alloc (.cells #[.bool d6, .slice a6' l6' c6', .slice a6 l6 c6, .bool false, .slice none 0 0, .slice none 0 0, .int .i64 (-9), .int .i64 9, .int .i64 6] 29)).cell? ⟨w6.heap.size, 1, none⟩ = some (.slice a6' l6' c6') := by go_simp
  have cT2 : ((w6.alloc (.cells #[.bool d6, .slice a6' l6' c6', .slice a6 l6 c6] 27)).alloc (.cells #[.bool d6, .slice a6' l6' c6', .slice a6 l6 c6, .bool false, .slice none 0 0, .slice none 0 0, .int .i64 (-9), .int .i64 9, .int .i64 6] 29)).cell? ⟨w6.heap.size, 2, none⟩ = some (.slice a6 l6 c6) := by go_simp
  have ltT : w6.heap.size < ((w6.alloc (.cells #[.bool d6, .slice a6' l6' c6', .slice a6 l6 c6] 27)).alloc (.cells #[.bool d6, .slice a6' l6' c6', .slice a6 l6 c6, .bool false, .slice none 0 0, .slice none 0 0, .int .i64 (-9), .int .i64 9, .int .i64 6] 29)).heap.size := by simp <;> omega
  have cP0 : ((w6.alloc (.cells #[.bool d6, .slice a6' l6' c6', .slice a6 l6 c6] 27)).alloc (.cells #[.bool d6, .slice a6' l6' c6', .slice a6 l6 c6, .bool false, .slice none 0 0, .slice none 0 0, .int .i64 (-9), .int .i64 9, .int .i64 6] 29)).cell? ⟨w6.heap.size + 1, 0, none⟩ = some (.bool d6) := by go_simp
  have cP1 : ((w6.alloc (.cells #[.bool d6, .slice a6' l6' c6', .slice a6 l6 c6] 27)).alloc (.cells #[.bool d6, .slice a6' l6' c6', .slice a6 l6 c6, .bool false, .slice none 0 0, .slice none 0 0, .int .i64 (-9), .int .i64 9, .int .i64 6] 29)).cell? ⟨w6.heap.size + 1, 1, none⟩ = some (.slice a6' l6' c6') := by go_simp
  have cP2 : ((w6.alloc (.cells #[.bool d6, .slice a6' l6' c6', .slice a6 l6 c6] 27)).alloc (.cells #[.bool d6, .slice a6' l6' c6', .slice a6 l6 c6, .bool false, .slice none 0 0, .slice none 0 0, .int .i64 (-9), .int .i64 9, .int .i64 6] 29)).cell? ⟨w6.heap.size + 1, 2, none⟩ = some (.slice a6 l6 c6) := by go_simp
  have cP3 : ((w6.alloc (.cells #[.bool d6, .slice a6' l6' c6', .slice a6 l6 c6] 27)).alloc (.cells #[.bool d6, .slice a6' l6' c6', .slice a6 l6 c6, .bool false, .slice none 0 0, .slice none 0 0, .int .i64 (-9), .int .i64 9, .int .i64 6] 29)).cell? ⟨w6.heap.size + 1, 3, none⟩ = some (.bool false) := by go_simp
  have cP4 : ((w6.alloc (.cells #[.bool d6, .slice a6' l6' c6', .slice a6 l6 c6] 27)).alloc (.cells #[.bool d6, .slice a6' l6' c6', .slice a6 l6 c6, .bool false, .slice none 0 0, .slice none 0 0, .int .i64 (-9), .int .i64 9, .int .i64 6] 29)).cell? ⟨w6.heap.size + 1, 4, none⟩ = some (.slice none 0 0) := by go_simp
  have cP5 : ((w6.alloc (.cells #[.bool d6, .slice a6' l6' c6', .slice a6 l6 c6] 27)).alloc (.cells #[.bool d6, .slice a6' l6' c6', .slice a6 l6 c6, .bool false, .slice none 0 0, .slice none 0 0, .int .i64 (-9), .int .i64 9, .int .i64 6] 29)).cell? ⟨w6.heap.size + 1, 5, none⟩ = some (.slice none 0 0) := by go_simp
  have cP6 : ((w6.alloc (.cells #[.bool d6, .slice a6' l6' c6', .slice a6 l6 c6] 27)).alloc (.cells #[.bool d6, .slice a6' l6' c6', .slice a6 l6 c6, .bool false, .slice none 0 0, .slice none 0 0, .int .i64 (-9), .int .i64 9, .int .i64 6] 29)).cell? ⟨w6.heap.size + 1, 6, none⟩ = some (.int .i64 (-9)) := by go_simp
  have cP7 : ((w6.alloc (.cells #[.bool d6, .slice a6' l6' c6', .slice a6 l6 c6] 27)).alloc (.cells #[.bool d6, .slice a6' l6' c6', .slice a6 l6 c6, .bool false, .slice none 0 0, .slice none 0 0, .int .i64 (-9), .int .i64 9, .int .i64 6] 29)).cell? ⟨w6.heap.size + 1, 7, none⟩ = some (.int .i64 9) := by go_simp
  have cP8 : ((w6.alloc (.cells #[.bool d6, .slice a6' l6' c6', .slice a6 l6 c6] 27)).alloc (.cells #[.bool d6, .slice a6' l6' c6', .slice a6 l6 c6, .bool false, .slice none 0 0, .slice none 0 0, .int .i64 (-9), .int .i64 9, .int .i64 6] 29)).cell? ⟨w6.heap.size + 1, 8, none⟩ = some (.int .i64 6) := by go_simp
  have ltP : w6.heap.size + 1 < ((w6.alloc (.cells #[.bool d6, .slice a6' l6' c6', .slice a6 l6 c6] 27)).alloc (.cells #[.bool d6, .slice a6' l6' c6', .slice a6 l6 c6, .bool false, .slice none 0 0, .slice none 0 0, .int .i64 (-9), .int .i64 9, .int .i64 6] 29)).heap.size := by simp
  replace hB := hB.trans (hbx.mono hB.size)
  generalize ((w6.alloc (.cells #[.bool d6, .slice a6' l6' c6', .slice a6 l6 c6] 27)).alloc (.cells #[.bool d6, .slice a6' l6' c6', .slice a6 l6 c6, .bool false, .slice none 0 0, .slice none 0 0, .int .i64 (-9), .int .i64 9, .int .i64 6] 29)) = w7 at *
  clear hbx
  have HPl := Lib.hid (show LinV w7 (.agg #[.bool d6, .slice a6' l6' c6', .slice a6 l6 c6, .bool false, .slice none 0 0, .slice none 0 0, .int .i64 (-9), .int .i64 9, .int .i64 6]) (Rat.divInt 2 1) 0 (-9) 9 6 20 from ⟨d6, a6', l6', c6', a6, l6, c6, false, none, 0, 0, none, 0, 0, rfl, H2.out, ⟨0, 0, ⟨false, none, 0, 0, [], none, 0, 0, [], rfl, limbs_nil _, rfl, by omega, limbs_nil _, rfl, by omega⟩, rfl⟩⟩)
  refine (Score_any _ _ (Rat.divInt 2 1) 0 (Rat.divInt 2 1) (-9) 9 6 20 _ HPl.out H2.out (by omega) (by omega) (by decide +kernel)).mono ?_
  rintro e w8 ⟨rfl, hb⟩
  replace cK0 := ((bcell hb (w.heap.size) ltK).1 0).trans cK0
  replace cK1 := ((bcell hb (w.heap.size) ltK).1 1).trans cK1
  replace cK2 := ((bcell hb (w.heap.size) ltK).1 2).trans cK2
  replace cK3 := ((bcell hb (w.heap.size) ltK).1 3).trans cK3
  replace cK4 := ((bcell hb (w.heap.size) ltK).1 4).trans cK4
  replace cK5 := ((bcell hb (w.heap.size) ltK).1 5).trans cK5
  replace cK6 := ((bcell hb (w.heap.size) ltK).1 6).trans cK6
  replace cK7 := ((bcell hb (w.heap.size) ltK).1 7).trans cK7
  replace cK8 := ((bcell hb (w.heap.size) ltK).1 8).trans cK8
  replace ltK := Nat.lt_of_lt_of_le ltK hb.size
  replace cX0 := ((bcell hb (w.heap.size + 1) ltX).1 0).trans cX0
  replace cX1 := ((bcell hb (w.heap.size + 1) ltX).1 1).trans cX1
  replace cX2 := ((bcell hb (w.heap.size + 1) ltX).1 2).trans cX2
  replace ltX := Nat.lt_of_lt_of_le ltX hb.size
  replace cY0 := ((bcell hb (w.heap.size + 1 + 1) ltY).1 0).trans cY0
  replace cY1 := ((bcell hb (w.heap.size + 1 + 1) ltY).1 1).trans cY1
  replace cY2 := ((bcell hb (w.heap.size + 1 + 1) ltY).1 2).trans cY2
  replace ltY := Nat.lt_of_lt_of_le ltY hb.size
  replace cT0 := ((bcell hb (w6.heap.size) ltT).1 0).trans cT0
  replace cT1 := ((bcell hb (w6.heap.size) ltT).1 1).trans cT1
  replace cT2 := ((bcell hb (w6.heap.size) ltT).1 2).trans cT2
  replace ltT := Nat.lt_of_lt_of_le ltT hb.size
  replace cP0 := ((bcell hb (w6.heap.size + 1) ltP).1 0).trans cP0
  replace cP1 := ((bcell hb (w6.heap.size + 1) ltP).1 1).trans cP1
  replace cP2 := ((bcell hb (w6.heap.size + 1) ltP).1 2).trans cP2
  replace cP3 := ((bcell hb (w6.heap.size + 1) ltP).1 3).trans cP3
  replace cP4 := ((bcell hb (w6.heap.size + 1) ltP).1 4).trans cP4
  replace cP5 := ((bcell hb (w6.heap.size + 1) ltP).1 5).trans cP5
  replace cP6 := ((bcell hb (w6.heap.size + 1) ltP).1 6).trans cP6
  replace cP7 := ((bcell hb (w6.heap.size + 1) ltP).1 7).trans cP7
  replace cP8 := ((bcell hb (w6.heap.size + 1) ltP).1 8).trans cP8
  replace ltP := Nat.lt_of_lt_of_le ltP hb.size
  replace HK := Lib.hid (HK.out.below hb)
  replace HX := Lib.hid (HX.out.below hb)
  replace HY := Lib.hid (HY.out.below hb)
  replace H2 := Lib.hid (H2.out.below hb)
  replace HPl := Lib.hid (HPl.out.below hb)
  replace hB := hB.trans (hb.mono hB.size)
  rw [show scoreI (Rat.divInt 2 1) 0 (-9) 9 6 (Rat.divInt 2 1) = 4 by decide +kernel]
  clear hb
  go_wp2_with fail
  refine (qcmp_any _ _ x y 20 20 _ HX.out HY.out (by omega) (by omega) (by omega)).mono ?_
  rintro e w9 ⟨rfl, hb⟩
  replace cK0 := ((bcell hb (w.heap.size) ltK).1 0).trans cK0
  replace cK1 := ((bcell hb (w.heap.size) ltK).1 1).trans cK1
  replace cK2 := ((bcell hb (w.heap.size) ltK).1 2).trans cK2
  replace cK3 := ((bcell hb (w.heap.size) ltK).1 3).trans cK3
  replace cK4 := ((bcell hb (w.heap.size) ltK).1 4).trans cK4
  replace cK5 := ((bcell hb (w.heap.size) ltK).1 5).trans cK5
  replace cK6 := ((bcell hb (w.heap.size) ltK).1 6).trans cK6
  replace cK7 := ((bcell hb (w.heap.size) ltK).1 7).trans cK7
  replace cK8 := ((bcell hb (w.heap.size) ltK).1 8).trans cK8
  replace ltK := Nat.lt_of_lt_of_le ltK hb.size
  replace cX0 := ((bcell hb (w.heap.size + 1) ltX).1 0).trans cX0
  replace cX1 := ((bcell hb (w.heap.size + 1) ltX).1 1).trans cX1
  replace cX2 := ((bcell hb (w.heap.size + 1) ltX).1 2).trans cX2
  replace ltX := Nat.lt_of_lt_of_le ltX hb.size
  replace cY0 := ((bcell hb (w.heap.size + 1 + 1) ltY).1 0).trans cY0
  replace cY1 := ((bcell hb (w.heap.size + 1 + 1) ltY).1 1).trans cY1
  replace cY2 := ((bcell hb (w.heap.size + 1 + 1) ltY).1 2).trans cY2
  replace ltY := Nat.lt_of_lt_of_le ltY hb.size
  replace cT0 := ((bcell hb (w6.heap.size) ltT).1 0).trans cT0
  replace cT1 := ((bcell hb (w6.heap.size) ltT).1 1).trans cT1
  replace cT2 := ((bcell hb (w6.heap.size) ltT).1 2).trans cT2
  replace ltT := Nat.lt_of_lt_of_le ltT hb.size
  replace cP0 := ((bcell hb (w6.heap.size + 1) ltP).1 0).trans cP0
  replace cP1 := ((bcell hb (w6.heap.size + 1) ltP).1 1).trans cP1
  replace cP2 := ((bcell hb (w6.heap.size + 1) ltP).1 2).trans cP2
  replace cP3 := ((bcell hb (w6.heap.size + 1) ltP).1 3).trans cP3
  replace cP4 := ((bcell hb (w6.heap.size + 1) ltP).1 4).trans cP4
  replace cP5 := ((bcell hb (w6.heap.size + 1) ltP).1 5).trans cP5
  replace cP6 := ((bcell hb (w6.heap.size + 1) ltP).1 6).trans cP6
  replace cP7 := ((bcell hb (w6.heap.size + 1) ltP).1 7).trans cP7
  replace cP8 := ((bcell hb (w6.heap.size + 1) ltP).1 8).trans cP8
  replace ltP := Nat.lt_of_lt_of_le ltP hb.size
  replace HK := Lib.hid (HK.out.below hb)
  replace HX := Lib.hid (HX.out.below hb)
  replace HY := Lib.hid (HY.out.below hb)
  replace H2 := Lib.hid (H2.out.below hb)
  replace HPl := Lib.hid (HPl.out.below hb)
  replace hB := hB.trans (hb.mono hB.size)
  generalize rcmpI x y = cv at *
  clear hb
  go_wp2_with fail
  go_ret
  exact ⟨by first | rfl | (simp; omega), hB⟩

theorem sMono_calls (v u z : Value) (A B x y : Rat) (lo hi m : Int) (L M : Nat) (w : World) (hv : LinX w v A B lo hi m) (hu : RatV w u x L) (hz : RatV w z y M) :
    Calls Try.prog 4 #[v, u, z] w fun e w' => e = .returned (.bool true) ∧ Below w.heap.size w w' := by
  obtain ⟨N, na, aa', la', ca', aa, la, ca, nb, ab', lb', cb', ab, lb, cb, rfl, hA, hB⟩ := hv
  obtain ⟨nx, ax', lx', cx', ax, lx, cx, rfl, -, -⟩ := hu.form
  obtain ⟨ny, ay', ly', cy', ay, ly, cy, rfl, -, -⟩ := hz.form
  have hA' := hA.mono (show N ≤ N + L + M by omega)
  have hB' := hB.mono (show N ≤ N + L + M by omega)
  have hX' := hu.mono (show L ≤ N + L + M by omega)
  have hY' := hz.mono (show M ≤ N + L + M by omega)
  cases g1 : (lgN la' la || lgN lb' lb)
  · cases g2 : lgN lx' lx
    · cases g3 : lgN ly' ly
      · by_cases ho : validE A lo hi m = 0
        · by_cases hc : rcmpI x y ≤ 0
          · exact sMono_le _ _ _ _ _ _ _ _ _ _ _ _ _ _ _ _ _ _ _ _ _ _ _ _ _ _ _ _ _ _ _ _ _ _ _ _ _ hA' hB' hX' hY' g1 g2 g3 ho hc
          · exact sMono_gt _ _ _ _ _ _ _ _ _ _ _ _ _ _ _ _ _ _ _ _ _ _ _ _ _ _ _ _ _ _ _ _ _ _ _ _ _ hA' hB' hX' hY' g1 g2 g3 ho hc
        · exact sMono_no _ _ _ _ _ _ _ _ _ _ _ _ _ _ _ _ _ _ _ _ _ _ _ _ _ _ _ _ _ _ _ _ _ _ _ _ _ hA' hB' hX' hY' g1 g2 g3 ho
      · exact sMono_y _ _ _ _ _ _ _ _ _ _ _ _ _ _ _ _ _ _ _ _ _ _ _ _ _ _ _ _ _ _ _ _ _ _ _ _ _ hA' hB' hX' hY' g1 g2 g3
    · exact sMono_x _ _ _ _ _ _ _ _ _ _ _ _ _ _ _ _ _ _ _ _ _ _ _ _ _ _ _ _ _ _ _ _ _ _ _ _ _ hA' hB' hX' hY' g1 g2
  · exact sMono_w _ _ _ _ _ _ _ _ _ _ _ _ _ _ _ _ _ _ _ _ _ _ _ _ _ _ _ _ _ _ _ _ _ _ _ _ _ hA' hB' hX' hY' g1

theorem scalingMonotone_walk {H : Type} {enc : TypeId × Value → H} (W : World) (base : Nat) (args : Array Value) (ds gs : List (DataW H)) (before : List MemPlace)
    (hval : ∀ (j : Nat) t v, Try.f4.params[j]? = some t → args[j]? = some v → Value.okWide Try.prog W .any base t v)
    (hW : DataW.Whole enc Try.prog Try.f4.params.toList Rows.scalingMonotoneSpec.vars false W args.toList ds gs before)
    (_hsz : (DataW.weightsEach Try.prog (Try.f4.params.toList ++ Rows.scalingMonotoneSpec.plain.varTypes Try.prog) (ds ++ gs)).all (· ≤ reachBytes) = true) :
    Calls Try.prog 4 args W fun e w' => e = .returned (.bool true) ∧ Below W.heap.size W w' := by
  obtain ⟨p, q, hA, hV, -, -, -⟩ := hW
  obtain ⟨rfl, -⟩ := trodVars_none hV
  rw [Try.params4] at hA hval
  obtain ⟨v0, v1, v2, d0, d1, d2, p0, p1, p2, rfl, rfl, rfl, h0, h1, h2⟩ := trodAll_three hA
  obtain ⟨A, B, lo, hi, m, hX⟩ := open_linear (hval 0 _ _ rfl rfl) h0
  obtain ⟨x, L, hx, -, -⟩ := open_ratio (hval 1 _ _ rfl rfl) h1
  obtain ⟨y, M, hy, -, -⟩ := open_ratio (hval 2 _ _ rfl rfl) h2
  exact sMono_calls v0 v1 v2 A B x y lo hi m L M W hX hx hy

set_option maxRecDepth 100000 in
theorem scalingMonotone_lifted (os : Os) (started : os.Started) (H : Type) (enc : TypeId × Value → H) :
    ReturnsInHanded {} Try.checked os 4 .any (Rows.scalingMonotoneSpec.pre6 enc Try.prog Try.f4 Rows.scalingMonotoneRow.domain false) (Rows.scalingMonotoneSpec.post enc Try.prog Try.f4 false true false false) := by
  refine returnsInHanded_of_change_sized (C := Try.checked) own started (by kernel_rfl) Try.func4
    (ChangeSpec.witness6 (enc := enc) (C := Try.checked) false ⟨#[], #[.agg #[.bool false, .slice none 0 0, .slice none 0 0, .bool false, .slice none 0 0, .slice none 0 0, .int .i64 0, .int .i64 0, .int .i64 0], .agg #[.bool false, .slice none 0 0, .slice none 0 0], .agg #[.bool false, .slice none 0 0, .slice none 0 0]], []⟩ 8 (by kernel_rfl) (by kernel_rfl) (by kernel_rfl) (by kernel_rfl)) ?_
  intro W base args ds gs before hval hW _ hsz _
  exact law_post rfl (by kernel_rfl) (by kernel_rfl) (fun ds h => match ds, h with | [d0, d1, d2], _ => ⟨rfl, rfl, rfl⟩) hW (scalingMonotone_walk W base args ds gs before hval hW hsz)

theorem scalingMonotone_over : Rows.scalingMonotoneRow.holds Try.pinned (OpenSpec.ofChange Rows.scalingMonotoneSpec) :=
  OpenClaim.holds_of_wide 4 Try.f4 rfl rfl rfl rfl rfl rfl rfl ⟨rfl, rfl, rfl, rfl, rfl⟩ rfl rfl rfl rfl rfl (by kernel_rfl) Try.func4 (by kernel_rfl)
    (of_decide_eq_true (by kernel_rfl)) (by unfold Func.isWrapper; first | (rw [if_pos (by decide +kernel)]; kernel_rfl) | (rw [if_neg (by decide +kernel)]; exact ⟨rfl, rfl⟩))
    (fun os started H enc _ => scalingMonotone_lifted os started H enc)

theorem scalingMonotone_proved : Rows.ScalingMonotoneSaid := scalingMonotone_over

end Go.Proofs.Ytmahokhgdkdhkaa
