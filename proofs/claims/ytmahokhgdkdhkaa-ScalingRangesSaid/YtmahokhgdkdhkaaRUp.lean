/- Rounding: what the reference's up returns. Condition: the limbs can be read, and take at most 2^47 bytes. -/
import Derived.Test.YtmahokhgdkdhkaaRRndA
namespace Go.Proofs.Ytmahokhgdkdhkaa
set_option maxRecDepth 100000
open Go.RowKit

theorem half_lit (w : World) : RatV ((w.alloc (.cells #[.int .u32 1] 87)).alloc (.cells #[.int .u32 2] 87)) (.agg #[.bool false, .slice (some ⟨w.heap.size, 0, none⟩) 1 1, .slice (some ⟨w.heap.size + 1, 0, none⟩) 1 1]) (mkRat 1 2) 1 := by
  have h1 := (lit_one w 1 (by omega) (by omega)).below (w' := (w.alloc (.cells #[.int .u32 1] 87)).alloc (.cells #[.int .u32 2] 87)) ((Below.refl _ _).alloc (Nat.le_refl _) _)
  have h2 := lit_one (w.alloc (.cells #[.int .u32 1] 87)) 2 (by omega) (by omega)
  rw [show (w.alloc (.cells #[.int .u32 1] 87)).heap.size = w.heap.size + 1 by simp] at h2
  exact ⟨1, 2, ⟨false, _, 1, 1, _, _, 1, 1, _, rfl, h1, by rw [natOf_digs]; rfl, Nat.le_refl _, h2, natOf_digs _, Nat.le_refl _⟩, rfl⟩
/-- what up returns: the sign of the rest, the rest against 1/2, whether x is below 0, whether f is odd -/
def upX (m sr half : Int) (neg odd : Bool) : Bool := bif sr == 0 then false else upM m half neg odd

set_option maxHeartbeats 2000000 in
theorem up_zero (vx vf vr : Value) (x y : Rat) (f : Int) (B L : Nat) (w : World) (hx : RatV w vx x L) (hf : IntN B w vf f) (hy : RatV w vr y L) (hL : 1 ≤ L) (hm : (L + 1) * 4 ≤ 140737488355328) (m : Int) (hsr : rsgI y = 0) :
    Calls Try.prog 72 #[vx, vf, vr, .int .i64 m] w fun e w' => e = .returned (.bool (upX m (rsgI y) (rcmpI y (mkRat 1 2)) (decide (rsgI x < 0)) (oddI f))) ∧ Below w.heap.size w w' := by
  have HX := Lib.hid hx
  have HY := Lib.hid hy
  obtain ⟨p, q, hr, -⟩ := hx
  obtain ⟨p', q', hr', -⟩ := hy
  obtain ⟨neg, a', len', cap', xs, a, len, cap, ys, rfl, -, -, -, -, -, -⟩ := hr
  obtain ⟨neg2, a2', len2', cap2', xs2, a2, len2, cap2, ys2, rfl, -, -, -, -, -, -⟩ := hr'
  obtain ⟨af, nf, cf, rfl, hl, -⟩ := hf
  have hnf := hl.1
  have hlm := hl.2.2.2.1
  have hlc := hl.2.2.1
  unfold maxLen at hlm
  have HL := Lib.hid hl
  clear hl
  generalize decide (f < 0) = dn at *
  generalize hU : upX m (rsgI y) (rcmpI y (mkRat 1 2)) (decide (rsgI x < 0)) (oddI f) = U
  have HU := Lib.hid hU
  clear hU
  go_enter Try.func72, Try.ntmps72
  go_wp2_with fail
  have hbx : Below w.heap.size w (((w.alloc (.cells #[.bool neg, .slice a' len' cap', .slice a len cap] 27)).alloc (.cells #[.bool dn, .slice af nf cf] 25)).alloc (.cells #[.bool neg2, .slice a2' len2' cap2', .slice a2 len2 cap2] 27)) := ((((Below.refl _ _).alloc (Nat.le_refl _) _).alloc (by simp) _).alloc (by simp <;> omega) _)
  generalize hWW : (((w.alloc (.cells #[.bool neg, .slice a' len' cap', .slice a len cap] 27)).alloc (.cells #[.bool dn, .slice af nf cf] 25)).alloc (.cells #[.bool neg2, .slice a2' len2' cap2', .slice a2 len2 cap2] 27)) = w0 at *
  replace HX := Lib.hid (HX.out.below hbx)
  replace HY := Lib.hid (HY.out.below hbx)
  replace HL := Lib.hid (HL.out.below hbx)
  have cA0 : w0.cell? ⟨w.heap.size, 0, none⟩ = some (.bool neg) := by subst hWW; go_simp
  have cA1 : w0.cell? ⟨w.heap.size, 1, none⟩ = some (.slice a' len' cap') := by subst hWW; go_simp
  have cA2 : w0.cell? ⟨w.heap.size, 2, none⟩ = some (.slice a len cap) := by subst hWW; go_simp
  have ltA : w.heap.size < w0.heap.size := by subst hWW; simp <;> omega
  have cF0 : w0.cell? ⟨w.heap.size + 1, 0, none⟩ = some (.bool dn) := by subst hWW; go_simp
  have cF1 : w0.cell? ⟨w.heap.size + 1, 1, none⟩ = some (.slice af nf cf) := by subst hWW; go_simp
  have ltF : w.heap.size + 1 < w0.heap.size := by subst hWW; simp <;> omega
  have cC0 : w0.cell? ⟨w.heap.size + 1 + 1, 0, none⟩ = some (.bool neg2) := by subst hWW; go_simp
  have cC1 : w0.cell? ⟨w.heap.size + 1 + 1, 1, none⟩ = some (.slice a2' len2' cap2') := by subst hWW; go_simp
  have cC2 : w0.cell? ⟨w.heap.size + 1 + 1, 2, none⟩ = some (.slice a2 len2 cap2) := by subst hWW; go_simp
  have ltC : w.heap.size + 1 + 1 < w0.heap.size := by subst hWW; simp
  have hB := hbx
  clear hbx hWW
  refine (ksign_any _ y L _ HY.out (by omega)).mono ?_
  rintro e w1 ⟨rfl, hb⟩
  replace cA0 := bc hb ltA cA0
  replace cA1 := bc hb ltA cA1
  replace cA2 := bc hb ltA cA2
  replace ltA := bl hb ltA
  replace cF0 := bc hb ltF cF0
  replace cF1 := bc hb ltF cF1
  replace ltF := bl hb ltF
  replace cC0 := bc hb ltC cC0
  replace cC1 := bc hb ltC cC1
  replace cC2 := bc hb ltC cC2
  replace ltC := bl hb ltC
  replace HX := Lib.hid (HX.out.below hb)
  replace HY := Lib.hid (HY.out.below hb)
  replace HL := Lib.hid (HL.out.below hb)
  replace hB := hB.trans (hb.mono hB.size)
  rw [hsr]
  clear hb
  go_wp2_with fail
  go_ret
  exact ⟨by rw [← HU.out, hsr]; rfl, hB⟩

set_option maxHeartbeats 2000000 in
theorem up_m4 (vx vf vr : Value) (x y : Rat) (f : Int) (B L : Nat) (w : World) (hx : RatV w vx x L) (hf : IntN B w vf f) (hy : RatV w vr y L) (hL : 1 ≤ L) (hm : (L + 1) * 4 ≤ 140737488355328) (hsr : rsgI y ≠ 0) :
    Calls Try.prog 72 #[vx, vf, vr, .int .i64 4] w fun e w' => e = .returned (.bool (upX 4 (rsgI y) (rcmpI y (mkRat 1 2)) (decide (rsgI x < 0)) (oddI f))) ∧ Below w.heap.size w w' := by
  have HX := Lib.hid hx
  have HY := Lib.hid hy
  obtain ⟨p, q, hr, -⟩ := hx
  obtain ⟨p', q', hr', -⟩ := hy
  obtain ⟨neg, a', len', cap', xs, a, len, cap, ys, rfl, -, -, -, -, -, -⟩ := hr
  obtain ⟨neg2, a2', len2', cap2', xs2, a2, len2, cap2, ys2, rfl, -, -, -, -, -, -⟩ := hr'
  obtain ⟨af, nf, cf, rfl, hl, -⟩ := hf
  have hnf := hl.1
  have hlm := hl.2.2.2.1
  have hlc := hl.2.2.1
  unfold maxLen at hlm
  have HL := Lib.hid hl
  clear hl
  generalize decide (f < 0) = dn at *
  have hsz : (rsgI y == 0) = false := by simpa using hsr
  clear hsr
  generalize hU : upX 4 (rsgI y) (rcmpI y (mkRat 1 2)) (decide (rsgI x < 0)) (oddI f) = U
  have HU := Lib.hid ((show upM 4 (rcmpI y (mkRat 1 2)) (decide (rsgI x < 0)) (oddI f) = upX 4 (rsgI y) (rcmpI y (mkRat 1 2)) (decide (rsgI x < 0)) (oddI f) by unfold upX; rw [hsz]; rfl).trans hU)
  clear hU
  go_enter Try.func72, Try.ntmps72
  go_wp2_with fail
  have hbx : Below w.heap.size w (((w.alloc (.cells #[.bool neg, .slice a' len' cap', .slice a len cap] 27)).alloc (.cells #[.bool dn, .slice af nf cf] 25)).alloc (.cells #[.bool neg2, .slice a2' len2' cap2', .slice a2 len2 cap2] 27)) := ((((Below.refl _ _).alloc (Nat.le_refl _) _).alloc (by simp) _).alloc (by simp <;> omega) _)
  generalize hWW : (((w.alloc (.cells #[.bool neg, .slice a' len' cap', .slice a len cap] 27)).alloc (.cells #[.bool dn, .slice af nf cf] 25)).alloc (.cells #[.bool neg2, .slice a2' len2' cap2', .slice a2 len2 cap2] 27)) = w0 at *
  replace HX := Lib.hid (HX.out.below hbx)
  replace HY := Lib.hid (HY.out.below hbx)
  replace HL := Lib.hid (HL.out.below hbx)
  have cA0 : w0.cell? ⟨w.heap.size, 0, none⟩ = some (.bool neg) := by subst hWW; go_simp
  have cA1 : w0.cell? ⟨w.heap.size, 1, none⟩ = some (.slice a' len' cap') := by subst hWW; go_simp
  have cA2 : w0.cell? ⟨w.heap.size, 2, none⟩ = some (.slice a len cap) := by subst hWW; go_simp
  have ltA : w.heap.size < w0.heap.size := by subst hWW; simp <;> omega
  have cF0 : w0.cell? ⟨w.heap.size + 1, 0, none⟩ = some (.bool dn) := by subst hWW; go_simp
  have cF1 : w0.cell? ⟨w.heap.size + 1, 1, none⟩ = some (.slice af nf cf) := by subst hWW; go_simp
  have ltF : w.heap.size + 1 < w0.heap.size := by subst hWW; simp <;> omega
  have cC0 : w0.cell? ⟨w.heap.size + 1 + 1, 0, none⟩ = some (.bool neg2) := by subst hWW; go_simp
  have cC1 : w0.cell? ⟨w.heap.size + 1 + 1, 1, none⟩ = some (.slice a2' len2' cap2') := by subst hWW; go_simp
  have cC2 : w0.cell? ⟨w.heap.size + 1 + 1, 2, none⟩ = some (.slice a2 len2 cap2) := by subst hWW; go_simp
  have ltC : w.heap.size + 1 + 1 < w0.heap.size := by subst hWW; simp
  have hB := hbx
  clear hbx hWW
  refine (ksign_any _ y L _ HY.out (by omega)).mono ?_
  rintro e w1 ⟨rfl, hb⟩
  replace cA0 := bc hb ltA cA0
  replace cA1 := bc hb ltA cA1
  replace cA2 := bc hb ltA cA2
  replace ltA := bl hb ltA
  replace cF0 := bc hb ltF cF0
  replace cF1 := bc hb ltF cF1
  replace ltF := bl hb ltF
  replace cC0 := bc hb ltC cC0
  replace cC1 := bc hb ltC cC1
  replace cC2 := bc hb ltC cC2
  replace ltC := bl hb ltC
  replace HX := Lib.hid (HX.out.below hb)
  replace HY := Lib.hid (HY.out.below hb)
  replace HL := Lib.hid (HL.out.below hb)
  replace hB := hB.trans (hb.mono hB.size)
  generalize rsgI y = sr at *
  clear hb
  go_wp2_with fail
  refine (ksign_any _ x L _ HX.out (by omega)).mono ?_
  rintro e w2 ⟨rfl, hb⟩
  replace cA0 := bc hb ltA cA0
  replace cA1 := bc hb ltA cA1
  replace cA2 := bc hb ltA cA2
  replace ltA := bl hb ltA
  replace cF0 := bc hb ltF cF0
  replace cF1 := bc hb ltF cF1
  replace ltF := bl hb ltF
  replace cC0 := bc hb ltC cC0
  replace cC1 := bc hb ltC cC1
  replace cC2 := bc hb ltC cC2
  replace ltC := bl hb ltC
  replace HX := Lib.hid (HX.out.below hb)
  replace HY := Lib.hid (HY.out.below hb)
  replace HL := Lib.hid (HL.out.below hb)
  replace hB := hB.trans (hb.mono hB.size)
  clear hb
  generalize rsgI x = sx at *
  go_wp2_with fail
  go_ret
  exact ⟨by rw [← HU.out]; rfl, hB⟩

set_option maxHeartbeats 2000000 in
theorem up_m5 (vx vf vr : Value) (x y : Rat) (f : Int) (B L : Nat) (w : World) (hx : RatV w vx x L) (hf : IntN B w vf f) (hy : RatV w vr y L) (hL : 1 ≤ L) (hm : (L + 1) * 4 ≤ 140737488355328) (hsr : rsgI y ≠ 0) :
    Calls Try.prog 72 #[vx, vf, vr, .int .i64 5] w fun e w' => e = .returned (.bool (upX 5 (rsgI y) (rcmpI y (mkRat 1 2)) (decide (rsgI x < 0)) (oddI f))) ∧ Below w.heap.size w w' := by
  have HX := Lib.hid hx
  have HY := Lib.hid hy
  obtain ⟨p, q, hr, -⟩ := hx
  obtain ⟨p', q', hr', -⟩ := hy
  obtain ⟨neg, a', len', cap', xs, a, len, cap, ys, rfl, -, -, -, -, -, -⟩ := hr
  obtain ⟨neg2, a2', len2', cap2', xs2, a2, len2, cap2, ys2, rfl, -, -, -, -, -, -⟩ := hr'
  obtain ⟨af, nf, cf, rfl, hl, -⟩ := hf
  have hnf := hl.1
  have hlm := hl.2.2.2.1
  have hlc := hl.2.2.1
  unfold maxLen at hlm
  have HL := Lib.hid hl
  clear hl
  generalize decide (f < 0) = dn at *
  have hsz : (rsgI y == 0) = false := by simpa using hsr
  clear hsr
  generalize hU : upX 5 (rsgI y) (rcmpI y (mkRat 1 2)) (decide (rsgI x < 0)) (oddI f) = U
  have HU := Lib.hid ((show upM 5 (rcmpI y (mkRat 1 2)) (decide (rsgI x < 0)) (oddI f) = upX 5 (rsgI y) (rcmpI y (mkRat 1 2)) (decide (rsgI x < 0)) (oddI f) by unfold upX; rw [hsz]; rfl).trans hU)
  clear hU
  go_enter Try.func72, Try.ntmps72
  go_wp2_with fail
  have hbx : Below w.heap.size w (((w.alloc (.cells #[.bool neg, .slice a' len' cap', .slice a len cap] 27)).alloc (.cells #[.bool dn, .slice af nf cf] 25)).alloc (.cells #[.bool neg2, .slice a2' len2' cap2', .slice a2 len2 cap2] 27)) := ((((Below.refl _ _).alloc (Nat.le_refl _) _).alloc (by simp) _).alloc (by simp <;> omega) _)
  generalize hWW : (((w.alloc (.cells #[.bool neg, .slice a' len' cap', .slice a len cap] 27)).alloc (.cells #[.bool dn, .slice af nf cf] 25)).alloc (.cells #[.bool neg2, .slice a2' len2' cap2', .slice a2 len2 cap2] 27)) = w0 at *
  replace HX := Lib.hid (HX.out.below hbx)
  replace HY := Lib.hid (HY.out.below hbx)
  replace HL := Lib.hid (HL.out.below hbx)
  have cA0 : w0.cell? ⟨w.heap.size, 0, none⟩ = some (.bool neg) := by subst hWW; go_simp
  have cA1 : w0.cell? ⟨w.heap.size, 1, none⟩ = some (.slice a' len' cap') := by subst hWW; go_simp
  have cA2 : w0.cell? ⟨w.heap.size, 2, none⟩ = some (.slice a len cap) := by subst hWW; go_simp
  have ltA : w.heap.size < w0.heap.size := by subst hWW; simp <;> omega
  have cF0 : w0.cell? ⟨w.heap.size + 1, 0, none⟩ = some (.bool dn) := by subst hWW; go_simp
  have cF1 : w0.cell? ⟨w.heap.size + 1, 1, none⟩ = some (.slice af nf cf) := by subst hWW; go_simp
  have ltF : w.heap.size + 1 < w0.heap.size := by subst hWW; simp <;> omega
  have cC0 : w0.cell? ⟨w.heap.size + 1 + 1, 0, none⟩ = some (.bool neg2) := by subst hWW; go_simp
  have cC1 : w0.cell? ⟨w.heap.size + 1 + 1, 1, none⟩ = some (.slice a2' len2' cap2') := by subst hWW; go_simp
  have cC2 : w0.cell? ⟨w.heap.size + 1 + 1, 2, none⟩ = some (.slice a2 len2 cap2) := by subst hWW; go_simp
  have ltC : w.heap.size + 1 + 1 < w0.heap.size := by subst hWW; simp
  have hB := hbx
  clear hbx hWW
  refine (ksign_any _ y L _ HY.out (by omega)).mono ?_
  rintro e w1 ⟨rfl, hb⟩
  replace cA0 := bc hb ltA cA0
  replace cA1 := bc hb ltA cA1
  replace cA2 := bc hb ltA cA2
  replace ltA := bl hb ltA
  replace cF0 := bc hb ltF cF0
  replace cF1 := bc hb ltF cF1
  replace ltF := bl hb ltF
  replace cC0 := bc hb ltC cC0
  replace cC1 := bc hb ltC cC1
  replace cC2 := bc hb ltC cC2
  replace ltC := bl hb ltC
  replace HX := Lib.hid (HX.out.below hb)
  replace HY := Lib.hid (HY.out.below hb)
  replace HL := Lib.hid (HL.out.below hb)
  replace hB := hB.trans (hb.mono hB.size)
  generalize rsgI y = sr at *
  clear hb
  go_wp2_with fail
  refine (ksign_any _ x L _ HX.out (by omega)).mono ?_
  rintro e w2 ⟨rfl, hb⟩
  replace cA0 := bc hb ltA cA0
  replace cA1 := bc hb ltA cA1
  replace cA2 := bc hb ltA cA2
  replace ltA := bl hb ltA
  replace cF0 := bc hb ltF cF0
  replace cF1 := bc hb ltF cF1
  replace ltF := bl hb ltF
  replace cC0 := bc hb ltC cC0
  replace cC1 := bc hb ltC cC1
  replace cC2 := bc hb ltC cC2
  replace ltC := bl hb ltC
  replace HX := Lib.hid (HX.out.below hb)
  replace HY := Lib.hid (HY.out.below hb)
  replace HL := Lib.hid (HL.out.below hb)
  replace hB := hB.trans (hb.mono hB.size)
  clear hb
  generalize rsgI x = sx at *
  go_wp2_with fail
  go_ret
  exact ⟨by rw [← HU.out]; rfl, hB⟩

set_option maxHeartbeats 2000000 in
theorem up_m6 (vx vf vr : Value) (x y : Rat) (f : Int) (B L : Nat) (w : World) (hx : RatV w vx x L) (hf : IntN B w vf f) (hy : RatV w vr y L) (hL : 1 ≤ L) (hm : (L + 1) * 4 ≤ 140737488355328) (hsr : rsgI y ≠ 0) :
    Calls Try.prog 72 #[vx, vf, vr, .int .i64 6] w fun e w' => e = .returned (.bool (upX 6 (rsgI y) (rcmpI y (mkRat 1 2)) (decide (rsgI x < 0)) (oddI f))) ∧ Below w.heap.size w w' := by
  have HX := Lib.hid hx
  have HY := Lib.hid hy
  obtain ⟨p, q, hr, -⟩ := hx
  obtain ⟨p', q', hr', -⟩ := hy
  obtain ⟨neg, a', len', cap', xs, a, len, cap, ys, rfl, -, -, -, -, -, -⟩ := hr
  obtain ⟨neg2, a2', len2', cap2', xs2, a2, len2, cap2, ys2, rfl, -, -, -, -, -, -⟩ := hr'
  obtain ⟨af, nf, cf, rfl, hl, -⟩ := hf
  have hnf := hl.1
  have hlm := hl.2.2.2.1
  have hlc := hl.2.2.1
  unfold maxLen at hlm
  have HL := Lib.hid hl
  clear hl
  generalize decide (f < 0) = dn at *
  have hsz : (rsgI y == 0) = false := by simpa using hsr
  clear hsr
  generalize hU : upX 6 (rsgI y) (rcmpI y (mkRat 1 2)) (decide (rsgI x < 0)) (oddI f) = U
  have HU := Lib.hid ((show upM 6 (rcmpI y (mkRat 1 2)) (decide (rsgI x < 0)) (oddI f) = upX 6 (rsgI y) (rcmpI y (mkRat 1 2)) (decide (rsgI x < 0)) (oddI f) by unfold upX; rw [hsz]; rfl).trans hU)
  clear hU
  go_enter Try.func72, Try.ntmps72
  go_wp2_with fail
  have hbx : Below w.heap.size w (((w.alloc (.cells #[.bool neg, .slice a' len' cap', .slice a len cap] 27)).alloc (.cells #[.bool dn, .slice af nf cf] 25)).alloc (.cells #[.bool neg2, .slice a2' len2' cap2', .slice a2 len2 cap2] 27)) := ((((Below.refl _ _).alloc (Nat.le_refl _) _).alloc (by simp) _).alloc (by simp <;> omega) _)
  generalize hWW : (((w.alloc (.cells #[.bool neg, .slice a' len' cap', .slice a len cap] 27)).alloc (.cells #[.bool dn, .slice af nf cf] 25)).alloc (.cells #[.bool neg2, .slice a2' len2' cap2', .slice a2 len2 cap2] 27)) = w0 at *
  replace HX := Lib.hid (HX.out.below hbx)
  replace HY := Lib.hid (HY.out.below hbx)
  replace HL := Lib.hid (HL.out.below hbx)
  have cA0 : w0.cell? ⟨w.heap.size, 0, none⟩ = some (.bool neg) := by subst hWW; go_simp
  have cA1 : w0.cell? ⟨w.heap.size, 1, none⟩ = some (.slice a' len' cap') := by subst hWW; go_simp
  have cA2 : w0.cell? ⟨w.heap.size, 2, none⟩ = some (.slice a len cap) := by subst hWW; go_simp
  have ltA : w.heap.size < w0.heap.size := by subst hWW; simp <;> omega
  have cF0 : w0.cell? ⟨w.heap.size + 1, 0, none⟩ = some (.bool dn) := by subst hWW; go_simp
  have cF1 : w0.cell? ⟨w.heap.size + 1, 1, none⟩ = some (.slice af nf cf) := by subst hWW; go_simp
  have ltF : w.heap.size + 1 < w0.heap.size := by subst hWW; simp <;> omega
  have cC0 : w0.cell? ⟨w.heap.size + 1 + 1, 0, none⟩ = some (.bool neg2) := by subst hWW; go_simp
  have cC1 : w0.cell? ⟨w.heap.size + 1 + 1, 1, none⟩ = some (.slice a2' len2' cap2') := by subst hWW; go_simp
  have cC2 : w0.cell? ⟨w.heap.size + 1 + 1, 2, none⟩ = some (.slice a2 len2 cap2) := by subst hWW; go_simp
  have ltC : w.heap.size + 1 + 1 < w0.heap.size := by subst hWW; simp
  have hB := hbx
  clear hbx hWW
  refine (ksign_any _ y L _ HY.out (by omega)).mono ?_
  rintro e w1 ⟨rfl, hb⟩
  replace cA0 := bc hb ltA cA0
  replace cA1 := bc hb ltA cA1
  replace cA2 := bc hb ltA cA2
  replace ltA := bl hb ltA
  replace cF0 := bc hb ltF cF0
  replace cF1 := bc hb ltF cF1
  replace ltF := bl hb ltF
  replace cC0 := bc hb ltC cC0
  replace cC1 := bc hb ltC cC1
  replace cC2 := bc hb ltC cC2
  replace ltC := bl hb ltC
  replace HX := Lib.hid (HX.out.below hb)
  replace HY := Lib.hid (HY.out.below hb)
  replace HL := Lib.hid (HL.out.below hb)
  replace hB := hB.trans (hb.mono hB.size)
  generalize rsgI y = sr at *
  clear hb
  go_wp2_with fail
  refine (ksign_any _ x L _ HX.out (by omega)).mono ?_
  rintro e w2 ⟨rfl, hb⟩
  replace cA0 := bc hb ltA cA0
  replace cA1 := bc hb ltA cA1
  replace cA2 := bc hb ltA cA2
  replace ltA := bl hb ltA
  replace cF0 := bc hb ltF cF0
  replace cF1 := bc hb ltF cF1
  replace ltF := bl hb ltF
  replace cC0 := bc hb ltC cC0
  replace cC1 := bc hb ltC cC1
  replace cC2 := bc hb ltC cC2
  replace ltC := bl hb ltC
  replace HX := Lib.hid (HX.out.below hb)
  replace HY := Lib.hid (HY.out.below hb)
  replace HL := Lib.hid (HL.out.below hb)
  replace hB := hB.trans (hb.mono hB.size)
  clear hb
  generalize rsgI x = sx at *
  go_wp2_with fail
  go_ret
  exact ⟨by rw [← HU.out]; rfl, hB⟩

set_option maxHeartbeats 2000000 in
theorem up_m7 (vx vf vr : Value) (x y : Rat) (f : Int) (B L : Nat) (w : World) (hx : RatV w vx x L) (hf : IntN B w vf f) (hy : RatV w vr y L) (hL : 1 ≤ L) (hm : (L + 1) * 4 ≤ 140737488355328) (hsr : rsgI y ≠ 0) :
    Calls Try.prog 72 #[vx, vf, vr, .int .i64 7] w fun e w' => e = .returned (.bool (upX 7 (rsgI y) (rcmpI y (mkRat 1 2)) (decide (rsgI x < 0)) (oddI f))) ∧ Below w.heap.size w w' := by
  have HX := Lib.hid hx
  have HY := Lib.hid hy
  obtain ⟨p, q, hr, -⟩ := hx
  obtain ⟨p', q', hr', -⟩ := hy
  obtain ⟨neg, a', len', cap', xs, a, len, cap, ys, rfl, -, -, -, -, -, -⟩ := hr
  obtain ⟨neg2, a2', len2', cap2', xs2, a2, len2, cap2, ys2, rfl, -, -, -, -, -, -⟩ := hr'
  obtain ⟨af, nf, cf, rfl, hl, -⟩ := hf
  have hnf := hl.1
  have hlm := hl.2.2.2.1
  have hlc := hl.2.2.1
  unfold maxLen at hlm
  have HL := Lib.hid hl
  clear hl
  generalize decide (f < 0) = dn at *
  have hsz : (rsgI y == 0) = false := by simpa using hsr
  clear hsr
  generalize hU : upX 7 (rsgI y) (rcmpI y (mkRat 1 2)) (decide (rsgI x < 0)) (oddI f) = U
  have HU := Lib.hid ((show upM 7 (rcmpI y (mkRat 1 2)) (decide (rsgI x < 0)) (oddI f) = upX 7 (rsgI y) (rcmpI y (mkRat 1 2)) (decide (rsgI x < 0)) (oddI f) by unfold upX; rw [hsz]; rfl).trans hU)
  clear hU
  go_enter Try.func72, Try.ntmps72
  go_wp2_with fail
  have hbx : Below w.heap.size w (((w.alloc (.cells #[.bool neg, .slice a' len' cap', .slice a len cap] 27)).alloc (.cells #[.bool dn, .slice af nf cf] 25)).alloc (.cells #[.bool neg2, .slice a2' len2' cap2', .slice a2 len2 cap2] 27)) := ((((Below.refl _ _).alloc (Nat.le_refl _) _).alloc (by simp) _).alloc (by simp <;> omega) _)
  generalize hWW : (((w.alloc (.cells #[.bool neg, .slice a' len' cap', .slice a len cap] 27)).alloc (.cells #[.bool dn, .slice af nf cf] 25)).alloc (.cells #[.bool neg2, .slice a2' len2' cap2', .slice a2 len2 cap2] 27)) = w0 at *
  replace HX := Lib.hid (HX.out.below hbx)
  replace HY := Lib.hid (HY.out.below hbx)
  replace HL := Lib.hid (HL.out.below hbx)
  have cA0 : w0.cell? ⟨w.heap.size, 0, none⟩ = some (.bool neg) := by subst hWW; go_simp
  have cA1 : w0.cell? ⟨w.heap.size, 1, none⟩ = some (.slice a' len' cap') := by subst hWW; go_simp
  have cA2 : w0.cell? ⟨w.heap.size, 2, none⟩ = some (.slice a len cap) := by subst hWW; go_simp
  have ltA : w.heap.size < w0.heap.size := by subst hWW; simp <;> omega
  have cF0 : w0.cell? ⟨w.heap.size + 1, 0, none⟩ = some (.bool dn) := by subst hWW; go_simp
  have cF1 : w0.cell? ⟨w.heap.size + 1, 1, none⟩ = some (.slice af nf cf) := by subst hWW; go_simp
  have ltF : w.heap.size + 1 < w0.heap.size := by subst hWW; simp <;> omega
  have cC0 : w0.cell? ⟨w.heap.size + 1 + 1, 0, none⟩ = some (.bool neg2) := by subst hWW; go_simp
  have cC1 : w0.cell? ⟨w.heap.size + 1 + 1, 1, none⟩ = some (.slice a2' len2' cap2') := by subst hWW; go_simp
  have cC2 : w0.cell? ⟨w.heap.size + 1 + 1, 2, none⟩ = some (.slice a2 len2 cap2) := by subst hWW; go_simp
  have ltC : w.heap.size + 1 + 1 < w0.heap.size := by subst hWW; simp
  have hB := hbx
  clear hbx hWW
  refine (ksign_any _ y L _ HY.out (by omega)).mono ?_
  rintro e w1 ⟨rfl, hb⟩
  replace cA0 := bc hb ltA cA0
  replace cA1 := bc hb ltA cA1
  replace cA2 := bc hb ltA cA2
  replace ltA := bl hb ltA
  replace cF0 := bc hb ltF cF0
  replace cF1 := bc hb ltF cF1
  replace ltF := bl hb ltF
  replace cC0 := bc hb ltC cC0
  replace cC1 := bc hb ltC cC1
  replace cC2 := bc hb ltC cC2
  replace ltC := bl hb ltC
  replace HX := Lib.hid (HX.out.below hb)
  replace HY := Lib.hid (HY.out.below hb)
  replace HL := Lib.hid (HL.out.below hb)
  replace hB := hB.trans (hb.mono hB.size)
  generalize rsgI y = sr at *
  clear hb
  go_wp2_with fail
  refine (ksign_any _ x L _ HX.out (by omega)).mono ?_
  rintro e w2 ⟨rfl, hb⟩
  replace cA0 := bc hb ltA cA0
  replace cA1 := bc hb ltA cA1
  replace cA2 := bc hb ltA cA2
  replace ltA := bl hb ltA
  replace cF0 := bc hb ltF cF0
  replace cF1 := bc hb ltF cF1
  replace ltF := bl hb ltF
  replace cC0 := bc hb ltC cC0
  replace cC1 := bc hb ltC cC1
  replace cC2 := bc hb ltC cC2
  replace ltC := bl hb ltC
  replace HX := Lib.hid (HX.out.below hb)
  replace HY := Lib.hid (HY.out.below hb)
  replace HL := Lib.hid (HL.out.below hb)
  replace hB := hB.trans (hb.mono hB.size)
  clear hb
  generalize rsgI x = sx at *
  go_wp2_with fail
  go_ret
  exact ⟨by rw [← HU.out]; rfl, hB⟩

set_option maxHeartbeats 2000000 in
theorem up_m1ne (vx vf vr : Value) (x y : Rat) (f : Int) (B L : Nat) (w : World) (hx : RatV w vx x L) (hf : IntN B w vf f) (hy : RatV w vr y L) (hL : 1 ≤ L) (hm : (L + 1) * 4 ≤ 140737488355328) (hsr : rsgI y ≠ 0) (hh : rcmpI y (mkRat 1 2) ≠ 0) :
    Calls Try.prog 72 #[vx, vf, vr, .int .i64 1] w fun e w' => e = .returned (.bool (upX 1 (rsgI y) (rcmpI y (mkRat 1 2)) (decide (rsgI x < 0)) (oddI f))) ∧ Below w.heap.size w w' := by
  have HX := Lib.hid hx
  have HY := Lib.hid hy
  obtain ⟨p, q, hr, -⟩ := hx
  obtain ⟨p', q', hr', -⟩ := hy
  obtain ⟨neg, a', len', cap', xs, a, len, cap, ys, rfl, -, -, -, -, -, -⟩ := hr
  obtain ⟨neg2, a2', len2', cap2', xs2, a2, len2, cap2, ys2, rfl, -, -, -, -, -, -⟩ := hr'
  obtain ⟨af, nf, cf, rfl, hl, -⟩ := hf
  have hnf := hl.1
  have hlm := hl.2.2.2.1
  have hlc := hl.2.2.1
  unfold maxLen at hlm
  have HL := Lib.hid hl
  clear hl
  generalize decide (f < 0) = dn at *
  have hsz : (rsgI y == 0) = false := by simpa using hsr
  clear hsr
  have hh0 : (rcmpI y (mkRat 1 2) == 0) = false := by simpa using hh
  clear hnf
  generalize hU : upX 1 (rsgI y) (rcmpI y (mkRat 1 2)) (decide (rsgI x < 0)) (oddI f) = U
  have HU := Lib.hid ((show upM 1 (rcmpI y (mkRat 1 2)) (decide (rsgI x < 0)) (oddI f) = upX 1 (rsgI y) (rcmpI y (mkRat 1 2)) (decide (rsgI x < 0)) (oddI f) by unfold upX; rw [hsz]; rfl).trans hU)
  clear hU
  have HUm := Lib.hid (show upM 1 (rcmpI y (mkRat 1 2)) (decide (rsgI x < 0)) (oddI f) = decide (0 < rcmpI y (mkRat 1 2)) by unfold upM; simp [hh0, bne])
  clear hh
  go_enter Try.func72, Try.ntmps72
  go_wp2_with fail
  have hbx : Below w.heap.size w (((w.alloc (.cells #[.bool neg, .slice a' len' cap', .slice a len cap] 27)).alloc (.cells #[.bool dn, .slice af nf cf] 25)).alloc (.cells #[.bool neg2, .slice a2' len2' cap2', .slice a2 len2 cap2] 27)) := ((((Below.refl _ _).alloc (Nat.le_refl _) _).alloc (by simp) _).alloc (by simp <;> omega) _)
  generalize hWW : (((w.alloc (.cells #[.bool neg, .slice a' len' cap', .slice a len cap] 27)).alloc (.cells #[.bool dn, .slice af nf cf] 25)).alloc (.cells #[.bool neg2, .slice a2' len2' cap2', .slice a2 len2 cap2] 27)) = w0 at *
  replace HX := Lib.hid (HX.out.below hbx)
  replace HY := Lib.hid (HY.out.below hbx)
  replace HL := Lib.hid (HL.out.below hbx)
  have cA0 : w0.cell? ⟨w.heap.size, 0, none⟩ = some (.bool neg) := by subst hWW; go_simp
  have cA1 : w0.cell? ⟨w.heap.size, 1, none⟩ = some (.slice a' len' cap') := by subst hWW; go_simp
  have cA2 : w0.cell? ⟨w.heap.size, 2, none⟩ = some (.slice a len cap) := by subst hWW; go_simp
  have ltA : w.heap.size < w0.heap.size := by subst hWW; simp <;> omega
  have cF0 : w0.cell? ⟨w.heap.size + 1, 0, none⟩ = some (.bool dn) := by subst hWW; go_simp
  have cF1 : w0.cell? ⟨w.heap.size + 1, 1, none⟩ = some (.slice af nf cf) := by subst hWW; go_simp
  have ltF : w.heap.size + 1 < w0.heap.size := by subst hWW; simp <;> omega
  have cC0 : w0.cell? ⟨w.heap.size + 1 + 1, 0, none⟩ = some (.bool neg2) := by subst hWW; go_simp
  have cC1 : w0.cell? ⟨w.heap.size + 1 + 1, 1, none⟩ = some (.slice a2' len2' cap2') := by subst hWW; go_simp
  have cC2 : w0.cell? ⟨w.heap.size + 1 + 1, 2, none⟩ = some (.slice a2 len2 cap2) := by subst hWW; go_simp
  have ltC : w.heap.size + 1 + 1 < w0.heap.size := by subst hWW; simp
  have hB := hbx
  clear hbx hWW
  refine (ksign_any _ y L _ HY.out (by omega)).mono ?_
  rintro e w1 ⟨rfl, hb⟩
  replace cA0 := bc hb ltA cA0
  replace cA1 := bc hb ltA cA1
  replace cA2 := bc hb ltA cA2
  replace ltA := bl hb ltA
  replace cF0 := bc hb ltF cF0
  replace cF1 := bc hb ltF cF1
  replace ltF := bl hb ltF
  replace cC0 := bc hb ltC cC0
  replace cC1 := bc hb ltC cC1
  replace cC2 := bc hb ltC cC2
  replace ltC := bl hb ltC
  replace HX := Lib.hid (HX.out.below hb)
  replace HY := Lib.hid (HY.out.below hb)
  replace HL := Lib.hid (HL.out.below hb)
  replace hB := hB.trans (hb.mono hB.size)
  generalize rsgI y = sr at *
  clear hb
  go_wp2_with fail
  refine (ksign_any _ x L _ HX.out (by omega)).mono ?_
  rintro e w2 ⟨rfl, hb⟩
  replace cA0 := bc hb ltA cA0
  replace cA1 := bc hb ltA cA1
  replace cA2 := bc hb ltA cA2
  replace ltA := bl hb ltA
  replace cF0 := bc hb ltF cF0
  replace cF1 := bc hb ltF cF1
  replace ltF := bl hb ltF
  replace cC0 := bc hb ltC cC0
  replace cC1 := bc hb ltC cC1
  replace cC2 := bc hb ltC cC2
  replace ltC := bl hb ltC
  replace HX := Lib.hid (HX.out.below hb)
  replace HY := Lib.hid (HY.out.below hb)
  replace HL := Lib.hid (HL.out.below hb)
  replace hB := hB.trans (hb.mono hB.size)
  clear hb
  generalize rsgI x = sx at *
  go_wp2_with fail
  have HHf := Lib.hid (half_lit w2)
  have hbx : Below w2.heap.size w2 ((w2.alloc (.cells #[.int .u32 1] 87)).alloc (.cells #[.int .u32 2] 87)) := (((Below.refl _ _).alloc (Nat.le_refl _) _).alloc (by simp) _)
  generalize hWW : ((w2.alloc (.cells #[.int .u32 1] 87)).alloc (.cells #[.int .u32 2] 87)) = w3 at *
  replace cA0 := bc hbx ltA cA0
  replace cA1 := bc hbx ltA cA1
  replace cA2 := bc hbx ltA cA2
  replace ltA := bl hbx ltA
  replace cF0 := bc hbx ltF cF0
  replace cF1 := bc hbx ltF cF1
  replace ltF := bl hbx ltF
  replace cC0 := bc hbx ltC cC0
  replace cC1 := bc hbx ltC cC1
  replace cC2 := bc hbx ltC cC2
  replace ltC := bl hbx ltC
  replace HX := Lib.hid (HX.out.below hbx)
  replace HY := Lib.hid (HY.out.below hbx)
  replace HL := Lib.hid (HL.out.below hbx)
  replace hB := hB.trans (hbx.mono hB.size)
  clear hbx hWW
  refine (kcmp_any _ _ y (mkRat 1 2) L 1 _ HY.out HHf.out hL (by omega) (by omega)).mono ?_
  rintro e w4 ⟨rfl, hb⟩
  replace cA0 := bc hb ltA cA0
  replace cA1 := bc hb ltA cA1
  replace cA2 := bc hb ltA cA2
  replace ltA := bl hb ltA
  replace cF0 := bc hb ltF cF0
  replace cF1 := bc hb ltF cF1
  replace ltF := bl hb ltF
  replace cC0 := bc hb ltC cC0
  replace cC1 := bc hb ltC cC1
  replace cC2 := bc hb ltC cC2
  replace ltC := bl hb ltC
  replace HX := Lib.hid (HX.out.below hb)
  replace HY := Lib.hid (HY.out.below hb)
  replace HL := Lib.hid (HL.out.below hb)
  replace HHf := Lib.hid (HHf.out.below hb)
  replace hB := hB.trans (hb.mono hB.size)
  generalize rcmpI y (mkRat 1 2) = hf at *
  clear hb
  clear HX HY HL HHf
  go_wp2_with fail
  go_ret
  exact ⟨by rw [← HU.out, HUm.out]; rfl, hB⟩

set_option maxHeartbeats 2000000 in
theorem up_m1eq0 (vx vf vr : Value) (x y : Rat) (f : Int) (B L : Nat) (w : World) (hx : RatV w vx x L) (hf : IntN B w vf f) (hy : RatV w vr y L) (hL : 1 ≤ L) (hm : (L + 1) * 4 ≤ 140737488355328) (hsr : rsgI y ≠ 0) (hh : rcmpI y (mkRat 1 2) = 0) (ho : f.natAbs = 0) :
    Calls Try.prog 72 #[vx, vf, vr, .int .i64 1] w fun e w' => e = .returned (.bool (upX 1 (rsgI y) (rcmpI y (mkRat 1 2)) (decide (rsgI x < 0)) (oddI f))) ∧ Below w.heap.size w w' := by
  have HX := Lib.hid hx
  have HY := Lib.hid hy
  obtain ⟨p, q, hr, -⟩ := hx
  obtain ⟨p', q', hr', -⟩ := hy
  obtain ⟨neg, a', len', cap', xs, a, len, cap, ys, rfl, -, -, -, -, -, -⟩ := hr
  obtain ⟨neg2, a2', len2', cap2', xs2, a2, len2, cap2, ys2, rfl, -, -, -, -, -, -⟩ := hr'
  obtain ⟨af, nf, cf, rfl, hl, -⟩ := hf
  have hnf := hl.1
  have hlm := hl.2.2.2.1
  have hlc := hl.2.2.1
  unfold maxLen at hlm
  have HL := Lib.hid hl
  clear hl
  generalize decide (f < 0) = dn at *
  have hsz : (rsgI y == 0) = false := by simpa using hsr
  clear hsr
  have HO := Lib.hid (show oddI f = false by unfold oddI; rw [ho]; rfl)
  have hnf0 : ¬ 0 < nf := by rw [← hnf, ho, digs_zero]; simp
  clear hnf ho
  generalize hU : upX 1 (rsgI y) (rcmpI y (mkRat 1 2)) (decide (rsgI x < 0)) (oddI f) = U
  have HU := Lib.hid ((show upM 1 (rcmpI y (mkRat 1 2)) (decide (rsgI x < 0)) (oddI f) = upX 1 (rsgI y) (rcmpI y (mkRat 1 2)) (decide (rsgI x < 0)) (oddI f) by unfold upX; rw [hsz]; rfl).trans hU)
  clear hU
  go_enter Try.func72, Try.ntmps72
  go_wp2_with fail
  have hbx : Below w.heap.size w (((w.alloc (.cells #[.bool neg, .slice a' len' cap', .slice a len cap] 27)).alloc (.cells #[.bool dn, .slice af nf cf] 25)).alloc (.cells #[.bool neg2, .slice a2' len2' cap2', .slice a2 len2 cap2] 27)) := ((((Below.refl _ _).alloc (Nat.le_refl _) _).alloc (by simp) _).alloc (by simp <;> omega) _)
  generalize hWW : (((w.alloc (.cells #[.bool neg, .slice a' len' cap', .slice a len cap] 27)).alloc (.cells #[.bool dn, .slice af nf cf] 25)).alloc (.cells #[.bool neg2, .slice a2' len2' cap2', .slice a2 len2 cap2] 27)) = w0 at *
  replace HX := Lib.hid (HX.out.below hbx)
  replace HY := Lib.hid (HY.out.below hbx)
  replace HL := Lib.hid (HL.out.below hbx)
  have cA0 : w0.cell? ⟨w.heap.size, 0, none⟩ = some (.bool neg) := by subst hWW; go_simp
  have cA1 : w0.cell? ⟨w.heap.size, 1, none⟩ = some (.slice a' len' cap') := by subst hWW; go_simp
  have cA2 : w0.cell? ⟨w.heap.size, 2, none⟩ = some (.slice a len cap) := by subst hWW; go_simp
  have ltA : w.heap.size < w0.heap.size := by subst hWW; simp <;> omega
  have cF0 : w0.cell? ⟨w.heap.size + 1, 0, none⟩ = some (.bool dn) := by subst hWW; go_simp
  have cF1 : w0.cell? ⟨w.heap.size + 1, 1, none⟩ = some (.slice af nf cf) := by subst hWW; go_simp
  have ltF : w.heap.size + 1 < w0.heap.size := by subst hWW; simp <;> omega
  have cC0 : w0.cell? ⟨w.heap.size + 1 + 1, 0, none⟩ = some (.bool neg2) := by subst hWW; go_simp
  have cC1 : w0.cell? ⟨w.heap.size + 1 + 1, 1, none⟩ = some (.slice a2' len2' cap2') := by subst hWW; go_simp
  have cC2 : w0.cell? ⟨w.heap.size + 1 + 1, 2, none⟩ = some (.slice a2 len2 cap2) := by subst hWW; go_simp
  have ltC : w.heap.size + 1 + 1 < w0.heap.size := by subst hWW; simp
  have hB := hbx
  clear hbx hWW
  refine (ksign_any _ y L _ HY.out (by omega)).mono ?_
  rintro e w1 ⟨rfl, hb⟩
  replace cA0 := bc hb ltA cA0
  replace cA1 := bc hb ltA cA1
  replace cA2 := bc hb ltA cA2
  replace ltA := bl hb ltA
  replace cF0 := bc hb ltF cF0
  replace cF1 := bc hb ltF cF1
  replace ltF := bl hb ltF
  replace cC0 := bc hb ltC cC0
  replace cC1 := bc hb ltC cC1
  replace cC2 := bc hb ltC cC2
  replace ltC := bl hb ltC
  replace HX := Lib.hid (HX.out.below hb)
  replace HY := Lib.hid (HY.out.below hb)
  replace HL := Lib.hid (HL.out.below hb)
  replace hB := hB.trans (hb.mono hB.size)
  generalize rsgI y = sr at *
  clear hb
  go_wp2_with fail
  refine (ksign_any _ x L _ HX.out (by omega)).mono ?_
  rintro e w2 ⟨rfl, hb⟩
  replace cA0 := bc hb ltA cA0
  replace cA1 := bc hb ltA cA1
  replace cA2 := bc hb ltA cA2
  replace ltA := bl hb ltA
  replace cF0 := bc hb ltF cF0
  replace cF1 := bc hb ltF cF1
  replace ltF := bl hb ltF
  replace cC0 := bc hb ltC cC0
  replace cC1 := bc hb ltC cC1
  replace cC2 := bc hb ltC cC2
  replace ltC := bl hb ltC
  replace HX := Lib.hid (HX.out.below hb)
  replace HY := Lib.hid (HY.out.below hb)
  replace HL := Lib.hid (HL.out.below hb)
  replace hB := hB.trans (hb.mono hB.size)
  clear hb
  generalize rsgI x = sx at *
  go_wp2_with fail
  have HHf := Lib.hid (half_lit w2)
  have hbx : Below w2.heap.size w2 ((w2.alloc (.cells #[.int .u32 1] 87)).alloc (.cells #[.int .u32 2] 87)) := (((Below.refl _ _).alloc (Nat.le_refl _) _).alloc (by simp) _)
  generalize hWW : ((w2.alloc (.cells #[.int .u32 1] 87)).alloc (.cells #[.int .u32 2] 87)) = w3 at *
  replace cA0 := bc hbx ltA cA0
  replace cA1 := bc hbx ltA cA1
  replace cA2 := bc hbx ltA cA2
  replace ltA := bl hbx ltA
  replace cF0 := bc hbx ltF cF0
  replace cF1 := bc hbx ltF cF1
  replace ltF := bl hbx ltF
  replace cC0 := bc hbx ltC cC0
  replace cC1 := bc hbx ltC cC1
  replace cC2 := bc hbx ltC cC2
  replace ltC := bl hbx ltC
  replace HX := Lib.hid (HX.out.below hbx)
  replace HY := Lib.hid (HY.out.below hbx)
  replace HL := Lib.hid (HL.out.below hbx)
  replace hB := hB.trans (hbx.mono hB.size)
  clear hbx hWW
  refine (kcmp_any _ _ y (mkRat 1 2) L 1 _ HY.out HHf.out hL (by omega) (by omega)).mono ?_
  rintro e w4 ⟨rfl, hb⟩
  replace cA0 := bc hb ltA cA0
  replace cA1 := bc hb ltA cA1
  replace cA2 := bc hb ltA cA2
  replace ltA := bl hb ltA
  replace cF0 := bc hb ltF cF0
  replace cF1 := bc hb ltF cF1
  replace ltF := bl hb ltF
  replace cC0 := bc hb ltC cC0
  replace cC1 := bc hb ltC cC1
  replace cC2 := bc hb ltC cC2
  replace ltC := bl hb ltC
  replace HX := Lib.hid (HX.out.below hb)
  replace HY := Lib.hid (HY.out.below hb)
  replace HL := Lib.hid (HL.out.below hb)
  replace HHf := Lib.hid (HHf.out.below hb)
  replace hB := hB.trans (hb.mono hB.size)
  rw [hh] at HU ⊢
  clear hb
  clear HX HY HL HHf
  go_wp2_with fail
  go_ret
  exact ⟨by rw [← HU.out, HO.out]; rfl, hB⟩

set_option maxHeartbeats 2000000 in
theorem up_m1eq1 (vx vf vr : Value) (x y : Rat) (f : Int) (B L : Nat) (w : World) (hx : RatV w vx x L) (hf : IntN B w vf f) (hy : RatV w vr y L) (hL : 1 ≤ L) (hm : (L + 1) * 4 ≤ 140737488355328) (hsr : rsgI y ≠ 0) (hh : rcmpI y (mkRat 1 2) = 0) (ho : f.natAbs ≠ 0) :
    Calls Try.prog 72 #[vx, vf, vr, .int .i64 1] w fun e w' => e = .returned (.bool (upX 1 (rsgI y) (rcmpI y (mkRat 1 2)) (decide (rsgI x < 0)) (oddI f))) ∧ Below w.heap.size w w' := by
  have HX := Lib.hid hx
  have HY := Lib.hid hy
  obtain ⟨p, q, hr, -⟩ := hx
  obtain ⟨p', q', hr', -⟩ := hy
  obtain ⟨neg, a', len', cap', xs, a, len, cap, ys, rfl, -, -, -, -, -, -⟩ := hr
  obtain ⟨neg2, a2', len2', cap2', xs2, a2, len2, cap2, ys2, rfl, -, -, -, -, -, -⟩ := hr'
  obtain ⟨af, nf, cf, rfl, hl, -⟩ := hf
  have hnf := hl.1
  have hlm := hl.2.2.2.1
  have hlc := hl.2.2.1
  unfold maxLen at hlm
  have HL := Lib.hid hl
  clear hl
  generalize decide (f < 0) = dn at *
  have hsz : (rsgI y == 0) = false := by simpa using hsr
  clear hsr
  have hnf0 : 0 < nf := by
    have : nf ≠ 0 := fun h => ho (digs_len_zero.1 (by omega))
    omega
  have HO := Lib.hid (odd_digs (f := f) rfl rfl (by rw [hnf]; omega))
  have hlim := (lim_digs f.natAbs).getD 0
  clear ho hnf
  generalize hU : upX 1 (rsgI y) (rcmpI y (mkRat 1 2)) (decide (rsgI x < 0)) (oddI f) = U
  have HU := Lib.hid ((show upM 1 (rcmpI y (mkRat 1 2)) (decide (rsgI x < 0)) (oddI f) = upX 1 (rsgI y) (rcmpI y (mkRat 1 2)) (decide (rsgI x < 0)) (oddI f) by unfold upX; rw [hsz]; rfl).trans hU)
  clear hU
  go_enter Try.func72, Try.ntmps72
  go_wp2_with fail
  have hbx : Below w.heap.size w (((w.alloc (.cells #[.bool neg, .slice a' len' cap', .slice a len cap] 27)).alloc (.cells #[.bool dn, .slice af nf cf] 25)).alloc (.cells #[.bool neg2, .slice a2' len2' cap2', .slice a2 len2 cap2] 27)) := ((((Below.refl _ _).alloc (Nat.le_refl _) _).alloc (by simp) _).alloc (by simp <;> omega) _)
  generalize hWW : (((w.alloc (.cells #[.bool neg, .slice a' len' cap', .slice a len cap] 27)).alloc (.cells #[.bool dn, .slice af nf cf] 25)).alloc (.cells #[.bool neg2, .slice a2' len2' cap2', .slice a2 len2 cap2] 27)) = w0 at *
  replace HX := Lib.hid (HX.out.below hbx)
  replace HY := Lib.hid (HY.out.below hbx)
  replace HL := Lib.hid (HL.out.below hbx)
  have cA0 : w0.cell? ⟨w.heap.size, 0, none⟩ = some (.bool neg) := by subst hWW; go_simp
  have cA1 : w0.cell? ⟨w.heap.size, 1, none⟩ = some (.slice a' len' cap') := by subst hWW; go_simp
  have cA2 : w0.cell? ⟨w.heap.size, 2, none⟩ = some (.slice a len cap) := by subst hWW; go_simp
  have ltA : w.heap.size < w0.heap.size := by subst hWW; simp <;> omega
  have cF0 : w0.cell? ⟨w.heap.size + 1, 0, none⟩ = some (.bool dn) := by subst hWW; go_simp
  have cF1 : w0.cell? ⟨w.heap.size + 1, 1, none⟩ = some (.slice af nf cf) := by subst hWW; go_simp
  have ltF : w.heap.size + 1 < w0.heap.size := by subst hWW; simp <;> omega
  have cC0 : w0.cell? ⟨w.heap.size + 1 + 1, 0, none⟩ = some (.bool neg2) := by subst hWW; go_simp
  have cC1 : w0.cell? ⟨w.heap.size + 1 + 1, 1, none⟩ = some (.slice a2' len2' cap2') := by subst hWW; go_simp
  have cC2 : w0.cell? ⟨w.heap.size + 1 + 1, 2, none⟩ = some (.slice a2 len2 cap2) := by subst hWW; go_simp
  have ltC : w.heap.size + 1 + 1 < w0.heap.size := by subst hWW; simp
  have hB := hbx
  clear hbx hWW
  refine (ksign_any _ y L _ HY.out (by omega)).mono ?_
  rintro e w1 ⟨rfl, hb⟩
  replace cA0 := bc hb ltA cA0
  replace cA1 := bc hb ltA cA1
  replace cA2 := bc hb ltA cA2
  replace ltA := bl hb ltA
  replace cF0 := bc hb ltF cF0
  replace cF1 := bc hb ltF cF1
  replace ltF := bl hb ltF
  replace cC0 := bc hb ltC cC0
  replace cC1 := bc hb ltC cC1
  replace cC2 := bc hb ltC cC2
  replace ltC := bl hb ltC
  replace HX := Lib.hid (HX.out.below hb)
  replace HY := Lib.hid (HY.out.below hb)
  replace HL := Lib.hid (HL.out.below hb)
  replace hB := hB.trans (hb.mono hB.size)
  generalize rsgI y = sr at *
  clear hb
  go_wp2_with fail
  refine (ksign_any _ x L _ HX.out (by omega)).mono ?_
  rintro e w2 ⟨rfl, hb⟩
  replace cA0 := bc hb ltA cA0
  replace cA1 := bc hb ltA cA1
  replace cA2 := bc hb ltA cA2
  replace ltA := bl hb ltA
  replace cF0 := bc hb ltF cF0
  replace cF1 := bc hb ltF cF1
  replace ltF := bl hb ltF
  replace cC0 := bc hb ltC cC0
  replace cC1 := bc hb ltC cC1
  replace cC2 := bc hb ltC cC2
  replace ltC := bl hb ltC
  replace HX := Lib.hid (HX.out.below hb)
  replace HY := Lib.hid (HY.out.below hb)
  replace HL := Lib.hid (HL.out.below hb)
  replace hB := hB.trans (hb.mono hB.size)
  clear hb
  generalize rsgI x = sx at *
  go_wp2_with fail
  have HHf := Lib.hid (half_lit w2)
  have hbx : Below w2.heap.size w2 ((w2.alloc (.cells #[.int .u32 1] 87)).alloc (.cells #[.int .u32 2] 87)) := (((Below.refl _ _).alloc (Nat.le_refl _) _).alloc (by simp) _)
  generalize hWW : ((w2.alloc (.cells #[.int .u32 1] 87)).alloc (.cells #[.int .u32 2] 87)) = w3 at *
  replace cA0 := bc hbx ltA cA0
  replace cA1 := bc hbx ltA cA1
  replace cA2 := bc hbx ltA cA2
  replace ltA := bl hbx ltA
  replace cF0 := bc hbx ltF cF0
  replace cF1 := bc hbx ltF cF1
  replace ltF := bl hbx ltF
  replace cC0 := bc hbx ltC cC0
  replace cC1 := bc hbx ltC cC1
  replace cC2 := bc hbx ltC cC2
  replace ltC := bl hbx ltC
  replace HX := Lib.hid (HX.out.below hbx)
  replace HY := Lib.hid (HY.out.below hbx)
  replace HL := Lib.hid (HL.out.below hbx)
  replace hB := hB.trans (hbx.mono hB.size)
  clear hbx hWW
  obtain ⟨b, off, rfl, _, hcc⟩ := HL.out.2.2.at (k := 0) (by omega)
  refine (kcmp_any _ _ y (mkRat 1 2) L 1 _ HY.out HHf.out hL (by omega) (by omega)).mono ?_
  rintro e w4 ⟨rfl, hb⟩
  replace cA0 := bc hb ltA cA0
  replace cA1 := bc hb ltA cA1
  replace cA2 := bc hb ltA cA2
  replace ltA := bl hb ltA
  replace cF0 := bc hb ltF cF0
  replace cF1 := bc hb ltF cF1
  replace ltF := bl hb ltF
  replace cC0 := bc hb ltC cC0
  replace cC1 := bc hb ltC cC1
  replace cC2 := bc hb ltC cC2
  replace ltC := bl hb ltC
  replace HX := Lib.hid (HX.out.below hb)
  replace HY := Lib.hid (HY.out.below hb)
  replace HL := Lib.hid (HL.out.below hb)
  replace HHf := Lib.hid (HHf.out.below hb)
  replace hB := hB.trans (hb.mono hB.size)
  have c0 := hcc 0 (by omega) _ hb
  rw [Nat.add_zero] at c0
  generalize (digs f.natAbs).getD 0 0 = z0 at *
  clear hcc
  rw [hh] at HU ⊢
  clear hb
  clear HX HY HHf
  go_wp2_with fail
  go_ret
  exact ⟨by rw [← HU.out, HO.out]; rfl, hB⟩

set_option maxHeartbeats 2000000 in
theorem up_m2ne (vx vf vr : Value) (x y : Rat) (f : Int) (B L : Nat) (w : World) (hx : RatV w vx x L) (hf : IntN B w vf f) (hy : RatV w vr y L) (hL : 1 ≤ L) (hm : (L + 1) * 4 ≤ 140737488355328) (hsr : rsgI y ≠ 0) (hh : rcmpI y (mkRat 1 2) ≠ 0) :
    Calls Try.prog 72 #[vx, vf, vr, .int .i64 2] w fun e w' => e = .returned (.bool (upX 2 (rsgI y) (rcmpI y (mkRat 1 2)) (decide (rsgI x < 0)) (oddI f))) ∧ Below w.heap.size w w' := by
  have HX := Lib.hid hx
  have HY := Lib.hid hy
  obtain ⟨p, q, hr, -⟩ := hx
  obtain ⟨p', q', hr', -⟩ := hy
  obtain ⟨neg, a', len', cap', xs, a, len, cap, ys, rfl, -, -, -, -, -, -⟩ := hr
  obtain ⟨neg2, a2', len2', cap2', xs2, a2, len2, cap2, ys2, rfl, -, -, -, -, -, -⟩ := hr'
  obtain ⟨af, nf, cf, rfl, hl, -⟩ := hf
  have hnf := hl.1
  have hlm := hl.2.2.2.1
  have hlc := hl.2.2.1
  unfold maxLen at hlm
  have HL := Lib.hid hl
  clear hl
  generalize decide (f < 0) = dn at *
  have hsz : (rsgI y == 0) = false := by simpa using hsr
  clear hsr
  have hh0 : (rcmpI y (mkRat 1 2) == 0) = false := by simpa using hh
  clear hnf
  generalize hU : upX 2 (rsgI y) (rcmpI y (mkRat 1 2)) (decide (rsgI x < 0)) (oddI f) = U
  have HU := Lib.hid ((show upM 2 (rcmpI y (mkRat 1 2)) (decide (rsgI x < 0)) (oddI f) = upX 2 (rsgI y) (rcmpI y (mkRat 1 2)) (decide (rsgI x < 0)) (oddI f) by unfold upX; rw [hsz]; rfl).trans hU)
  clear hU
  have HUm := Lib.hid (show upM 2 (rcmpI y (mkRat 1 2)) (decide (rsgI x < 0)) (oddI f) = decide (0 < rcmpI y (mkRat 1 2)) by unfold upM; simp [hh0, bne])
  clear hh
  go_enter Try.func72, Try.ntmps72
  go_wp2_with fail
  have hbx : Below w.heap.size w (((w.alloc (.cells #[.bool neg, .slice a' len' cap', .slice a len cap] 27)).alloc (.cells #[.bool dn, .slice af nf cf] 25)).alloc (.cells #[.bool neg2, .slice a2' len2' cap2', .slice a2 len2 cap2] 27)) := ((((Below.refl _ _).alloc (Nat.le_refl _) _).alloc (by simp) _).alloc (by simp <;> omega) _)
  generalize hWW : (((w.alloc (.cells #[.bool neg, .slice a' len' cap', .slice a len cap] 27)).alloc (.cells #[.bool dn, .slice af nf cf] 25)).alloc (.cells #[.bool neg2, .slice a2' len2' cap2', .slice a2 len2 cap2] 27)) = w0 at *
  replace HX := Lib.hid (HX.out.below hbx)
  replace HY := Lib.hid (HY.out.below hbx)
  replace HL := Lib.hid (HL.out.below hbx)
  have cA0 : w0.cell? ⟨w.heap.size, 0, none⟩ = some (.bool neg) := by subst hWW; go_simp
  have cA1 : w0.cell? ⟨w.heap.size, 1, none⟩ = some (.slice a' len' cap') := by subst hWW; go_simp
  have cA2 : w0.cell? ⟨w.heap.size, 2, none⟩ = some (.slice a len cap) := by subst hWW; go_simp
  have ltA : w.heap.size < w0.heap.size := by subst hWW; simp <;> omega
  have cF0 : w0.cell? ⟨w.heap.size + 1, 0, none⟩ = some (.bool dn) := by subst hWW; go_simp
  have cF1 : w0.cell? ⟨w.heap.size + 1, 1, none⟩ = some (.slice af nf cf) := by subst hWW; go_simp
  have ltF : w.heap.size + 1 < w0.heap.size := by subst hWW; simp <;> omega
  have cC0 : w0.cell? ⟨w.heap.size + 1 + 1, 0, none⟩ = some (.bool neg2) := by subst hWW; go_simp
  have cC1 : w0.cell? ⟨w.heap.size + 1 + 1, 1, none⟩ = some (.slice a2' len2' cap2') := by subst hWW; go_simp
  have cC2 : w0.cell? ⟨w.heap.size + 1 + 1, 2, none⟩ = some (.slice a2 len2 cap2) := by subst hWW; go_simp
  have ltC : w.heap.size + 1 + 1 < w0.heap.size := by subst hWW; simp
  have hB := hbx
  clear hbx hWW
  refine (ksign_any _ y L _ HY.out (by omega)).mono ?_
  rintro e w1 ⟨rfl, hb⟩
  replace cA0 := bc hb ltA cA0
  replace cA1 := bc hb ltA cA1
  replace cA2 := bc hb ltA cA2
  replace ltA := bl hb ltA
  replace cF0 := bc hb ltF cF0
  replace cF1 := bc hb ltF cF1
  replace ltF := bl hb ltF
  replace cC0 := bc hb ltC cC0
  replace cC1 := bc hb ltC cC1
  replace cC2 := bc hb ltC cC2
  replace ltC := bl hb ltC
  replace HX := Lib.hid (HX.out.below hb)
  replace HY := Lib.hid (HY.out.below hb)
  replace HL := Lib.hid (HL.out.below hb)
  replace hB := hB.trans (hb.mono hB.size)
  generalize rsgI y = sr at *
  clear hb
  go_wp2_with fail
  refine (ksign_any _ x L _ HX.out (by omega)).mono ?_
  rintro e w2 ⟨rfl, hb⟩
  replace cA0 := bc hb ltA cA0
  replace cA1 := bc hb ltA cA1
  replace cA2 := bc hb ltA cA2
  replace ltA := bl hb ltA
  replace cF0 := bc hb ltF cF0
  replace cF1 := bc hb ltF cF1
  replace ltF := bl hb ltF
  replace cC0 := bc hb ltC cC0
  replace cC1 := bc hb ltC cC1
  replace cC2 := bc hb ltC cC2
  replace ltC := bl hb ltC
  replace HX := Lib.hid (HX.out.below hb)
  replace HY := Lib.hid (HY.out.below hb)
  replace HL := Lib.hid (HL.out.below hb)
  replace hB := hB.trans (hb.mono hB.size)
  clear hb
  generalize rsgI x = sx at *
  go_wp2_with fail
  have HHf := Lib.hid (half_lit w2)
  have hbx : Below w2.heap.size w2 ((w2.alloc (.cells #[.int .u32 1] 87)).alloc (.cells #[.int .u32 2] 87)) := (((Below.refl _ _).alloc (Nat.le_refl _) _).alloc (by simp) _)
  generalize hWW : ((w2.alloc (.cells #[.int .u32 1] 87)).alloc (.cells #[.int .u32 2] 87)) = w3 at *
  replace cA0 := bc hbx ltA cA0
  replace cA1 := bc hbx ltA cA1
  replace cA2 := bc hbx ltA cA2
  replace ltA := bl hbx ltA
  replace cF0 := bc hbx ltF cF0
  replace cF1 := bc hbx ltF cF1
  replace ltF := bl hbx ltF
  replace cC0 := bc hbx ltC cC0
  replace cC1 := bc hbx ltC cC1
  replace cC2 := bc hbx ltC cC2
  replace ltC := bl hbx ltC
  replace HX := Lib.hid (HX.out.below hbx)
  replace HY := Lib.hid (HY.out.below hbx)
  replace HL := Lib.hid (HL.out.below hbx)
  replace hB := hB.trans (hbx.mono hB.size)
  clear hbx hWW
  refine (kcmp_any _ _ y (mkRat 1 2) L 1 _ HY.out HHf.out hL (by omega) (by omega)).mono ?_
  rintro e w4 ⟨rfl, hb⟩
  replace cA0 := bc hb ltA cA0
  replace cA1 := bc hb ltA cA1
  replace cA2 := bc hb ltA cA2
  replace ltA := bl hb ltA
  replace cF0 := bc hb ltF cF0
  replace cF1 := bc hb ltF cF1
  replace ltF := bl hb ltF
  replace cC0 := bc hb ltC cC0
  replace cC1 := bc hb ltC cC1
  replace cC2 := bc hb ltC cC2
  replace ltC := bl hb ltC
  replace HX := Lib.hid (HX.out.below hb)
  replace HY := Lib.hid (HY.out.below hb)
  replace HL := Lib.hid (HL.out.below hb)
  replace HHf := Lib.hid (HHf.out.below hb)
  replace hB := hB.trans (hb.mono hB.size)
  generalize rcmpI y (mkRat 1 2) = hf at *
  clear hb
  clear HX HY HL HHf
  go_wp2_with fail
  go_ret
  exact ⟨by rw [← HU.out, HUm.out]; rfl, hB⟩

set_option maxHeartbeats 2000000 in
theorem up_m2eq (vx vf vr : Value) (x y : Rat) (f : Int) (B L : Nat) (w : World) (hx : RatV w vx x L) (hf : IntN B w vf f) (hy : RatV w vr y L) (hL : 1 ≤ L) (hm : (L + 1) * 4 ≤ 140737488355328) (hsr : rsgI y ≠ 0) (hh : rcmpI y (mkRat 1 2) = 0) :
    Calls Try.prog 72 #[vx, vf, vr, .int .i64 2] w fun e w' => e = .returned (.bool (upX 2 (rsgI y) (rcmpI y (mkRat 1 2)) (decide (rsgI x < 0)) (oddI f))) ∧ Below w.heap.size w w' := by
  have HX := Lib.hid hx
  have HY := Lib.hid hy
  obtain ⟨p, q, hr, -⟩ := hx
  obtain ⟨p', q', hr', -⟩ := hy
  obtain ⟨neg, a', len', cap', xs, a, len, cap, ys, rfl, -, -, -, -, -, -⟩ := hr
  obtain ⟨neg2, a2', len2', cap2', xs2, a2, len2, cap2, ys2, rfl, -, -, -, -, -, -⟩ := hr'
  obtain ⟨af, nf, cf, rfl, hl, -⟩ := hf
  have hnf := hl.1
  have hlm := hl.2.2.2.1
  have hlc := hl.2.2.1
  unfold maxLen at hlm
  have HL := Lib.hid hl
  clear hl
  generalize decide (f < 0) = dn at *
  have hsz : (rsgI y == 0) = false := by simpa using hsr
  clear hsr
  clear hnf
  generalize hU : upX 2 (rsgI y) (rcmpI y (mkRat 1 2)) (decide (rsgI x < 0)) (oddI f) = U
  have HU := Lib.hid ((show upM 2 (rcmpI y (mkRat 1 2)) (decide (rsgI x < 0)) (oddI f) = upX 2 (rsgI y) (rcmpI y (mkRat 1 2)) (decide (rsgI x < 0)) (oddI f) by unfold upX; rw [hsz]; rfl).trans hU)
  clear hU
  go_enter Try.func72, Try.ntmps72
  go_wp2_with fail
  have hbx : Below w.heap.size w (((w.alloc (.cells #[.bool neg, .slice a' len' cap', .slice a len cap] 27)).alloc (.cells #[.bool dn, .slice af nf cf] 25)).alloc (.cells #[.bool neg2, .slice a2' len2' cap2', .slice a2 len2 cap2] 27)) := ((((Below.refl _ _).alloc (Nat.le_refl _) _).alloc (by simp) _).alloc (by simp <;> omega) _)
  generalize hWW : (((w.alloc (.cells #[.bool neg, .slice a' len' cap', .slice a len cap] 27)).alloc (.cells #[.bool dn, .slice af nf cf] 25)).alloc (.cells #[.bool neg2, .slice a2' len2' cap2', .slice a2 len2 cap2] 27)) = w0 at *
  replace HX := Lib.hid (HX.out.below hbx)
  replace HY := Lib.hid (HY.out.below hbx)
  replace HL := Lib.hid (HL.out.below hbx)
  have cA0 : w0.cell? ⟨w.heap.size, 0, none⟩ = some (.bool neg) := by subst hWW; go_simp
  have cA1 : w0.cell? ⟨w.heap.size, 1, none⟩ = some (.slice a' len' cap') := by subst hWW; go_simp
  have cA2 : w0.cell? ⟨w.heap.size, 2, none⟩ = some (.slice a len cap) := by subst hWW; go_simp
  have ltA : w.heap.size < w0.heap.size := by subst hWW; simp <;> omega
  have cF0 : w0.cell? ⟨w.heap.size + 1, 0, none⟩ = some (.bool dn) := by subst hWW; go_simp
  have cF1 : w0.cell? ⟨w.heap.size + 1, 1, none⟩ = some (.slice af nf cf) := by subst hWW; go_simp
  have ltF : w.heap.size + 1 < w0.heap.size := by subst hWW; simp <;> omega
  have cC0 : w0.cell? ⟨w.heap.size + 1 + 1, 0, none⟩ = some (.bool neg2) := by subst hWW; go_simp
  have cC1 : w0.cell? ⟨w.heap.size + 1 + 1, 1, none⟩ = some (.slice a2' len2' cap2') := by subst hWW; go_simp
  have cC2 : w0.cell? ⟨w.heap.size + 1 + 1, 2, none⟩ = some (.slice a2 len2 cap2) := by subst hWW; go_simp
  have ltC : w.heap.size + 1 + 1 < w0.heap.size := by subst hWW; simp
  have hB := hbx
  clear hbx hWW
  refine (ksign_any _ y L _ HY.out (by omega)).mono ?_
  rintro e w1 ⟨rfl, hb⟩
  replace cA0 := bc hb ltA cA0
  replace cA1 := bc hb ltA cA1
  replace cA2 := bc hb ltA cA2
  replace ltA := bl hb ltA
  replace cF0 := bc hb ltF cF0
  replace cF1 := bc hb ltF cF1
  replace ltF := bl hb ltF
  replace cC0 := bc hb ltC cC0
  replace cC1 := bc hb ltC cC1
  replace cC2 := bc hb ltC cC2
  replace ltC := bl hb ltC
  replace HX := Lib.hid (HX.out.below hb)
  replace HY := Lib.hid (HY.out.below hb)
  replace HL := Lib.hid (HL.out.below hb)
  replace hB := hB.trans (hb.mono hB.size)
  generalize rsgI y = sr at *
  clear hb
  go_wp2_with fail
  refine (ksign_any _ x L _ HX.out (by omega)).mono ?_
  rintro e w2 ⟨rfl, hb⟩
  replace cA0 := bc hb ltA cA0
  replace cA1 := bc hb ltA cA1
  replace cA2 := bc hb ltA cA2
  replace ltA := bl hb ltA
  replace cF0 := bc hb ltF cF0
  replace cF1 := bc hb ltF cF1
  replace ltF := bl hb ltF
  replace cC0 := bc hb ltC cC0
  replace cC1 := bc hb ltC cC1
  replace cC2 := bc hb ltC cC2
  replace ltC := bl hb ltC
  replace HX := Lib.hid (HX.out.below hb)
  replace HY := Lib.hid (HY.out.below hb)
  replace HL := Lib.hid (HL.out.below hb)
  replace hB := hB.trans (hb.mono hB.size)
  clear hb
  generalize rsgI x = sx at *
  go_wp2_with fail
  have HHf := Lib.hid (half_lit w2)
  have hbx : Below w2.heap.size w2 ((w2.alloc (.cells #[.int .u32 1] 87)).alloc (.cells #[.int .u32 2] 87)) := (((Below.refl _ _).alloc (Nat.le_refl _) _).alloc (by simp) _)
  generalize hWW : ((w2.alloc (.cells #[.int .u32 1] 87)).alloc (.cells #[.int .u32 2] 87)) = w3 at *
  replace cA0 := bc hbx ltA cA0
  replace cA1 := bc hbx ltA cA1
  replace cA2 := bc hbx ltA cA2
  replace ltA := bl hbx ltA
  replace cF0 := bc hbx ltF cF0
  replace cF1 := bc hbx ltF cF1
  replace ltF := bl hbx ltF
  replace cC0 := bc hbx ltC cC0
  replace cC1 := bc hbx ltC cC1
  replace cC2 := bc hbx ltC cC2
  replace ltC := bl hbx ltC
  replace HX := Lib.hid (HX.out.below hbx)
  replace HY := Lib.hid (HY.out.below hbx)
  replace HL := Lib.hid (HL.out.below hbx)
  replace hB := hB.trans (hbx.mono hB.size)
  clear hbx hWW
  refine (kcmp_any _ _ y (mkRat 1 2) L 1 _ HY.out HHf.out hL (by omega) (by omega)).mono ?_
  rintro e w4 ⟨rfl, hb⟩
  replace cA0 := bc hb ltA cA0
  replace cA1 := bc hb ltA cA1
  replace cA2 := bc hb ltA cA2
  replace ltA := bl hb ltA
  replace cF0 := bc hb ltF cF0
  replace cF1 := bc hb ltF cF1
  replace ltF := bl hb ltF
  replace cC0 := bc hb ltC cC0
  replace cC1 := bc hb ltC cC1
  replace cC2 := bc hb ltC cC2
  replace ltC := bl hb ltC
  replace HX := Lib.hid (HX.out.below hb)
  replace HY := Lib.hid (HY.out.below hb)
  replace HL := Lib.hid (HL.out.below hb)
  replace HHf := Lib.hid (HHf.out.below hb)
  replace hB := hB.trans (hb.mono hB.size)
  rw [hh] at HU ⊢
  clear hb
  clear HX HY HL HHf
  go_wp2_with fail
  go_ret
  exact ⟨by rw [← HU.out]; rfl, hB⟩

set_option maxHeartbeats 2000000 in
theorem up_m3ne (vx vf vr : Value) (x y : Rat) (f : Int) (B L : Nat) (w : World) (hx : RatV w vx x L) (hf : IntN B w vf f) (hy : RatV w vr y L) (hL : 1 ≤ L) (hm : (L + 1) * 4 ≤ 140737488355328) (hsr : rsgI y ≠ 0) (hh : rcmpI y (mkRat 1 2) ≠ 0) :
    Calls Try.prog 72 #[vx, vf, vr, .int .i64 3] w fun e w' => e = .returned (.bool (upX 3 (rsgI y) (rcmpI y (mkRat 1 2)) (decide (rsgI x < 0)) (oddI f))) ∧ Below w.heap.size w w' := by
  have HX := Lib.hid hx
  have HY := Lib.hid hy
  obtain ⟨p, q, hr, -⟩ := hx
  obtain ⟨p', q', hr', -⟩ := hy
  obtain ⟨neg, a', len', cap', xs, a, len, cap, ys, rfl, -, -, -, -, -, -⟩ := hr
  obtain ⟨neg2, a2', len2', cap2', xs2, a2, len2, cap2, ys2, rfl, -, -, -, -, -, -⟩ := hr'
  obtain ⟨af, nf, cf, rfl, hl, -⟩ := hf
  have hnf := hl.1
  have hlm := hl.2.2.2.1
  have hlc := hl.2.2.1
  unfold maxLen at hlm
  have HL := Lib.hid hl
  clear hl
  generalize decide (f < 0) = dn at *
  have hsz : (rsgI y == 0) = false := by simpa using hsr
  clear hsr
  have hh0 : (rcmpI y (mkRat 1 2) == 0) = false := by simpa using hh
  clear hnf
  generalize hU : upX 3 (rsgI y) (rcmpI y (mkRat 1 2)) (decide (rsgI x < 0)) (oddI f) = U
  have HU := Lib.hid ((show upM 3 (rcmpI y (mkRat 1 2)) (decide (rsgI x < 0)) (oddI f) = upX 3 (rsgI y) (rcmpI y (mkRat 1 2)) (decide (rsgI x < 0)) (oddI f) by unfold upX; rw [hsz]; rfl).trans hU)
  clear hU
  have HUm := Lib.hid (show upM 3 (rcmpI y (mkRat 1 2)) (decide (rsgI x < 0)) (oddI f) = decide (0 < rcmpI y (mkRat 1 2)) by unfold upM; simp [hh0, bne])
  clear hh
  go_enter Try.func72, Try.ntmps72
  go_wp2_with fail
  have hbx : Below w.heap.size w (((w.alloc (.cells #[.bool neg, .slice a' len' cap', .slice a len cap] 27)).alloc (.cells #[.bool dn, .slice af nf cf] 25)).alloc (.cells #[.bool neg2, .slice a2' len2' cap2', .slice a2 len2 cap2] 27)) := ((((Below.refl _ _).alloc (Nat.le_refl _) _).alloc (by simp) _).alloc (by simp <;> omega) _)
  generalize hWW : (((w.alloc (.cells #[.bool neg, .slice a' len' cap', .slice a len cap] 27)).alloc (.cells #[.bool dn, .slice af nf cf] 25)).alloc (.cells #[.bool neg2, .slice a2' len2' cap2', .slice a2 len2 cap2] 27)) = w0 at *
  replace HX := Lib.hid (HX.out.below hbx)
  replace HY := Lib.hid (HY.out.below hbx)
  replace HL := Lib.hid (HL.out.below hbx)
  have cA0 : w0.cell? ⟨w.heap.size, 0, none⟩ = some (.bool neg) := by subst hWW; go_simp
  have cA1 : w0.cell? ⟨w.heap.size, 1, none⟩ = some (.slice a' len' cap') := by subst hWW; go_simp
  have cA2 : w0.cell? ⟨w.heap.size, 2, none⟩ = some (.slice a len cap) := by subst hWW; go_simp
  have ltA : w.heap.size < w0.heap.size := by subst hWW; simp <;> omega
  have cF0 : w0.cell? ⟨w.heap.size + 1, 0, none⟩ = some (.bool dn) := by subst hWW; go_simp
  have cF1 : w0.cell? ⟨w.heap.size + 1, 1, none⟩ = some (.slice af nf cf) := by subst hWW; go_simp
  have ltF : w.heap.size + 1 < w0.heap.size := by subst hWW; simp <;> omega
  have cC0 : w0.cell? ⟨w.heap.size + 1 + 1, 0, none⟩ = some (.bool neg2) := by subst hWW; go_simp
  have cC1 : w0.cell? ⟨w.heap.size + 1 + 1, 1, none⟩ = some (.slice a2' len2' cap2') := by subst hWW; go_simp
  have cC2 : w0.cell? ⟨w.heap.size + 1 + 1, 2, none⟩ = some (.slice a2 len2 cap2) := by subst hWW; go_simp
  have ltC : w.heap.size + 1 + 1 < w0.heap.size := by subst hWW; simp
  have hB := hbx
  clear hbx hWW
  refine (ksign_any _ y L _ HY.out (by omega)).mono ?_
  rintro e w1 ⟨rfl, hb⟩
  replace cA0 := bc hb ltA cA0
  replace cA1 := bc hb ltA cA1
  replace cA2 := bc hb ltA cA2
  replace ltA := bl hb ltA
  replace cF0 := bc hb ltF cF0
  replace cF1 := bc hb ltF cF1
  replace ltF := bl hb ltF
  replace cC0 := bc hb ltC cC0
  replace cC1 := bc hb ltC cC1
  replace cC2 := bc hb ltC cC2
  replace ltC := bl hb ltC
  replace HX := Lib.hid (HX.out.below hb)
  replace HY := Lib.hid (HY.out.below hb)
  replace HL := Lib.hid (HL.out.below hb)
  replace hB := hB.trans (hb.mono hB.size)
  generalize rsgI y = sr at *
  clear hb
  go_wp2_with fail
  refine (ksign_any _ x L _ HX.out (by omega)).mono ?_
  rintro e w2 ⟨rfl, hb⟩
  replace cA0 := bc hb ltA cA0
  replace cA1 := bc hb ltA cA1
  replace cA2 := bc hb ltA cA2
  replace ltA := bl hb ltA
  replace cF0 := bc hb ltF cF0
  replace cF1 := bc hb ltF cF1
  replace ltF := bl hb ltF
  replace cC0 := bc hb ltC cC0
  replace cC1 := bc hb ltC cC1
  replace cC2 := bc hb ltC cC2
  replace ltC := bl hb ltC
  replace HX := Lib.hid (HX.out.below hb)
  replace HY := Lib.hid (HY.out.below hb)
  replace HL := Lib.hid (HL.out.below hb)
  replace hB := hB.trans (hb.mono hB.size)
  clear hb
  generalize rsgI x = sx at *
  go_wp2_with fail
  have HHf := Lib.hid (half_lit w2)
  have hbx : Below w2.heap.size w2 ((w2.alloc (.cells #[.int .u32 1] 87)).alloc (.cells #[.int .u32 2] 87)) := (((Below.refl _ _).alloc (Nat.le_refl _) _).alloc (by simp) _)
  generalize hWW : ((w2.alloc (.cells #[.int .u32 1] 87)).alloc (.cells #[.int .u32 2] 87)) = w3 at *
  replace cA0 := bc hbx ltA cA0
  replace cA1 := bc hbx ltA cA1
  replace cA2 := bc hbx ltA cA2
  replace ltA := bl hbx ltA
  replace cF0 := bc hbx ltF cF0
  replace cF1 := bc hbx ltF cF1
  replace ltF := bl hbx ltF
  replace cC0 := bc hbx ltC cC0
  replace cC1 := bc hbx ltC cC1
  replace cC2 := bc hbx ltC cC2
  replace ltC := bl hbx ltC
  replace HX := Lib.hid (HX.out.below hbx)
  replace HY := Lib.hid (HY.out.below hbx)
  replace HL := Lib.hid (HL.out.below hbx)
  replace hB := hB.trans (hbx.mono hB.size)
  clear hbx hWW
  refine (kcmp_any _ _ y (mkRat 1 2) L 1 _ HY.out HHf.out hL (by omega) (by omega)).mono ?_
  rintro e w4 ⟨rfl, hb⟩
  replace cA0 := bc hb ltA cA0
  replace cA1 := bc hb ltA cA1
  replace cA2 := bc hb ltA cA2
  replace ltA := bl hb ltA
  replace cF0 := bc hb ltF cF0
  replace cF1 := bc hb ltF cF1
  replace ltF := bl hb ltF
  replace cC0 := bc hb ltC cC0
  replace cC1 := bc hb ltC cC1
  replace cC2 := bc hb ltC cC2
  replace ltC := bl hb ltC
  replace HX := Lib.hid (HX.out.below hb)
  replace HY := Lib.hid (HY.out.below hb)
  replace HL := Lib.hid (HL.out.below hb)
  replace HHf := Lib.hid (HHf.out.below hb)
  replace hB := hB.trans (hb.mono hB.size)
  generalize rcmpI y (mkRat 1 2) = hf at *
  clear hb
  clear HX HY HL HHf
  go_wp2_with fail
  go_ret
  exact ⟨by rw [← HU.out, HUm.out]; rfl, hB⟩

set_option maxHeartbeats 2000000 in
theorem up_m3eq (vx vf vr : Value) (x y : Rat) (f : Int) (B L : Nat) (w : World) (hx : RatV w vx x L) (hf : IntN B w vf f) (hy : RatV w vr y L) (hL : 1 ≤ L) (hm : (L + 1) * 4 ≤ 140737488355328) (hsr : rsgI y ≠ 0) (hh : rcmpI y (mkRat 1 2) = 0) :
    Calls Try.prog 72 #[vx, vf, vr, .int .i64 3] w fun e w' => e = .returned (.bool (upX 3 (rsgI y) (rcmpI y (mkRat 1 2)) (decide (rsgI x < 0)) (oddI f))) ∧ Below w.heap.size w w' := by
  have HX := Lib.hid hx
  have HY := Lib.hid hy
  obtain ⟨p, q, hr, -⟩ := hx
  obtain ⟨p', q', hr', -⟩ := hy
  obtain ⟨neg, a', len', cap', xs, a, len, cap, ys, rfl, -, -, -, -, -, -⟩ := hr
  obtain ⟨neg2, a2', len2', cap2', xs2, a2, len2, cap2, ys2, rfl, -, -, -, -, -, -⟩ := hr'
  obtain ⟨af, nf, cf, rfl, hl, -⟩ := hf
  have hnf := hl.1
  have hlm := hl.2.2.2.1
  have hlc := hl.2.2.1
  unfold maxLen at hlm
  have HL := Lib.hid hl
  clear hl
  generalize decide (f < 0) = dn at *
  have hsz : (rsgI y == 0) = false := by simpa using hsr
  clear hsr
  clear hnf
  generalize hU : upX 3 (rsgI y) (rcmpI y (mkRat 1 2)) (decide (rsgI x < 0)) (oddI f) = U
  have HU := Lib.hid ((show upM 3 (rcmpI y (mkRat 1 2)) (decide (rsgI x < 0)) (oddI f) = upX 3 (rsgI y) (rcmpI y (mkRat 1 2)) (decide (rsgI x < 0)) (oddI f) by unfold upX; rw [hsz]; rfl).trans hU)
  clear hU
  go_enter Try.func72, Try.ntmps72
  go_wp2_with fail
  have hbx : Below w.heap.size w (((w.alloc (.cells #[.bool neg, .slice a' len' cap', .slice a len cap] 27)).alloc (.cells #[.bool dn, .slice af nf cf] 25)).alloc (.cells #[.bool neg2, .slice a2' len2' cap2', .slice a2 len2 cap2] 27)) := ((((Below.refl _ _).alloc (Nat.le_refl _) _).alloc (by simp) _).alloc (by simp <;> omega) _)
  generalize hWW : (((w.alloc (.cells #[.bool neg, .slice a' len' cap', .slice a len cap] 27)).alloc (.cells #[.bool dn, .slice af nf cf] 25)).alloc (.cells #[.bool neg2, .slice a2' len2' cap2', .slice a2 len2 cap2] 27)) = w0 at *
  replace HX := Lib.hid (HX.out.below hbx)
  replace HY := Lib.hid (HY.out.below hbx)
  replace HL := Lib.hid (HL.out.below hbx)
  have cA0 : w0.cell? ⟨w.heap.size, 0, none⟩ = some (.bool neg) := by subst hWW; go_simp
  have cA1 : w0.cell? ⟨w.heap.size, 1, none⟩ = some (.slice a' len' cap') := by subst hWW; go_simp
  have cA2 : w0.cell? ⟨w.heap.size, 2, none⟩ = some (.slice a len cap) := by subst hWW; go_simp
  have ltA : w.heap.size < w0.heap.size := by subst hWW; simp <;> omega
  have cF0 : w0.cell? ⟨w.heap.size + 1, 0, none⟩ = some (.bool dn) := by subst hWW; go_simp
  have cF1 : w0.cell? ⟨w.heap.size + 1, 1, none⟩ = some (.slice af nf cf) := by subst hWW; go_simp
  have ltF : w.heap.size + 1 < w0.heap.size := by subst hWW; simp <;> omega
  have cC0 : w0.cell? ⟨w.heap.size + 1 + 1, 0, none⟩ = some (.bool neg2) := by subst hWW; go_simp
  have cC1 : w0.cell? ⟨w.heap.size + 1 + 1, 1, none⟩ = some (.slice a2' len2' cap2') := by subst hWW; go_simp
  have cC2 : w0.cell? ⟨w.heap.size + 1 + 1, 2, none⟩ = some (.slice a2 len2 cap2) := by subst hWW; go_simp
  have ltC : w.heap.size + 1 + 1 < w0.heap.size := by subst hWW; simp
  have hB := hbx
  clear hbx hWW
  refine (ksign_any _ y L _ HY.out (by omega)).mono ?_
  rintro e w1 ⟨rfl, hb⟩
  replace cA0 := bc hb ltA cA0
  replace cA1 := bc hb ltA cA1
  replace cA2 := bc hb ltA cA2
  replace ltA := bl hb ltA
  replace cF0 := bc hb ltF cF0
  replace cF1 := bc hb ltF cF1
  replace ltF := bl hb ltF
  replace cC0 := bc hb ltC cC0
  replace cC1 := bc hb ltC cC1
  replace cC2 := bc hb ltC cC2
  replace ltC := bl hb ltC
  replace HX := Lib.hid (HX.out.below hb)
  replace HY := Lib.hid (HY.out.below hb)
  replace HL := Lib.hid (HL.out.below hb)
  replace hB := hB.trans (hb.mono hB.size)
  generalize rsgI y = sr at *
  clear hb
  go_wp2_with fail
  refine (ksign_any _ x L _ HX.out (by omega)).mono ?_
  rintro e w2 ⟨rfl, hb⟩
  replace cA0 := bc hb ltA cA0
  replace cA1 := bc hb ltA cA1
  replace cA2 := bc hb ltA cA2
  replace ltA := bl hb ltA
  replace cF0 := bc hb ltF cF0
  replace cF1 := bc hb ltF cF1
  replace ltF := bl hb ltF
  replace cC0 := bc hb ltC cC0
  replace cC1 := bc hb ltC cC1
  replace cC2 := bc hb ltC cC2
  replace ltC := bl hb ltC
  replace HX := Lib.hid (HX.out.below hb)
  replace HY := Lib.hid (HY.out.below hb)
  replace HL := Lib.hid (HL.out.below hb)
  replace hB := hB.trans (hb.mono hB.size)
  clear hb
  generalize rsgI x = sx at *
  go_wp2_with fail
  have HHf := Lib.hid (half_lit w2)
  have hbx : Below w2.heap.size w2 ((w2.alloc (.cells #[.int .u32 1] 87)).alloc (.cells #[.int .u32 2] 87)) := (((Below.refl _ _).alloc (Nat.le_refl _) _).alloc (by simp) _)
  generalize hWW : ((w2.alloc (.cells #[.int .u32 1] 87)).alloc (.cells #[.int .u32 2] 87)) = w3 at *
  replace cA0 := bc hbx ltA cA0
  replace cA1 := bc hbx ltA cA1
  replace cA2 := bc hbx ltA cA2
  replace ltA := bl hbx ltA
  replace cF0 := bc hbx ltF cF0
  replace cF1 := bc hbx ltF cF1
  replace ltF := bl hbx ltF
  replace cC0 := bc hbx ltC cC0
  replace cC1 := bc hbx ltC cC1
  replace cC2 := bc hbx ltC cC2
  replace ltC := bl hbx ltC
  replace HX := Lib.hid (HX.out.below hbx)
  replace HY := Lib.hid (HY.out.below hbx)
  replace HL := Lib.hid (HL.out.below hbx)
  replace hB := hB.trans (hbx.mono hB.size)
  clear hbx hWW
  refine (kcmp_any _ _ y (mkRat 1 2) L 1 _ HY.out HHf.out hL (by omega) (by omega)).mono ?_
  rintro e w4 ⟨rfl, hb⟩
  replace cA0 := bc hb ltA cA0
  replace cA1 := bc hb ltA cA1
  replace cA2 := bc hb ltA cA2
  replace ltA := bl hb ltA
  replace cF0 := bc hb ltF cF0
  replace cF1 := bc hb ltF cF1
  replace ltF := bl hb ltF
  replace cC0 := bc hb ltC cC0
  replace cC1 := bc hb ltC cC1
  replace cC2 := bc hb ltC cC2
  replace ltC := bl hb ltC
  replace HX := Lib.hid (HX.out.below hb)
  replace HY := Lib.hid (HY.out.below hb)
  replace HL := Lib.hid (HL.out.below hb)
  replace HHf := Lib.hid (HHf.out.below hb)
  replace hB := hB.trans (hb.mono hB.size)
  rw [hh] at HU ⊢
  clear hb
  clear HX HY HL HHf
  go_wp2_with fail
  go_ret
  exact ⟨by rw [← HU.out]; rfl, hB⟩

theorem up_any (vx vf vr : Value) (x y : Rat) (f : Int) (B L : Nat) (w : World) (hx : RatV w vx x L) (hf : IntN B w vf f) (hy : RatV w vr y L) (hL : 1 ≤ L) (hm : (L + 1) * 4 ≤ 140737488355328) (m : Int) (h1 : 1 ≤ m) (h2 : m ≤ 7) :
    Calls Try.prog 72 #[vx, vf, vr, .int .i64 m] w fun e w' => e = .returned (.bool (upX m (rsgI y) (rcmpI y (mkRat 1 2)) (decide (rsgI x < 0)) (oddI f))) ∧ Below w.heap.size w w' := by
  by_cases hs : rsgI y = 0
  · exact up_zero vx vf vr x y f B L w hx hf hy hL hm m hs
  by_cases hh : rcmpI y (mkRat 1 2) = 0
  · rcases (show m = 1 ∨ m = 2 ∨ m = 3 ∨ m = 4 ∨ m = 5 ∨ m = 6 ∨ m = 7 by omega) with rfl | rfl | rfl | rfl | rfl | rfl | rfl
    · by_cases ho : f.natAbs = 0
      · exact up_m1eq0 vx vf vr x y f B L w hx hf hy hL hm hs hh ho
      · exact up_m1eq1 vx vf vr x y f B L w hx hf hy hL hm hs hh ho
    · exact up_m2eq vx vf vr x y f B L w hx hf hy hL hm hs hh
    · exact up_m3eq vx vf vr x y f B L w hx hf hy hL hm hs hh
    · exact up_m4 vx vf vr x y f B L w hx hf hy hL hm hs
    · exact up_m5 vx vf vr x y f B L w hx hf hy hL hm hs
    · exact up_m6 vx vf vr x y f B L w hx hf hy hL hm hs
    · exact up_m7 vx vf vr x y f B L w hx hf hy hL hm hs
  · rcases (show m = 1 ∨ m = 2 ∨ m = 3 ∨ m = 4 ∨ m = 5 ∨ m = 6 ∨ m = 7 by omega) with rfl | rfl | rfl | rfl | rfl | rfl | rfl
    · exact up_m1ne vx vf vr x y f B L w hx hf hy hL hm hs hh
    · exact up_m2ne vx vf vr x y f B L w hx hf hy hL hm hs hh
    · exact up_m3ne vx vf vr x y f B L w hx hf hy hL hm hs hh
    · exact up_m4 vx vf vr x y f B L w hx hf hy hL hm hs
    · exact up_m5 vx vf vr x y f B L w hx hf hy hL hm hs
    · exact up_m6 vx vf vr x y f B L w hx hf hy hL hm hs
    · exact up_m7 vx vf vr x y f B L w hx hf hy hL hm hs

end Go.Proofs.Ytmahokhgdkdhkaa
