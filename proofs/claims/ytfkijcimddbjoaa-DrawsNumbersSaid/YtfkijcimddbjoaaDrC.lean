/- Draws: what the reference's Chance returns. Condition: the limbs can be read, and take at most 2^47 bytes. -/
import Derived.Test.YtfkijcimddbjoaaDrA
import Derived.Test.YtfkijcimddbjoaaRRatC
namespace Go.Proofs.Ytfkijcimddbjoaa
open Go.RowKit

theorem rcmpI_scale (x : Int) (r : Rat) : rcmpI (Rat.divInt x 1) (r * Rat.divInt 4294967296 1) = rcmpI (Rat.divInt x 4294967296) r := by
  have h1 : Rat.divInt x 1 = Rat.divInt x 4294967296 * 4294967296 := by
    rw [Rat.divInt_eq_div, Rat.divInt_eq_div]
    have : ((4294967296 : Int) : Rat) = 4294967296 := rfl
    have h0 : (4294967296 : Rat) ≠ 0 := by decide
    rw [this, Rat.div_mul_cancel h0]
    show (x : Rat) / 1 = x
    rw [Rat.div_def, show ((1 : Rat)⁻¹) = 1 by decide +kernel, Rat.mul_one]
  have h2 : Rat.divInt 4294967296 1 = 4294967296 := by decide +kernel
  have hp : (0 : Rat) < 4294967296 := by decide +kernel
  rw [h1, h2]
  unfold rcmpI
  simp only [Rat.mul_lt_mul_right hp]

set_option maxHeartbeats 2000000 in
theorem rchance_draw (d : UInt64) (v : Value) (r : Rat) (L : Nat) (w : World) (hv : RatV w v r L) (hL : 1 ≤ L) (hm : (4 + L) * 4 ≤ 140737488355328) :
    Calls Try.prog 13 #[.int .u64 (d.toNat : Int), v] w fun e w' => e = .returned (.tuple #[.bool (chB d r), .int .u64 ((stepD d).toNat : Int)]) ∧ Below w.heap.size w w' := by
  have HV := Lib.hid hv
  obtain ⟨p, q, ⟨neg, a', len', cap', xs, a, len, cap, ys, rfl, -, -, -, -, -, -⟩, -⟩ := hv
  have hb0 : Below w.heap.size w (w.alloc (.cells #[.bool neg, .slice a' len' cap', .slice a len cap] 29)) := (Below.refl _ _).alloc (Nat.le_refl _) _
  have hx := hiD_lt d
  have HCh := Lib.hid (show decide (rcmpI (Rat.divInt (hiD d) 1) (r * Rat.divInt 4294967296 1) < 0) = chB d r by rw [rcmpI_scale]; rfl)
  go_enter Try.func13, Try.ntmps13
  go_wp2_with fail
  refine (rnext_draw d _).mono ?_
  rintro e w' ⟨rfl, rfl⟩
  generalize hiD d = x at *
  go_wp2_with fail
  refine (kof_any (x : Int) 1 _ (by omega) (by omega) (by omega) (by omega) (by omega)).mono ?_
  rintro e w1 ⟨v1, rfl, hv1, hsz1, hb1⟩
  have HV1 := Lib.hid (hv1.raw hsz1)
  obtain ⟨x', l', k', y, l, k, rfl, -, -, -, -⟩ := hv1
  have hb01 := hb0.trans (hb1.mono (by simp))
  obtain ⟨hc1, hf1⟩ := bcell hb1 w.heap.size (by simp)
  have hlt1 : w.heap.size < w1.heap.size := by have := hb1.size; simp at this; omega
  generalize decide ((Rat.divInt (x : Int) 1).num < 0) = dn at *
  have hb2 : Below w1.heap.size w1 (w1.alloc (.cells #[.bool dn, .slice x' l' k', .slice y l k] 29)) := (Below.refl _ _).alloc (Nat.le_refl _) _
  have HV2 := Lib.hid (HV1.out.below hb2)
  have hb02 := hb01.trans (hb2.mono hb01.size)
  clear hsz1 hb1 hb01
  go_wp2_with fail
  refine (kof_any 4294967296 1 _ (by omega) (by omega) (by omega) (by omega) (by omega)).mono ?_
  rintro e w3 ⟨v3, rfl, hv3, hsz3, hb3⟩
  have HV3 := Lib.hid (hv3.raw hsz3)
  have HV13 := Lib.hid (HV2.out.below hb3)
  obtain ⟨y', m', o', z, m, o, rfl, -, -, -, -⟩ := hv3
  have k0 : w3.cell? ⟨w1.heap.size, 0, none⟩ = some (.bool dn) := by rw [(bcell hb3 w1.heap.size (by simp)).1]; go_simp
  have k1 : w3.cell? ⟨w1.heap.size, 1, none⟩ = some (.slice x' l' k') := by rw [(bcell hb3 w1.heap.size (by simp)).1]; go_simp
  have k2 : w3.cell? ⟨w1.heap.size, 2, none⟩ = some (.slice y l k) := by rw [(bcell hb3 w1.heap.size (by simp)).1]; go_simp
  have j0 : w3.cell? ⟨w.heap.size, 0, none⟩ = some (.bool neg) := by rw [(bcell hb3 w.heap.size (by simp; omega)).1]; go_simp
  have j1 : w3.cell? ⟨w.heap.size, 1, none⟩ = some (.slice a' len' cap') := by rw [(bcell hb3 w.heap.size (by simp; omega)).1]; go_simp
  have j2 : w3.cell? ⟨w.heap.size, 2, none⟩ = some (.slice a len cap) := by rw [(bcell hb3 w.heap.size (by simp; omega)).1]; go_simp
  have hlt3 : w1.heap.size < w3.heap.size := by have := hb3.size; simp at this; omega
  generalize decide ((Rat.divInt 4294967296 1).num < 0) = en at *
  have hb03 := hb02.trans (hb3.mono hb02.size)
  have hb4 : Below w3.heap.size w3 (w3.alloc (.cells #[.bool en, .slice y' m' o', .slice z m o] 29)) := (Below.refl _ _).alloc (Nat.le_refl _) _
  have hb04 := hb03.trans (hb4.mono hb03.size)
  have HV14 := Lib.hid (HV13.out.below hb4)
  have HV34 := Lib.hid (HV3.out.below hb4)
  have HP4 := Lib.hid (HV.out.below hb04)
  clear hc1 hf1 hb3 hb02 hsz3 hb2
  go_wp2_with fail
  have g00 : (w3.alloc (.cells #[.bool en, .slice y' m' o', .slice z m o] 29)).cell? ⟨w1.heap.size, 0, none⟩ = some (.bool dn) := by rw [(bcell hb4 w1.heap.size (by omega)).1]; exact k0
  have g01 : (w3.alloc (.cells #[.bool en, .slice y' m' o', .slice z m o] 29)).cell? ⟨w1.heap.size, 1, none⟩ = some (.slice x' l' k') := by rw [(bcell hb4 w1.heap.size (by omega)).1]; exact k1
  have g02 : (w3.alloc (.cells #[.bool en, .slice y' m' o', .slice z m o] 29)).cell? ⟨w1.heap.size, 2, none⟩ = some (.slice y l k) := by rw [(bcell hb4 w1.heap.size (by omega)).1]; exact k2
  have g10 : (w3.alloc (.cells #[.bool en, .slice y' m' o', .slice z m o] 29)).cell? ⟨w.heap.size, 0, none⟩ = some (.bool neg) := by rw [(bcell hb4 w.heap.size (by omega)).1]; exact j0
  have g11 : (w3.alloc (.cells #[.bool en, .slice y' m' o', .slice z m o] 29)).cell? ⟨w.heap.size, 1, none⟩ = some (.slice a' len' cap') := by rw [(bcell hb4 w.heap.size (by omega)).1]; exact j1
  have g12 : (w3.alloc (.cells #[.bool en, .slice y' m' o', .slice z m o] 29)).cell? ⟨w.heap.size, 2, none⟩ = some (.slice a len cap) := by rw [(bcell hb4 w.heap.size (by omega)).1]; exact j2
  have g20 : (w3.alloc (.cells #[.bool en, .slice y' m' o', .slice z m o] 29)).cell? ⟨w3.heap.size, 0, none⟩ = some (.bool en) := by go_simp
  have g21 : (w3.alloc (.cells #[.bool en, .slice y' m' o', .slice z m o] 29)).cell? ⟨w3.heap.size, 1, none⟩ = some (.slice y' m' o') := by go_simp
  have g22 : (w3.alloc (.cells #[.bool en, .slice y' m' o', .slice z m o] 29)).cell? ⟨w3.heap.size, 2, none⟩ = some (.slice z m o) := by go_simp
  have hsz : (w3.alloc (.cells #[.bool en, .slice y' m' o', .slice z m o] 29)).heap.size = w3.heap.size + 1 := by simp
  generalize (w3.alloc (.cells #[.bool en, .slice y' m' o', .slice z m o] 29)) = w4 at *
  have e00 := box_ext (B := w4.heap.size) g00 (by omega)
  have e01 := box_ext (B := w4.heap.size) g01 (by omega)
  have e02 := box_ext (B := w4.heap.size) g02 (by omega)
  have e10 := box_ext (B := w4.heap.size) g10 (by omega)
  have e11 := box_ext (B := w4.heap.size) g11 (by omega)
  have e12 := box_ext (B := w4.heap.size) g12 (by omega)
  have e20 := box_ext (B := w4.heap.size) g20 (by omega)
  have e21 := box_ext (B := w4.heap.size) g21 (by omega)
  have e22 := box_ext (B := w4.heap.size) g22 (by omega)
  clear g00 g01 g02 g10 g11 g12 g20 g21 g22 hsz k0 k1 k2 j0 j1 j2 hb4 hlt3 hlt1
  refine wp_region_sched [(0, false), (1, false), (2, false), (6, false), (3, true), (4, true), (5, false), (7, false), (8, false)] (fun w' => ∃ W : Ext w4.heap.size w4, w' = W.1) (by kernel_rfl) (by kernel_rfl) ⟨⟨w4.drew, (Below.refl _ _).drew⟩, rfl⟩ ?_
  repeat (refine wpSched_calm rfl (fun K hK => ?_); go_simp; refine hK _ ?_; clear hK K)
  clear e00 e01 e02 e10 e11 e12 e20 e21 e22
  have HBd := Lib.hid (show Below w4.heap.size w4 w4.drew from (Below.refl _ _).drew)
  have HBw := Lib.hid hb04
  clear hb04
  generalize w4.drew = wd at *
  refine wpSched_eff rfl rfl (fun K hK => ?_)
  go_simp
  refine (kmul_any _ _ r _ L 2 _ (HP4.out.below HBd.out) (HV34.out.below HBd.out) hL (by omega) (by omega)).mono ?_
  rintro e w5 ⟨v5, rfl, hv5, hsz5, hb5⟩
  have HV5 := Lib.hid (hv5.raw hsz5)
  have HB5 := Lib.hid (HBd.out.trans (hb5.mono HBd.out.size))
  refine hK _ _ ⟨⟨w5, HB5.out⟩, rfl⟩ ?_
  clear hK K hv5 hb5 hsz5
  refine wpSched_eff rfl rfl (fun K hK => ?_)
  go_simp
  refine (kcmp_any _ _ _ _ 2 (L + 2) _ (HV14.out.below HB5.out) HV5.out (by omega) (by omega) (by omega)).mono ?_
  rintro e w6 ⟨rfl, hb6⟩
  have HB6 := Lib.hid (HB5.out.trans (hb6.mono HB5.out.size))
  refine hK _ _ ⟨⟨w6, HB6.out⟩, rfl⟩ ?_
  clear hK K hb6
  repeat (refine wpSched_calm rfl (fun K hK => ?_); go_simp; refine hK _ ?_; clear hK K)
  refine wpSched_nil ?_
  go_wp2_with fail
  go_ret2
  exact ⟨by rw [← HCh.out]; rfl, HBw.out.trans (HB6.out.mono HBw.out.size)⟩

end Go.Proofs.Ytfkijcimddbjoaa
