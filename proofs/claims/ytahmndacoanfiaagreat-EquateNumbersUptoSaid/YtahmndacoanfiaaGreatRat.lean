/- Ratios: what ratio.whole, zero, parts, reduce, Make, Of, Cmp and Sign return. -/
import Derived.Test.YtahmndacoanfiaaGreatGcd
import Derived.Test.YtahmndacoanfiaaGreatInt
namespace Go.Proofs.YtahmndacoanfiaaGreat
set_option maxRecDepth 100000
open Go.RowKit

set_option maxHeartbeats 400000 in
theorem whole_any (v : Value) (n : Nat) (w : World) (hv : Num w v n) (hm : (digs n).length * 4 ≤ 140737488355328) :
    Calls Tryz.prog 53 #[v] w fun e w' => ∃ v, e = .returned v ∧ IntN w.heap.size w' v (n : Int) ∧ Below w.heap.size w w' := by
  have hb0 : Below w.heap.size w (w.alloc (.cells #[.bool false, .slice none 0 0] 26)) := (Below.refl _ _).alloc (Nat.le_refl _) _
  have HV := Lib.hid (hv.below hb0)
  clear hv
  go_enter Tryz.func53, Tryz.ntmps53
  go_wp2_with fail
  refine (imake_num _ v n _ HV.out hm).mono ?_
  rintro e w2 ⟨v2, rfl, hv2, hb2⟩
  rw [show sgn false n = (n : Int) from rfl] at hv2
  obtain ⟨a2, n2, c2, rfl, hl2, hnew2⟩ := hv2
  obtain ⟨hc, hf⟩ := bcell hb2 w.heap.size (by simp)
  have HB := Lib.hid (hb0.trans (hb2.mono (by simp)))
  have HFin := Lib.hid (int_store (B' := w.heap.size) (g := w.heap.size) ⟨a2, n2, c2, rfl, hl2, hnew2⟩ (by simp) (by simp))
  clear hl2 hnew2
  generalize decide ((n : Int) < 0) = dn at *
  go_wp2_with fail
  exact bodyPost_ret (v := .agg #[.bool dn, .slice a2 n2 c2]) (by simp [results, Tryz.results53, go_sem, hc]) rfl ⟨_, rfl, HFin.out, (HB.out.setCell (Nat.le_refl _) _).setCell (Nat.le_refl _) _⟩

set_option maxHeartbeats 400000 in
theorem whole_lim (a : Option Addr) (len cap : Nat) (ys : List Nat) (w : World) (hv : Limbs w a len cap ys) (hm : len * 4 ≤ 140737488355328) :
    Calls Tryz.prog 53 #[.slice a len cap] w fun e w' => ∃ v, e = .returned v ∧ IntN w.heap.size w' v (natOf ys : Int) ∧ Below w.heap.size w w' := by
  have hb0 : Below w.heap.size w (w.alloc (.cells #[.bool false, .slice none 0 0] 26)) := (Below.refl _ _).alloc (Nat.le_refl _) _
  have HV := Lib.hid (hv.below hb0)
  clear hv
  go_enter Tryz.func53, Tryz.ntmps53
  go_wp2_with fail
  refine (imake_any _ ys a len cap _ HV.out hm).mono ?_
  rintro e w2 ⟨v2, rfl, hv2, hb2⟩
  rw [show sgn false (natOf ys) = (natOf ys : Int) from rfl] at hv2
  obtain ⟨a2, n2, c2, rfl, hl2, hnew2⟩ := hv2
  obtain ⟨hc, hf⟩ := bcell hb2 w.heap.size (by simp)
  have HB := Lib.hid (hb0.trans (hb2.mono (by simp)))
  have HFin := Lib.hid (int_store (B' := w.heap.size) (g := w.heap.size) ⟨a2, n2, c2, rfl, hl2, hnew2⟩ (by simp) (by simp))
  clear hl2 hnew2
  generalize decide ((natOf ys : Int) < 0) = dn at *
  go_wp2_with fail
  exact bodyPost_ret (v := .agg #[.bool dn, .slice a2 n2 c2]) (by simp [results, Tryz.results53, go_sem, hc]) rfl ⟨_, rfl, HFin.out, (HB.out.setCell (Nat.le_refl _) _).setCell (Nat.le_refl _) _⟩

/-- what parts makes of a ratio as it came in: a zero denominator stands for 0/1 -/
def ptN (p : Int) (q : Nat) : Int := bif q == 0 then 0 else p
def ptD (q : Nat) : Nat := bif q == 0 then 1 else q
/-- a ratio as it came in -/
def RatR (w : World) (v : Value) (p : Int) (q : Nat) (L : Nat) : Prop := ∃ neg a' len' cap' xs a len cap ys, v = .agg #[.bool neg, .slice a' len' cap', .slice a len cap] ∧ Limbs w a' len' cap' xs ∧ sgn neg (natOf xs) = p ∧ len' ≤ L ∧ Limbs w a len cap ys ∧ natOf ys = q ∧ len ≤ L
/-- a number's limbs as they came in -/
def NatRaw (w : World) (v : Value) (q L : Nat) : Prop := ∃ a len cap ys, v = .slice a len cap ∧ Limbs w a len cap ys ∧ natOf ys = q ∧ len ≤ L

set_option maxHeartbeats 1000000 in
theorem parts_any (v : Value) (p : Int) (q L : Nat) (w : World) (hv : RatR w v p q L) (hL : 1 ≤ L) :
    Calls Tryz.prog 50 #[v] w fun e w' => ∃ vi vd, e = .returned (.tuple #[vi, vd]) ∧ IntR w' vi (ptN p q) L ∧ NatRaw w' vd (ptD q) L ∧ Below w.heap.size w w' := by
  obtain ⟨neg, a', len', cap', xs, a, len, cap, ys, rfl, hx, hp, hlx, hy, hq, hly⟩ := hv
  have hb0 : Below w.heap.size w ((w.alloc (.cells #[.bool neg, .slice a' len' cap', .slice a len cap] 28)).alloc (.cells #[.bool false, .slice none 0 0] 26)) := ((Below.refl _ _).alloc (Nat.le_refl _) _).alloc (by simp) _
  have HX := Lib.hid hx
  have HY := Lib.hid (hy.below hb0)
  have HY0 := Lib.hid hy
  have HP := Lib.hid hp
  have HQ := Lib.hid hq
  clear hx hy hp hq
  go_enter Tryz.func50, Tryz.ntmps50
  go_wp2_with fail
  refine (cmp_any ys [] _ _ _ _ _ _ _ HY.out (limbs_nil _)).mono ?_
  rintro e w1 ⟨rfl, hb1⟩
  obtain ⟨hc, hf⟩ := bcell hb1 w.heap.size (by simp; omega)
  obtain ⟨hc', hf'⟩ := bcell hb1 (w.heap.size + 1) (by simp)
  have HB := Lib.hid (hb0.trans (hb1.mono (by simp; omega)))
  rw [show natOf [] = 0 from rfl]
  by_cases h0 : natOf ys = 0
  · rw [h0, show cmpI 0 0 = 0 from rfl]
    go_wp2_with fail
    refine (of_new 1 (by omega) _).mono ?_
    rintro e w2 ⟨v2, rfl, ⟨⟨a2, n2, c2, rfl, hv2⟩, hn2⟩, hb2⟩
    have hs1 : w.heap.size + 2 ≤ w1.heap.size := by have := hb1.size; simp at this; omega
    have HOff := Lib.hid (hn2.off (g := w.heap.size + 1) (by omega))
    have HV2 := Lib.hid hv2
    have HBB := Lib.hid (HB.out.trans (hb2.mono HB.out.size))
    have HQ0 := Lib.hid (show ptN p q = 0 ∧ ptD q = 1 by rw [← HQ.out, h0]; exact ⟨rfl, rfl⟩)
    clear hv2 hn2
    obtain ⟨hd, hg⟩ := bcell hb2 (w.heap.size + 1) (by have := hb1.size; simp at this; omega)
    go_wp2_with fail
    refine bodyPost_ret (v := .tuple #[.agg #[.bool false, .slice none 0 0], .slice a2 n2 c2]) (by simp [results, Tryz.results50, go_sem, hc', hd]) rfl ⟨_, _, rfl, ⟨false, none, 0, 0, [], rfl, limbs_nil _, by rw [HQ0.out.1]; rfl, by omega⟩, ⟨a2, n2, c2, _, rfl, (HV2.out.off HOff.out 0 _).off HOff.out 1 _, by rw [natOf_digs, HQ0.out.2], by rw [← HV2.out.1]; exact Nat.le_trans (digs_length_le (by omega : 1 < 4294967296 ^ 1)) hL⟩, (HBB.out.setCell (p := ⟨w.heap.size + 1, 0, none⟩) (by simp) _).setCell (p := ⟨w.heap.size + 1, 1, none⟩) (by simp) _⟩
  · rw [show cmpI (natOf ys) 0 = 1 from cmpI_gt (by omega)]
    go_wp2_with fail
    go_region
    have HBB := Lib.hid (((HB.out.setCell (p := ⟨w.heap.size + 1, 0, none⟩) (by simp) (.bool neg)).setCell (p := ⟨w.heap.size + 1, 1, none⟩) (by simp) (.slice a' len' cap')).drew)
    have HQ0 := Lib.hid (show ptN p q = p ∧ ptD q = q by rw [← HQ.out]; unfold ptN ptD; rw [show (natOf ys == 0) = false from beq_eq_false_iff_ne.2 h0]; exact ⟨rfl, rfl⟩)
    go_wp2_with fail
    refine bodyPost_ret (v := .tuple #[.agg #[.bool neg, .slice a' len' cap'], .slice a len cap]) (by simp [results, Tryz.results50, go_sem, hc']) rfl ⟨_, _, rfl, ⟨neg, a', len', cap', xs, rfl, HX.out.below HBB.out, by rw [HQ0.out.1]; exact HP.out, hlx⟩, ⟨a, len, cap, ys, rfl, HY0.out.below HBB.out, by rw [HQ0.out.2]; exact HQ.out, hly⟩, HBB.out⟩

end Go.Proofs.YtahmndacoanfiaaGreat
