/- Ratios: what ratio.zero, reduce, Make, Of, Sign and Cmp return, as fractions. Condition: the limbs can be read, and take at most 2^47 bytes. -/
import Derived.Test.YtahmndacoanfiaaGreatRat
import Derived.Test.YtahmndacoanfiaaGreatRatP
namespace Go.Proofs.YtahmndacoanfiaaGreat
set_option maxRecDepth 100000
open Go.RowKit

/-- a fraction in lowest terms, in new memory -/
def RatN (B : Nat) (w : World) (v : Value) (r : Rat) : Prop := ∃ a' len' cap' a len cap, v = .agg #[.bool (decide (r.num < 0)), .slice a' len' cap', .slice a len cap] ∧ Limbs w a' len' cap' (digs r.num.natAbs) ∧ New B (.slice a' len' cap') ∧ Limbs w a len cap (digs r.den) ∧ New B (.slice a len cap)
theorem RatN.below {B : Nat} {w w' : World} {v : Value} {r : Rat} (h : RatN B w v r) (hb : Below w.heap.size w w') : RatN B w' v r := by
  obtain ⟨a', l', c', a, l, c, rfl, h1, h2, h3, h4⟩ := h
  exact ⟨a', l', c', a, l, c, rfl, h1.below hb, h2, h3.below hb, h4⟩
theorem RatN.mono {B B' : Nat} {w : World} {v : Value} {r : Rat} (h : RatN B w v r) (hB : B' ≤ B) : RatN B' w v r := by
  obtain ⟨a', l', c', a, l, c, rfl, h1, h2, h3, h4⟩ := h
  exact ⟨a', l', c', a, l, c, rfl, h1, h2.mono hB, h3, h4.mono hB⟩
/-- a fraction as it came in -/
def RatV (w : World) (v : Value) (r : Rat) (L : Nat) : Prop := ∃ p q, RatR w v p q L ∧ mkRat p q = r
theorem RatR.below {w w' : World} {v : Value} {p : Int} {q L : Nat} (h : RatR w v p q L) (hb : Below w.heap.size w w') : RatR w' v p q L := by
  obtain ⟨neg, a', len', cap', xs, a, len, cap, ys, rfl, hx, hp, hlx, hy, hq, hly⟩ := h
  exact ⟨neg, a', len', cap', xs, a, len, cap, ys, rfl, hx.below hb, hp, hlx, hy.below hb, hq, hly⟩
theorem RatV.below {w w' : World} {v : Value} {r : Rat} {L : Nat} (h : RatV w v r L) (hb : Below w.heap.size w w') : RatV w' v r L := by
  obtain ⟨p, q, h1, h2⟩ := h
  exact ⟨p, q, h1.below hb, h2⟩
theorem RatR.mono {w : World} {v : Value} {p : Int} {q L M : Nat} (h : RatR w v p q L) (hL : L ≤ M) : RatR w v p q M := by
  obtain ⟨neg, a', len', cap', xs, a, len, cap, ys, rfl, hx, hp, hlx, hy, hq, hly⟩ := h
  exact ⟨neg, a', len', cap', xs, a, len, cap, ys, rfl, hx, hp, by omega, hy, hq, by omega⟩
theorem RatV.mono {w : World} {v : Value} {r : Rat} {L M : Nat} (h : RatV w v r L) (hL : L ≤ M) : RatV w v r M := by
  obtain ⟨p, q, h1, h2⟩ := h
  exact ⟨p, q, h1.mono hL, h2⟩
theorem sgn_self (p : Int) : sgn (decide (p < 0)) p.natAbs = p := by
  unfold sgn
  by_cases h : p < 0
  · simp [h]; omega
  · simp [h]; omega
theorem RatN.raw {B : Nat} {w : World} {v : Value} {r : Rat} {L : Nat} (h : RatN B w v r) (hs : Rsz r L) : RatV w v r L := by
  obtain ⟨a', l', c', a, l, c, rfl, h1, _, h3, _⟩ := h
  refine ⟨r.num, r.den, ⟨_, a', l', c', _, a, l, c, _, rfl, h1, ?_, by rw [← h1.1]; exact hs.1, h3, natOf_digs _, by rw [← h3.1]; exact hs.2⟩, Rat.mkRat_self r⟩
  rw [natOf_digs, sgn_self]
theorem NatRaw.below {w w' : World} {v : Value} {q L : Nat} (h : NatRaw w v q L) (hb : Below w.heap.size w w') : NatRaw w' v q L := by
  obtain ⟨a, l, c, ys, rfl, h1, h2, h3⟩ := h
  exact ⟨a, l, c, ys, rfl, h1.below hb, h2, h3⟩
/-- a fraction that is laid into a block that was there before -/
theorem rat_store {B B' g : Nat} {w : World} {b : Bool} {a' a : Option Addr} {n' c' n c : Nat} {r : Rat} (h : RatN B w (.agg #[.bool b, .slice a' n' c', .slice a n c]) r) (hg : g < B) (hB : B' ≤ B) :
    RatN B' (((w.setCell ⟨g, 0, none⟩ (.bool b)).setCell ⟨g, 1, none⟩ (.slice a' n' c')).setCell ⟨g, 2, none⟩ (.slice a n c)) (.agg #[.bool b, .slice a' n' c', .slice a n c]) r := by
  obtain ⟨x', l', k', x, l, k, e, h1, h2, h3, h4⟩ := h
  cases e
  exact ⟨a', n', c', a, n, c, rfl, ((h1.off (h2.off hg) 0 _).off (h2.off hg) 1 _).off (h2.off hg) 2 _, h2.mono hB, ((h3.off (h4.off hg) 0 _).off (h4.off hg) 1 _).off (h4.off hg) 2 _, h4.mono hB⟩
theorem new_none (B l c : Nat) : New B (.slice none l c) := fun x l' c' e => by cases e
theorem ptD_ne (q : Nat) : ptD q ≠ 0 := by unfold ptD; cases h : q == 0 <;> simp_all
theorem mk_pt (p : Int) (q : Nat) : mkRat (ptN p q) (ptD q) = mkRat p q := by
  unfold ptN ptD
  cases h : q == 0
  · rfl
  · have : q = 0 := by simpa using h
    subst this; simp [mkRat]

set_option maxHeartbeats 400000 in
theorem zero_any (w : World) : Calls Tryz.prog 89 #[] w fun e w' => ∃ v, e = .returned v ∧ RatN w.heap.size w' v 0 ∧ Below w.heap.size w w' := by
  have hb0 : Below w.heap.size w (w.alloc (.cells #[.bool false, .slice none 0 0, .slice none 0 0] 28)) := (Below.refl _ _).alloc (Nat.le_refl _) _
  go_enter Tryz.func89, Tryz.ntmps89
  go_wp2_with fail
  refine (of_new 1 (by omega) _).mono ?_
  rintro e w1 ⟨v1, rfl, ⟨⟨a1, n1, c1, rfl, hv1⟩, hn1⟩, hb1⟩
  obtain ⟨hc, hf⟩ := bcell hb1 w.heap.size (by simp)
  have HB := Lib.hid (hb0.trans (hb1.mono (by simp)))
  have HFin := Lib.hid (rat_store (B' := w.heap.size) (g := w.heap.size) (r := 0) (b := false) (a' := none) (n' := 0) (c' := 0) ⟨none, 0, 0, a1, n1, c1, rfl, by rw [show (0 : Rat).num.natAbs = 0 from rfl, digs_zero]; exact limbs_nil _, new_none _ _ _, hv1, hn1⟩ (by simp) (by simp))
  clear hv1 hn1
  go_wp2_with fail
  exact bodyPost_ret (v := .agg #[.bool false, .slice none 0 0, .slice a1 n1 c1]) (by simp [results, Tryz.results89, go_sem, hc]) rfl ⟨_, rfl, HFin.out, ((HB.out.setCell (Nat.le_refl _) _).setCell (Nat.le_refl _) _).setCell (Nat.le_refl _) _⟩

set_option maxHeartbeats 1000000 in
theorem reduce_any (vi vd : Value) (p : Int) (q L : Nat) (w : World) (hi : IntR w vi p L) (hd : NatRaw w vd q L) (hq : q ≠ 0) (hL : L * 4 ≤ 140737488355328) :
    Calls Tryz.prog 54 #[vi, vd] w fun e w' => ∃ v, e = .returned v ∧ RatN w.heap.size w' v (mkRat p q) ∧ Rsz (mkRat p q) L ∧ Below w.heap.size w w' := by
  obtain ⟨neg, a', len', cap', xs, rfl, hx, hp, hlx⟩ := hi
  obtain ⟨a, len, cap, ys, rfl, hy, hyq, hly⟩ := hd
  have hb0 : Below w.heap.size w ((w.alloc (.cells #[.bool neg, .slice a' len' cap'] 26)).alloc (.cells #[.bool false, .slice none 0 0, .slice none 0 0] 28)) := ((Below.refl _ _).alloc (Nat.le_refl _) _).alloc (by simp) _
  have HSz := Lib.hid (rsz_mk neg (natOf xs) q L hq (Nat.le_trans (digs_length_of hx.2.1) (by rw [hx.1]; exact hlx)) (by rw [← hyq]; exact Nat.le_trans (digs_length_of hy.2.1) (by rw [hy.1]; exact hly)))
  have HNum := Lib.hid (mk_num neg (natOf xs) q hq)
  have HDen := Lib.hid (mk_den neg (natOf xs) q hq)
  rw [hp] at HSz HNum HDen
  have HG0 := Lib.hid (show Nat.gcd (natOf xs) q ≠ 0 from fun h => hq (Nat.gcd_eq_zero_iff.1 h).2)
  have HX := Lib.hid (hx.below hb0)
  have HY := Lib.hid (hy.below hb0)
  have HQ := Lib.hid hyq
  have HLx := Lib.hid hx.2.1
  clear hx hy hp hyq hq
  go_enter Tryz.func54, Tryz.ntmps54
  go_wp2_with fail
  refine (gcd_new xs ys _ _ _ _ _ _ L _ HX.out HY.out hlx hly hL).mono ?_
  rintro e w1 ⟨v1, rfl, ⟨⟨a1, n1, c1, rfl, hv1⟩, hn1⟩, hb1⟩
  rw [HQ.out] at hv1
  have hb01 := hb0.trans (hb1.mono (by simp; omega))
  have HX1 := Lib.hid (HX.out.below hb1)
  have HY1 := Lib.hid (HY.out.below hb1)
  have HV1 := Lib.hid hv1
  obtain ⟨hc1, hf1⟩ := bcell hb1 w.heap.size (by simp; omega)
  obtain ⟨hd1, hg1⟩ := bcell hb1 (w.heap.size + 1) (by simp)
  have HS1 := Lib.hid (show w.heap.size + 2 ≤ w1.heap.size by have := hb1.size; simp at this; omega)
  clear hv1 hn1 hb1
  go_wp2_with fail
  refine (divmod_new xs _ _ _ _ _ _ _ w1 HX1.out HV1.out (by omega) (by rw [natOf_digs]; exact HG0.out)).mono ?_
  rintro e w2 ⟨v2, u2, rfl, hv2, hu2, hb2⟩
  rw [natOf_digs] at hv2
  have hb02 := hb01.trans (hb2.mono hb01.size)
  have HY2 := Lib.hid (HY1.out.below hb2)
  have HV2 := Lib.hid (HV1.out.below hb2)
  have HM := Lib.hid hv2
  obtain ⟨hc2, hf2⟩ := bcell hb2 w.heap.size (by have := HS1.out; omega)
  obtain ⟨hd2, hg2⟩ := bcell hb2 (w.heap.size + 1) (by have := HS1.out; omega)
  have HS2 := Lib.hid (Nat.le_trans HS1.out hb2.size)
  clear hv2 hu2 hb2 hb01
  go_wp2_with fail
  refine (divmod_new ys _ _ _ _ _ _ _ w2 HY2.out HV2.out (by omega) (by rw [natOf_digs]; exact HG0.out)).mono ?_
  rintro e w3 ⟨v3, u3, rfl, hv3, hu3, hb3⟩
  rw [natOf_digs, HQ.out] at hv3
  have hb03 := hb02.trans (hb3.mono hb02.size)
  have HM3 := Lib.hid (HM.out.1.below hb3)
  obtain ⟨⟨a3, n3, c3, rfl, hl3⟩, hn3⟩ := hv3
  have HL3 := Lib.hid hl3
  have HN3 := Lib.hid (hn3.mono HS2.out)
  obtain ⟨hc3, hf3⟩ := bcell hb3 w.heap.size (by have := HS2.out; omega)
  obtain ⟨hd3, hg3⟩ := bcell hb3 (w.heap.size + 1) (by have := HS2.out; omega)
  have HS3 := Lib.hid (Nat.le_trans HS2.out hb3.size)
  clear hl3 hn3 hu3 hb3 hb02
  go_wp2_with fail
  refine (imake_num neg v2 _ w3 HM3.out (by
    have h1 := digs_len_le' (Nat.div_le_self (natOf xs) (Nat.gcd (natOf xs) q))
    have h2 := digs_length_of HLx.out
    have h3 := HX.out.1
    omega)).mono ?_
  rintro e w4 ⟨v4, rfl, hv4, hb4⟩
  rw [← HNum.out] at hv4
  obtain ⟨a4, n4, c4, rfl, hl4, hn4⟩ := hv4
  obtain ⟨hd4, hg4⟩ := bcell hb4 (w.heap.size + 1) (by have := HS3.out; omega)
  have HB := Lib.hid (hb03.trans (hb4.mono hb03.size))
  have HFin := Lib.hid (rat_store (B := w.heap.size + 2) (B' := w.heap.size) (g := w.heap.size + 1) (r := mkRat p q) ⟨a4, n4, c4, a3, n3, c3, rfl, hl4, hn4.mono HS3.out, by rw [HDen.out]; exact HL3.out.below hb4, HN3.out⟩ (by omega) (by omega))
  clear hl4 hn4 hb4 hb03
  generalize decide ((mkRat p q).num < 0) = dn at *
  go_wp2_with fail
  exact bodyPost_ret (v := .agg #[.bool dn, .slice a4 n4 c4, .slice a3 n3 c3]) (by simp [results, Tryz.results54, go_sem, hd4, hd3, hd2, hd1]) rfl ⟨_, rfl, HFin.out, HSz.out, ((HB.out.setCell (p := ⟨w.heap.size + 1, 0, none⟩) (by simp) _).setCell (p := ⟨w.heap.size + 1, 1, none⟩) (by simp) _).setCell (p := ⟨w.heap.size + 1, 2, none⟩) (by simp) _⟩

end Go.Proofs.YtahmndacoanfiaaGreat
