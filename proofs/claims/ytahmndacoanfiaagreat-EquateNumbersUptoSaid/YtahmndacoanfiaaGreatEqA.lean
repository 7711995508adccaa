/- Fractions: what ratio.Neg, Sub, Div and Floor return. Condition: the limbs can be read, and take at most 2^47 bytes. -/
import Derived.Test.YtahmndacoanfiaaGreatRatE
import Derived.Test.YtahmndacoanfiaaGreatRnd
import Derived.Test.YtahmndacoanfiaaGreatFloat2
namespace Go.Proofs.YtahmndacoanfiaaGreat
set_option maxRecDepth 100000
open Go.RowKit
set_option maxHeartbeats 400000 in
theorem ineg_any (v : Value) (z : Int) (L : Nat) (w : World) (hv : IntR w v z L) (hm : L * 4 ≤ 140737488355328) :
   Calls Tryz.prog 88 #[v] w fun e w' => ∃ v, e = .returned v ∧ IntN w.heap.size w' v (-z) ∧ Below w.heap.size w w' := by
 obtain ⟨neg, a, len, cap, xs, rfl, hl, hz, hlL⟩ := hv
 have hb0 : Below w.heap.size w ((w.alloc (.cells #[.bool neg, .slice a len cap] 26)).alloc (.cells #[.bool false, .slice none 0 0] 26)) := ((Below.refl _ _).alloc (Nat.le_refl _) _).alloc (by simp) _
 have HX := Lib.hid (hl.below hb0)
 have HZe := Lib.hid (show sgn (!neg) (natOf xs) = -z by rw [← hz]; cases neg <;> simp [sgn])
 clear hl hz
 go_enter Tryz.func88, Tryz.ntmps88
 go_wp2_with fail
 refine (imake_any (!neg) xs _ _ _ _ HX.out (by omega)).mono ?_
 rintro e w1 ⟨v1, rfl, hv1, hb1⟩
 rw [HZe.out] at hv1
 obtain ⟨a2, n2, c2, rfl, hl2, hnew2⟩ := hv1
 obtain ⟨hc, hf⟩ := bcell hb1 (w.heap.size + 1) (by simp)
 have HB := Lib.hid (hb0.trans (hb1.mono (by simp; omega)))
 have HFin := Lib.hid (int_store (B' := w.heap.size) (g := w.heap.size + 1) ⟨a2, n2, c2, rfl, hl2, hnew2⟩ (by simp) (by simp; omega))
 clear hl2 hnew2
 generalize decide (-z < 0) = dn at *
 go_wp2_with fail
 exact bodyPost_ret (v := .agg #[.bool dn, .slice a2 n2 c2]) (by simp [results, Tryz.results88, go_sem, hc]) rfl ⟨_, rfl, HFin.out, (HB.out.setCell (p := ⟨w.heap.size + 1, 0, none⟩) (by simp) _).setCell (p := ⟨w.heap.size + 1, 1, none⟩) (by simp) _⟩
theorem mk_div {p s : Int} {q t : Nat} (hq : q ≠ 0) (ht : t ≠ 0) : Rat.divInt (p * t) (s * q) = mkRat p q / mkRat s t := by
 rw [Rat.mkRat_eq_div, Rat.mkRat_eq_div, Rat.divInt_eq_div]
 rw [Rat.intCast_mul, Rat.intCast_mul, Rat.intCast_natCast, Rat.intCast_natCast]
 have h1 : (q : Rat) ≠ 0 := by intro h; exact hq (by exact_mod_cast h)
 have h2 : (t : Rat) ≠ 0 := by intro h; exact ht (by exact_mod_cast h)
 grind
set_option maxHeartbeats 2000000 in
theorem qneg_any (v : Value) (r : Rat) (L : Nat) (w : World) (hv : RatV w v r L) (hL : 1 ≤ L) (hm : L * 4 ≤ 140737488355328) :
   Calls Tryz.prog 61 #[v] w fun e w' => ∃ v, e = .returned v ∧ RatN w.heap.size w' v (-r) ∧ Rsz (-r) L ∧ Below w.heap.size w w' := by
 obtain ⟨p, q, hr, hpq⟩ := hv
 have HRl := Lib.hid hr.lens
 have HS := Lib.hid (mk_neg (p := ptN p q) (q := ptD q))
 rw [mk_pt, hpq] at HS
 have HR := Lib.hid hr
 obtain ⟨neg, a', len', cap', xs, a, len, cap, ys, rfl, -, -, -, -, -, -⟩ := hr
 clear hpq
 go_enter Tryz.func61, Tryz.ntmps61
 go_wp2_with fail
 have hbx : Below w.heap.size w ((w.alloc (.cells #[.bool neg, .slice a' len' cap', .slice a len cap] 28)).alloc (.cells #[.bool false, .slice none 0 0, .slice none 0 0] 28)) := (((Below.refl _ _).alloc (Nat.le_refl _) _).alloc (by simp) _)
 generalize hWW : ((w.alloc (.cells #[.bool neg, .slice a' len' cap', .slice a len cap] 28)).alloc (.cells #[.bool false, .slice none 0 0, .slice none 0 0] 28)) = w0 at *
 replace HR := Lib.hid (HR.out.below hbx)
 have cA0 : w0.cell? ⟨w.heap.size, 0, none⟩ = some (.bool neg) := by subst hWW; go_simp
 have cA1 : w0.cell? ⟨w.heap.size, 1, none⟩ = some (.slice a' len' cap') := by subst hWW; go_simp
 have cA2 : w0.cell? ⟨w.heap.size, 2, none⟩ = some (.slice a len cap) := by subst hWW; go_simp
 have ltA : w.heap.size < w0.heap.size := by subst hWW; simp <;> omega
 have cR0 : w0.cell? ⟨w.heap.size + 1, 0, none⟩ = some (.bool false) := by subst hWW; go_simp
 have fR0 : w0.frozen? ⟨w.heap.size + 1, 0, none⟩ = false := by subst hWW; go_simp
 have cR1 : w0.cell? ⟨w.heap.size + 1, 1, none⟩ = some (.slice none 0 0) := by subst hWW; go_simp
 have fR1 : w0.frozen? ⟨w.heap.size + 1, 1, none⟩ = false := by subst hWW; go_simp
 have cR2 : w0.cell? ⟨w.heap.size + 1, 2, none⟩ = some (.slice none 0 0) := by subst hWW; go_simp
 have fR2 : w0.frozen? ⟨w.heap.size + 1, 2, none⟩ = false := by subst hWW; go_simp
 have ltR : w.heap.size + 1 < w0.heap.size := by subst hWW; simp
 have hB := hbx
 clear hbx hWW
 refine (parts_any _ p q L _ HR.out hL).mono ?_
 rintro e w1 ⟨vi, vd, rfl, hi, hd, hb⟩
 replace cA0 := bc hb ltA cA0
 replace cA1 := bc hb ltA cA1
 replace cA2 := bc hb ltA cA2
 replace ltA := bl hb ltA
 replace cR0 := bc hb ltR cR0
 replace fR0 := bf hb ltR fR0
 replace cR1 := bc hb ltR cR1
 replace fR1 := bf hb ltR fR1
 replace cR2 := bc hb ltR cR2
 replace fR2 := bf hb ltR fR2
 replace ltR := bl hb ltR
 replace HR := Lib.hid (HR.out.below hb)
 replace hB := hB.trans (hb.mono hB.size)
 have HI := Lib.hid hi
 have HD := Lib.hid hd
 obtain ⟨ni, ai, li, ci, xi, rfl, -, -, -⟩ := hi
 clear hd
 clear hb
 go_wp2_with fail
 have hbx : Below w1.heap.size w1 (w1.alloc (.cells #[.bool ni, .slice ai li ci] 26)) := ((Below.refl _ _).alloc (Nat.le_refl _) _)
 generalize hWW : (w1.alloc (.cells #[.bool ni, .slice ai li ci] 26)) = w1a at *
 replace cA0 := bc hbx ltA cA0
 replace cA1 := bc hbx ltA cA1
 replace cA2 := bc hbx ltA cA2
 replace ltA := bl hbx ltA
 replace cR0 := bc hbx ltR cR0
 replace fR0 := bf hbx ltR fR0
 replace cR1 := bc hbx ltR cR1
 replace fR1 := bf hbx ltR fR1
 replace cR2 := bc hbx ltR cR2
 replace fR2 := bf hbx ltR fR2
 replace ltR := bl hbx ltR
 replace HR := Lib.hid (HR.out.below hbx)
 replace HI := Lib.hid (HI.out.below hbx)
 replace HD := Lib.hid (HD.out.below hbx)
 have cX0 : w1a.cell? ⟨w1.heap.size, 0, none⟩ = some (.bool ni) := by subst hWW; go_simp
 have cX1 : w1a.cell? ⟨w1.heap.size, 1, none⟩ = some (.slice ai li ci) := by subst hWW; go_simp
 have ltX : w1.heap.size < w1a.heap.size := by subst hWW; simp
 replace hB := hB.trans (hbx.mono hB.size)
 clear hbx hWW
 refine (ineg_any _ _ L _ HI.out (by omega)).mono ?_
 rintro e w2 ⟨vn, rfl, hn, hb⟩
 replace cA0 := bc hb ltA cA0
 replace cA1 := bc hb ltA cA1
 replace cA2 := bc hb ltA cA2
 replace ltA := bl hb ltA
 replace cR0 := bc hb ltR cR0
 replace fR0 := bf hb ltR fR0
 replace cR1 := bc hb ltR cR1
 replace fR1 := bf hb ltR fR1
 replace cR2 := bc hb ltR cR2
 replace fR2 := bf hb ltR fR2
 replace ltR := bl hb ltR
 replace cX0 := bc hb ltX cX0
 replace cX1 := bc hb ltX cX1
 replace ltX := bl hb ltX
 replace HR := Lib.hid (HR.out.below hb)
 replace HI := Lib.hid (HI.out.below hb)
 replace HD := Lib.hid (HD.out.below hb)
 replace hB := hB.trans (hb.mono hB.size)
 have HN := Lib.hid (hn.raw L (by rw [Int.natAbs_neg]; exact ptN_len HRl.out.1))
 clear hn
 clear hb
 go_wp2_with fail
 have hs1 := ltR
 refine (reduce_any _ _ _ _ L _ HN.out HD.out (ptD_ne q) hm).mono ?_
 rintro e w3 ⟨v3, rfl, hv3, hsz, hb⟩
 replace cA0 := bc hb ltA cA0
 replace cA1 := bc hb ltA cA1
 replace cA2 := bc hb ltA cA2
 replace ltA := bl hb ltA
 replace cR0 := bc hb ltR cR0
 replace fR0 := bf hb ltR fR0
 replace cR1 := bc hb ltR cR1
 replace fR1 := bf hb ltR fR1
 replace cR2 := bc hb ltR cR2
 replace fR2 := bf hb ltR fR2
 replace ltR := bl hb ltR
 replace cX0 := bc hb ltX cX0
 replace cX1 := bc hb ltX cX1
 replace ltX := bl hb ltX
 replace HR := Lib.hid (HR.out.below hb)
 replace HI := Lib.hid (HI.out.below hb)
 replace HD := Lib.hid (HD.out.below hb)
 replace HN := Lib.hid (HN.out.below hb)
 replace hB := hB.trans (hb.mono hB.size)
 rw [HS.out] at hv3 hsz
 obtain ⟨x', l', k', x, l, k, rfl, h1, h2, h3, h4⟩ := hv3
 have HSz := Lib.hid hsz
 have HFin := Lib.hid (rat_store (B := w2.heap.size) (B' := w.heap.size) (g := w.heap.size + 1) (r := -r) ⟨x', l', k', x, l, k, rfl, h1, h2, h3, h4⟩ hs1 (by omega))
 clear h1 h2 h3 h4 hsz
 generalize decide ((-r).num < 0) = dn at *
 clear hb
 go_wp2_with fail
 exact bodyPost_ret (v := .agg #[.bool dn, .slice x' l' k', .slice x l k]) (by simp [results, Tryz.results61, go_sem, cR0, cR1, cR2]) rfl ⟨_, rfl, HFin.out, HSz.out, ((hB.setCell (p := ⟨w.heap.size + 1, 0, none⟩) (by simp) _).setCell (p := ⟨w.heap.size + 1, 1, none⟩) (by simp) _).setCell (p := ⟨w.heap.size + 1, 2, none⟩) (by simp) _⟩
set_option maxHeartbeats 2000000 in
theorem qsub_any (v u : Value) (r s : Rat) (L M : Nat) (w : World) (hv : RatV w v r L) (hu : RatV w u s M) (hL : 1 ≤ L) (hM1 : 1 ≤ M) (hm : (L + M + 1) * 4 ≤ 140737488355328) :
   Calls Tryz.prog 32 #[v, u] w fun e w' => ∃ v, e = .returned v ∧ RatN w.heap.size w' v (r - s) ∧ Rsz (r - s) (L + M + 1) ∧ Below w.heap.size w w' := by
 have HS := Lib.hid (Rat.sub_eq_add_neg r s).symm
 have HR := Lib.hid hv
 have HR' := Lib.hid hu
 obtain ⟨p, q, hr, hpq⟩ := hv
 obtain ⟨p', q', hr', hpq'⟩ := hu
 obtain ⟨neg, a', len', cap', xs, a, len, cap, ys, rfl, -, -, -, -, -, -⟩ := hr
 obtain ⟨neg2, a2', len2', cap2', xs2, a2, len2, cap2, ys2, rfl, -, -, -, -, -, -⟩ := hr'
 clear hpq hpq'
 go_enter Tryz.func32, Tryz.ntmps32
 go_wp2_with fail
 have hbx : Below w.heap.size w (((w.alloc (.cells #[.bool neg, .slice a' len' cap', .slice a len cap] 28)).alloc (.cells #[.bool neg2, .slice a2' len2' cap2', .slice a2 len2 cap2] 28)).alloc (.cells #[.bool false, .slice none 0 0, .slice none 0 0] 28)) := ((((Below.refl _ _).alloc (Nat.le_refl _) _).alloc (by simp) _).alloc (by simp <;> omega) _)
 generalize hWW : (((w.alloc (.cells #[.bool neg, .slice a' len' cap', .slice a len cap] 28)).alloc (.cells #[.bool neg2, .slice a2' len2' cap2', .slice a2 len2 cap2] 28)).alloc (.cells #[.bool false, .slice none 0 0, .slice none 0 0] 28)) = w0 at *
 replace HR := Lib.hid (HR.out.below hbx)
 replace HR' := Lib.hid (HR'.out.below hbx)
 have cA0 : w0.cell? ⟨w.heap.size, 0, none⟩ = some (.bool neg) := by subst hWW; go_simp
 have cA1 : w0.cell? ⟨w.heap.size, 1, none⟩ = some (.slice a' len' cap') := by subst hWW; go_simp
 have cA2 : w0.cell? ⟨w.heap.size, 2, none⟩ = some (.slice a len cap) := by subst hWW; go_simp
 have ltA : w.heap.size < w0.heap.size := by subst hWW; simp <;> omega
 have cB0 : w0.cell? ⟨w.heap.size + 1, 0, none⟩ = some (.bool neg2) := by subst hWW; go_simp
 have cB1 : w0.cell? ⟨w.heap.size + 1, 1, none⟩ = some (.slice a2' len2' cap2') := by subst hWW; go_simp
 have cB2 : w0.cell? ⟨w.heap.size + 1, 2, none⟩ = some (.slice a2 len2 cap2) := by subst hWW; go_simp
 have ltB : w.heap.size + 1 < w0.heap.size := by subst hWW; simp <;> omega
 have cR0 : w0.cell? ⟨w.heap.size + 1 + 1, 0, none⟩ = some (.bool false) := by subst hWW; go_simp
 have fR0 : w0.frozen? ⟨w.heap.size + 1 + 1, 0, none⟩ = false := by subst hWW; go_simp
 have cR1 : w0.cell? ⟨w.heap.size + 1 + 1, 1, none⟩ = some (.slice none 0 0) := by subst hWW; go_simp
 have fR1 : w0.frozen? ⟨w.heap.size + 1 + 1, 1, none⟩ = false := by subst hWW; go_simp
 have cR2 : w0.cell? ⟨w.heap.size + 1 + 1, 2, none⟩ = some (.slice none 0 0) := by subst hWW; go_simp
 have fR2 : w0.frozen? ⟨w.heap.size + 1 + 1, 2, none⟩ = false := by subst hWW; go_simp
 have ltR : w.heap.size + 1 + 1 < w0.heap.size := by subst hWW; simp
 have hB := hbx
 clear hbx hWW
 have eA0 := Gr.cell (R := w.heap.size + 1 + 1) (R2 := w.heap.size + 1 + 1) cA0 ltA (by omega) (by omega)
 have eA1 := Gr.cell (R := w.heap.size + 1 + 1) (R2 := w.heap.size + 1 + 1) cA1 ltA (by omega) (by omega)
 have eA2 := Gr.cell (R := w.heap.size + 1 + 1) (R2 := w.heap.size + 1 + 1) cA2 ltA (by omega) (by omega)
 have eB0 := Gr.cell (R := w.heap.size + 1 + 1) (R2 := w.heap.size + 1 + 1) cB0 ltB (by omega) (by omega)
 have eB1 := Gr.cell (R := w.heap.size + 1 + 1) (R2 := w.heap.size + 1 + 1) cB1 ltB (by omega) (by omega)
 have eB2 := Gr.cell (R := w.heap.size + 1 + 1) (R2 := w.heap.size + 1 + 1) cB2 ltB (by omega) (by omega)
 refine wp_region_sched [(0, false), (1, false), (2, true), (3, true), (4, true)] (fun w' => ∃ W : Gr (w.heap.size + 1 + 1) (w.heap.size + 1 + 1) w0, w' = W.1) (by kernel_rfl) (by kernel_rfl) ⟨⟨w0.drew, below_grown (Below.refl _ _).drew⟩, rfl⟩ ?_
 repeat (refine wpSched_calm rfl (fun K hK => ?_); go_simp; refine hK _ ?_; clear hK K)
 clear eA0 eA1 eA2 eB0 eB1 eB2
 have hbx : Below w0.heap.size w0 w0.drew := (Below.refl _ _).drew
 have hM := below_grown (R := w.heap.size + 1 + 1) (R2 := w.heap.size + 1 + 1) hbx
 replace cA0 := bc hbx ltA cA0
 replace cA1 := bc hbx ltA cA1
 replace cA2 := bc hbx ltA cA2
 replace ltA := bl hbx ltA
 replace cB0 := bc hbx ltB cB0
 replace cB1 := bc hbx ltB cB1
 replace cB2 := bc hbx ltB cB2
 replace ltB := bl hbx ltB
 replace cR0 := bc hbx ltR cR0
 replace fR0 := bf hbx ltR fR0
 replace cR1 := bc hbx ltR cR1
 replace fR1 := bf hbx ltR fR1
 replace cR2 := bc hbx ltR cR2
 replace fR2 := bf hbx ltR fR2
 replace ltR := bl hbx ltR
 replace HR := Lib.hid (HR.out.below hbx)
 replace HR' := Lib.hid (HR'.out.below hbx)
 replace hB := hB.trans (hbx.mono hB.size)
 clear hbx
 generalize w0.drew = ww0d at *
 refine wpSched_eff rfl rfl (fun K hK => ?_)
 go_simp
 refine (qneg_any _ s M _ HR'.out hM1 (by omega)).mono ?_
 rintro e w1 ⟨v1, rfl, hv1, hs1, hb⟩
 replace cA0 := bc hb ltA cA0
 replace cA1 := bc hb ltA cA1
 replace cA2 := bc hb ltA cA2
 replace ltA := bl hb ltA
 replace cB0 := bc hb ltB cB0
 replace cB1 := bc hb ltB cB1
 replace cB2 := bc hb ltB cB2
 replace ltB := bl hb ltB
 replace cR0 := bc hb ltR cR0
 replace fR0 := bf hb ltR fR0
 replace cR1 := bc hb ltR cR1
 replace fR1 := bf hb ltR fR1
 replace cR2 := bc hb ltR cR2
 replace fR2 := bf hb ltR fR2
 replace ltR := bl hb ltR
 replace HR := Lib.hid (HR.out.below hb)
 replace HR' := Lib.hid (HR'.out.below hb)
 replace hM := grown_below hM hb
 replace hB := hB.trans (hb.mono hB.size)
 have HN := Lib.hid (hv1.raw hs1)
 clear hv1 hs1
 clear hb
 refine hK _ _ ⟨⟨w1, hM⟩, rfl⟩ ?_
 clear hK K
 have hs1 := ltR
 refine wpSched_eff rfl rfl (fun K hK => ?_)
 go_simp
 refine (qadd_any _ _ r (-s) L M _ HR.out HN.out hL hM1 hm).mono ?_
 rintro e w2 ⟨v2, rfl, hv2, hsz, hb⟩
 replace cA0 := bc hb ltA cA0
 replace cA1 := bc hb ltA cA1
 replace cA2 := bc hb ltA cA2
 replace ltA := bl hb ltA
 replace cB0 := bc hb ltB cB0
 replace cB1 := bc hb ltB cB1
 replace cB2 := bc hb ltB cB2
 replace ltB := bl hb ltB
 replace cR0 := bc hb ltR cR0
 replace fR0 := bf hb ltR fR0
 replace cR1 := bc hb ltR cR1
 replace fR1 := bf hb ltR fR1
 replace cR2 := bc hb ltR cR2
 replace fR2 := bf hb ltR fR2
 replace ltR := bl hb ltR
 replace HR := Lib.hid (HR.out.below hb)
 replace HR' := Lib.hid (HR'.out.below hb)
 replace HN := Lib.hid (HN.out.below hb)
 replace hM := grown_below hM hb
 replace hB := hB.trans (hb.mono hB.size)
 rw [HS.out] at hv2 hsz
 obtain ⟨x', l', k', x, l, k, rfl, h1, h2, h3, h4⟩ := hv2
 have HSz := Lib.hid hsz
 have HFin := Lib.hid (rat_store (B := w1.heap.size) (B' := w.heap.size) (g := w.heap.size + 1 + 1) (r := r - s) ⟨x', l', k', x, l, k, rfl, h1, h2, h3, h4⟩ hs1 (by omega))
 clear h1 h2 h3 h4 hsz
 generalize decide ((r - s).num < 0) = dn at *
 clear hb
 refine hK _ _ ⟨⟨w2, hM⟩, rfl⟩ ?_
 clear hK K
 refine wpSched_eff rfl rfl (fun K hK => ?_)
 go_simp
 refine hK _ _ ⟨⟨_, grown_set (grown_set (grown_set hM 0 _) 1 _) 2 _⟩, rfl⟩ ?_
 clear hK K
 refine wpSched_nil ?_
 go_wp2_with fail
 exact bodyPost_ret (v := .agg #[.bool dn, .slice x' l' k', .slice x l k]) (by simp [results, Tryz.results32, go_sem, cR0, cR1, cR2]) rfl ⟨_, rfl, HFin.out, HSz.out, ((hB.setCell (p := ⟨w.heap.size + 1 + 1, 0, none⟩) (by simp <;> omega) _).setCell (p := ⟨w.heap.size + 1 + 1, 1, none⟩) (by simp <;> omega) _).setCell (p := ⟨w.heap.size + 1 + 1, 2, none⟩) (by simp <;> omega) _⟩
set_option maxHeartbeats 4000000 in
theorem qdiv_any (v u : Value) (r s : Rat) (L M : Nat) (w : World) (hv : RatV w v r L) (hu : RatV w u s M) (hs0 : s ≠ 0) (hL : 1 ≤ L) (hM1 : 1 ≤ M) (hm : (L + M) * 4 ≤ 140737488355328) :
   Calls Tryz.prog 33 #[v, u] w fun e w' => ∃ v, e = .returned (.tuple #[v, .bool true]) ∧ RatN w.heap.size w' v (r / s) ∧ Rsz (r / s) (L + M) ∧ Below w.heap.size w w' := by
 obtain ⟨p, q, hr, hpq⟩ := hv
 obtain ⟨p', q', hr', hpq'⟩ := hu
 have HRl := Lib.hid hr.lens
 have HRl' := Lib.hid hr'.lens
 have HS := Lib.hid (mk_div (p := ptN p q) (s := ptN p' q') (q := ptD q) (t := ptD q') (ptD_ne q) (ptD_ne q'))
 rw [mk_pt, mk_pt, hpq, hpq'] at HS
 have hz0 : ptN p' q' ≠ 0 := fun h => hs0 (by rw [← hpq', ← mk_pt, h]; simp)
 have HZ0 := Lib.hid (show ptN p' q' * ((ptD q : Nat) : Int) ≠ 0 from Int.mul_ne_zero hz0 (by have := ptD_ne q; omega))
 have HR := Lib.hid hr
 have HR' := Lib.hid hr'
 obtain ⟨neg, a', len', cap', xs, a, len, cap, ys, rfl, -, -, -, -, -, -⟩ := hr
 obtain ⟨neg2, a2', len2', cap2', xs2, a2, len2, cap2, ys2, rfl, -, -, -, -, -, -⟩ := hr'
 clear hpq hpq' hz0
 go_enter Tryz.func33, Tryz.ntmps33
 go_wp2_with fail
 have hbx : Below w.heap.size w (((w.alloc (.cells #[.bool neg, .slice a' len' cap', .slice a len cap] 28)).alloc (.cells #[.bool neg2, .slice a2' len2' cap2', .slice a2 len2 cap2] 28)).alloc (.cells #[.bool false, .slice none 0 0, .slice none 0 0] 28)) := ((((Below.refl _ _).alloc (Nat.le_refl _) _).alloc (by simp) _).alloc (by simp <;> omega) _)
 generalize hWW : (((w.alloc (.cells #[.bool neg, .slice a' len' cap', .slice a len cap] 28)).alloc (.cells #[.bool neg2, .slice a2' len2' cap2', .slice a2 len2 cap2] 28)).alloc (.cells #[.bool false, .slice none 0 0, .slice none 0 0] 28)) = w0 at *
 replace HR := Lib.hid (HR.out.below hbx)
 replace HR' := Lib.hid (HR'.out.below hbx)
 have cA0 : w0.cell? ⟨w.heap.size, 0, none⟩ = some (.bool neg) := by subst hWW; go_simp
 have cA1 : w0.cell? ⟨w.heap.size, 1, none⟩ = some (.slice a' len' cap') := by subst hWW; go_simp
 have cA2 : w0.cell? ⟨w.heap.size, 2, none⟩ = some (.slice a len cap) := by subst hWW; go_simp
 have ltA : w.heap.size < w0.heap.size := by subst hWW; simp <;> omega
 have cB0 : w0.cell? ⟨w.heap.size + 1, 0, none⟩ = some (.bool neg2) := by subst hWW; go_simp
 have cB1 : w0.cell? ⟨w.heap.size + 1, 1, none⟩ = some (.slice a2' len2' cap2') := by subst hWW; go_simp
 have cB2 : w0.cell? ⟨w.heap.size + 1, 2, none⟩ = some (.slice a2 len2 cap2) := by subst hWW; go_simp
 have ltB : w.heap.size + 1 < w0.heap.size := by subst hWW; simp <;> omega
 have cR0 : w0.cell? ⟨w.heap.size + 1 + 1, 0, none⟩ = some (.bool false) := by subst hWW; go_simp
 have fR0 : w0.frozen? ⟨w.heap.size + 1 + 1, 0, none⟩ = false := by subst hWW; go_simp
 have cR1 : w0.cell? ⟨w.heap.size + 1 + 1, 1, none⟩ = some (.slice none 0 0) := by subst hWW; go_simp
 have fR1 : w0.frozen? ⟨w.heap.size + 1 + 1, 1, none⟩ = false := by subst hWW; go_simp
 have cR2 : w0.cell? ⟨w.heap.size + 1 + 1, 2, none⟩ = some (.slice none 0 0) := by subst hWW; go_simp
 have fR2 : w0.frozen? ⟨w.heap.size + 1 + 1, 2, none⟩ = false := by subst hWW; go_simp
 have ltR : w.heap.size + 1 + 1 < w0.heap.size := by subst hWW; simp
 have hB := hbx
 clear hbx hWW
 refine (parts_any _ p q L _ HR.out hL).mono ?_
 rintro e w1 ⟨vi, vd, rfl, hi, hd, hb⟩
 replace cA0 := bc hb ltA cA0
 replace cA1 := bc hb ltA cA1
 replace cA2 := bc hb ltA cA2
 replace ltA := bl hb ltA
 replace cB0 := bc hb ltB cB0
 replace cB1 := bc hb ltB cB1
 replace cB2 := bc hb ltB cB2
 replace ltB := bl hb ltB
 replace cR0 := bc hb ltR cR0
 replace fR0 := bf hb ltR fR0
 replace cR1 := bc hb ltR cR1
 replace fR1 := bf hb ltR fR1
 replace cR2 := bc hb ltR cR2
 replace fR2 := bf hb ltR fR2
 replace ltR := bl hb ltR
 replace HR := Lib.hid (HR.out.below hb)
 replace HR' := Lib.hid (HR'.out.below hb)
 replace hB := hB.trans (hb.mono hB.size)
 have HI := Lib.hid hi
 have HD := Lib.hid hd
 obtain ⟨ni, ai, li, ci, xi, rfl, -, -, -⟩ := hi
 clear hd
 clear hb
 go_wp2_with fail
 have hRX := ltR
 have hbx : Below w1.heap.size w1 (w1.alloc (.cells #[.bool ni, .slice ai li ci] 26)) := ((Below.refl _ _).alloc (Nat.le_refl _) _)
 generalize hWW : (w1.alloc (.cells #[.bool ni, .slice ai li ci] 26)) = w1a at *
 replace cA0 := bc hbx ltA cA0
 replace cA1 := bc hbx ltA cA1
 replace cA2 := bc hbx ltA cA2
 replace ltA := bl hbx ltA
 replace cB0 := bc hbx ltB cB0
 replace cB1 := bc hbx ltB cB1
 replace cB2 := bc hbx ltB cB2
 replace ltB := bl hbx ltB
 replace cR0 := bc hbx ltR cR0
 replace fR0 := bf hbx ltR fR0
 replace cR1 := bc hbx ltR cR1
 replace fR1 := bf hbx ltR fR1
 replace cR2 := bc hbx ltR cR2
 replace fR2 := bf hbx ltR fR2
 replace ltR := bl hbx ltR
 replace HR := Lib.hid (HR.out.below hbx)
 replace HR' := Lib.hid (HR'.out.below hbx)
 replace HI := Lib.hid (HI.out.below hbx)
 replace HD := Lib.hid (HD.out.below hbx)
 have cX0 : w1a.cell? ⟨w1.heap.size, 0, none⟩ = some (.bool ni) := by subst hWW; go_simp
 have cX1 : w1a.cell? ⟨w1.heap.size, 1, none⟩ = some (.slice ai li ci) := by subst hWW; go_simp
 have ltX : w1.heap.size < w1a.heap.size := by subst hWW; simp
 replace hB := hB.trans (hbx.mono hB.size)
 clear hbx hWW
 refine (parts_any _ p' q' M _ HR'.out hM1).mono ?_
 rintro e w2 ⟨vi', vd', rfl, hi, hd, hb⟩
 replace cA0 := bc hb ltA cA0
 replace cA1 := bc hb ltA cA1
 replace cA2 := bc hb ltA cA2
 replace ltA := bl hb ltA
 replace cB0 := bc hb ltB cB0
 replace cB1 := bc hb ltB cB1
 replace cB2 := bc hb ltB cB2
 replace ltB := bl hb ltB
 replace cR0 := bc hb ltR cR0
 replace fR0 := bf hb ltR fR0
 replace cR1 := bc hb ltR cR1
 replace fR1 := bf hb ltR fR1
 replace cR2 := bc hb ltR cR2
 replace fR2 := bf hb ltR fR2
 replace ltR := bl hb ltR
 replace cX0 := bc hb ltX cX0
 replace cX1 := bc hb ltX cX1
 replace ltX := bl hb ltX
 replace HR := Lib.hid (HR.out.below hb)
 replace HR' := Lib.hid (HR'.out.below hb)
 replace HI := Lib.hid (HI.out.below hb)
 replace HD := Lib.hid (HD.out.below hb)
 replace hB := hB.trans (hb.mono hB.size)
 have HI' := Lib.hid hi
 have HD' := Lib.hid hd
 obtain ⟨nj, aj, lj, cj, xj, rfl, -, -, -⟩ := hi
 clear hd
 clear hb
 go_wp2_with fail
 have hRY := ltR
 have hbx : Below w2.heap.size w2 (w2.alloc (.cells #[.bool nj, .slice aj lj cj] 26)) := ((Below.refl _ _).alloc (Nat.le_refl _) _)
 generalize hWW : (w2.alloc (.cells #[.bool nj, .slice aj lj cj] 26)) = w2a at *
 replace cA0 := bc hbx ltA cA0
 replace cA1 := bc hbx ltA cA1
 replace cA2 := bc hbx ltA cA2
 replace ltA := bl hbx ltA
 replace cB0 := bc hbx ltB cB0
 replace cB1 := bc hbx ltB cB1
 replace cB2 := bc hbx ltB cB2
 replace ltB := bl hbx ltB
 replace cR0 := bc hbx ltR cR0
 replace fR0 := bf hbx ltR fR0
 replace cR1 := bc hbx ltR cR1
 replace fR1 := bf hbx ltR fR1
 replace cR2 := bc hbx ltR cR2
 replace fR2 := bf hbx ltR fR2
 replace ltR := bl hbx ltR
 replace cX0 := bc hbx ltX cX0
 replace cX1 := bc hbx ltX cX1
 replace ltX := bl hbx ltX
 replace HR := Lib.hid (HR.out.below hbx)
 replace HR' := Lib.hid (HR'.out.below hbx)
 replace HI := Lib.hid (HI.out.below hbx)
 replace HD := Lib.hid (HD.out.below hbx)
 replace HI' := Lib.hid (HI'.out.below hbx)
 replace HD' := Lib.hid (HD'.out.below hbx)
 have cY0 : w2a.cell? ⟨w2.heap.size, 0, none⟩ = some (.bool nj) := by subst hWW; go_simp
 have cY1 : w2a.cell? ⟨w2.heap.size, 1, none⟩ = some (.slice aj lj cj) := by subst hWW; go_simp
 have ltY : w2.heap.size < w2a.heap.size := by subst hWW; simp
 replace hB := hB.trans (hbx.mono hB.size)
 clear hbx hWW
 clear HR HR'
 clear cA0 cA1 cA2 ltA
 clear cB0 cB1 cB2 ltB
 have eX0 := Gr.cell (R := w.heap.size + 1 + 1) (R2 := w.heap.size + 1 + 1) cX0 ltX (by omega) (by omega)
 have eX1 := Gr.cell (R := w.heap.size + 1 + 1) (R2 := w.heap.size + 1 + 1) cX1 ltX (by omega) (by omega)
 have eY0 := Gr.cell (R := w.heap.size + 1 + 1) (R2 := w.heap.size + 1 + 1) cY0 ltY (by omega) (by omega)
 have eY1 := Gr.cell (R := w.heap.size + 1 + 1) (R2 := w.heap.size + 1 + 1) cY1 ltY (by omega) (by omega)
 refine wp_region_sched [(0, false), (1, false), (4, false), (5, false), (2, true), (3, true), (6, true), (7, true), (8, true), (9, false), (10, false), (11, true), (12, false)] (fun w' => ∃ W : Gr (w.heap.size + 1 + 1) (w.heap.size + 1 + 1) w2a, w' = W.1) (by kernel_rfl) (by kernel_rfl) ⟨⟨w2a.drew, below_grown (Below.refl _ _).drew⟩, rfl⟩ ?_
 repeat (refine wpSched_calm rfl (fun K hK => ?_); go_simp; refine hK _ ?_; clear hK K)
 clear eX0 eX1 eY0 eY1
 have hbx : Below w2a.heap.size w2a w2a.drew := (Below.refl _ _).drew
 have hM := below_grown (R := w.heap.size + 1 + 1) (R2 := w.heap.size + 1 + 1) hbx
 replace cR0 := bc hbx ltR cR0
 replace fR0 := bf hbx ltR fR0
 replace cR1 := bc hbx ltR cR1
 replace fR1 := bf hbx ltR fR1
 replace cR2 := bc hbx ltR cR2
 replace fR2 := bf hbx ltR fR2
 replace ltR := bl hbx ltR
 replace cX0 := bc hbx ltX cX0
 replace cX1 := bc hbx ltX cX1
 replace ltX := bl hbx ltX
 replace cY0 := bc hbx ltY cY0
 replace cY1 := bc hbx ltY cY1
 replace ltY := bl hbx ltY
 replace HI := Lib.hid (HI.out.below hbx)
 replace HD := Lib.hid (HD.out.below hbx)
 replace HI' := Lib.hid (HI'.out.below hbx)
 replace HD' := Lib.hid (HD'.out.below hbx)
 replace hB := hB.trans (hbx.mono hB.size)
 clear hbx
 generalize w2a.drew = ww2ad at *
 refine wpSched_eff rfl rfl (fun K hK => ?_)
 go_simp
 refine (whole_raw _ _ M _ HD'.out (by omega)).mono ?_
 rintro e w3 ⟨v3, rfl, hv3, hb⟩
 replace cR0 := bc hb ltR cR0
 replace fR0 := bf hb ltR fR0
 replace cR1 := bc hb ltR cR1
 replace fR1 := bf hb ltR fR1
 replace cR2 := bc hb ltR cR2
 replace fR2 := bf hb ltR fR2
 replace ltR := bl hb ltR
 replace cX0 := bc hb ltX cX0
 replace cX1 := bc hb ltX cX1
 replace ltX := bl hb ltX
 replace cY0 := bc hb ltY cY0
 replace cY1 := bc hb ltY cY1
 replace ltY := bl hb ltY
 replace HI := Lib.hid (HI.out.below hb)
 replace HD := Lib.hid (HD.out.below hb)
 replace HI' := Lib.hid (HI'.out.below hb)
 replace HD' := Lib.hid (HD'.out.below hb)
 replace hM := grown_below hM hb
 replace hB := hB.trans (hb.mono hB.size)
 have HV3 := Lib.hid hv3
 clear hv3
 clear hb
 refine hK _ _ ⟨⟨w3, hM⟩, rfl⟩ ?_
 clear hK K
 refine wpSched_eff rfl rfl (fun K hK => ?_)
 go_simp
 refine (imul_any _ _ _ _ L M _ HI.out HV3.out (by omega)).mono ?_
 rintro e w4 ⟨v4, rfl, hv4, hb⟩
 replace cR0 := bc hb ltR cR0
 replace fR0 := bf hb ltR fR0
 replace cR1 := bc hb ltR cR1
 replace fR1 := bf hb ltR fR1
 replace cR2 := bc hb ltR cR2
 replace fR2 := bf hb ltR fR2
 replace ltR := bl hb ltR
 replace cX0 := bc hb ltX cX0
 replace cX1 := bc hb ltX cX1
 replace ltX := bl hb ltX
 replace cY0 := bc hb ltY cY0
 replace cY1 := bc hb ltY cY1
 replace ltY := bl hb ltY
 replace HI := Lib.hid (HI.out.below hb)
 replace HD := Lib.hid (HD.out.below hb)
 replace HI' := Lib.hid (HI'.out.below hb)
 replace HD' := Lib.hid (HD'.out.below hb)
 replace HV3 := Lib.hid (HV3.out.below hb)
 replace hM := grown_below hM hb
 replace hB := hB.trans (hb.mono hB.size)
 have HV4 := Lib.hid (hv4.raw (L + M) (int_mul_len (ptN_len HRl.out.1) (show (digs ((ptD q' : Nat) : Int).natAbs).length ≤ M by simpa using ptD_len HRl'.out.2 hM1)))
 clear hv4
 clear hb
 refine hK _ _ ⟨⟨w4, hM⟩, rfl⟩ ?_
 clear hK K
 refine wpSched_eff rfl rfl (fun K hK => ?_)
 go_simp
 refine (whole_raw _ _ L _ HD.out (by omega)).mono ?_
 rintro e w5 ⟨v5, rfl, hv5, hb⟩
 replace cR0 := bc hb ltR cR0
 replace fR0 := bf hb ltR fR0
 replace cR1 := bc hb ltR cR1
 replace fR1 := bf hb ltR fR1
 replace cR2 := bc hb ltR cR2
 replace fR2 := bf hb ltR fR2
 replace ltR := bl hb ltR
 replace cX0 := bc hb ltX cX0
 replace cX1 := bc hb ltX cX1
 replace ltX := bl hb ltX
 replace cY0 := bc hb ltY cY0
 replace cY1 := bc hb ltY cY1
 replace ltY := bl hb ltY
 replace HI := Lib.hid (HI.out.below hb)
 replace HD := Lib.hid (HD.out.below hb)
 replace HI' := Lib.hid (HI'.out.below hb)
 replace HD' := Lib.hid (HD'.out.below hb)
 replace HV3 := Lib.hid (HV3.out.below hb)
 replace HV4 := Lib.hid (HV4.out.below hb)
 replace hM := grown_below hM hb
 replace hB := hB.trans (hb.mono hB.size)
 have HV5 := Lib.hid hv5
 clear hv5
 clear hb
 refine hK _ _ ⟨⟨w5, hM⟩, rfl⟩ ?_
 clear hK K
 refine wpSched_eff rfl rfl (fun K hK => ?_)
 go_simp
 refine (imul_any _ _ _ _ M L _ HI'.out HV5.out (by omega)).mono ?_
 rintro e w6 ⟨v6, rfl, hv6, hb⟩
 replace cR0 := bc hb ltR cR0
 replace fR0 := bf hb ltR fR0
 replace cR1 := bc hb ltR cR1
 replace fR1 := bf hb ltR fR1
 replace cR2 := bc hb ltR cR2
 replace fR2 := bf hb ltR fR2
 replace ltR := bl hb ltR
 replace cX0 := bc hb ltX cX0
 replace cX1 := bc hb ltX cX1
 replace ltX := bl hb ltX
 replace cY0 := bc hb ltY cY0
 replace cY1 := bc hb ltY cY1
 replace ltY := bl hb ltY
 replace HI := Lib.hid (HI.out.below hb)
 replace HD := Lib.hid (HD.out.below hb)
 replace HI' := Lib.hid (HI'.out.below hb)
 replace HD' := Lib.hid (HD'.out.below hb)
 replace HV3 := Lib.hid (HV3.out.below hb)
 replace HV4 := Lib.hid (HV4.out.below hb)
 replace HV5 := Lib.hid (HV5.out.below hb)
 replace hM := grown_below hM hb
 replace hB := hB.trans (hb.mono hB.size)
 have HV6 := Lib.hid ((hv6.raw (M + L) (int_mul_len (ptN_len HRl'.out.1) (show (digs ((ptD q : Nat) : Int).natAbs).length ≤ L by simpa using ptD_len HRl.out.2 hL))).mono (show M + L ≤ L + M by omega))
 clear hv6
 clear hb
 refine hK _ _ ⟨⟨w6, hM⟩, rfl⟩ ?_
 clear hK K
 have hs1 := ltR
 refine wpSched_eff rfl rfl (fun K hK => ?_)
 go_simp
 refine (qmake_any _ _ _ _ (L + M) _ HV4.out HV6.out HZ0.out hm).mono ?_
 rintro e w7 ⟨v7, rfl, hv7, hsz, hb⟩
 replace cR0 := bc hb ltR cR0
 replace fR0 := bf hb ltR fR0
 replace cR1 := bc hb ltR cR1
 replace fR1 := bf hb ltR fR1
 replace cR2 := bc hb ltR cR2
 replace fR2 := bf hb ltR fR2
 replace ltR := bl hb ltR
 replace cX0 := bc hb ltX cX0
 replace cX1 := bc hb ltX cX1
 replace ltX := bl hb ltX
 replace cY0 := bc hb ltY cY0
 replace cY1 := bc hb ltY cY1
 replace ltY := bl hb ltY
 replace HI := Lib.hid (HI.out.below hb)
 replace HD := Lib.hid (HD.out.below hb)
 replace HI' := Lib.hid (HI'.out.below hb)
 replace HD' := Lib.hid (HD'.out.below hb)
 replace HV3 := Lib.hid (HV3.out.below hb)
 replace HV4 := Lib.hid (HV4.out.below hb)
 replace HV5 := Lib.hid (HV5.out.below hb)
 replace HV6 := Lib.hid (HV6.out.below hb)
 replace hM := grown_below hM hb
 replace hB := hB.trans (hb.mono hB.size)
 rw [HS.out] at hv7 hsz
 obtain ⟨x', l', k', x, l, k, rfl, h1, h2, h3, h4⟩ := hv7
 have HSz := Lib.hid hsz
 have HFin := Lib.hid (rat_store (B := w6.heap.size) (B' := w.heap.size) (g := w.heap.size + 1 + 1) (r := r / s) ⟨x', l', k', x, l, k, rfl, h1, h2, h3, h4⟩ hs1 (by omega))
 clear h1 h2 h3 h4 hsz
 generalize decide ((r / s).num < 0) = dn at *
 clear hb
 refine hK _ _ ⟨⟨w7, hM⟩, rfl⟩ ?_
 clear hK K
 repeat (refine wpSched_calm rfl (fun K hK => ?_); go_simp; refine hK _ ?_; clear hK K)
 refine wpSched_eff rfl rfl (fun K hK => ?_)
 go_simp
 refine hK _ _ ⟨⟨_, grown_set (grown_set (grown_set hM 0 _) 1 _) 2 _⟩, rfl⟩ ?_
 clear hK K
 repeat (refine wpSched_calm rfl (fun K hK => ?_); go_simp; refine hK _ ?_; clear hK K)
 refine wpSched_nil ?_
 go_wp2_with fail
 exact bodyPost_ret (v := .tuple #[.agg #[.bool dn, .slice x' l' k', .slice x l k], .bool true]) (by simp [results, Tryz.results33, go_sem, cR0, cR1, cR2]) rfl ⟨_, rfl, HFin.out, HSz.out, ((hB.setCell (p := ⟨w.heap.size + 1 + 1, 0, none⟩) (by simp <;> omega) _).setCell (p := ⟨w.heap.size + 1 + 1, 1, none⟩) (by simp <;> omega) _).setCell (p := ⟨w.heap.size + 1 + 1, 2, none⟩) (by simp <;> omega) _⟩
set_option maxHeartbeats 2000000 in
theorem qfloor_any (v : Value) (r : Rat) (L : Nat) (w : World) (hv : RatV w v r L) (hL : 1 ≤ L) (hm : (L + 1) * 4 ≤ 140737488355328) :
   Calls Tryz.prog 30 #[v] w fun e w' => ∃ v, e = .returned v ∧ IntN w.heap.size w' v r.floor ∧ (digs r.floor.natAbs).length ≤ L ∧ Below w.heap.size w w' := by
 obtain ⟨p, q, hr, hpq⟩ := hv
 have HRl := Lib.hid hr.lens
 have HS := Lib.hid (mk_floor (p := ptN p q) (ptD_ne q))
 rw [mk_pt, hpq] at HS
 have HLn := Lib.hid (ptN_len (q := q) HRl.out.1)
 have HLf := Lib.hid (show (digs r.floor.natAbs).length ≤ L by rw [← HS.out]; exact Nat.le_trans (digs_len_le' (Int.natAbs_ediv_le_natAbs _ _)) HLn.out)
 have HR := Lib.hid hr
 obtain ⟨neg, a', len', cap', xs, a, len, cap, ys, rfl, -, -, -, -, -, -⟩ := hr
 clear hpq
 go_enter Tryz.func30, Tryz.ntmps30
 go_wp2_with fail
 have hbx : Below w.heap.size w ((w.alloc (.cells #[.bool neg, .slice a' len' cap', .slice a len cap] 28)).alloc (.cells #[.bool false, .slice none 0 0] 26)) := (((Below.refl _ _).alloc (Nat.le_refl _) _).alloc (by simp) _)
 generalize hWW : ((w.alloc (.cells #[.bool neg, .slice a' len' cap', .slice a len cap] 28)).alloc (.cells #[.bool false, .slice none 0 0] 26)) = w0 at *
 replace HR := Lib.hid (HR.out.below hbx)
 have cA0 : w0.cell? ⟨w.heap.size, 0, none⟩ = some (.bool neg) := by subst hWW; go_simp
 have cA1 : w0.cell? ⟨w.heap.size, 1, none⟩ = some (.slice a' len' cap') := by subst hWW; go_simp
 have cA2 : w0.cell? ⟨w.heap.size, 2, none⟩ = some (.slice a len cap) := by subst hWW; go_simp
 have ltA : w.heap.size < w0.heap.size := by subst hWW; simp <;> omega
 have cR0 : w0.cell? ⟨w.heap.size + 1, 0, none⟩ = some (.bool false) := by subst hWW; go_simp
 have fR0 : w0.frozen? ⟨w.heap.size + 1, 0, none⟩ = false := by subst hWW; go_simp
 have cR1 : w0.cell? ⟨w.heap.size + 1, 1, none⟩ = some (.slice none 0 0) := by subst hWW; go_simp
 have fR1 : w0.frozen? ⟨w.heap.size + 1, 1, none⟩ = false := by subst hWW; go_simp
 have ltR : w.heap.size + 1 < w0.heap.size := by subst hWW; simp
 have hB := hbx
 clear hbx hWW
 refine (parts_any _ p q L _ HR.out hL).mono ?_
 rintro e w1 ⟨vi, vd, rfl, hi, hd, hb⟩
 replace cA0 := bc hb ltA cA0
 replace cA1 := bc hb ltA cA1
 replace cA2 := bc hb ltA cA2
 replace ltA := bl hb ltA
 replace cR0 := bc hb ltR cR0
 replace fR0 := bf hb ltR fR0
 replace cR1 := bc hb ltR cR1
 replace fR1 := bf hb ltR fR1
 replace ltR := bl hb ltR
 replace HR := Lib.hid (HR.out.below hb)
 replace hB := hB.trans (hb.mono hB.size)
 have HI := Lib.hid hi
 have HD := Lib.hid hd
 obtain ⟨ni, ai, li, ci, xi, rfl, -, -, -⟩ := hi
 clear hd
 clear hb
 go_wp2_with fail
 have hbx : Below w1.heap.size w1 (w1.alloc (.cells #[.bool ni, .slice ai li ci] 26)) := ((Below.refl _ _).alloc (Nat.le_refl _) _)
 generalize hWW : (w1.alloc (.cells #[.bool ni, .slice ai li ci] 26)) = w1a at *
 replace cA0 := bc hbx ltA cA0
 replace cA1 := bc hbx ltA cA1
 replace cA2 := bc hbx ltA cA2
 replace ltA := bl hbx ltA
 replace cR0 := bc hbx ltR cR0
 replace fR0 := bf hbx ltR fR0
 replace cR1 := bc hbx ltR cR1
 replace fR1 := bf hbx ltR fR1
 replace ltR := bl hbx ltR
 replace HR := Lib.hid (HR.out.below hbx)
 replace HI := Lib.hid (HI.out.below hbx)
 replace HD := Lib.hid (HD.out.below hbx)
 have cX0 : w1a.cell? ⟨w1.heap.size, 0, none⟩ = some (.bool ni) := by subst hWW; go_simp
 have cX1 : w1a.cell? ⟨w1.heap.size, 1, none⟩ = some (.slice ai li ci) := by subst hWW; go_simp
 have ltX : w1.heap.size < w1a.heap.size := by subst hWW; simp
 replace hB := hB.trans (hbx.mono hB.size)
 clear hbx hWW
 have SCA0 := Lib.hid cA0
 have SCA1 := Lib.hid cA1
 have SCA2 := Lib.hid cA2
 have SLA := Lib.hid ltA
 have SCR0 := Lib.hid cR0
 have SFR0 := Lib.hid fR0
 have SCR1 := Lib.hid cR1
 have SFR1 := Lib.hid fR1
 have SLR := Lib.hid ltR
 have SCX0 := Lib.hid cX0
 have SCX1 := Lib.hid cX1
 have SLX := Lib.hid ltX
 have SHR := Lib.hid HR.out
 have SHI := Lib.hid HI.out
 have SHD := Lib.hid HD.out
 have SB := Lib.hid hB
 have eA0 := box_ext (B := w1a.heap.size) cA0 ltA
 have eA1 := box_ext (B := w1a.heap.size) cA1 ltA
 have eA2 := box_ext (B := w1a.heap.size) cA2 ltA
 have eR0 := box_ext (B := w1a.heap.size) cR0 ltR
 have eR1 := box_ext (B := w1a.heap.size) cR1 ltR
 have eX0 := box_ext (B := w1a.heap.size) cX0 ltX
 have eX1 := box_ext (B := w1a.heap.size) cX1 ltX
 refine wp_region_float2 8 9 [(0, false), (1, false), (2, true), (3, true), (4, false), (5, false), (6, false), (7, false)] [(10, true), (11, true), (12, false)] (fun w' => ∃ W : Ext w1a.heap.size w1a, w' = W.1) _ _ 5 6 (.cells #[.bool false, .slice none 0 0] 26) (.cells #[.bool false, .slice none 0 0] 26) w1a.heap.size (by kernel_rfl) rfl rfl rfl rfl rfl rfl (fun a w => by simp [execOp, go_sem, ptr]) (fun a w => by simp [execOp, go_sem, ptr]) (fun w ⟨W, e⟩ => e ▸ W.2.size) (fun w ⟨W, e⟩ => ⟨⟨_, (e ▸ W.2).alloc (e ▸ W.2.size) _⟩, rfl⟩) (fun w ⟨W, e⟩ => ⟨⟨_, (e ▸ W.2).alloc (e ▸ W.2.size) _⟩, rfl⟩) (by decide) (by kernel_rfl) ⟨⟨w1a.drew, (Below.refl _ _).drew⟩, rfl⟩ ?_
 repeat (refine wpFl2_calm rfl (fun K hK => ?_); go_simp; refine hK _ ?_; clear hK K)
 clear eA0 eA1 eA2 eR0 eR1 eX0 eX1
 have hbx : Below w1a.heap.size w1a w1a.drew := (Below.refl _ _).drew
 have hM := hbx
 replace cA0 := bc hbx ltA cA0
 replace cA1 := bc hbx ltA cA1
 replace cA2 := bc hbx ltA cA2
 replace ltA := bl hbx ltA
 replace cR0 := bc hbx ltR cR0
 replace fR0 := bf hbx ltR fR0
 replace cR1 := bc hbx ltR cR1
 replace fR1 := bf hbx ltR fR1
 replace ltR := bl hbx ltR
 replace cX0 := bc hbx ltX cX0
 replace cX1 := bc hbx ltX cX1
 replace ltX := bl hbx ltX
 replace HR := Lib.hid (HR.out.below hbx)
 replace HI := Lib.hid (HI.out.below hbx)
 replace HD := Lib.hid (HD.out.below hbx)
 replace hB := hB.trans (hbx.mono hB.size)
 clear hbx
 generalize w1a.drew = ww1ad at *
 refine wpFl2_eff rfl rfl (fun wy hC hg K hK => ?_)
 obtain ⟨⟨wz, hE⟩, hwe⟩ := hC
 change wy = wz at hwe
 subst hwe
 replace cA0 := bc hg ltA cA0
 replace cA1 := bc hg ltA cA1
 replace cA2 := bc hg ltA cA2
 replace ltA := bl hg ltA
 replace cR0 := bc hg ltR cR0
 replace fR0 := bf hg ltR fR0
 replace cR1 := bc hg ltR cR1
 replace fR1 := bf hg ltR fR1
 replace ltR := bl hg ltR
 replace cX0 := bc hg ltX cX0
 replace cX1 := bc hg ltX cX1
 replace ltX := bl hg ltX
 replace HR := Lib.hid (HR.out.below hg)
 replace HI := Lib.hid (HI.out.below hg)
 replace HD := Lib.hid (HD.out.below hg)
 replace hB := hB.trans (hg.mono hB.size)
 replace hM := hE
 clear hE hg
 go_simp
 refine (whole_raw _ _ L _ HD.out (by omega)).mono ?_
 rintro e w3 ⟨v3, rfl, hj, hb⟩
 replace cA0 := bc hb ltA cA0
 replace cA1 := bc hb ltA cA1
 replace cA2 := bc hb ltA cA2
 replace ltA := bl hb ltA
 replace cR0 := bc hb ltR cR0
 replace fR0 := bf hb ltR fR0
 replace cR1 := bc hb ltR cR1
 replace fR1 := bf hb ltR fR1
 replace ltR := bl hb ltR
 replace cX0 := bc hb ltX cX0
 replace cX1 := bc hb ltX cX1
 replace ltX := bl hb ltX
 replace HR := Lib.hid (HR.out.below hb)
 replace HI := Lib.hid (HI.out.below hb)
 replace HD := Lib.hid (HD.out.below hb)
 replace hM := hM.trans (hb.mono hM.size)
 replace hB := hB.trans (hb.mono hB.size)
 have HJ := Lib.hid hj
 clear hj
 refine hK _ _ ⟨⟨w3, hM⟩, rfl⟩ hb ?_
 clear hK K hb
 refine wpFl2_eff rfl rfl (fun wy hC hg K hK => ?_)
 obtain ⟨⟨wz, hE⟩, hwe⟩ := hC
 change wy = wz at hwe
 subst hwe
 replace cA0 := bc hg ltA cA0
 replace cA1 := bc hg ltA cA1
 replace cA2 := bc hg ltA cA2
 replace ltA := bl hg ltA
 replace cR0 := bc hg ltR cR0
 replace fR0 := bf hg ltR fR0
 replace cR1 := bc hg ltR cR1
 replace fR1 := bf hg ltR fR1
 replace ltR := bl hg ltR
 replace cX0 := bc hg ltX cX0
 replace cX1 := bc hg ltX cX1
 replace ltX := bl hg ltX
 replace HR := Lib.hid (HR.out.below hg)
 replace HI := Lib.hid (HI.out.below hg)
 replace HD := Lib.hid (HD.out.below hg)
 replace HJ := Lib.hid (HJ.out.below hg)
 replace hB := hB.trans (hg.mono hB.size)
 replace hM := hE
 clear hE hg
 go_simp
 have hsB' : w.heap.size + 2 ≤ wy.heap.size := ltR
 refine (idivmod_any _ _ _ _ L _ HI.out HJ.out (by have := Nat.pos_of_ne_zero (ptD_ne q); omega) (by omega)).mono ?_
 rintro e w4 ⟨vq, vs, rfl, hq, hs, hb⟩
 replace cA0 := bc hb ltA cA0
 replace cA1 := bc hb ltA cA1
 replace cA2 := bc hb ltA cA2
 replace ltA := bl hb ltA
 replace cR0 := bc hb ltR cR0
 replace fR0 := bf hb ltR fR0
 replace cR1 := bc hb ltR cR1
 replace fR1 := bf hb ltR fR1
 replace ltR := bl hb ltR
 replace cX0 := bc hb ltX cX0
 replace cX1 := bc hb ltX cX1
 replace ltX := bl hb ltX
 replace HR := Lib.hid (HR.out.below hb)
 replace HI := Lib.hid (HI.out.below hb)
 replace HD := Lib.hid (HD.out.below hb)
 replace HJ := Lib.hid (HJ.out.below hb)
 replace hM := hM.trans (hb.mono hM.size)
 replace hB := hB.trans (hb.mono hB.size)
 rw [HS.out] at hq
 have HQ := Lib.hid (hq.mono hsB')
 obtain ⟨aq, nq, cq, rfl, -, -⟩ := hq
 obtain ⟨az, nz, cz, rfl, -, -⟩ := hs
 generalize decide (r.floor < 0) = dq at *
 generalize decide (ptN p q % ((ptD q : Nat) : Int) < 0) = ds at *
 refine hK _ _ ⟨⟨w4, hM⟩, rfl⟩ hb ?_
 clear hK K hb
 clear HI HD HJ
 repeat (refine wpFl2_calm rfl (fun K hK => ?_); go_simp; refine hK _ ?_; clear hK K)
 refine wpFl2_nil fun gQ gE wy hC hg hBk hBk2 hge hge2 hgn => ?_
 obtain ⟨⟨wz, hE⟩, hwe⟩ := hC
 change wy = wz at hwe
 subst hwe
 replace cA0 := bc hg ltA cA0
 replace cA1 := bc hg ltA cA1
 replace cA2 := bc hg ltA cA2
 replace ltA := bl hg ltA
 replace cR0 := bc hg ltR cR0
 replace fR0 := bf hg ltR fR0
 replace cR1 := bc hg ltR cR1
 replace fR1 := bf hg ltR fR1
 replace ltR := bl hg ltR
 replace cX0 := bc hg ltX cX0
 replace cX1 := bc hg ltX cX1
 replace ltX := bl hg ltX
 replace HR := Lib.hid (HR.out.below hg)
 replace HQ := Lib.hid (HQ.out.below hg)
 replace hB := hB.trans (hg.mono hB.size)
 replace hM := hE
 clear hE hg
 have z0 := blk_cell hBk 0
 have y0 := blk_free hBk 0
 have z1 := blk_cell hBk 1
 have y1 := blk_free hBk 1
 have v0 := blk_cell hBk2 0
 have u0 := blk_free hBk2 0
 have v1 := blk_cell hBk2 1
 have u1 := blk_free hBk2 1
 simp at z0 z1 v0 v1
 have hgl := blk_lt hBk
 have hgl2 := blk_lt hBk2
 have hgn2 := Ne.symm hgn
 refine wpSched_eff rfl rfl (fun K hK => ?_)
 go_simp
 refine hK _ _ ⟨⟨_, ((hM.setCell (p := ⟨gQ, 0, none⟩) hge _).setCell (p := ⟨gQ, 1, none⟩) hge _)⟩, rfl⟩ ?_
 clear hK K
 refine wpSched_eff rfl rfl (fun K hK => ?_)
 go_simp
 refine hK _ _ ⟨⟨_, ((((hM.setCell (p := ⟨gQ, 0, none⟩) hge _).setCell (p := ⟨gQ, 1, none⟩) hge _).setCell (p := ⟨gE, 0, none⟩) hge2 _).setCell (p := ⟨gE, 1, none⟩) hge2 _)⟩, rfl⟩ ?_
 clear hK K
 repeat (refine wpSched_calm rfl (fun K hK => ?_); go_simp; refine hK _ ?_; clear hK K)
 refine wpSched_nil ?_
 have hMn := ((((hM.setCell (p := ⟨gQ, 0, none⟩) hge (.bool dq)).setCell (p := ⟨gQ, 1, none⟩) hge (.slice aq nq cq)).setCell (p := ⟨gE, 0, none⟩) hge2 (.bool ds)).setCell (p := ⟨gE, 1, none⟩) hge2 (.slice az nz cz))
 replace HQ := Lib.hid (HQ.out.off4 hBk zInt_no hBk2 zInt_no (.bool dq) (.slice aq nq cq) (.bool ds) (.slice az nz cz))
 replace cA0 := bc hMn SLA.out SCA0.out
 replace cA1 := bc hMn SLA.out SCA1.out
 replace cA2 := bc hMn SLA.out SCA2.out
 replace ltA := bl hMn SLA.out
 replace cR0 := bc hMn SLR.out SCR0.out
 replace fR0 := bf hMn SLR.out SFR0.out
 replace cR1 := bc hMn SLR.out SCR1.out
 replace fR1 := bf hMn SLR.out SFR1.out
 replace ltR := bl hMn SLR.out
 replace cX0 := bc hMn SLX.out SCX0.out
 replace cX1 := bc hMn SLX.out SCX1.out
 replace ltX := bl hMn SLX.out
 replace HR := Lib.hid (SHR.out.below hMn)
 replace HI := Lib.hid (SHI.out.below hMn)
 replace HD := Lib.hid (SHD.out.below hMn)
 replace hB := SB.out.trans (hMn.mono SB.out.size)
 have cQ0 : ((((wy.setCell ⟨gQ, 0, none⟩ (.bool dq)).setCell ⟨gQ, 1, none⟩ (.slice aq nq cq)).setCell ⟨gE, 0, none⟩ (.bool ds)).setCell ⟨gE, 1, none⟩ (.slice az nz cz)).cell? ⟨gQ, 0, none⟩ = some (.bool dq) := by go_simp
 have fQ0 : ((((wy.setCell ⟨gQ, 0, none⟩ (.bool dq)).setCell ⟨gQ, 1, none⟩ (.slice aq nq cq)).setCell ⟨gE, 0, none⟩ (.bool ds)).setCell ⟨gE, 1, none⟩ (.slice az nz cz)).frozen? ⟨gQ, 0, none⟩ = false := by go_simp
 have cQ1 : ((((wy.setCell ⟨gQ, 0, none⟩ (.bool dq)).setCell ⟨gQ, 1, none⟩ (.slice aq nq cq)).setCell ⟨gE, 0, none⟩ (.bool ds)).setCell ⟨gE, 1, none⟩ (.slice az nz cz)).cell? ⟨gQ, 1, none⟩ = some (.slice aq nq cq) := by go_simp
 have fQ1 : ((((wy.setCell ⟨gQ, 0, none⟩ (.bool dq)).setCell ⟨gQ, 1, none⟩ (.slice aq nq cq)).setCell ⟨gE, 0, none⟩ (.bool ds)).setCell ⟨gE, 1, none⟩ (.slice az nz cz)).frozen? ⟨gQ, 1, none⟩ = false := by go_simp
 have ltQ : gQ < ((((wy.setCell ⟨gQ, 0, none⟩ (.bool dq)).setCell ⟨gQ, 1, none⟩ (.slice aq nq cq)).setCell ⟨gE, 0, none⟩ (.bool ds)).setCell ⟨gE, 1, none⟩ (.slice az nz cz)).heap.size := by simpa using hgl
 have cE0 : ((((wy.setCell ⟨gQ, 0, none⟩ (.bool dq)).setCell ⟨gQ, 1, none⟩ (.slice aq nq cq)).setCell ⟨gE, 0, none⟩ (.bool ds)).setCell ⟨gE, 1, none⟩ (.slice az nz cz)).cell? ⟨gE, 0, none⟩ = some (.bool ds) := by go_simp
 have fE0 : ((((wy.setCell ⟨gQ, 0, none⟩ (.bool dq)).setCell ⟨gQ, 1, none⟩ (.slice aq nq cq)).setCell ⟨gE, 0, none⟩ (.bool ds)).setCell ⟨gE, 1, none⟩ (.slice az nz cz)).frozen? ⟨gE, 0, none⟩ = false := by go_simp
 have cE1 : ((((wy.setCell ⟨gQ, 0, none⟩ (.bool dq)).setCell ⟨gQ, 1, none⟩ (.slice aq nq cq)).setCell ⟨gE, 0, none⟩ (.bool ds)).setCell ⟨gE, 1, none⟩ (.slice az nz cz)).cell? ⟨gE, 1, none⟩ = some (.slice az nz cz) := by go_simp
 have fE1 : ((((wy.setCell ⟨gQ, 0, none⟩ (.bool dq)).setCell ⟨gQ, 1, none⟩ (.slice aq nq cq)).setCell ⟨gE, 0, none⟩ (.bool ds)).setCell ⟨gE, 1, none⟩ (.slice az nz cz)).frozen? ⟨gE, 1, none⟩ = false := by go_simp
 have ltE : gE < ((((wy.setCell ⟨gQ, 0, none⟩ (.bool dq)).setCell ⟨gQ, 1, none⟩ (.slice aq nq cq)).setCell ⟨gE, 0, none⟩ (.bool ds)).setCell ⟨gE, 1, none⟩ (.slice az nz cz)).heap.size := by simpa using hgl2
 have neQA : w.heap.size < gQ := Nat.lt_of_lt_of_le SLA.out hge
 have neEA : w.heap.size < gE := Nat.lt_of_lt_of_le SLA.out hge2
 have neQR : w.heap.size + 1 < gQ := Nat.lt_of_lt_of_le SLR.out hge
 have neER : w.heap.size + 1 < gE := Nat.lt_of_lt_of_le SLR.out hge2
 have neQX : w1.heap.size < gQ := Nat.lt_of_lt_of_le SLX.out hge
 have neEX : w1.heap.size < gE := Nat.lt_of_lt_of_le SLX.out hge2
 clear SCA0 SCA1 SCA2 SLA SCR0 SFR0 SCR1 SFR1 SLR SCX0 SCX1 SLX SHR SHI SHD SB
 clear hMn hM hBk hBk2 hgl hgl2 z0 y0 z1 y1 v0 u0 v1 u1
 go_wp2_with fail
 generalize ((((wy.setCell ⟨gQ, 0, none⟩ (.bool dq)).setCell ⟨gQ, 1, none⟩ (.slice aq nq cq)).setCell ⟨gE, 0, none⟩ (.bool ds)).setCell ⟨gE, 1, none⟩ (.slice az nz cz)) = w5 at *
 have HFin := Lib.hid (int_store (B' := w.heap.size) (g := w.heap.size + 1) HQ.out (by omega) (by omega))
 exact bodyPost_ret (v := .agg #[.bool dq, .slice aq nq cq]) (by simp [results, Tryz.results30, go_sem, cR0, cR1]) rfl ⟨_, rfl, HFin.out, HLf.out, (hB.setCell (p := ⟨w.heap.size + 1, 0, none⟩) (by simp) _).setCell (p := ⟨w.heap.size + 1, 1, none⟩) (by simp) _⟩
end Go.Proofs.YtahmndacoanfiaaGreat
