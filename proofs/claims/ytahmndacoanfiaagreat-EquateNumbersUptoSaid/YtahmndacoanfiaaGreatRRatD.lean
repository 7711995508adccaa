/- Fractions: what the reference's Sign, Neg, Add and Sub return. Condition: the limbs can be read, and take at most 2^47 bytes. -/
import Derived.Test.YtahmndacoanfiaaGreatRIntA
import Derived.Test.YtahmndacoanfiaaGreatRatE
namespace Go.Proofs.YtahmndacoanfiaaGreat
set_option maxRecDepth 100000
open Go.RowKit
set_option maxHeartbeats 1000000 in
theorem ksign_any (v : Value) (r : Rat) (L : Nat) (w : World) (hv : RatV w v r L) (hm : L * 4 ≤ 140737488355328) :
   Calls Tryz.prog 41 #[v] w fun e w' => e = .returned (.int .i64 (rsgI r)) ∧ Below w.heap.size w w' := by
 obtain ⟨p, q, hr, hpq⟩ := hv
 have HRl := Lib.hid hr.lens
 have HS := Lib.hid (mk_sgn (p := ptN p q) (ptD_ne q))
 rw [mk_pt, hpq] at HS
 have HR := Lib.hid hr
 obtain ⟨neg, a', len', cap', xs, a, len, cap, ys, rfl, -, -, -, -, -, -⟩ := hr
 clear hpq
 go_enter Tryz.func41, Tryz.ntmps41
 go_wp2_with fail
 have hbx : Below w.heap.size w (w.alloc (.cells #[.bool neg, .slice a' len' cap', .slice a len cap] 28)) := ((Below.refl _ _).alloc (Nat.le_refl _) _)
 generalize hWW : (w.alloc (.cells #[.bool neg, .slice a' len' cap', .slice a len cap] 28)) = w0 at *
 replace HR := Lib.hid (HR.out.below hbx)
 have cA0 : w0.cell? ⟨w.heap.size, 0, none⟩ = some (.bool neg) := by subst hWW; go_simp
 have cA1 : w0.cell? ⟨w.heap.size, 1, none⟩ = some (.slice a' len' cap') := by subst hWW; go_simp
 have cA2 : w0.cell? ⟨w.heap.size, 2, none⟩ = some (.slice a len cap) := by subst hWW; go_simp
 have ltA : w.heap.size < w0.heap.size := by subst hWW; simp
 have hB := hbx
 clear hbx hWW
 refine (ktop_any _ p q L _ HR.out hm).mono ?_
 rintro e w1 ⟨vi, rfl, hi, hb⟩
 replace cA0 := bc hb ltA cA0
 replace cA1 := bc hb ltA cA1
 replace cA2 := bc hb ltA cA2
 replace ltA := bl hb ltA
 replace HR := Lib.hid (HR.out.below hb)
 replace hB := hB.trans (hb.mono hB.size)
 have HI := Lib.hid (hi.raw L (ptN_len HRl.out.1))
 clear hi
 clear hb
 clear HR
 go_wp2_with fail
 refine (jsign_any _ _ L _ HI.out (by omega)).mono ?_
 rintro e w2 ⟨rfl, hb⟩
 replace cA0 := bc hb ltA cA0
 replace cA1 := bc hb ltA cA1
 replace cA2 := bc hb ltA cA2
 replace ltA := bl hb ltA
 replace HI := Lib.hid (HI.out.below hb)
 replace hB := hB.trans (hb.mono hB.size)
 clear hb
 go_wp2_with fail
 go_ret
 exact ⟨by rw [HS.out]; rfl, hB⟩
set_option maxHeartbeats 2000000 in
theorem kneg_any (v : Value) (r : Rat) (L : Nat) (w : World) (hv : RatV w v r L) (hL : 1 ≤ L) (hm : L * 4 ≤ 140737488355328) :
   Calls Tryz.prog 70 #[v] w fun e w' => ∃ v, e = .returned v ∧ RatN w.heap.size w' v (-r) ∧ Rsz (-r) L ∧ Below w.heap.size w w' := by
 obtain ⟨p, q, hr, hpq⟩ := hv
 have HRl := Lib.hid hr.lens
 have HS := Lib.hid (mk_neg (p := ptN p q) (q := ptD q))
 rw [mk_pt, hpq] at HS
 have HR := Lib.hid hr
 obtain ⟨neg, a', len', cap', xs, a, len, cap, ys, rfl, -, -, -, -, -, -⟩ := hr
 clear hpq
 go_enter Tryz.func70, Tryz.ntmps70
 go_wp2_with fail
 have hbx : Below w.heap.size w ((w.alloc (.cells #[.bool neg, .slice a' len' cap', .slice a len cap] 28)).alloc (.cells #[.bool false, .slice none 0 0, .slice none 0 0] 28)) := (((Below.refl _ _).alloc (Nat.le_refl _) _).alloc (by simp) _)
 generalize hWW : ((w.alloc (.cells #[.bool neg, .slice a' len' cap', .slice a len cap] 28)).alloc (.cells #[.bool false, .slice none 0 0, .slice none 0 0] 28)) = w0 at *
 replace HR := Lib.hid (HR.out.below hbx)
 have cA0 : w0.cell? ⟨w.heap.size, 0, none⟩ = some (.bool neg) := by subst hWW; go_simp
 have cA1 : w0.cell? ⟨w.heap.size, 1, none⟩ = some (.slice a' len' cap') := by subst hWW; go_simp
 have cA2 : w0.cell? ⟨w.heap.size, 2, none⟩ = some (.slice a len cap) := by subst hWW; go_simp
 have ltA : w.heap.size < w0.heap.size := by subst hWW; simp <;> omega
 have cR0 : w0.cell? ⟨w.heap.size + 1, 0, none⟩ = some (.bool false) := by subst hWW; go_simp
 have fR0 : w0.frozen? ⟨w.heap.size + 1, 0, none⟩ = false := by subst hWW; go_simp
 have cR1 : w0.cell? ⟨w.heap.size + 1, 1, none⟩ = some (.slice none 0 0) := by subst hWW; go_simp
 have fR1 : w0.frozen? ⟨w.heap.size + 1, 1, none⟩ = false := by subst hWW; go_simp
 have cR2 : w0.cell? ⟨w.heap.size + 1, 2, none⟩ = some (.slice none 0 0) := by subst hWW; go_simp
 have fR2 : w0.frozen? ⟨w.heap.size + 1, 2, none⟩ = false := by subst hWW; go_simp
 have ltR : w.heap.size + 1 < w0.heap.size := by subst hWW; simp
 have hB := hbx
 clear hbx hWW
 have eA0 := Gr.cell (R := w.heap.size + 1) (R2 := w.heap.size + 1) cA0 ltA (by omega) (by omega)
 have eA1 := Gr.cell (R := w.heap.size + 1) (R2 := w.heap.size + 1) cA1 ltA (by omega) (by omega)
 have eA2 := Gr.cell (R := w.heap.size + 1) (R2 := w.heap.size + 1) cA2 ltA (by omega) (by omega)
 refine wp_region_sched [(0, false), (3, false), (1, true), (2, true), (4, true), (5, true), (6, true)] (fun w' => ∃ W : Gr (w.heap.size + 1) (w.heap.size + 1) w0, w' = W.1) (by kernel_rfl) (by kernel_rfl) ⟨⟨w0.drew, below_grown (Below.refl _ _).drew⟩, rfl⟩ ?_
 repeat (refine wpSched_calm rfl (fun K hK => ?_); go_simp; refine hK _ ?_; clear hK K)
 clear eA0 eA1 eA2
 have hbx : Below w0.heap.size w0 w0.drew := (Below.refl _ _).drew
 have hM := below_grown (R := w.heap.size + 1) (R2 := w.heap.size + 1) hbx
 replace cA0 := bc hbx ltA cA0
 replace cA1 := bc hbx ltA cA1
 replace cA2 := bc hbx ltA cA2
 replace ltA := bl hbx ltA
 replace cR0 := bc hbx ltR cR0
 replace fR0 := bf hbx ltR fR0
 replace cR1 := bc hbx ltR cR1
 replace fR1 := bf hbx ltR fR1
 replace cR2 := bc hbx ltR cR2
 replace fR2 := bf hbx ltR fR2
 replace ltR := bl hbx ltR
 replace HR := Lib.hid (HR.out.below hbx)
 replace hB := hB.trans (hbx.mono hB.size)
 clear hbx
 generalize w0.drew = ww0d at *
 refine wpSched_eff rfl rfl (fun K hK => ?_)
 go_simp
 refine (ktop_any _ p q L _ HR.out hm).mono ?_
 rintro e w1 ⟨vi, rfl, hi, hb⟩
 replace cA0 := bc hb ltA cA0
 replace cA1 := bc hb ltA cA1
 replace cA2 := bc hb ltA cA2
 replace ltA := bl hb ltA
 replace cR0 := bc hb ltR cR0
 replace fR0 := bf hb ltR fR0
 replace cR1 := bc hb ltR cR1
 replace fR1 := bf hb ltR fR1
 replace cR2 := bc hb ltR cR2
 replace fR2 := bf hb ltR fR2
 replace ltR := bl hb ltR
 replace HR := Lib.hid (HR.out.below hb)
 replace hM := grown_below hM hb
 replace hB := hB.trans (hb.mono hB.size)
 have HI := Lib.hid (hi.raw L (ptN_len HRl.out.1))
 clear hi
 clear hb
 refine hK _ _ ⟨⟨w1, hM⟩, rfl⟩ ?_
 clear hK K
 refine wpSched_eff rfl rfl (fun K hK => ?_)
 go_simp
 refine (jneg_any _ _ L _ HI.out (by omega)).mono ?_
 rintro e w2 ⟨vn, rfl, hn, hb⟩
 replace cA0 := bc hb ltA cA0
 replace cA1 := bc hb ltA cA1
 replace cA2 := bc hb ltA cA2
 replace ltA := bl hb ltA
 replace cR0 := bc hb ltR cR0
 replace fR0 := bf hb ltR fR0
 replace cR1 := bc hb ltR cR1
 replace fR1 := bf hb ltR fR1
 replace cR2 := bc hb ltR cR2
 replace fR2 := bf hb ltR fR2
 replace ltR := bl hb ltR
 replace HR := Lib.hid (HR.out.below hb)
 replace HI := Lib.hid (HI.out.below hb)
 replace hM := grown_below hM hb
 replace hB := hB.trans (hb.mono hB.size)
 have HN := Lib.hid (hn.raw L (by rw [Int.natAbs_neg]; exact ptN_len HRl.out.1))
 clear hn
 clear hb
 refine hK _ _ ⟨⟨w2, hM⟩, rfl⟩ ?_
 clear hK K
 refine wpSched_eff rfl rfl (fun K hK => ?_)
 go_simp
 refine (klow_any _ p q L _ HR.out hm).mono ?_
 rintro e w3 ⟨vd, rfl, hd, hb⟩
 replace cA0 := bc hb ltA cA0
 replace cA1 := bc hb ltA cA1
 replace cA2 := bc hb ltA cA2
 replace ltA := bl hb ltA
 replace cR0 := bc hb ltR cR0
 replace fR0 := bf hb ltR fR0
 replace cR1 := bc hb ltR cR1
 replace fR1 := bf hb ltR fR1
 replace cR2 := bc hb ltR cR2
 replace fR2 := bf hb ltR fR2
 replace ltR := bl hb ltR
 replace HR := Lib.hid (HR.out.below hb)
 replace HI := Lib.hid (HI.out.below hb)
 replace HN := Lib.hid (HN.out.below hb)
 replace hM := grown_below hM hb
 replace hB := hB.trans (hb.mono hB.size)
 have HD := Lib.hid (hd.rawN (ptD_len HRl.out.2 hL))
 clear hd
 clear hb
 refine hK _ _ ⟨⟨w3, hM⟩, rfl⟩ ?_
 clear hK K
 have hs1 := ltR
 refine wpSched_eff rfl rfl (fun K hK => ?_)
 go_simp
 refine (kreduce_any _ _ _ _ L _ HN.out HD.out (ptD_ne q) hL hm).mono ?_
 rintro e w4 ⟨v4, rfl, hv4, hsz, hb⟩
 replace cA0 := bc hb ltA cA0
 replace cA1 := bc hb ltA cA1
 replace cA2 := bc hb ltA cA2
 replace ltA := bl hb ltA
 replace cR0 := bc hb ltR cR0
 replace fR0 := bf hb ltR fR0
 replace cR1 := bc hb ltR cR1
 replace fR1 := bf hb ltR fR1
 replace cR2 := bc hb ltR cR2
 replace fR2 := bf hb ltR fR2
 replace ltR := bl hb ltR
 replace HR := Lib.hid (HR.out.below hb)
 replace HI := Lib.hid (HI.out.below hb)
 replace HN := Lib.hid (HN.out.below hb)
 replace HD := Lib.hid (HD.out.below hb)
 replace hM := grown_below hM hb
 replace hB := hB.trans (hb.mono hB.size)
 rw [HS.out] at hv4 hsz
 obtain ⟨x', l', k', x, l, k, rfl, h1, h2, h3, h4⟩ := hv4
 have HSz := Lib.hid hsz
 have HFin := Lib.hid (rat_store (B := w3.heap.size) (B' := w.heap.size) (g := w.heap.size + 1) (r := -r) ⟨x', l', k', x, l, k, rfl, h1, h2, h3, h4⟩ hs1 (by omega))
 clear h1 h2 h3 h4 hsz
 generalize decide ((-r).num < 0) = dn at *
 clear hb
 refine hK _ _ ⟨⟨w4, hM⟩, rfl⟩ ?_
 clear hK K
 refine wpSched_eff rfl rfl (fun K hK => ?_)
 go_simp
 refine hK _ _ ⟨⟨_, grown_set (grown_set (grown_set hM 0 _) 1 _) 2 _⟩, rfl⟩ ?_
 clear hK K
 refine wpSched_nil ?_
 go_wp2_with fail
 exact bodyPost_ret (v := .agg #[.bool dn, .slice x' l' k', .slice x l k]) (by simp [results, Tryz.results70, go_sem, cR0, cR1, cR2]) rfl ⟨_, rfl, HFin.out, HSz.out, ((hB.setCell (p := ⟨w.heap.size + 1, 0, none⟩) (by simp) _).setCell (p := ⟨w.heap.size + 1, 1, none⟩) (by simp) _).setCell (p := ⟨w.heap.size + 1, 2, none⟩) (by simp) _⟩
set_option maxHeartbeats 4000000 in
theorem kadd_any (v u : Value) (r s : Rat) (L M : Nat) (w : World) (hv : RatV w v r L) (hu : RatV w u s M) (hL : 1 ≤ L) (hM1 : 1 ≤ M) (hm : (L + M + 1) * 4 ≤ 140737488355328) :
   Calls Tryz.prog 40 #[v, u] w fun e w' => ∃ v, e = .returned v ∧ RatN w.heap.size w' v (r + s) ∧ Rsz (r + s) (L + M + 1) ∧ Below w.heap.size w w' := by
 obtain ⟨p, q, hr, hpq⟩ := hv
 obtain ⟨p', q', hr', hpq'⟩ := hu
 have HRl := Lib.hid hr.lens
 have HRl' := Lib.hid hr'.lens
 have HS := Lib.hid (mk_add (p := ptN p q) (s := ptN p' q') (q := ptD q) (t := ptD q') (ptD_ne q) (ptD_ne q'))
 rw [mk_pt, mk_pt, hpq, hpq'] at HS
 have HR := Lib.hid hr
 have HR' := Lib.hid hr'
 have HLa := Lib.hid (int_mul_len (ptN_len (q := q) HRl.out.1) (show (digs ((ptD q' : Nat) : Int).natAbs).length ≤ M by simpa using ptD_len HRl'.out.2 hM1))
 have HLb := Lib.hid (Nat.le_trans (int_mul_len (ptN_len (q := q') HRl'.out.1) (show (digs ((ptD q : Nat) : Int).natAbs).length ≤ L by simpa using ptD_len HRl.out.2 hL)) (show M + L ≤ L + M by omega))
 obtain ⟨neg, a', len', cap', xs, a, len, cap, ys, rfl, -, -, -, -, -, -⟩ := hr
 obtain ⟨neg2, a2', len2', cap2', xs2, a2, len2, cap2, ys2, rfl, -, -, -, -, -, -⟩ := hr'
 clear hpq hpq'
 go_enter Tryz.func40, Tryz.ntmps40
 go_wp2_with fail
 have hbx : Below w.heap.size w (((w.alloc (.cells #[.bool neg, .slice a' len' cap', .slice a len cap] 28)).alloc (.cells #[.bool neg2, .slice a2' len2' cap2', .slice a2 len2 cap2] 28)).alloc (.cells #[.bool false, .slice none 0 0, .slice none 0 0] 28)) := ((((Below.refl _ _).alloc (Nat.le_refl _) _).alloc (by simp) _).alloc (by simp <;> omega) _)
 generalize hWW : (((w.alloc (.cells #[.bool neg, .slice a' len' cap', .slice a len cap] 28)).alloc (.cells #[.bool neg2, .slice a2' len2' cap2', .slice a2 len2 cap2] 28)).alloc (.cells #[.bool false, .slice none 0 0, .slice none 0 0] 28)) = w0 at *
 replace HR := Lib.hid (HR.out.below hbx)
 replace HR' := Lib.hid (HR'.out.below hbx)
 have cA0 : w0.cell? ⟨w.heap.size, 0, none⟩ = some (.bool neg) := by subst hWW; go_simp
 have cA1 : w0.cell? ⟨w.heap.size, 1, none⟩ = some (.slice a' len' cap') := by subst hWW; go_simp
 have cA2 : w0.cell? ⟨w.heap.size, 2, none⟩ = some (.slice a len cap) := by subst hWW; go_simp
 have ltA : w.heap.size < w0.heap.size := by subst hWW; simp <;> omega
 have cB0 : w0.cell? ⟨w.heap.size + 1, 0, none⟩ = some (.bool neg2) := by subst hWW; go_simp
 have cB1 : w0.cell? ⟨w.heap.size + 1, 1, none⟩ = some (.slice a2' len2' cap2') := by subst hWW; go_simp
 have cB2 : w0.cell? ⟨w.heap.size + 1, 2, none⟩ = some (.slice a2 len2 cap2) := by subst hWW; go_simp
 have ltB : w.heap.size + 1 < w0.heap.size := by subst hWW; simp <;> omega
 have cR0 : w0.cell? ⟨w.heap.size + 1 + 1, 0, none⟩ = some (.bool false) := by subst hWW; go_simp
 have fR0 : w0.frozen? ⟨w.heap.size + 1 + 1, 0, none⟩ = false := by subst hWW; go_simp
 have cR1 : w0.cell? ⟨w.heap.size + 1 + 1, 1, none⟩ = some (.slice none 0 0) := by subst hWW; go_simp
 have fR1 : w0.frozen? ⟨w.heap.size + 1 + 1, 1, none⟩ = false := by subst hWW; go_simp
 have cR2 : w0.cell? ⟨w.heap.size + 1 + 1, 2, none⟩ = some (.slice none 0 0) := by subst hWW; go_simp
 have fR2 : w0.frozen? ⟨w.heap.size + 1 + 1, 2, none⟩ = false := by subst hWW; go_simp
 have ltR : w.heap.size + 1 + 1 < w0.heap.size := by subst hWW; simp
 have hB := hbx
 clear hbx hWW
 have SCA0 := Lib.hid cA0
 have SCA1 := Lib.hid cA1
 have SCA2 := Lib.hid cA2
 have SLA := Lib.hid ltA
 have SCB0 := Lib.hid cB0
 have SCB1 := Lib.hid cB1
 have SCB2 := Lib.hid cB2
 have SLB := Lib.hid ltB
 have SCR0 := Lib.hid cR0
 have SFR0 := Lib.hid fR0
 have SCR1 := Lib.hid cR1
 have SFR1 := Lib.hid fR1
 have SCR2 := Lib.hid cR2
 have SFR2 := Lib.hid fR2
 have SLR := Lib.hid ltR
 have SHR := Lib.hid HR.out
 have SHR' := Lib.hid HR'.out
 have SB := Lib.hid hB
 have eA0 := box_ext (B := w0.heap.size) cA0 ltA
 have eA1 := box_ext (B := w0.heap.size) cA1 ltA
 have eA2 := box_ext (B := w0.heap.size) cA2 ltA
 have eB0 := box_ext (B := w0.heap.size) cB0 ltB
 have eB1 := box_ext (B := w0.heap.size) cB1 ltB
 have eB2 := box_ext (B := w0.heap.size) cB2 ltB
 have eR0 := box_ext (B := w0.heap.size) cR0 ltR
 have eR1 := box_ext (B := w0.heap.size) cR1 ltR
 have eR2 := box_ext (B := w0.heap.size) cR2 ltR
 refine wp_region_float 6 [(0, false), (2, false), (1, true), (3, true), (4, true), (5, true)] [(7, true)] (fun w' => ∃ W : Ext w0.heap.size w0, w' = W.1) _ 5 (.cells #[.bool false, .slice none 0 0] 26) w0.heap.size (by kernel_rfl) rfl rfl rfl (fun a w => by simp [execOp, go_sem]) (fun w ⟨W, e⟩ => e ▸ W.2.size) (fun w ⟨W, e⟩ => ⟨⟨_, (e ▸ W.2).alloc (e ▸ W.2.size) _⟩, rfl⟩) (by kernel_rfl) ⟨⟨w0.drew, (Below.refl _ _).drew⟩, rfl⟩ ?_
 repeat (refine wpFl_calm rfl (fun K hK => ?_); go_simp; refine hK _ ?_; clear hK K)
 clear eA0 eA1 eA2 eB0 eB1 eB2 eR0 eR1 eR2
 have hbx : Below w0.heap.size w0 w0.drew := (Below.refl _ _).drew
 have hM := hbx
 replace cA0 := bc hbx ltA cA0
 replace cA1 := bc hbx ltA cA1
 replace cA2 := bc hbx ltA cA2
 replace ltA := bl hbx ltA
 replace cB0 := bc hbx ltB cB0
 replace cB1 := bc hbx ltB cB1
 replace cB2 := bc hbx ltB cB2
 replace ltB := bl hbx ltB
 replace cR0 := bc hbx ltR cR0
 replace fR0 := bf hbx ltR fR0
 replace cR1 := bc hbx ltR cR1
 replace fR1 := bf hbx ltR fR1
 replace cR2 := bc hbx ltR cR2
 replace fR2 := bf hbx ltR fR2
 replace ltR := bl hbx ltR
 replace HR := Lib.hid (HR.out.below hbx)
 replace HR' := Lib.hid (HR'.out.below hbx)
 replace hB := hB.trans (hbx.mono hB.size)
 clear hbx
 generalize w0.drew = ww0d at *
 refine wpFl_eff rfl rfl (fun wy hC hg K hK => ?_)
 obtain ⟨⟨wz, hE⟩, hwe⟩ := hC
 change wy = wz at hwe
 subst hwe
 replace cA0 := bc hg ltA cA0
 replace cA1 := bc hg ltA cA1
 replace cA2 := bc hg ltA cA2
 replace ltA := bl hg ltA
 replace cB0 := bc hg ltB cB0
 replace cB1 := bc hg ltB cB1
 replace cB2 := bc hg ltB cB2
 replace ltB := bl hg ltB
 replace cR0 := bc hg ltR cR0
 replace fR0 := bf hg ltR fR0
 replace cR1 := bc hg ltR cR1
 replace fR1 := bf hg ltR fR1
 replace cR2 := bc hg ltR cR2
 replace fR2 := bf hg ltR fR2
 replace ltR := bl hg ltR
 replace HR := Lib.hid (HR.out.below hg)
 replace HR' := Lib.hid (HR'.out.below hg)
 replace hB := hB.trans (hg.mono hB.size)
 replace hM := hE
 clear hE hg
 go_simp
 refine (ktop_any _ p q L _ HR.out (by omega)).mono ?_
 rintro e wa1 ⟨va1, rfl, hi, hb⟩
 replace cA0 := bc hb ltA cA0
 replace cA1 := bc hb ltA cA1
 replace cA2 := bc hb ltA cA2
 replace ltA := bl hb ltA
 replace cB0 := bc hb ltB cB0
 replace cB1 := bc hb ltB cB1
 replace cB2 := bc hb ltB cB2
 replace ltB := bl hb ltB
 replace cR0 := bc hb ltR cR0
 replace fR0 := bf hb ltR fR0
 replace cR1 := bc hb ltR cR1
 replace fR1 := bf hb ltR fR1
 replace cR2 := bc hb ltR cR2
 replace fR2 := bf hb ltR fR2
 replace ltR := bl hb ltR
 replace HR := Lib.hid (HR.out.below hb)
 replace HR' := Lib.hid (HR'.out.below hb)
 replace hM := hM.trans (hb.mono hM.size)
 replace hB := hB.trans (hb.mono hB.size)
 have HI1 := Lib.hid (hi.raw L (ptN_len HRl.out.1))
 clear hi
 refine hK _ _ ⟨⟨wa1, hM⟩, rfl⟩ hb ?_
 clear hK K hb
 refine wpFl_eff rfl rfl (fun wy hC hg K hK => ?_)
 obtain ⟨⟨wz, hE⟩, hwe⟩ := hC
 change wy = wz at hwe
 subst hwe
 replace cA0 := bc hg ltA cA0
 replace cA1 := bc hg ltA cA1
 replace cA2 := bc hg ltA cA2
 replace ltA := bl hg ltA
 replace cB0 := bc hg ltB cB0
 replace cB1 := bc hg ltB cB1
 replace cB2 := bc hg ltB cB2
 replace ltB := bl hg ltB
 replace cR0 := bc hg ltR cR0
 replace fR0 := bf hg ltR fR0
 replace cR1 := bc hg ltR cR1
 replace fR1 := bf hg ltR fR1
 replace cR2 := bc hg ltR cR2
 replace fR2 := bf hg ltR fR2
 replace ltR := bl hg ltR
 replace HR := Lib.hid (HR.out.below hg)
 replace HR' := Lib.hid (HR'.out.below hg)
 replace HI1 := Lib.hid (HI1.out.below hg)
 replace hB := hB.trans (hg.mono hB.size)
 replace hM := hE
 clear hE hg
 go_simp
 refine (klow_any _ p' q' M _ HR'.out (by omega)).mono ?_
 rintro e wb1 ⟨vb1, rfl, hd, hb⟩
 replace cA0 := bc hb ltA cA0
 replace cA1 := bc hb ltA cA1
 replace cA2 := bc hb ltA cA2
 replace ltA := bl hb ltA
 replace cB0 := bc hb ltB cB0
 replace cB1 := bc hb ltB cB1
 replace cB2 := bc hb ltB cB2
 replace ltB := bl hb ltB
 replace cR0 := bc hb ltR cR0
 replace fR0 := bf hb ltR fR0
 replace cR1 := bc hb ltR cR1
 replace fR1 := bf hb ltR fR1
 replace cR2 := bc hb ltR cR2
 replace fR2 := bf hb ltR fR2
 replace ltR := bl hb ltR
 replace HR := Lib.hid (HR.out.below hb)
 replace HR' := Lib.hid (HR'.out.below hb)
 replace HI1 := Lib.hid (HI1.out.below hb)
 replace hM := hM.trans (hb.mono hM.size)
 replace hB := hB.trans (hb.mono hB.size)
 have HD1 := Lib.hid (hd.rawN (ptD_len HRl'.out.2 hM1))
 clear hd
 refine hK _ _ ⟨⟨wb1, hM⟩, rfl⟩ hb ?_
 clear hK K hb
 refine wpFl_eff rfl rfl (fun wy hC hg K hK => ?_)
 obtain ⟨⟨wz, hE⟩, hwe⟩ := hC
 change wy = wz at hwe
 subst hwe
 replace cA0 := bc hg ltA cA0
 replace cA1 := bc hg ltA cA1
 replace cA2 := bc hg ltA cA2
 replace ltA := bl hg ltA
 replace cB0 := bc hg ltB cB0
 replace cB1 := bc hg ltB cB1
 replace cB2 := bc hg ltB cB2
 replace ltB := bl hg ltB
 replace cR0 := bc hg ltR cR0
 replace fR0 := bf hg ltR fR0
 replace cR1 := bc hg ltR cR1
 replace fR1 := bf hg ltR fR1
 replace cR2 := bc hg ltR cR2
 replace fR2 := bf hg ltR fR2
 replace ltR := bl hg ltR
 replace HR := Lib.hid (HR.out.below hg)
 replace HR' := Lib.hid (HR'.out.below hg)
 replace HI1 := Lib.hid (HI1.out.below hg)
 replace HD1 := Lib.hid (HD1.out.below hg)
 replace hB := hB.trans (hg.mono hB.size)
 replace hM := hE
 clear hE hg
 go_simp
 refine (jmake_raw _ _ M _ HD1.out (by omega)).mono ?_
 rintro e wc1 ⟨vc1, rfl, hj, hb⟩
 replace cA0 := bc hb ltA cA0
 replace cA1 := bc hb ltA cA1
 replace cA2 := bc hb ltA cA2
 replace ltA := bl hb ltA
 replace cB0 := bc hb ltB cB0
 replace cB1 := bc hb ltB cB1
 replace cB2 := bc hb ltB cB2
 replace ltB := bl hb ltB
 replace cR0 := bc hb ltR cR0
 replace fR0 := bf hb ltR fR0
 replace cR1 := bc hb ltR cR1
 replace fR1 := bf hb ltR fR1
 replace cR2 := bc hb ltR cR2
 replace fR2 := bf hb ltR fR2
 replace ltR := bl hb ltR
 replace HR := Lib.hid (HR.out.below hb)
 replace HR' := Lib.hid (HR'.out.below hb)
 replace HI1 := Lib.hid (HI1.out.below hb)
 replace HD1 := Lib.hid (HD1.out.below hb)
 replace hM := hM.trans (hb.mono hM.size)
 replace hB := hB.trans (hb.mono hB.size)
 have HJ1 := Lib.hid hj
 clear hj
 refine hK _ _ ⟨⟨wc1, hM⟩, rfl⟩ hb ?_
 clear hK K hb
 refine wpFl_eff rfl rfl (fun wy hC hg K hK => ?_)
 obtain ⟨⟨wz, hE⟩, hwe⟩ := hC
 change wy = wz at hwe
 subst hwe
 replace cA0 := bc hg ltA cA0
 replace cA1 := bc hg ltA cA1
 replace cA2 := bc hg ltA cA2
 replace ltA := bl hg ltA
 replace cB0 := bc hg ltB cB0
 replace cB1 := bc hg ltB cB1
 replace cB2 := bc hg ltB cB2
 replace ltB := bl hg ltB
 replace cR0 := bc hg ltR cR0
 replace fR0 := bf hg ltR fR0
 replace cR1 := bc hg ltR cR1
 replace fR1 := bf hg ltR fR1
 replace cR2 := bc hg ltR cR2
 replace fR2 := bf hg ltR fR2
 replace ltR := bl hg ltR
 replace HR := Lib.hid (HR.out.below hg)
 replace HR' := Lib.hid (HR'.out.below hg)
 replace HI1 := Lib.hid (HI1.out.below hg)
 replace HD1 := Lib.hid (HD1.out.below hg)
 replace HJ1 := Lib.hid (HJ1.out.below hg)
 replace hB := hB.trans (hg.mono hB.size)
 replace hM := hE
 clear hE hg
 go_simp
 refine (jmul_any _ _ _ _ L M _ HI1.out HJ1.out (by omega)).mono ?_
 rintro e wd1 ⟨vd1, rfl, hx, hb⟩
 replace cA0 := bc hb ltA cA0
 replace cA1 := bc hb ltA cA1
 replace cA2 := bc hb ltA cA2
 replace ltA := bl hb ltA
 replace cB0 := bc hb ltB cB0
 replace cB1 := bc hb ltB cB1
 replace cB2 := bc hb ltB cB2
 replace ltB := bl hb ltB
 replace cR0 := bc hb ltR cR0
 replace fR0 := bf hb ltR fR0
 replace cR1 := bc hb ltR cR1
 replace fR1 := bf hb ltR fR1
 replace cR2 := bc hb ltR cR2
 replace fR2 := bf hb ltR fR2
 replace ltR := bl hb ltR
 replace HR := Lib.hid (HR.out.below hb)
 replace HR' := Lib.hid (HR'.out.below hb)
 replace HI1 := Lib.hid (HI1.out.below hb)
 replace HD1 := Lib.hid (HD1.out.below hb)
 replace HJ1 := Lib.hid (HJ1.out.below hb)
 replace hM := hM.trans (hb.mono hM.size)
 replace hB := hB.trans (hb.mono hB.size)
 have HX1 := Lib.hid (hx.raw (L + M) HLa.out)
 obtain ⟨ax1, nx1, cx1, rfl, -, -⟩ := hx
 generalize decide (ptN p q * ((ptD q' : Nat) : Int) < 0) = dx1 at *
 refine hK _ _ ⟨⟨wd1, hM⟩, rfl⟩ hb ?_
 clear hK K hb
 clear HI1 HD1 HJ1
 refine wpFl_nil fun gX wy hC hg hBk hge => ?_
 obtain ⟨⟨wz, hE⟩, hwe⟩ := hC
 change wy = wz at hwe
 subst hwe
 replace cA0 := bc hg ltA cA0
 replace cA1 := bc hg ltA cA1
 replace cA2 := bc hg ltA cA2
 replace ltA := bl hg ltA
 replace cB0 := bc hg ltB cB0
 replace cB1 := bc hg ltB cB1
 replace cB2 := bc hg ltB cB2
 replace ltB := bl hg ltB
 replace cR0 := bc hg ltR cR0
 replace fR0 := bf hg ltR fR0
 replace cR1 := bc hg ltR cR1
 replace fR1 := bf hg ltR fR1
 replace cR2 := bc hg ltR cR2
 replace fR2 := bf hg ltR fR2
 replace ltR := bl hg ltR
 replace HR := Lib.hid (HR.out.below hg)
 replace HR' := Lib.hid (HR'.out.below hg)
 replace HX1 := Lib.hid (HX1.out.below hg)
 replace hB := hB.trans (hg.mono hB.size)
 replace hM := hE
 clear hE hg
 have z0 := blk_cell hBk 0
 have y0 := blk_free hBk 0
 have z1 := blk_cell hBk 1
 have y1 := blk_free hBk 1
 simp at z0 z1
 have hgl := blk_lt hBk
 refine wpSched_eff rfl rfl (fun K hK => ?_)
 go_simp
 refine hK _ _ ⟨⟨_, ((hM.setCell (p := ⟨gX, 0, none⟩) hge _).setCell (p := ⟨gX, 1, none⟩) hge _)⟩, rfl⟩ ?_
 clear hK K
 refine wpSched_nil ?_
 have hMn := ((hM.setCell (p := ⟨gX, 0, none⟩) hge (.bool dx1)).setCell (p := ⟨gX, 1, none⟩) hge (.slice ax1 nx1 cx1))
 replace HX1 := Lib.hid (HX1.out.off hBk zInt_no 0 (.bool dx1) 1 (.slice ax1 nx1 cx1))
 replace cA0 := bc hMn SLA.out SCA0.out
 replace cA1 := bc hMn SLA.out SCA1.out
 replace cA2 := bc hMn SLA.out SCA2.out
 replace ltA := bl hMn SLA.out
 replace cB0 := bc hMn SLB.out SCB0.out
 replace cB1 := bc hMn SLB.out SCB1.out
 replace cB2 := bc hMn SLB.out SCB2.out
 replace ltB := bl hMn SLB.out
 replace cR0 := bc hMn SLR.out SCR0.out
 replace fR0 := bf hMn SLR.out SFR0.out
 replace cR1 := bc hMn SLR.out SCR1.out
 replace fR1 := bf hMn SLR.out SFR1.out
 replace cR2 := bc hMn SLR.out SCR2.out
 replace fR2 := bf hMn SLR.out SFR2.out
 replace ltR := bl hMn SLR.out
 replace HR := Lib.hid (SHR.out.below hMn)
 replace HR' := Lib.hid (SHR'.out.below hMn)
 replace hB := SB.out.trans (hMn.mono SB.out.size)
 have cX0 : ((wy.setCell ⟨gX, 0, none⟩ (.bool dx1)).setCell ⟨gX, 1, none⟩ (.slice ax1 nx1 cx1)).cell? ⟨gX, 0, none⟩ = some (.bool dx1) := by go_simp
 have cX1 : ((wy.setCell ⟨gX, 0, none⟩ (.bool dx1)).setCell ⟨gX, 1, none⟩ (.slice ax1 nx1 cx1)).cell? ⟨gX, 1, none⟩ = some (.slice ax1 nx1 cx1) := by go_simp
 have ltX : gX < ((wy.setCell ⟨gX, 0, none⟩ (.bool dx1)).setCell ⟨gX, 1, none⟩ (.slice ax1 nx1 cx1)).heap.size := by simpa using hgl
 have neXA : w.heap.size < gX := Nat.lt_of_lt_of_le SLA.out hge
 have neXB : w.heap.size + 1 < gX := Nat.lt_of_lt_of_le SLB.out hge
 have neXR : w.heap.size + 1 + 1 < gX := Nat.lt_of_lt_of_le SLR.out hge
 clear SCA0 SCA1 SCA2 SLA SCB0 SCB1 SCB2 SLB SCR0 SFR0 SCR1 SFR1 SCR2 SFR2 SLR SHR SHR' SB
 clear hMn hM hBk hgl z0 y0 z1 y1
 go_wp2_with fail
 generalize ((wy.setCell ⟨gX, 0, none⟩ (.bool dx1)).setCell ⟨gX, 1, none⟩ (.slice ax1 nx1 cx1)) = w1 at *
 have SCA0 := Lib.hid cA0
 have SCA1 := Lib.hid cA1
 have SCA2 := Lib.hid cA2
 have SLA := Lib.hid ltA
 have SCB0 := Lib.hid cB0
 have SCB1 := Lib.hid cB1
 have SCB2 := Lib.hid cB2
 have SLB := Lib.hid ltB
 have SCR0 := Lib.hid cR0
 have SFR0 := Lib.hid fR0
 have SCR1 := Lib.hid cR1
 have SFR1 := Lib.hid fR1
 have SCR2 := Lib.hid cR2
 have SFR2 := Lib.hid fR2
 have SLR := Lib.hid ltR
 have SCX0 := Lib.hid cX0
 have SCX1 := Lib.hid cX1
 have SLX := Lib.hid ltX
 have SHR := Lib.hid HR.out
 have SHR' := Lib.hid HR'.out
 have SHX1 := Lib.hid HX1.out
 have SB := Lib.hid hB
 have eA0 := box_ext (B := w1.heap.size) cA0 ltA
 have eA1 := box_ext (B := w1.heap.size) cA1 ltA
 have eA2 := box_ext (B := w1.heap.size) cA2 ltA
 have eB0 := box_ext (B := w1.heap.size) cB0 ltB
 have eB1 := box_ext (B := w1.heap.size) cB1 ltB
 have eB2 := box_ext (B := w1.heap.size) cB2 ltB
 have eR0 := box_ext (B := w1.heap.size) cR0 ltR
 have eR1 := box_ext (B := w1.heap.size) cR1 ltR
 have eR2 := box_ext (B := w1.heap.size) cR2 ltR
 have eX0 := box_ext (B := w1.heap.size) cX0 ltX
 have eX1 := box_ext (B := w1.heap.size) cX1 ltX
 refine wp_region_float 6 [(0, false), (2, false), (1, true), (3, true), (4, true), (5, true)] [(7, true)] (fun w' => ∃ W : Ext w1.heap.size w1, w' = W.1) _ 6 (.cells #[.bool false, .slice none 0 0] 26) w1.heap.size (by kernel_rfl) rfl rfl rfl (fun a w => by simp [execOp, go_sem]) (fun w ⟨W, e⟩ => e ▸ W.2.size) (fun w ⟨W, e⟩ => ⟨⟨_, (e ▸ W.2).alloc (e ▸ W.2.size) _⟩, rfl⟩) (by kernel_rfl) ⟨⟨w1.drew, (Below.refl _ _).drew⟩, rfl⟩ ?_
 repeat (refine wpFl_calm rfl (fun K hK => ?_); go_simp; refine hK _ ?_; clear hK K)
 clear eA0 eA1 eA2 eB0 eB1 eB2 eR0 eR1 eR2 eX0 eX1
 have hbx : Below w1.heap.size w1 w1.drew := (Below.refl _ _).drew
 have hM := hbx
 replace cA0 := bc hbx ltA cA0
 replace cA1 := bc hbx ltA cA1
 replace cA2 := bc hbx ltA cA2
 replace ltA := bl hbx ltA
 replace cB0 := bc hbx ltB cB0
 replace cB1 := bc hbx ltB cB1
 replace cB2 := bc hbx ltB cB2
 replace ltB := bl hbx ltB
 replace cR0 := bc hbx ltR cR0
 replace fR0 := bf hbx ltR fR0
 replace cR1 := bc hbx ltR cR1
 replace fR1 := bf hbx ltR fR1
 replace cR2 := bc hbx ltR cR2
 replace fR2 := bf hbx ltR fR2
 replace ltR := bl hbx ltR
 replace cX0 := bc hbx ltX cX0
 replace cX1 := bc hbx ltX cX1
 replace ltX := bl hbx ltX
 replace HR := Lib.hid (HR.out.below hbx)
 replace HR' := Lib.hid (HR'.out.below hbx)
 replace HX1 := Lib.hid (HX1.out.below hbx)
 replace hB := hB.trans (hbx.mono hB.size)
 clear hbx
 generalize w1.drew = ww1d at *
 refine wpFl_eff rfl rfl (fun wy hC hg K hK => ?_)
 obtain ⟨⟨wz, hE⟩, hwe⟩ := hC
 change wy = wz at hwe
 subst hwe
 replace cA0 := bc hg ltA cA0
 replace cA1 := bc hg ltA cA1
 replace cA2 := bc hg ltA cA2
 replace ltA := bl hg ltA
 replace cB0 := bc hg ltB cB0
 replace cB1 := bc hg ltB cB1
 replace cB2 := bc hg ltB cB2
 replace ltB := bl hg ltB
 replace cR0 := bc hg ltR cR0
 replace fR0 := bf hg ltR fR0
 replace cR1 := bc hg ltR cR1
 replace fR1 := bf hg ltR fR1
 replace cR2 := bc hg ltR cR2
 replace fR2 := bf hg ltR fR2
 replace ltR := bl hg ltR
 replace cX0 := bc hg ltX cX0
 replace cX1 := bc hg ltX cX1
 replace ltX := bl hg ltX
 replace HR := Lib.hid (HR.out.below hg)
 replace HR' := Lib.hid (HR'.out.below hg)
 replace HX1 := Lib.hid (HX1.out.below hg)
 replace hB := hB.trans (hg.mono hB.size)
 replace hM := hE
 clear hE hg
 go_simp
 refine (ktop_any _ p' q' M _ HR'.out (by omega)).mono ?_
 rintro e wa2 ⟨va2, rfl, hi, hb⟩
 replace cA0 := bc hb ltA cA0
 replace cA1 := bc hb ltA cA1
 replace cA2 := bc hb ltA cA2
 replace ltA := bl hb ltA
 replace cB0 := bc hb ltB cB0
 replace cB1 := bc hb ltB cB1
 replace cB2 := bc hb ltB cB2
 replace ltB := bl hb ltB
 replace cR0 := bc hb ltR cR0
 replace fR0 := bf hb ltR fR0
 replace cR1 := bc hb ltR cR1
 replace fR1 := bf hb ltR fR1
 replace cR2 := bc hb ltR cR2
 replace fR2 := bf hb ltR fR2
 replace ltR := bl hb ltR
 replace cX0 := bc hb ltX cX0
 replace cX1 := bc hb ltX cX1
 replace ltX := bl hb ltX
 replace HR := Lib.hid (HR.out.below hb)
 replace HR' := Lib.hid (HR'.out.below hb)
 replace HX1 := Lib.hid (HX1.out.below hb)
 replace hM := hM.trans (hb.mono hM.size)
 replace hB := hB.trans (hb.mono hB.size)
 have HI2 := Lib.hid (hi.raw M (ptN_len HRl'.out.1))
 clear hi
 refine hK _ _ ⟨⟨wa2, hM⟩, rfl⟩ hb ?_
 clear hK K hb
 refine wpFl_eff rfl rfl (fun wy hC hg K hK => ?_)
 obtain ⟨⟨wz, hE⟩, hwe⟩ := hC
 change wy = wz at hwe
 subst hwe
 replace cA0 := bc hg ltA cA0
 replace cA1 := bc hg ltA cA1
 replace cA2 := bc hg ltA cA2
 replace ltA := bl hg ltA
 replace cB0 := bc hg ltB cB0
 replace cB1 := bc hg ltB cB1
 replace cB2 := bc hg ltB cB2
 replace ltB := bl hg ltB
 replace cR0 := bc hg ltR cR0
 replace fR0 := bf hg ltR fR0
 replace cR1 := bc hg ltR cR1
 replace fR1 := bf hg ltR fR1
 replace cR2 := bc hg ltR cR2
 replace fR2 := bf hg ltR fR2
 replace ltR := bl hg ltR
 replace cX0 := bc hg ltX cX0
 replace cX1 := bc hg ltX cX1
 replace ltX := bl hg ltX
 replace HR := Lib.hid (HR.out.below hg)
 replace HR' := Lib.hid (HR'.out.below hg)
 replace HX1 := Lib.hid (HX1.out.below hg)
 replace HI2 := Lib.hid (HI2.out.below hg)
 replace hB := hB.trans (hg.mono hB.size)
 replace hM := hE
 clear hE hg
 go_simp
 refine (klow_any _ p q L _ HR.out (by omega)).mono ?_
 rintro e wb2 ⟨vb2, rfl, hd, hb⟩
 replace cA0 := bc hb ltA cA0
 replace cA1 := bc hb ltA cA1
 replace cA2 := bc hb ltA cA2
 replace ltA := bl hb ltA
 replace cB0 := bc hb ltB cB0
 replace cB1 := bc hb ltB cB1
 replace cB2 := bc hb ltB cB2
 replace ltB := bl hb ltB
 replace cR0 := bc hb ltR cR0
 replace fR0 := bf hb ltR fR0
 replace cR1 := bc hb ltR cR1
 replace fR1 := bf hb ltR fR1
 replace cR2 := bc hb ltR cR2
 replace fR2 := bf hb ltR fR2
 replace ltR := bl hb ltR
 replace cX0 := bc hb ltX cX0
 replace cX1 := bc hb ltX cX1
 replace ltX := bl hb ltX
 replace HR := Lib.hid (HR.out.below hb)
 replace HR' := Lib.hid (HR'.out.below hb)
 replace HX1 := Lib.hid (HX1.out.below hb)
 replace HI2 := Lib.hid (HI2.out.below hb)
 replace hM := hM.trans (hb.mono hM.size)
 replace hB := hB.trans (hb.mono hB.size)
 have HD2 := Lib.hid (hd.rawN (ptD_len HRl.out.2 hL))
 clear hd
 refine hK _ _ ⟨⟨wb2, hM⟩, rfl⟩ hb ?_
 clear hK K hb
 refine wpFl_eff rfl rfl (fun wy hC hg K hK => ?_)
 obtain ⟨⟨wz, hE⟩, hwe⟩ := hC
 change wy = wz at hwe
 subst hwe
 replace cA0 := bc hg ltA cA0
 replace cA1 := bc hg ltA cA1
 replace cA2 := bc hg ltA cA2
 replace ltA := bl hg ltA
 replace cB0 := bc hg ltB cB0
 replace cB1 := bc hg ltB cB1
 replace cB2 := bc hg ltB cB2
 replace ltB := bl hg ltB
 replace cR0 := bc hg ltR cR0
 replace fR0 := bf hg ltR fR0
 replace cR1 := bc hg ltR cR1
 replace fR1 := bf hg ltR fR1
 replace cR2 := bc hg ltR cR2
 replace fR2 := bf hg ltR fR2
 replace ltR := bl hg ltR
 replace cX0 := bc hg ltX cX0
 replace cX1 := bc hg ltX cX1
 replace ltX := bl hg ltX
 replace HR := Lib.hid (HR.out.below hg)
 replace HR' := Lib.hid (HR'.out.below hg)
 replace HX1 := Lib.hid (HX1.out.below hg)
 replace HI2 := Lib.hid (HI2.out.below hg)
 replace HD2 := Lib.hid (HD2.out.below hg)
 replace hB := hB.trans (hg.mono hB.size)
 replace hM := hE
 clear hE hg
 go_simp
 refine (jmake_raw _ _ L _ HD2.out (by omega)).mono ?_
 rintro e wc2 ⟨vc2, rfl, hj, hb⟩
 replace cA0 := bc hb ltA cA0
 replace cA1 := bc hb ltA cA1
 replace cA2 := bc hb ltA cA2
 replace ltA := bl hb ltA
 replace cB0 := bc hb ltB cB0
 replace cB1 := bc hb ltB cB1
 replace cB2 := bc hb ltB cB2
 replace ltB := bl hb ltB
 replace cR0 := bc hb ltR cR0
 replace fR0 := bf hb ltR fR0
 replace cR1 := bc hb ltR cR1
 replace fR1 := bf hb ltR fR1
 replace cR2 := bc hb ltR cR2
 replace fR2 := bf hb ltR fR2
 replace ltR := bl hb ltR
 replace cX0 := bc hb ltX cX0
 replace cX1 := bc hb ltX cX1
 replace ltX := bl hb ltX
 replace HR := Lib.hid (HR.out.below hb)
 replace HR' := Lib.hid (HR'.out.below hb)
 replace HX1 := Lib.hid (HX1.out.below hb)
 replace HI2 := Lib.hid (HI2.out.below hb)
 replace HD2 := Lib.hid (HD2.out.below hb)
 replace hM := hM.trans (hb.mono hM.size)
 replace hB := hB.trans (hb.mono hB.size)
 have HJ2 := Lib.hid hj
 clear hj
 refine hK _ _ ⟨⟨wc2, hM⟩, rfl⟩ hb ?_
 clear hK K hb
 refine wpFl_eff rfl rfl (fun wy hC hg K hK => ?_)
 obtain ⟨⟨wz, hE⟩, hwe⟩ := hC
 change wy = wz at hwe
 subst hwe
 replace cA0 := bc hg ltA cA0
 replace cA1 := bc hg ltA cA1
 replace cA2 := bc hg ltA cA2
 replace ltA := bl hg ltA
 replace cB0 := bc hg ltB cB0
 replace cB1 := bc hg ltB cB1
 replace cB2 := bc hg ltB cB2
 replace ltB := bl hg ltB
 replace cR0 := bc hg ltR cR0
 replace fR0 := bf hg ltR fR0
 replace cR1 := bc hg ltR cR1
 replace fR1 := bf hg ltR fR1
 replace cR2 := bc hg ltR cR2
 replace fR2 := bf hg ltR fR2
 replace ltR := bl hg ltR
 replace cX0 := bc hg ltX cX0
 replace cX1 := bc hg ltX cX1
 replace ltX := bl hg ltX
 replace HR := Lib.hid (HR.out.below hg)
 replace HR' := Lib.hid (HR'.out.below hg)
 replace HX1 := Lib.hid (HX1.out.below hg)
 replace HI2 := Lib.hid (HI2.out.below hg)
 replace HD2 := Lib.hid (HD2.out.below hg)
 replace HJ2 := Lib.hid (HJ2.out.below hg)
 replace hB := hB.trans (hg.mono hB.size)
 replace hM := hE
 clear hE hg
 go_simp
 refine (jmul_any _ _ _ _ M L _ HI2.out HJ2.out (by omega)).mono ?_
 rintro e wd2 ⟨vd2, rfl, hx, hb⟩
 replace cA0 := bc hb ltA cA0
 replace cA1 := bc hb ltA cA1
 replace cA2 := bc hb ltA cA2
 replace ltA := bl hb ltA
 replace cB0 := bc hb ltB cB0
 replace cB1 := bc hb ltB cB1
 replace cB2 := bc hb ltB cB2
 replace ltB := bl hb ltB
 replace cR0 := bc hb ltR cR0
 replace fR0 := bf hb ltR fR0
 replace cR1 := bc hb ltR cR1
 replace fR1 := bf hb ltR fR1
 replace cR2 := bc hb ltR cR2
 replace fR2 := bf hb ltR fR2
 replace ltR := bl hb ltR
 replace cX0 := bc hb ltX cX0
 replace cX1 := bc hb ltX cX1
 replace ltX := bl hb ltX
 replace HR := Lib.hid (HR.out.below hb)
 replace HR' := Lib.hid (HR'.out.below hb)
 replace HX1 := Lib.hid (HX1.out.below hb)
 replace HI2 := Lib.hid (HI2.out.below hb)
 replace HD2 := Lib.hid (HD2.out.below hb)
 replace HJ2 := Lib.hid (HJ2.out.below hb)
 replace hM := hM.trans (hb.mono hM.size)
 replace hB := hB.trans (hb.mono hB.size)
 have HX2 := Lib.hid (hx.raw (L + M) HLb.out)
 obtain ⟨ax2, nx2, cx2, rfl, -, -⟩ := hx
 generalize decide (ptN p' q' * ((ptD q : Nat) : Int) < 0) = dx2 at *
 refine hK _ _ ⟨⟨wd2, hM⟩, rfl⟩ hb ?_
 clear hK K hb
 clear HI2 HD2 HJ2
 refine wpFl_nil fun gY wy hC hg hBk hge => ?_
 obtain ⟨⟨wz, hE⟩, hwe⟩ := hC
 change wy = wz at hwe
 subst hwe
 replace cA0 := bc hg ltA cA0
 replace cA1 := bc hg ltA cA1
 replace cA2 := bc hg ltA cA2
 replace ltA := bl hg ltA
 replace cB0 := bc hg ltB cB0
 replace cB1 := bc hg ltB cB1
 replace cB2 := bc hg ltB cB2
 replace ltB := bl hg ltB
 replace cR0 := bc hg ltR cR0
 replace fR0 := bf hg ltR fR0
 replace cR1 := bc hg ltR cR1
 replace fR1 := bf hg ltR fR1
 replace cR2 := bc hg ltR cR2
 replace fR2 := bf hg ltR fR2
 replace ltR := bl hg ltR
 replace cX0 := bc hg ltX cX0
 replace cX1 := bc hg ltX cX1
 replace ltX := bl hg ltX
 replace HR := Lib.hid (HR.out.below hg)
 replace HR' := Lib.hid (HR'.out.below hg)
 replace HX1 := Lib.hid (HX1.out.below hg)
 replace HX2 := Lib.hid (HX2.out.below hg)
 replace hB := hB.trans (hg.mono hB.size)
 replace hM := hE
 clear hE hg
 have z0 := blk_cell hBk 0
 have y0 := blk_free hBk 0
 have z1 := blk_cell hBk 1
 have y1 := blk_free hBk 1
 simp at z0 z1
 have hgl := blk_lt hBk
 refine wpSched_eff rfl rfl (fun K hK => ?_)
 go_simp
 refine hK _ _ ⟨⟨_, ((hM.setCell (p := ⟨gY, 0, none⟩) hge _).setCell (p := ⟨gY, 1, none⟩) hge _)⟩, rfl⟩ ?_
 clear hK K
 refine wpSched_nil ?_
 have hMn := ((hM.setCell (p := ⟨gY, 0, none⟩) hge (.bool dx2)).setCell (p := ⟨gY, 1, none⟩) hge (.slice ax2 nx2 cx2))
 replace HX2 := Lib.hid (HX2.out.off hBk zInt_no 0 (.bool dx2) 1 (.slice ax2 nx2 cx2))
 replace cA0 := bc hMn SLA.out SCA0.out
 replace cA1 := bc hMn SLA.out SCA1.out
 replace cA2 := bc hMn SLA.out SCA2.out
 replace ltA := bl hMn SLA.out
 replace cB0 := bc hMn SLB.out SCB0.out
 replace cB1 := bc hMn SLB.out SCB1.out
 replace cB2 := bc hMn SLB.out SCB2.out
 replace ltB := bl hMn SLB.out
 replace cR0 := bc hMn SLR.out SCR0.out
 replace fR0 := bf hMn SLR.out SFR0.out
 replace cR1 := bc hMn SLR.out SCR1.out
 replace fR1 := bf hMn SLR.out SFR1.out
 replace cR2 := bc hMn SLR.out SCR2.out
 replace fR2 := bf hMn SLR.out SFR2.out
 replace ltR := bl hMn SLR.out
 replace cX0 := bc hMn SLX.out SCX0.out
 replace cX1 := bc hMn SLX.out SCX1.out
 replace ltX := bl hMn SLX.out
 replace HR := Lib.hid (SHR.out.below hMn)
 replace HR' := Lib.hid (SHR'.out.below hMn)
 replace HX1 := Lib.hid (SHX1.out.below hMn)
 replace hB := SB.out.trans (hMn.mono SB.out.size)
 have cY0 : ((wy.setCell ⟨gY, 0, none⟩ (.bool dx2)).setCell ⟨gY, 1, none⟩ (.slice ax2 nx2 cx2)).cell? ⟨gY, 0, none⟩ = some (.bool dx2) := by go_simp
 have cY1 : ((wy.setCell ⟨gY, 0, none⟩ (.bool dx2)).setCell ⟨gY, 1, none⟩ (.slice ax2 nx2 cx2)).cell? ⟨gY, 1, none⟩ = some (.slice ax2 nx2 cx2) := by go_simp
 have ltY : gY < ((wy.setCell ⟨gY, 0, none⟩ (.bool dx2)).setCell ⟨gY, 1, none⟩ (.slice ax2 nx2 cx2)).heap.size := by simpa using hgl
 have neYA : w.heap.size < gY := Nat.lt_of_lt_of_le SLA.out hge
 have neYB : w.heap.size + 1 < gY := Nat.lt_of_lt_of_le SLB.out hge
 have neYR : w.heap.size + 1 + 1 < gY := Nat.lt_of_lt_of_le SLR.out hge
 have neYX : gX < gY := Nat.lt_of_lt_of_le SLX.out hge
 clear SCA0 SCA1 SCA2 SLA SCB0 SCB1 SCB2 SLB SCR0 SFR0 SCR1 SFR1 SCR2 SFR2 SLR SCX0 SCX1 SLX SHR SHR' SHX1 SB
 clear hMn hM hBk hgl z0 y0 z1 y1
 go_wp2_with fail
 generalize ((wy.setCell ⟨gY, 0, none⟩ (.bool dx2)).setCell ⟨gY, 1, none⟩ (.slice ax2 nx2 cx2)) = w2 at *
 have eA0 := Gr.cell (R := w.heap.size + 1 + 1) (R2 := w.heap.size + 1 + 1) cA0 ltA (by omega) (by omega)
 have eA1 := Gr.cell (R := w.heap.size + 1 + 1) (R2 := w.heap.size + 1 + 1) cA1 ltA (by omega) (by omega)
 have eA2 := Gr.cell (R := w.heap.size + 1 + 1) (R2 := w.heap.size + 1 + 1) cA2 ltA (by omega) (by omega)
 have eB0 := Gr.cell (R := w.heap.size + 1 + 1) (R2 := w.heap.size + 1 + 1) cB0 ltB (by omega) (by omega)
 have eB1 := Gr.cell (R := w.heap.size + 1 + 1) (R2 := w.heap.size + 1 + 1) cB1 ltB (by omega) (by omega)
 have eB2 := Gr.cell (R := w.heap.size + 1 + 1) (R2 := w.heap.size + 1 + 1) cB2 ltB (by omega) (by omega)
 have eX0 := Gr.cell (R := w.heap.size + 1 + 1) (R2 := w.heap.size + 1 + 1) cX0 ltX (by omega) (by omega)
 have eX1 := Gr.cell (R := w.heap.size + 1 + 1) (R2 := w.heap.size + 1 + 1) cX1 ltX (by omega) (by omega)
 have eY0 := Gr.cell (R := w.heap.size + 1 + 1) (R2 := w.heap.size + 1 + 1) cY0 ltY (by omega) (by omega)
 have eY1 := Gr.cell (R := w.heap.size + 1 + 1) (R2 := w.heap.size + 1 + 1) cY1 ltY (by omega) (by omega)
 refine wp_region_sched [(0, false), (1, false), (3, false), (5, false), (2, true), (4, true), (6, true), (7, true), (8, true), (9, true)] (fun w' => ∃ W : Gr (w.heap.size + 1 + 1) (w.heap.size + 1 + 1) w2, w' = W.1) (by kernel_rfl) (by kernel_rfl) ⟨⟨w2.drew, below_grown (Below.refl _ _).drew⟩, rfl⟩ ?_
 repeat (refine wpSched_calm rfl (fun K hK => ?_); go_simp; refine hK _ ?_; clear hK K)
 clear eA0 eA1 eA2 eB0 eB1 eB2 eX0 eX1 eY0 eY1
 have hbx : Below w2.heap.size w2 w2.drew := (Below.refl _ _).drew
 have hM := below_grown (R := w.heap.size + 1 + 1) (R2 := w.heap.size + 1 + 1) hbx
 replace cA0 := bc hbx ltA cA0
 replace cA1 := bc hbx ltA cA1
 replace cA2 := bc hbx ltA cA2
 replace ltA := bl hbx ltA
 replace cB0 := bc hbx ltB cB0
 replace cB1 := bc hbx ltB cB1
 replace cB2 := bc hbx ltB cB2
 replace ltB := bl hbx ltB
 replace cR0 := bc hbx ltR cR0
 replace fR0 := bf hbx ltR fR0
 replace cR1 := bc hbx ltR cR1
 replace fR1 := bf hbx ltR fR1
 replace cR2 := bc hbx ltR cR2
 replace fR2 := bf hbx ltR fR2
 replace ltR := bl hbx ltR
 replace cX0 := bc hbx ltX cX0
 replace cX1 := bc hbx ltX cX1
 replace ltX := bl hbx ltX
 replace cY0 := bc hbx ltY cY0
 replace cY1 := bc hbx ltY cY1
 replace ltY := bl hbx ltY
 replace HR := Lib.hid (HR.out.below hbx)
 replace HR' := Lib.hid (HR'.out.below hbx)
 replace HX1 := Lib.hid (HX1.out.below hbx)
 replace HX2 := Lib.hid (HX2.out.below hbx)
 replace hB := hB.trans (hbx.mono hB.size)
 clear hbx
 generalize w2.drew = ww2d at *
 refine wpSched_eff rfl rfl (fun K hK => ?_)
 go_simp
 refine (jadd_any _ _ _ _ (L + M) _ HX1.out HX2.out (by omega)).mono ?_
 rintro e w3 ⟨v3, rfl, hv3, hb⟩
 replace cA0 := bc hb ltA cA0
 replace cA1 := bc hb ltA cA1
 replace cA2 := bc hb ltA cA2
 replace ltA := bl hb ltA
 replace cB0 := bc hb ltB cB0
 replace cB1 := bc hb ltB cB1
 replace cB2 := bc hb ltB cB2
 replace ltB := bl hb ltB
 replace cR0 := bc hb ltR cR0
 replace fR0 := bf hb ltR fR0
 replace cR1 := bc hb ltR cR1
 replace fR1 := bf hb ltR fR1
 replace cR2 := bc hb ltR cR2
 replace fR2 := bf hb ltR fR2
 replace ltR := bl hb ltR
 replace cX0 := bc hb ltX cX0
 replace cX1 := bc hb ltX cX1
 replace ltX := bl hb ltX
 replace cY0 := bc hb ltY cY0
 replace cY1 := bc hb ltY cY1
 replace ltY := bl hb ltY
 replace HR := Lib.hid (HR.out.below hb)
 replace HR' := Lib.hid (HR'.out.below hb)
 replace HX1 := Lib.hid (HX1.out.below hb)
 replace HX2 := Lib.hid (HX2.out.below hb)
 replace hM := grown_below hM hb
 replace hB := hB.trans (hb.mono hB.size)
 have HV3 := Lib.hid (hv3.raw (L + M + 1) (int_add_len HLa.out HLb.out))
 clear hv3
 clear hb
 refine hK _ _ ⟨⟨w3, hM⟩, rfl⟩ ?_
 clear hK K
 refine wpSched_eff rfl rfl (fun K hK => ?_)
 go_simp
 refine (klow_any _ p q L _ HR.out (by omega)).mono ?_
 rintro e w4 ⟨v4, rfl, hd, hb⟩
 replace cA0 := bc hb ltA cA0
 replace cA1 := bc hb ltA cA1
 replace cA2 := bc hb ltA cA2
 replace ltA := bl hb ltA
 replace cB0 := bc hb ltB cB0
 replace cB1 := bc hb ltB cB1
 replace cB2 := bc hb ltB cB2
 replace ltB := bl hb ltB
 replace cR0 := bc hb ltR cR0
 replace fR0 := bf hb ltR fR0
 replace cR1 := bc hb ltR cR1
 replace fR1 := bf hb ltR fR1
 replace cR2 := bc hb ltR cR2
 replace fR2 := bf hb ltR fR2
 replace ltR := bl hb ltR
 replace cX0 := bc hb ltX cX0
 replace cX1 := bc hb ltX cX1
 replace ltX := bl hb ltX
 replace cY0 := bc hb ltY cY0
 replace cY1 := bc hb ltY cY1
 replace ltY := bl hb ltY
 replace HR := Lib.hid (HR.out.below hb)
 replace HR' := Lib.hid (HR'.out.below hb)
 replace HX1 := Lib.hid (HX1.out.below hb)
 replace HX2 := Lib.hid (HX2.out.below hb)
 replace HV3 := Lib.hid (HV3.out.below hb)
 replace hM := grown_below hM hb
 replace hB := hB.trans (hb.mono hB.size)
 have HD := Lib.hid (hd.rawN (ptD_len HRl.out.2 hL))
 clear hd
 clear hb
 refine hK _ _ ⟨⟨w4, hM⟩, rfl⟩ ?_
 clear hK K
 refine wpSched_eff rfl rfl (fun K hK => ?_)
 go_simp
 refine (klow_any _ p' q' M _ HR'.out (by omega)).mono ?_
 rintro e w5 ⟨v5, rfl, hd, hb⟩
 replace cA0 := bc hb ltA cA0
 replace cA1 := bc hb ltA cA1
 replace cA2 := bc hb ltA cA2
 replace ltA := bl hb ltA
 replace cB0 := bc hb ltB cB0
 replace cB1 := bc hb ltB cB1
 replace cB2 := bc hb ltB cB2
 replace ltB := bl hb ltB
 replace cR0 := bc hb ltR cR0
 replace fR0 := bf hb ltR fR0
 replace cR1 := bc hb ltR cR1
 replace fR1 := bf hb ltR fR1
 replace cR2 := bc hb ltR cR2
 replace fR2 := bf hb ltR fR2
 replace ltR := bl hb ltR
 replace cX0 := bc hb ltX cX0
 replace cX1 := bc hb ltX cX1
 replace ltX := bl hb ltX
 replace cY0 := bc hb ltY cY0
 replace cY1 := bc hb ltY cY1
 replace ltY := bl hb ltY
 replace HR := Lib.hid (HR.out.below hb)
 replace HR' := Lib.hid (HR'.out.below hb)
 replace HX1 := Lib.hid (HX1.out.below hb)
 replace HX2 := Lib.hid (HX2.out.below hb)
 replace HV3 := Lib.hid (HV3.out.below hb)
 replace HD := Lib.hid (HD.out.below hb)
 replace hM := grown_below hM hb
 replace hB := hB.trans (hb.mono hB.size)
 have HD' := Lib.hid (hd.rawN (ptD_len HRl'.out.2 hM1))
 clear hd
 clear hb
 refine hK _ _ ⟨⟨w5, hM⟩, rfl⟩ ?_
 clear hK K
 refine wpSched_eff rfl rfl (fun K hK => ?_)
 go_simp
 refine (rmul_raw _ _ _ _ L M _ HD.out HD'.out (by omega)).mono ?_
 rintro e w6 ⟨v6, rfl, hv6, hb⟩
 replace cA0 := bc hb ltA cA0
 replace cA1 := bc hb ltA cA1
 replace cA2 := bc hb ltA cA2
 replace ltA := bl hb ltA
 replace cB0 := bc hb ltB cB0
 replace cB1 := bc hb ltB cB1
 replace cB2 := bc hb ltB cB2
 replace ltB := bl hb ltB
 replace cR0 := bc hb ltR cR0
 replace fR0 := bf hb ltR fR0
 replace cR1 := bc hb ltR cR1
 replace fR1 := bf hb ltR fR1
 replace cR2 := bc hb ltR cR2
 replace fR2 := bf hb ltR fR2
 replace ltR := bl hb ltR
 replace cX0 := bc hb ltX cX0
 replace cX1 := bc hb ltX cX1
 replace ltX := bl hb ltX
 replace cY0 := bc hb ltY cY0
 replace cY1 := bc hb ltY cY1
 replace ltY := bl hb ltY
 replace HR := Lib.hid (HR.out.below hb)
 replace HR' := Lib.hid (HR'.out.below hb)
 replace HX1 := Lib.hid (HX1.out.below hb)
 replace HX2 := Lib.hid (HX2.out.below hb)
 replace HV3 := Lib.hid (HV3.out.below hb)
 replace HD := Lib.hid (HD.out.below hb)
 replace HD' := Lib.hid (HD'.out.below hb)
 replace hM := grown_below hM hb
 replace hB := hB.trans (hb.mono hB.size)
 have HV6 := Lib.hid (hv6.mono (show L + M ≤ L + M + 1 by omega))
 clear hv6
 clear hb
 refine hK _ _ ⟨⟨w6, hM⟩, rfl⟩ ?_
 clear hK K
 have hs1 := ltR
 refine wpSched_eff rfl rfl (fun K hK => ?_)
 go_simp
 refine (kreduce_any _ _ _ _ (L + M + 1) _ HV3.out HV6.out (Nat.mul_ne_zero (ptD_ne q) (ptD_ne q')) (by omega) hm).mono ?_
 rintro e w7 ⟨v7, rfl, hv7, hsz, hb⟩
 replace cA0 := bc hb ltA cA0
 replace cA1 := bc hb ltA cA1
 replace cA2 := bc hb ltA cA2
 replace ltA := bl hb ltA
 replace cB0 := bc hb ltB cB0
 replace cB1 := bc hb ltB cB1
 replace cB2 := bc hb ltB cB2
 replace ltB := bl hb ltB
 replace cR0 := bc hb ltR cR0
 replace fR0 := bf hb ltR fR0
 replace cR1 := bc hb ltR cR1
 replace fR1 := bf hb ltR fR1
 replace cR2 := bc hb ltR cR2
 replace fR2 := bf hb ltR fR2
 replace ltR := bl hb ltR
 replace cX0 := bc hb ltX cX0
 replace cX1 := bc hb ltX cX1
 replace ltX := bl hb ltX
 replace cY0 := bc hb ltY cY0
 replace cY1 := bc hb ltY cY1
 replace ltY := bl hb ltY
 replace HR := Lib.hid (HR.out.below hb)
 replace HR' := Lib.hid (HR'.out.below hb)
 replace HX1 := Lib.hid (HX1.out.below hb)
 replace HX2 := Lib.hid (HX2.out.below hb)
 replace HV3 := Lib.hid (HV3.out.below hb)
 replace HD := Lib.hid (HD.out.below hb)
 replace HD' := Lib.hid (HD'.out.below hb)
 replace HV6 := Lib.hid (HV6.out.below hb)
 replace hM := grown_below hM hb
 replace hB := hB.trans (hb.mono hB.size)
 rw [HS.out] at hv7 hsz
 obtain ⟨x', l', k', x, l, k, rfl, h1, h2, h3, h4⟩ := hv7
 have HSz := Lib.hid hsz
 have HFin := Lib.hid (rat_store (B := w6.heap.size) (B' := w.heap.size) (g := w.heap.size + 1 + 1) (r := r + s) ⟨x', l', k', x, l, k, rfl, h1, h2, h3, h4⟩ hs1 (by omega))
 clear h1 h2 h3 h4 hsz
 generalize decide ((r + s).num < 0) = dn at *
 clear hb
 refine hK _ _ ⟨⟨w7, hM⟩, rfl⟩ ?_
 clear hK K
 refine wpSched_eff rfl rfl (fun K hK => ?_)
 go_simp
 refine hK _ _ ⟨⟨_, grown_set (grown_set (grown_set hM 0 _) 1 _) 2 _⟩, rfl⟩ ?_
 clear hK K
 refine wpSched_nil ?_
 go_wp2_with fail
 exact bodyPost_ret (v := .agg #[.bool dn, .slice x' l' k', .slice x l k]) (by simp [results, Tryz.results40, go_sem, cR0, cR1, cR2]) rfl ⟨_, rfl, HFin.out, HSz.out, ((hB.setCell (p := ⟨w.heap.size + 1 + 1, 0, none⟩) (by simp <;> omega) _).setCell (p := ⟨w.heap.size + 1 + 1, 1, none⟩) (by simp <;> omega) _).setCell (p := ⟨w.heap.size + 1 + 1, 2, none⟩) (by simp <;> omega) _⟩
set_option maxHeartbeats 2000000 in
theorem ksub_any (v u : Value) (r s : Rat) (L M : Nat) (w : World) (hv : RatV w v r L) (hu : RatV w u s M) (hL : 1 ≤ L) (hM1 : 1 ≤ M) (hm : (L + M + 1) * 4 ≤ 140737488355328) :
   Calls Tryz.prog 39 #[v, u] w fun e w' => ∃ v, e = .returned v ∧ RatN w.heap.size w' v (r - s) ∧ Rsz (r - s) (L + M + 1) ∧ Below w.heap.size w w' := by
 have HS := Lib.hid (Rat.sub_eq_add_neg r s).symm
 have HR := Lib.hid hv
 have HR' := Lib.hid hu
 obtain ⟨p, q, hr, hpq⟩ := hv
 obtain ⟨p', q', hr', hpq'⟩ := hu
 obtain ⟨neg, a', len', cap', xs, a, len, cap, ys, rfl, -, -, -, -, -, -⟩ := hr
 obtain ⟨neg2, a2', len2', cap2', xs2, a2, len2, cap2, ys2, rfl, -, -, -, -, -, -⟩ := hr'
 clear hpq hpq'
 go_enter Tryz.func39, Tryz.ntmps39
 go_wp2_with fail
 have hbx : Below w.heap.size w (((w.alloc (.cells #[.bool neg, .slice a' len' cap', .slice a len cap] 28)).alloc (.cells #[.bool neg2, .slice a2' len2' cap2', .slice a2 len2 cap2] 28)).alloc (.cells #[.bool false, .slice none 0 0, .slice none 0 0] 28)) := ((((Below.refl _ _).alloc (Nat.le_refl _) _).alloc (by simp) _).alloc (by simp <;> omega) _)
 generalize hWW : (((w.alloc (.cells #[.bool neg, .slice a' len' cap', .slice a len cap] 28)).alloc (.cells #[.bool neg2, .slice a2' len2' cap2', .slice a2 len2 cap2] 28)).alloc (.cells #[.bool false, .slice none 0 0, .slice none 0 0] 28)) = w0 at *
 replace HR := Lib.hid (HR.out.below hbx)
 replace HR' := Lib.hid (HR'.out.below hbx)
 have cA0 : w0.cell? ⟨w.heap.size, 0, none⟩ = some (.bool neg) := by subst hWW; go_simp
 have cA1 : w0.cell? ⟨w.heap.size, 1, none⟩ = some (.slice a' len' cap') := by subst hWW; go_simp
 have cA2 : w0.cell? ⟨w.heap.size, 2, none⟩ = some (.slice a len cap) := by subst hWW; go_simp
 have ltA : w.heap.size < w0.heap.size := by subst hWW; simp <;> omega
 have cB0 : w0.cell? ⟨w.heap.size + 1, 0, none⟩ = some (.bool neg2) := by subst hWW; go_simp
 have cB1 : w0.cell? ⟨w.heap.size + 1, 1, none⟩ = some (.slice a2' len2' cap2') := by subst hWW; go_simp
 have cB2 : w0.cell? ⟨w.heap.size + 1, 2, none⟩ = some (.slice a2 len2 cap2) := by subst hWW; go_simp
 have ltB : w.heap.size + 1 < w0.heap.size := by subst hWW; simp <;> omega
 have cR0 : w0.cell? ⟨w.heap.size + 1 + 1, 0, none⟩ = some (.bool false) := by subst hWW; go_simp
 have fR0 : w0.frozen? ⟨w.heap.size + 1 + 1, 0, none⟩ = false := by subst hWW; go_simp
 have cR1 : w0.cell? ⟨w.heap.size + 1 + 1, 1, none⟩ = some (.slice none 0 0) := by subst hWW; go_simp
 have fR1 : w0.frozen? ⟨w.heap.size + 1 + 1, 1, none⟩ = false := by subst hWW; go_simp
 have cR2 : w0.cell? ⟨w.heap.size + 1 + 1, 2, none⟩ = some (.slice none 0 0) := by subst hWW; go_simp
 have fR2 : w0.frozen? ⟨w.heap.size + 1 + 1, 2, none⟩ = false := by subst hWW; go_simp
 have ltR : w.heap.size + 1 + 1 < w0.heap.size := by subst hWW; simp
 have hB := hbx
 clear hbx hWW
 have eA0 := Gr.cell (R := w.heap.size + 1 + 1) (R2 := w.heap.size + 1 + 1) cA0 ltA (by omega) (by omega)
 have eA1 := Gr.cell (R := w.heap.size + 1 + 1) (R2 := w.heap.size + 1 + 1) cA1 ltA (by omega) (by omega)
 have eA2 := Gr.cell (R := w.heap.size + 1 + 1) (R2 := w.heap.size + 1 + 1) cA2 ltA (by omega) (by omega)
 have eB0 := Gr.cell (R := w.heap.size + 1 + 1) (R2 := w.heap.size + 1 + 1) cB0 ltB (by omega) (by omega)
 have eB1 := Gr.cell (R := w.heap.size + 1 + 1) (R2 := w.heap.size + 1 + 1) cB1 ltB (by omega) (by omega)
 have eB2 := Gr.cell (R := w.heap.size + 1 + 1) (R2 := w.heap.size + 1 + 1) cB2 ltB (by omega) (by omega)
 refine wp_region_sched [(0, false), (1, false), (2, true), (3, true), (4, true)] (fun w' => ∃ W : Gr (w.heap.size + 1 + 1) (w.heap.size + 1 + 1) w0, w' = W.1) (by kernel_rfl) (by kernel_rfl) ⟨⟨w0.drew, below_grown (Below.refl _ _).drew⟩, rfl⟩ ?_
 repeat (refine wpSched_calm rfl (fun K hK => ?_); go_simp; refine hK _ ?_; clear hK K)
 clear eA0 eA1 eA2 eB0 eB1 eB2
 have hbx : Below w0.heap.size w0 w0.drew := (Below.refl _ _).drew
 have hM := below_grown (R := w.heap.size + 1 + 1) (R2 := w.heap.size + 1 + 1) hbx
 replace cA0 := bc hbx ltA cA0
 replace cA1 := bc hbx ltA cA1
 replace cA2 := bc hbx ltA cA2
 replace ltA := bl hbx ltA
 replace cB0 := bc hbx ltB cB0
 replace cB1 := bc hbx ltB cB1
 replace cB2 := bc hbx ltB cB2
 replace ltB := bl hbx ltB
 replace cR0 := bc hbx ltR cR0
 replace fR0 := bf hbx ltR fR0
 replace cR1 := bc hbx ltR cR1
 replace fR1 := bf hbx ltR fR1
 replace cR2 := bc hbx ltR cR2
 replace fR2 := bf hbx ltR fR2
 replace ltR := bl hbx ltR
 replace HR := Lib.hid (HR.out.below hbx)
 replace HR' := Lib.hid (HR'.out.below hbx)
 replace hB := hB.trans (hbx.mono hB.size)
 clear hbx
 generalize w0.drew = ww0d at *
 refine wpSched_eff rfl rfl (fun K hK => ?_)
 go_simp
 refine (kneg_any _ s M _ HR'.out hM1 (by omega)).mono ?_
 rintro e w1 ⟨v1, rfl, hv1, hs1, hb⟩
 replace cA0 := bc hb ltA cA0
 replace cA1 := bc hb ltA cA1
 replace cA2 := bc hb ltA cA2
 replace ltA := bl hb ltA
 replace cB0 := bc hb ltB cB0
 replace cB1 := bc hb ltB cB1
 replace cB2 := bc hb ltB cB2
 replace ltB := bl hb ltB
 replace cR0 := bc hb ltR cR0
 replace fR0 := bf hb ltR fR0
 replace cR1 := bc hb ltR cR1
 replace fR1 := bf hb ltR fR1
 replace cR2 := bc hb ltR cR2
 replace fR2 := bf hb ltR fR2
 replace ltR := bl hb ltR
 replace HR := Lib.hid (HR.out.below hb)
 replace HR' := Lib.hid (HR'.out.below hb)
 replace hM := grown_below hM hb
 replace hB := hB.trans (hb.mono hB.size)
 have HN := Lib.hid (hv1.raw hs1)
 clear hv1 hs1
 clear hb
 refine hK _ _ ⟨⟨w1, hM⟩, rfl⟩ ?_
 clear hK K
 have hs1 := ltR
 refine wpSched_eff rfl rfl (fun K hK => ?_)
 go_simp
 refine (kadd_any _ _ r (-s) L M _ HR.out HN.out hL hM1 hm).mono ?_
 rintro e w2 ⟨v2, rfl, hv2, hsz, hb⟩
 replace cA0 := bc hb ltA cA0
 replace cA1 := bc hb ltA cA1
 replace cA2 := bc hb ltA cA2
 replace ltA := bl hb ltA
 replace cB0 := bc hb ltB cB0
 replace cB1 := bc hb ltB cB1
 replace cB2 := bc hb ltB cB2
 replace ltB := bl hb ltB
 replace cR0 := bc hb ltR cR0
 replace fR0 := bf hb ltR fR0
 replace cR1 := bc hb ltR cR1
 replace fR1 := bf hb ltR fR1
 replace cR2 := bc hb ltR cR2
 replace fR2 := bf hb ltR fR2
 replace ltR := bl hb ltR
 replace HR := Lib.hid (HR.out.below hb)
 replace HR' := Lib.hid (HR'.out.below hb)
 replace HN := Lib.hid (HN.out.below hb)
 replace hM := grown_below hM hb
 replace hB := hB.trans (hb.mono hB.size)
 rw [HS.out] at hv2 hsz
 obtain ⟨x', l', k', x, l, k, rfl, h1, h2, h3, h4⟩ := hv2
 have HSz := Lib.hid hsz
 have HFin := Lib.hid (rat_store (B := w1.heap.size) (B' := w.heap.size) (g := w.heap.size + 1 + 1) (r := r - s) ⟨x', l', k', x, l, k, rfl, h1, h2, h3, h4⟩ hs1 (by omega))
 clear h1 h2 h3 h4 hsz
 generalize decide ((r - s).num < 0) = dn at *
 clear hb
 refine hK _ _ ⟨⟨w2, hM⟩, rfl⟩ ?_
 clear hK K
 refine wpSched_eff rfl rfl (fun K hK => ?_)
 go_simp
 refine hK _ _ ⟨⟨_, grown_set (grown_set (grown_set hM 0 _) 1 _) 2 _⟩, rfl⟩ ?_
 clear hK K
 refine wpSched_nil ?_
 go_wp2_with fail
 exact bodyPost_ret (v := .agg #[.bool dn, .slice x' l' k', .slice x l k]) (by simp [results, Tryz.results39, go_sem, cR0, cR1, cR2]) rfl ⟨_, rfl, HFin.out, HSz.out, ((hB.setCell (p := ⟨w.heap.size + 1 + 1, 0, none⟩) (by simp <;> omega) _).setCell (p := ⟨w.heap.size + 1 + 1, 1, none⟩) (by simp <;> omega) _).setCell (p := ⟨w.heap.size + 1 + 1, 2, none⟩) (by simp <;> omega) _⟩
end Go.Proofs.YtahmndacoanfiaaGreat
