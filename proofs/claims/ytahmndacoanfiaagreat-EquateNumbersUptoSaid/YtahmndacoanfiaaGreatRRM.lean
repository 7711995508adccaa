/- Rounding: what the reference's Floor, places, Mode, power, Whole and up return. Condition: the limbs can be read, and take at most 2^47 bytes. · Rounding: what the reference's up returns. Condition: the limbs can be read, and take at most 2^47 bytes. · Rounding: what the reference's Round (0 places) and Integer return. Condition: the limbs can be read, and take at most 2^47 bytes. -/
import Derived.Test.YtahmndacoanfiaaGreatRIntD
import Derived.Test.YtahmndacoanfiaaGreatRRatD
import Derived.Test.YtahmndacoanfiaaGreatRnd
import Derived.Test.YtahmndacoanfiaaGreatIntU
namespace Go.Proofs.YtahmndacoanfiaaGreat
set_option maxRecDepth 100000
open Go.RowKit
set_option maxHeartbeats 2000000 in
theorem kfloor_any (v : Value) (r : Rat) (L : Nat) (w : World) (hv : RatV w v r L) (hL : 1 ≤ L) (hm : (2 * L + 1) * 4 ≤ 140737488355328) :
   Calls Tryz.prog 108 #[v] w fun e w' => ∃ v, e = .returned v ∧ IntN w.heap.size w' v r.floor ∧ (digs r.floor.natAbs).length ≤ L ∧ Below w.heap.size w w' := by
 obtain ⟨p, q, hr, hpq⟩ := hv
 have HRl := Lib.hid hr.lens
 have HS := Lib.hid (mk_floor (p := ptN p q) (ptD_ne q))
 rw [mk_pt, hpq] at HS
 have HLn := Lib.hid (ptN_len (q := q) HRl.out.1)
 have HLd := Lib.hid (show (digs ((ptD q : Nat) : Int).natAbs).length ≤ L by simpa using ptD_len HRl.out.2 hL)
 have HLf := Lib.hid (show (digs r.floor.natAbs).length ≤ L by rw [← HS.out]; exact Nat.le_trans (digs_len_le' (Int.natAbs_ediv_le_natAbs _ _)) HLn.out)
 have HR := Lib.hid hr
 obtain ⟨neg, a', len', cap', xs, a, len, cap, ys, rfl, -, -, -, -, -, -⟩ := hr
 clear hpq
 go_enter Tryz.func108, Tryz.ntmps108
 go_wp2_with fail
 have hbx : Below w.heap.size w ((w.alloc (.cells #[.bool neg, .slice a' len' cap', .slice a len cap] 28)).alloc (.cells #[.bool false, .slice none 0 0] 26)) := (((Below.refl _ _).alloc (Nat.le_refl _) _).alloc (by simp) _)
 generalize hWW : ((w.alloc (.cells #[.bool neg, .slice a' len' cap', .slice a len cap] 28)).alloc (.cells #[.bool false, .slice none 0 0] 26)) = w0 at *
 replace HR := Lib.hid (HR.out.below hbx)
 have cA0 : w0.cell? ⟨w.heap.size, 0, none⟩ = some (.bool neg) := by subst hWW; go_simp
 have cA1 : w0.cell? ⟨w.heap.size, 1, none⟩ = some (.slice a' len' cap') := by subst hWW; go_simp
 have cA2 : w0.cell? ⟨w.heap.size, 2, none⟩ = some (.slice a len cap) := by subst hWW; go_simp
 have ltA : w.heap.size < w0.heap.size := by subst hWW; simp <;> omega
 have cR0 : w0.cell? ⟨w.heap.size + 1, 0, none⟩ = some (.bool false) := by subst hWW; go_simp
 have fR0 : w0.frozen? ⟨w.heap.size + 1, 0, none⟩ = false := by subst hWW; go_simp
 have cR1 : w0.cell? ⟨w.heap.size + 1, 1, none⟩ = some (.slice none 0 0) := by subst hWW; go_simp
 have fR1 : w0.frozen? ⟨w.heap.size + 1, 1, none⟩ = false := by subst hWW; go_simp
 have ltR : w.heap.size + 1 < w0.heap.size := by subst hWW; simp
 have hB := hbx
 clear hbx hWW
 have SCA0 := Lib.hid cA0
 have SCA1 := Lib.hid cA1
 have SCA2 := Lib.hid cA2
 have SLA := Lib.hid ltA
 have SCR0 := Lib.hid cR0
 have SFR0 := Lib.hid fR0
 have SCR1 := Lib.hid cR1
 have SFR1 := Lib.hid fR1
 have SLR := Lib.hid ltR
 have SHR := Lib.hid HR.out
 have SB := Lib.hid hB
 have eA0 := box_ext (B := w0.heap.size) cA0 ltA
 have eA1 := box_ext (B := w0.heap.size) cA1 ltA
 have eA2 := box_ext (B := w0.heap.size) cA2 ltA
 have eR0 := box_ext (B := w0.heap.size) cR0 ltR
 have eR1 := box_ext (B := w0.heap.size) cR1 ltR
 refine wp_region_float2 10 11 [(0, false), (2, false), (1, true), (3, true), (4, true), (5, true), (6, false), (7, false), (8, false), (9, false)] [(12, true), (13, true), (14, false)] (fun w' => ∃ W : Ext w0.heap.size w0, w' = W.1) _ _ 3 4 (.cells #[.bool false, .slice none 0 0] 26) (.cells #[.bool false, .slice none 0 0] 26) w0.heap.size (by kernel_rfl) rfl rfl rfl rfl rfl rfl (fun a w => by simp [execOp, go_sem, ptr]) (fun a w => by simp [execOp, go_sem, ptr]) (fun w ⟨W, e⟩ => e ▸ W.2.size) (fun w ⟨W, e⟩ => ⟨⟨_, (e ▸ W.2).alloc (e ▸ W.2.size) _⟩, rfl⟩) (fun w ⟨W, e⟩ => ⟨⟨_, (e ▸ W.2).alloc (e ▸ W.2.size) _⟩, rfl⟩) (by decide) (by kernel_rfl) ⟨⟨w0.drew, (Below.refl _ _).drew⟩, rfl⟩ ?_
 repeat (refine wpFl2_calm rfl (fun K hK => ?_); go_simp; refine hK _ ?_; clear hK K)
 clear eA0 eA1 eA2 eR0 eR1
 have hbx : Below w0.heap.size w0 w0.drew := (Below.refl _ _).drew
 have hM := hbx
 replace cA0 := bc hbx ltA cA0
 replace cA1 := bc hbx ltA cA1
 replace cA2 := bc hbx ltA cA2
 replace ltA := bl hbx ltA
 replace cR0 := bc hbx ltR cR0
 replace fR0 := bf hbx ltR fR0
 replace cR1 := bc hbx ltR cR1
 replace fR1 := bf hbx ltR fR1
 replace ltR := bl hbx ltR
 replace HR := Lib.hid (HR.out.below hbx)
 replace hB := hB.trans (hbx.mono hB.size)
 clear hbx
 generalize w0.drew = ww0d at *
 refine wpFl2_eff rfl rfl (fun wy hC hg K hK => ?_)
 obtain ⟨⟨wz, hE⟩, hwe⟩ := hC
 change wy = wz at hwe
 subst hwe
 replace cA0 := bc hg ltA cA0
 replace cA1 := bc hg ltA cA1
 replace cA2 := bc hg ltA cA2
 replace ltA := bl hg ltA
 replace cR0 := bc hg ltR cR0
 replace fR0 := bf hg ltR fR0
 replace cR1 := bc hg ltR cR1
 replace fR1 := bf hg ltR fR1
 replace ltR := bl hg ltR
 replace HR := Lib.hid (HR.out.below hg)
 replace hB := hB.trans (hg.mono hB.size)
 replace hM := hE
 clear hE hg
 go_simp
 refine (ktop_any _ p q L _ HR.out (by omega)).mono ?_
 rintro e w1 ⟨v1, rfl, hi, hb⟩
 replace cA0 := bc hb ltA cA0
 replace cA1 := bc hb ltA cA1
 replace cA2 := bc hb ltA cA2
 replace ltA := bl hb ltA
 replace cR0 := bc hb ltR cR0
 replace fR0 := bf hb ltR fR0
 replace cR1 := bc hb ltR cR1
 replace fR1 := bf hb ltR fR1
 replace ltR := bl hb ltR
 replace HR := Lib.hid (HR.out.below hb)
 replace hM := hM.trans (hb.mono hM.size)
 replace hB := hB.trans (hb.mono hB.size)
 have HI := Lib.hid (hi.raw L HLn.out)
 clear hi
 refine hK _ _ ⟨⟨w1, hM⟩, rfl⟩ hb ?_
 clear hK K hb
 refine wpFl2_eff rfl rfl (fun wy hC hg K hK => ?_)
 obtain ⟨⟨wz, hE⟩, hwe⟩ := hC
 change wy = wz at hwe
 subst hwe
 replace cA0 := bc hg ltA cA0
 replace cA1 := bc hg ltA cA1
 replace cA2 := bc hg ltA cA2
 replace ltA := bl hg ltA
 replace cR0 := bc hg ltR cR0
 replace fR0 := bf hg ltR fR0
 replace cR1 := bc hg ltR cR1
 replace fR1 := bf hg ltR fR1
 replace ltR := bl hg ltR
 replace HR := Lib.hid (HR.out.below hg)
 replace HI := Lib.hid (HI.out.below hg)
 replace hB := hB.trans (hg.mono hB.size)
 replace hM := hE
 clear hE hg
 go_simp
 refine (klow_any _ p q L _ HR.out (by omega)).mono ?_
 rintro e w2 ⟨v2, rfl, hd, hb⟩
 replace cA0 := bc hb ltA cA0
 replace cA1 := bc hb ltA cA1
 replace cA2 := bc hb ltA cA2
 replace ltA := bl hb ltA
 replace cR0 := bc hb ltR cR0
 replace fR0 := bf hb ltR fR0
 replace cR1 := bc hb ltR cR1
 replace fR1 := bf hb ltR fR1
 replace ltR := bl hb ltR
 replace HR := Lib.hid (HR.out.below hb)
 replace HI := Lib.hid (HI.out.below hb)
 replace hM := hM.trans (hb.mono hM.size)
 replace hB := hB.trans (hb.mono hB.size)
 have HD := Lib.hid (hd.rawN (ptD_len HRl.out.2 hL))
 clear hd
 refine hK _ _ ⟨⟨w2, hM⟩, rfl⟩ hb ?_
 clear hK K hb
 refine wpFl2_eff rfl rfl (fun wy hC hg K hK => ?_)
 obtain ⟨⟨wz, hE⟩, hwe⟩ := hC
 change wy = wz at hwe
 subst hwe
 replace cA0 := bc hg ltA cA0
 replace cA1 := bc hg ltA cA1
 replace cA2 := bc hg ltA cA2
 replace ltA := bl hg ltA
 replace cR0 := bc hg ltR cR0
 replace fR0 := bf hg ltR fR0
 replace cR1 := bc hg ltR cR1
 replace fR1 := bf hg ltR fR1
 replace ltR := bl hg ltR
 replace HR := Lib.hid (HR.out.below hg)
 replace HI := Lib.hid (HI.out.below hg)
 replace HD := Lib.hid (HD.out.below hg)
 replace hB := hB.trans (hg.mono hB.size)
 replace hM := hE
 clear hE hg
 go_simp
 refine (jmake_raw _ _ L _ HD.out (by omega)).mono ?_
 rintro e w3 ⟨v3, rfl, hj, hb⟩
 replace cA0 := bc hb ltA cA0
 replace cA1 := bc hb ltA cA1
 replace cA2 := bc hb ltA cA2
 replace ltA := bl hb ltA
 replace cR0 := bc hb ltR cR0
 replace fR0 := bf hb ltR fR0
 replace cR1 := bc hb ltR cR1
 replace fR1 := bf hb ltR fR1
 replace ltR := bl hb ltR
 replace HR := Lib.hid (HR.out.below hb)
 replace HI := Lib.hid (HI.out.below hb)
 replace HD := Lib.hid (HD.out.below hb)
 replace hM := hM.trans (hb.mono hM.size)
 replace hB := hB.trans (hb.mono hB.size)
 have HJ := Lib.hid hj
 clear hj
 refine hK _ _ ⟨⟨w3, hM⟩, rfl⟩ hb ?_
 clear hK K hb
 refine wpFl2_eff rfl rfl (fun wy hC hg K hK => ?_)
 obtain ⟨⟨wz, hE⟩, hwe⟩ := hC
 change wy = wz at hwe
 subst hwe
 replace cA0 := bc hg ltA cA0
 replace cA1 := bc hg ltA cA1
 replace cA2 := bc hg ltA cA2
 replace ltA := bl hg ltA
 replace cR0 := bc hg ltR cR0
 replace fR0 := bf hg ltR fR0
 replace cR1 := bc hg ltR cR1
 replace fR1 := bf hg ltR fR1
 replace ltR := bl hg ltR
 replace HR := Lib.hid (HR.out.below hg)
 replace HI := Lib.hid (HI.out.below hg)
 replace HD := Lib.hid (HD.out.below hg)
 replace HJ := Lib.hid (HJ.out.below hg)
 replace hB := hB.trans (hg.mono hB.size)
 replace hM := hE
 clear hE hg
 go_simp
 have hsB' : w.heap.size + 2 ≤ wy.heap.size := ltR
 refine (jdivmod_any _ _ _ _ L _ HI.out HJ.out (by have := Nat.pos_of_ne_zero (ptD_ne q); omega) HLn.out HLd.out hm).mono ?_
 rintro e w4 ⟨vq, vs, rfl, hq, hs, hb⟩
 replace cA0 := bc hb ltA cA0
 replace cA1 := bc hb ltA cA1
 replace cA2 := bc hb ltA cA2
 replace ltA := bl hb ltA
 replace cR0 := bc hb ltR cR0
 replace fR0 := bf hb ltR fR0
 replace cR1 := bc hb ltR cR1
 replace fR1 := bf hb ltR fR1
 replace ltR := bl hb ltR
 replace HR := Lib.hid (HR.out.below hb)
 replace HI := Lib.hid (HI.out.below hb)
 replace HD := Lib.hid (HD.out.below hb)
 replace HJ := Lib.hid (HJ.out.below hb)
 replace hM := hM.trans (hb.mono hM.size)
 replace hB := hB.trans (hb.mono hB.size)
 rw [HS.out] at hq
 have HQ := Lib.hid (hq.mono hsB')
 obtain ⟨aq, nq, cq, rfl, -, -⟩ := hq
 obtain ⟨az, nz, cz, rfl, -, -⟩ := hs
 generalize decide (r.floor < 0) = dq at *
 generalize decide (ptN p q % ((ptD q : Nat) : Int) < 0) = ds at *
 refine hK _ _ ⟨⟨w4, hM⟩, rfl⟩ hb ?_
 clear hK K hb
 clear HI HD HJ
 repeat (refine wpFl2_calm rfl (fun K hK => ?_); go_simp; refine hK _ ?_; clear hK K)
 refine wpFl2_nil fun gQ gE wy hC hg hBk hBk2 hge hge2 hgn => ?_
 obtain ⟨⟨wz, hE⟩, hwe⟩ := hC
 change wy = wz at hwe
 subst hwe
 replace cA0 := bc hg ltA cA0
 replace cA1 := bc hg ltA cA1
 replace cA2 := bc hg ltA cA2
 replace ltA := bl hg ltA
 replace cR0 := bc hg ltR cR0
 replace fR0 := bf hg ltR fR0
 replace cR1 := bc hg ltR cR1
 replace fR1 := bf hg ltR fR1
 replace ltR := bl hg ltR
 replace HR := Lib.hid (HR.out.below hg)
 replace HQ := Lib.hid (HQ.out.below hg)
 replace hB := hB.trans (hg.mono hB.size)
 replace hM := hE
 clear hE hg
 have z0 := blk_cell hBk 0
 have y0 := blk_free hBk 0
 have z1 := blk_cell hBk 1
 have y1 := blk_free hBk 1
 have v0 := blk_cell hBk2 0
 have u0 := blk_free hBk2 0
 have v1 := blk_cell hBk2 1
 have u1 := blk_free hBk2 1
 simp at z0 z1 v0 v1
 have hgl := blk_lt hBk
 have hgl2 := blk_lt hBk2
 have hgn2 := Ne.symm hgn
 refine wpSched_eff rfl rfl (fun K hK => ?_)
 go_simp
 refine hK _ _ ⟨⟨_, ((hM.setCell (p := ⟨gQ, 0, none⟩) hge _).setCell (p := ⟨gQ, 1, none⟩) hge _)⟩, rfl⟩ ?_
 clear hK K
 refine wpSched_eff rfl rfl (fun K hK => ?_)
 go_simp
 refine hK _ _ ⟨⟨_, ((((hM.setCell (p := ⟨gQ, 0, none⟩) hge _).setCell (p := ⟨gQ, 1, none⟩) hge _).setCell (p := ⟨gE, 0, none⟩) hge2 _).setCell (p := ⟨gE, 1, none⟩) hge2 _)⟩, rfl⟩ ?_
 clear hK K
 repeat (refine wpSched_calm rfl (fun K hK => ?_); go_simp; refine hK _ ?_; clear hK K)
 refine wpSched_nil ?_
 have hMn := ((((hM.setCell (p := ⟨gQ, 0, none⟩) hge (.bool dq)).setCell (p := ⟨gQ, 1, none⟩) hge (.slice aq nq cq)).setCell (p := ⟨gE, 0, none⟩) hge2 (.bool ds)).setCell (p := ⟨gE, 1, none⟩) hge2 (.slice az nz cz))
 replace HQ := Lib.hid (HQ.out.off4 hBk zInt_no hBk2 zInt_no (.bool dq) (.slice aq nq cq) (.bool ds) (.slice az nz cz))
 replace cA0 := bc hMn SLA.out SCA0.out
 replace cA1 := bc hMn SLA.out SCA1.out
 replace cA2 := bc hMn SLA.out SCA2.out
 replace ltA := bl hMn SLA.out
 replace cR0 := bc hMn SLR.out SCR0.out
 replace fR0 := bf hMn SLR.out SFR0.out
 replace cR1 := bc hMn SLR.out SCR1.out
 replace fR1 := bf hMn SLR.out SFR1.out
 replace ltR := bl hMn SLR.out
 replace HR := Lib.hid (SHR.out.below hMn)
 replace hB := SB.out.trans (hMn.mono SB.out.size)
 have cQ0 : ((((wy.setCell ⟨gQ, 0, none⟩ (.bool dq)).setCell ⟨gQ, 1, none⟩ (.slice aq nq cq)).setCell ⟨gE, 0, none⟩ (.bool ds)).setCell ⟨gE, 1, none⟩ (.slice az nz cz)).cell? ⟨gQ, 0, none⟩ = some (.bool dq) := by go_simp
 have fQ0 : ((((wy.setCell ⟨gQ, 0, none⟩ (.bool dq)).setCell ⟨gQ, 1, none⟩ (.slice aq nq cq)).setCell ⟨gE, 0, none⟩ (.bool ds)).setCell ⟨gE, 1, none⟩ (.slice az nz cz)).frozen? ⟨gQ, 0, none⟩ = false := by go_simp
 have cQ1 : ((((wy.setCell ⟨gQ, 0, none⟩ (.bool dq)).setCell ⟨gQ, 1, none⟩ (.slice aq nq cq)).setCell ⟨gE, 0, none⟩ (.bool ds)).setCell ⟨gE, 1, none⟩ (.slice az nz cz)).cell? ⟨gQ, 1, none⟩ = some (.slice aq nq cq) := by go_simp
 have fQ1 : ((((wy.setCell ⟨gQ, 0, none⟩ (.bool dq)).setCell ⟨gQ, 1, none⟩ (.slice aq nq cq)).setCell ⟨gE, 0, none⟩ (.bool ds)).setCell ⟨gE, 1, none⟩ (.slice az nz cz)).frozen? ⟨gQ, 1, none⟩ = false := by go_simp
 have ltQ : gQ < ((((wy.setCell ⟨gQ, 0, none⟩ (.bool dq)).setCell ⟨gQ, 1, none⟩ (.slice aq nq cq)).setCell ⟨gE, 0, none⟩ (.bool ds)).setCell ⟨gE, 1, none⟩ (.slice az nz cz)).heap.size := by simpa using hgl
 have cE0 : ((((wy.setCell ⟨gQ, 0, none⟩ (.bool dq)).setCell ⟨gQ, 1, none⟩ (.slice aq nq cq)).setCell ⟨gE, 0, none⟩ (.bool ds)).setCell ⟨gE, 1, none⟩ (.slice az nz cz)).cell? ⟨gE, 0, none⟩ = some (.bool ds) := by go_simp
 have fE0 : ((((wy.setCell ⟨gQ, 0, none⟩ (.bool dq)).setCell ⟨gQ, 1, none⟩ (.slice aq nq cq)).setCell ⟨gE, 0, none⟩ (.bool ds)).setCell ⟨gE, 1, none⟩ (.slice az nz cz)).frozen? ⟨gE, 0, none⟩ = false := by go_simp
 have cE1 : ((((wy.setCell ⟨gQ, 0, none⟩ (.bool dq)).setCell ⟨gQ, 1, none⟩ (.slice aq nq cq)).setCell ⟨gE, 0, none⟩ (.bool ds)).setCell ⟨gE, 1, none⟩ (.slice az nz cz)).cell? ⟨gE, 1, none⟩ = some (.slice az nz cz) := by go_simp
 have fE1 : ((((wy.setCell ⟨gQ, 0, none⟩ (.bool dq)).setCell ⟨gQ, 1, none⟩ (.slice aq nq cq)).setCell ⟨gE, 0, none⟩ (.bool ds)).setCell ⟨gE, 1, none⟩ (.slice az nz cz)).frozen? ⟨gE, 1, none⟩ = false := by go_simp
 have ltE : gE < ((((wy.setCell ⟨gQ, 0, none⟩ (.bool dq)).setCell ⟨gQ, 1, none⟩ (.slice aq nq cq)).setCell ⟨gE, 0, none⟩ (.bool ds)).setCell ⟨gE, 1, none⟩ (.slice az nz cz)).heap.size := by simpa using hgl2
 have neQA : w.heap.size < gQ := Nat.lt_of_lt_of_le SLA.out hge
 have neEA : w.heap.size < gE := Nat.lt_of_lt_of_le SLA.out hge2
 have neQR : w.heap.size + 1 < gQ := Nat.lt_of_lt_of_le SLR.out hge
 have neER : w.heap.size + 1 < gE := Nat.lt_of_lt_of_le SLR.out hge2
 clear SCA0 SCA1 SCA2 SLA SCR0 SFR0 SCR1 SFR1 SLR SHR SB
 clear hMn hM hBk hBk2 hgl hgl2 z0 y0 z1 y1 v0 u0 v1 u1
 go_wp2_with fail
 generalize ((((wy.setCell ⟨gQ, 0, none⟩ (.bool dq)).setCell ⟨gQ, 1, none⟩ (.slice aq nq cq)).setCell ⟨gE, 0, none⟩ (.bool ds)).setCell ⟨gE, 1, none⟩ (.slice az nz cz)) = w5 at *
 have HFin := Lib.hid (int_store (B' := w.heap.size) (g := w.heap.size + 1) HQ.out (by omega) (by omega))
 exact bodyPost_ret (v := .agg #[.bool dq, .slice aq nq cq]) (by simp [results, Tryz.results108, go_sem, cR0, cR1]) rfl ⟨_, rfl, HFin.out, HLf.out, (hB.setCell (p := ⟨w.heap.size + 1, 0, none⟩) (by simp) _).setCell (p := ⟨w.heap.size + 1, 1, none⟩) (by simp) _⟩
theorem jplaces_zero (w : World) : Calls Tryz.prog 104 #[.int .i64 0] w fun e w' => e = .returned (.bool true) ∧ w = w' := by
 go_enter Tryz.func104, Tryz.ntmps104
 go_wp2_with fail
 go_ret
 exact ⟨rfl, rfl⟩
theorem jmode_ok (m : Int) (w : World) (h1 : 1 ≤ m) (h2 : m ≤ 7) : Calls Tryz.prog 105 #[.int .i64 m] w fun e w' => e = .returned (.bool true) ∧ w = w' := by
 go_enter Tryz.func105, Tryz.ntmps105
 go_wp2_with fail
 go_ret
 exact ⟨rfl, rfl⟩
theorem jpower_none (w : World) : Calls Tryz.prog 107 #[.int .i64 0] w fun e w' => ∃ v, e = .returned v ∧ Num w' v 1 ∧ Below w.heap.size w w' := by
 have hb0 : Below w.heap.size w (w.alloc (.cells #[.int .u32 10] 67)) := (Below.refl _ _).alloc (Nat.le_refl _) _
 go_enter Tryz.func107, Tryz.ntmps107
 go_wp2_with fail
 refine (rpow_none _ _).mono ?_
 rintro e w1 ⟨v1, rfl, hv1, hb1⟩
 have HV := Lib.hid hv1
 clear hv1
 go_wp2_with fail
 go_ret
 exact ⟨_, rfl, HV.out, hb0.trans (hb1.mono (by simp))⟩
theorem lit_one (w : World) (n : Nat) (hn : n < 4294967296) (h0 : n ≠ 0) : Limbs (w.alloc (.cells #[.int .u32 (n : Int)] 67)) (some ⟨w.heap.size, 0, none⟩) 1 1 (digs n) := by
 have hl := limbs_lit w 67 [n] (fun x hx => by simp at hx; omega) (by simp [maxLen])
 rw [digs_one hn h0]
 exact hl
set_option maxHeartbeats 1000000 in
theorem jwhole_any (v : Value) (z : Int) (L : Nat) (w : World) (hv : IntR w v z L) (hm : L * 4 ≤ 281474976710656) :
   Calls Tryz.prog 106 #[v] w fun e w' => ∃ v, e = .returned v ∧ RatN w.heap.size w' v (z : Rat) ∧ Below w.heap.size w w' := by
 have HV := Lib.hid hv
 obtain ⟨neg, a, len, cap, xs, rfl, -, -, -⟩ := hv
 go_enter Tryz.func106, Tryz.ntmps106
 go_wp2_with fail
 have hbx : Below w.heap.size w ((w.alloc (.cells #[.bool neg, .slice a len cap] 26)).alloc (.cells #[.bool false, .slice none 0 0, .slice none 0 0] 28)) := (((Below.refl _ _).alloc (Nat.le_refl _) _).alloc (by simp) _)
 generalize hWW : ((w.alloc (.cells #[.bool neg, .slice a len cap] 26)).alloc (.cells #[.bool false, .slice none 0 0, .slice none 0 0] 28)) = w0 at *
 replace HV := Lib.hid (HV.out.below hbx)
 have cA0 : w0.cell? ⟨w.heap.size, 0, none⟩ = some (.bool neg) := by subst hWW; go_simp
 have cA1 : w0.cell? ⟨w.heap.size, 1, none⟩ = some (.slice a len cap) := by subst hWW; go_simp
 have ltA : w.heap.size < w0.heap.size := by subst hWW; simp <;> omega
 have cR0 : w0.cell? ⟨w.heap.size + 1, 0, none⟩ = some (.bool false) := by subst hWW; go_simp
 have fR0 : w0.frozen? ⟨w.heap.size + 1, 0, none⟩ = false := by subst hWW; go_simp
 have cR1 : w0.cell? ⟨w.heap.size + 1, 1, none⟩ = some (.slice none 0 0) := by subst hWW; go_simp
 have fR1 : w0.frozen? ⟨w.heap.size + 1, 1, none⟩ = false := by subst hWW; go_simp
 have cR2 : w0.cell? ⟨w.heap.size + 1, 2, none⟩ = some (.slice none 0 0) := by subst hWW; go_simp
 have fR2 : w0.frozen? ⟨w.heap.size + 1, 2, none⟩ = false := by subst hWW; go_simp
 have ltR : w.heap.size + 1 < w0.heap.size := by subst hWW; simp
 have hB := hbx
 clear hbx hWW
 have hs0 := ltR
 refine (jnorm_any _ z L _ HV.out hm).mono ?_
 rintro e w1 ⟨v1, rfl, hv1, hb⟩
 replace cA0 := bc hb ltA cA0
 replace cA1 := bc hb ltA cA1
 replace ltA := bl hb ltA
 replace cR0 := bc hb ltR cR0
 replace fR0 := bf hb ltR fR0
 replace cR1 := bc hb ltR cR1
 replace fR1 := bf hb ltR fR1
 replace cR2 := bc hb ltR cR2
 replace fR2 := bf hb ltR fR2
 replace ltR := bl hb ltR
 replace HV := Lib.hid (HV.out.below hb)
 replace hB := hB.trans (hb.mono hB.size)
 have hsz := hb.size
 obtain ⟨a1, n1, c1, rfl, p1, p2⟩ := hv1
 have hl1 := lit_one (((w1.setCell ⟨w.heap.size + 1, 0, none⟩ (.bool (decide (z < 0)))).setCell ⟨w.heap.size + 1, 1, none⟩ (.slice a1 n1 c1)).setCell ⟨w.heap.size + 1, 2, none⟩ (.slice (some ⟨w1.heap.size, 0, none⟩) 1 1)) 1 (by omega) (by omega)
 rw [show (((w1.setCell ⟨w.heap.size + 1, 0, none⟩ (.bool (decide (z < 0)))).setCell ⟨w.heap.size + 1, 1, none⟩ (.slice a1 n1 c1)).setCell ⟨w.heap.size + 1, 2, none⟩ (.slice (some ⟨w1.heap.size, 0, none⟩) 1 1)).heap.size = w1.heap.size by simp] at hl1
 have HFin := Lib.hid (show RatN w.heap.size ((((w1.setCell ⟨w.heap.size + 1, 0, none⟩ (.bool (decide (z < 0)))).setCell ⟨w.heap.size + 1, 1, none⟩ (.slice a1 n1 c1)).setCell ⟨w.heap.size + 1, 2, none⟩ (.slice (some ⟨w1.heap.size, 0, none⟩) 1 1)).alloc (.cells #[.int .u32 1] 67)) (.agg #[.bool (decide (z < 0)), .slice a1 n1 c1, .slice (some ⟨w1.heap.size, 0, none⟩) 1 1]) (z : Rat) from ⟨a1, n1, c1, some ⟨w1.heap.size, 0, none⟩, 1, 1, rfl, (((p1.off (p2.off hs0) 0 _).off (p2.off hs0) 1 _).off (p2.off hs0) 2 _).below ((Below.refl _ _).alloc (Nat.le_refl _) _), p2.mono (by omega), hl1, new_at _ _ _ _ _ (by omega)⟩)
 clear p1 p2 hl1
 generalize decide (z < 0) = dn at *
 clear hb
 go_wp2_with fail
 exact bodyPost_ret (v := .agg #[.bool dn, .slice a1 n1 c1, .slice (some ⟨w1.heap.size, 0, none⟩) 1 1]) (by simp [results, Tryz.results106, go_sem, cR0, cR1, cR2, ltR]) rfl ⟨_, rfl, HFin.out, (((hB.setCell (p := ⟨w.heap.size + 1, 0, none⟩) (by simp) _).setCell (p := ⟨w.heap.size + 1, 1, none⟩) (by simp) _).setCell (p := ⟨w.heap.size + 1, 2, none⟩) (by simp) _).alloc (by simpa using hB.size) _⟩
end Go.Proofs.YtahmndacoanfiaaGreat
namespace Go.Proofs.YtahmndacoanfiaaGreat
set_option maxRecDepth 100000
open Go.RowKit
theorem half_lit (w : World) : RatV ((w.alloc (.cells #[.int .u32 1] 67)).alloc (.cells #[.int .u32 2] 67)) (.agg #[.bool false, .slice (some ⟨w.heap.size, 0, none⟩) 1 1, .slice (some ⟨w.heap.size + 1, 0, none⟩) 1 1]) (mkRat 1 2) 1 := by
 have h1 := (lit_one w 1 (by omega) (by omega)).below (w' := (w.alloc (.cells #[.int .u32 1] 67)).alloc (.cells #[.int .u32 2] 67)) ((Below.refl _ _).alloc (Nat.le_refl _) _)
 have h2 := lit_one (w.alloc (.cells #[.int .u32 1] 67)) 2 (by omega) (by omega)
 rw [show (w.alloc (.cells #[.int .u32 1] 67)).heap.size = w.heap.size + 1 by simp] at h2
 exact ⟨1, 2, ⟨false, _, 1, 1, _, _, 1, 1, _, rfl, h1, by rw [natOf_digs]; rfl, Nat.le_refl _, h2, natOf_digs _, Nat.le_refl _⟩, rfl⟩
def upX (m sr half : Int) (neg odd : Bool) : Bool := bif sr == 0 then false else upM m half neg odd
set_option maxHeartbeats 2000000 in
theorem up_zero (vx vf vr : Value) (x y : Rat) (f : Int) (B L : Nat) (w : World) (hx : RatV w vx x L) (hf : IntN B w vf f) (hy : RatV w vr y L) (hL : 1 ≤ L) (hm : (L + 1) * 4 ≤ 140737488355328) (m : Int) (hsr : rsgI y = 0) :
   Calls Tryz.prog 109 #[vx, vf, vr, .int .i64 m] w fun e w' => e = .returned (.bool (upX m (rsgI y) (rcmpI y (mkRat 1 2)) (decide (rsgI x < 0)) (oddI f))) ∧ Below w.heap.size w w' := by
 have HX := Lib.hid hx
 have HY := Lib.hid hy
 obtain ⟨p, q, hr, -⟩ := hx
 obtain ⟨p', q', hr', -⟩ := hy
 obtain ⟨neg, a', len', cap', xs, a, len, cap, ys, rfl, -, -, -, -, -, -⟩ := hr
 obtain ⟨neg2, a2', len2', cap2', xs2, a2, len2, cap2, ys2, rfl, -, -, -, -, -, -⟩ := hr'
 obtain ⟨af, nf, cf, rfl, hl, -⟩ := hf
 have hnf := hl.1
 have hlm := hl.2.2.2.1
 have hlc := hl.2.2.1
 unfold maxLen at hlm
 have HL := Lib.hid hl
 clear hl
 generalize decide (f < 0) = dn at *
 generalize hU : upX m (rsgI y) (rcmpI y (mkRat 1 2)) (decide (rsgI x < 0)) (oddI f) = U
 have HU := Lib.hid hU
 clear hU
 go_enter Tryz.func109, Tryz.ntmps109
 go_wp2_with fail
 have hbx : Below w.heap.size w (((w.alloc (.cells #[.bool neg, .slice a' len' cap', .slice a len cap] 28)).alloc (.cells #[.bool dn, .slice af nf cf] 26)).alloc (.cells #[.bool neg2, .slice a2' len2' cap2', .slice a2 len2 cap2] 28)) := ((((Below.refl _ _).alloc (Nat.le_refl _) _).alloc (by simp) _).alloc (by simp <;> omega) _)
 generalize hWW : (((w.alloc (.cells #[.bool neg, .slice a' len' cap', .slice a len cap] 28)).alloc (.cells #[.bool dn, .slice af nf cf] 26)).alloc (.cells #[.bool neg2, .slice a2' len2' cap2', .slice a2 len2 cap2] 28)) = w0 at *
 replace HX := Lib.hid (HX.out.below hbx)
 replace HY := Lib.hid (HY.out.below hbx)
 replace HL := Lib.hid (HL.out.below hbx)
 have cA0 : w0.cell? ⟨w.heap.size, 0, none⟩ = some (.bool neg) := by subst hWW; go_simp
 have cA1 : w0.cell? ⟨w.heap.size, 1, none⟩ = some (.slice a' len' cap') := by subst hWW; go_simp
 have cA2 : w0.cell? ⟨w.heap.size, 2, none⟩ = some (.slice a len cap) := by subst hWW; go_simp
 have ltA : w.heap.size < w0.heap.size := by subst hWW; simp <;> omega
 have cF0 : w0.cell? ⟨w.heap.size + 1, 0, none⟩ = some (.bool dn) := by subst hWW; go_simp
 have cF1 : w0.cell? ⟨w.heap.size + 1, 1, none⟩ = some (.slice af nf cf) := by subst hWW; go_simp
 have ltF : w.heap.size + 1 < w0.heap.size := by subst hWW; simp <;> omega
 have cC0 : w0.cell? ⟨w.heap.size + 1 + 1, 0, none⟩ = some (.bool neg2) := by subst hWW; go_simp
 have cC1 : w0.cell? ⟨w.heap.size + 1 + 1, 1, none⟩ = some (.slice a2' len2' cap2') := by subst hWW; go_simp
 have cC2 : w0.cell? ⟨w.heap.size + 1 + 1, 2, none⟩ = some (.slice a2 len2 cap2) := by subst hWW; go_simp
 have ltC : w.heap.size + 1 + 1 < w0.heap.size := by subst hWW; simp
 have hB := hbx
 clear hbx hWW
 refine (ksign_any _ y L _ HY.out (by omega)).mono ?_
 rintro e w1 ⟨rfl, hb⟩
 replace cA0 := bc hb ltA cA0
 replace cA1 := bc hb ltA cA1
 replace cA2 := bc hb ltA cA2
 replace ltA := bl hb ltA
 replace cF0 := bc hb ltF cF0
 replace cF1 := bc hb ltF cF1
 replace ltF := bl hb ltF
 replace cC0 := bc hb ltC cC0
 replace cC1 := bc hb ltC cC1
 replace cC2 := bc hb ltC cC2
 replace ltC := bl hb ltC
 replace HX := Lib.hid (HX.out.below hb)
 replace HY := Lib.hid (HY.out.below hb)
 replace HL := Lib.hid (HL.out.below hb)
 replace hB := hB.trans (hb.mono hB.size)
 rw [hsr]
 clear hb
 go_wp2_with fail
 go_ret
 exact ⟨by rw [← HU.out, hsr]; rfl, hB⟩
set_option maxHeartbeats 2000000 in
theorem up_m4 (vx vf vr : Value) (x y : Rat) (f : Int) (B L : Nat) (w : World) (hx : RatV w vx x L) (hf : IntN B w vf f) (hy : RatV w vr y L) (hL : 1 ≤ L) (hm : (L + 1) * 4 ≤ 140737488355328) (hsr : rsgI y ≠ 0) :
   Calls Tryz.prog 109 #[vx, vf, vr, .int .i64 4] w fun e w' => e = .returned (.bool (upX 4 (rsgI y) (rcmpI y (mkRat 1 2)) (decide (rsgI x < 0)) (oddI f))) ∧ Below w.heap.size w w' := by
 have HX := Lib.hid hx
 have HY := Lib.hid hy
 obtain ⟨p, q, hr, -⟩ := hx
 obtain ⟨p', q', hr', -⟩ := hy
 obtain ⟨neg, a', len', cap', xs, a, len, cap, ys, rfl, -, -, -, -, -, -⟩ := hr
 obtain ⟨neg2, a2', len2', cap2', xs2, a2, len2, cap2, ys2, rfl, -, -, -, -, -, -⟩ := hr'
 obtain ⟨af, nf, cf, rfl, hl, -⟩ := hf
 have hnf := hl.1
 have hlm := hl.2.2.2.1
 have hlc := hl.2.2.1
 unfold maxLen at hlm
 have HL := Lib.hid hl
 clear hl
 generalize decide (f < 0) = dn at *
 have hsz : (rsgI y == 0) = false := by simpa using hsr
 clear hsr
 generalize hU : upX 4 (rsgI y) (rcmpI y (mkRat 1 2)) (decide (rsgI x < 0)) (oddI f) = U
 have HU := Lib.hid ((show upM 4 (rcmpI y (mkRat 1 2)) (decide (rsgI x < 0)) (oddI f) = upX 4 (rsgI y) (rcmpI y (mkRat 1 2)) (decide (rsgI x < 0)) (oddI f) by unfold upX; rw [hsz]; rfl).trans hU)
 clear hU
 go_enter Tryz.func109, Tryz.ntmps109
 go_wp2_with fail
 have hbx : Below w.heap.size w (((w.alloc (.cells #[.bool neg, .slice a' len' cap', .slice a len cap] 28)).alloc (.cells #[.bool dn, .slice af nf cf] 26)).alloc (.cells #[.bool neg2, .slice a2' len2' cap2', .slice a2 len2 cap2] 28)) := ((((Below.refl _ _).alloc (Nat.le_refl _) _).alloc (by simp) _).alloc (by simp <;> omega) _)
 generalize hWW : (((w.alloc (.cells #[.bool neg, .slice a' len' cap', .slice a len cap] 28)).alloc (.cells #[.bool dn, .slice af nf cf] 26)).alloc (.cells #[.bool neg2, .slice a2' len2' cap2', .slice a2 len2 cap2] 28)) = w0 at *
 replace HX := Lib.hid (HX.out.below hbx)
 replace HY := Lib.hid (HY.out.below hbx)
 replace HL := Lib.hid (HL.out.below hbx)
 have cA0 : w0.cell? ⟨w.heap.size, 0, none⟩ = some (.bool neg) := by subst hWW; go_simp
 have cA1 : w0.cell? ⟨w.heap.size, 1, none⟩ = some (.slice a' len' cap') := by subst hWW; go_simp
 have cA2 : w0.cell? ⟨w.heap.size, 2, none⟩ = some (.slice a len cap) := by subst hWW; go_simp
 have ltA : w.heap.size < w0.heap.size := by subst hWW; simp <;> omega
 have cF0 : w0.cell? ⟨w.heap.size + 1, 0, none⟩ = some (.bool dn) := by subst hWW; go_simp
 have cF1 : w0.cell? ⟨w.heap.size + 1, 1, none⟩ = some (.slice af nf cf) := by subst hWW; go_simp
 have ltF : w.heap.size + 1 < w0.heap.size := by subst hWW; simp <;> omega
 have cC0 : w0.cell? ⟨w.heap.size + 1 + 1, 0, none⟩ = some (.bool neg2) := by subst hWW; go_simp
 have cC1 : w0.cell? ⟨w.heap.size + 1 + 1, 1, none⟩ = some (.slice a2' len2' cap2') := by subst hWW; go_simp
 have cC2 : w0.cell? ⟨w.heap.size + 1 + 1, 2, none⟩ = some (.slice a2 len2 cap2) := by subst hWW; go_simp
 have ltC : w.heap.size + 1 + 1 < w0.heap.size := by subst hWW; simp
 have hB := hbx
 clear hbx hWW
 refine (ksign_any _ y L _ HY.out (by omega)).mono ?_
 rintro e w1 ⟨rfl, hb⟩
 replace cA0 := bc hb ltA cA0
 replace cA1 := bc hb ltA cA1
 replace cA2 := bc hb ltA cA2
 replace ltA := bl hb ltA
 replace cF0 := bc hb ltF cF0
 replace cF1 := bc hb ltF cF1
 replace ltF := bl hb ltF
 replace cC0 := bc hb ltC cC0
 replace cC1 := bc hb ltC cC1
 replace cC2 := bc hb ltC cC2
 replace ltC := bl hb ltC
 replace HX := Lib.hid (HX.out.below hb)
 replace HY := Lib.hid (HY.out.below hb)
 replace HL := Lib.hid (HL.out.below hb)
 replace hB := hB.trans (hb.mono hB.size)
 generalize rsgI y = sr at *
 clear hb
 go_wp2_with fail
 refine (ksign_any _ x L _ HX.out (by omega)).mono ?_
 rintro e w2 ⟨rfl, hb⟩
 replace cA0 := bc hb ltA cA0
 replace cA1 := bc hb ltA cA1
 replace cA2 := bc hb ltA cA2
 replace ltA := bl hb ltA
 replace cF0 := bc hb ltF cF0
 replace cF1 := bc hb ltF cF1
 replace ltF := bl hb ltF
 replace cC0 := bc hb ltC cC0
 replace cC1 := bc hb ltC cC1
 replace cC2 := bc hb ltC cC2
 replace ltC := bl hb ltC
 replace HX := Lib.hid (HX.out.below hb)
 replace HY := Lib.hid (HY.out.below hb)
 replace HL := Lib.hid (HL.out.below hb)
 replace hB := hB.trans (hb.mono hB.size)
 clear hb
 generalize rsgI x = sx at *
 go_wp2_with fail
 go_ret
 exact ⟨by rw [← HU.out]; rfl, hB⟩
set_option maxHeartbeats 2000000 in
theorem up_m5 (vx vf vr : Value) (x y : Rat) (f : Int) (B L : Nat) (w : World) (hx : RatV w vx x L) (hf : IntN B w vf f) (hy : RatV w vr y L) (hL : 1 ≤ L) (hm : (L + 1) * 4 ≤ 140737488355328) (hsr : rsgI y ≠ 0) :
   Calls Tryz.prog 109 #[vx, vf, vr, .int .i64 5] w fun e w' => e = .returned (.bool (upX 5 (rsgI y) (rcmpI y (mkRat 1 2)) (decide (rsgI x < 0)) (oddI f))) ∧ Below w.heap.size w w' := by
 have HX := Lib.hid hx
 have HY := Lib.hid hy
 obtain ⟨p, q, hr, -⟩ := hx
 obtain ⟨p', q', hr', -⟩ := hy
 obtain ⟨neg, a', len', cap', xs, a, len, cap, ys, rfl, -, -, -, -, -, -⟩ := hr
 obtain ⟨neg2, a2', len2', cap2', xs2, a2, len2, cap2, ys2, rfl, -, -, -, -, -, -⟩ := hr'
 obtain ⟨af, nf, cf, rfl, hl, -⟩ := hf
 have hnf := hl.1
 have hlm := hl.2.2.2.1
 have hlc := hl.2.2.1
 unfold maxLen at hlm
 have HL := Lib.hid hl
 clear hl
 generalize decide (f < 0) = dn at *
 have hsz : (rsgI y == 0) = false := by simpa using hsr
 clear hsr
 generalize hU : upX 5 (rsgI y) (rcmpI y (mkRat 1 2)) (decide (rsgI x < 0)) (oddI f) = U
 have HU := Lib.hid ((show upM 5 (rcmpI y (mkRat 1 2)) (decide (rsgI x < 0)) (oddI f) = upX 5 (rsgI y) (rcmpI y (mkRat 1 2)) (decide (rsgI x < 0)) (oddI f) by unfold upX; rw [hsz]; rfl).trans hU)
 clear hU
 go_enter Tryz.func109, Tryz.ntmps109
 go_wp2_with fail
 have hbx : Below w.heap.size w (((w.alloc (.cells #[.bool neg, .slice a' len' cap', .slice a len cap] 28)).alloc (.cells #[.bool dn, .slice af nf cf] 26)).alloc (.cells #[.bool neg2, .slice a2' len2' cap2', .slice a2 len2 cap2] 28)) := ((((Below.refl _ _).alloc (Nat.le_refl _) _).alloc (by simp) _).alloc (by simp <;> omega) _)
 generalize hWW : (((w.alloc (.cells #[.bool neg, .slice a' len' cap', .slice a len cap] 28)).alloc (.cells #[.bool dn, .slice af nf cf] 26)).alloc (.cells #[.bool neg2, .slice a2' len2' cap2', .slice a2 len2 cap2] 28)) = w0 at *
 replace HX := Lib.hid (HX.out.below hbx)
 replace HY := Lib.hid (HY.out.below hbx)
 replace HL := Lib.hid (HL.out.below hbx)
 have cA0 : w0.cell? ⟨w.heap.size, 0, none⟩ = some (.bool neg) := by subst hWW; go_simp
 have cA1 : w0.cell? ⟨w.heap.size, 1, none⟩ = some (.slice a' len' cap') := by subst hWW; go_simp
 have cA2 : w0.cell? ⟨w.heap.size, 2, none⟩ = some (.slice a len cap) := by subst hWW; go_simp
 have ltA : w.heap.size < w0.heap.size := by subst hWW; simp <;> omega
 have cF0 : w0.cell? ⟨w.heap.size + 1, 0, none⟩ = some (.bool dn) := by subst hWW; go_simp
 have cF1 : w0.cell? ⟨w.heap.size + 1, 1, none⟩ = some (.slice af nf cf) := by subst hWW; go_simp
 have ltF : w.heap.size + 1 < w0.heap.size := by subst hWW; simp <;> omega
 have cC0 : w0.cell? ⟨w.heap.size + 1 + 1, 0, none⟩ = some (.bool neg2) := by subst hWW; go_simp
 have cC1 : w0.cell? ⟨w.heap.size + 1 + 1, 1, none⟩ = some (.slice a2' len2' cap2') := by subst hWW; go_simp
 have cC2 : w0.cell? ⟨w.heap.size + 1 + 1, 2, none⟩ = some (.slice a2 len2 cap2) := by subst hWW; go_simp
 have ltC : w.heap.size + 1 + 1 < w0.heap.size := by subst hWW; simp
 have hB := hbx
 clear hbx hWW
 refine (ksign_any _ y L _ HY.out (by omega)).mono ?_
 rintro e w1 ⟨rfl, hb⟩
 replace cA0 := bc hb ltA cA0
 replace cA1 := bc hb ltA cA1
 replace cA2 := bc hb ltA cA2
 replace ltA := bl hb ltA
 replace cF0 := bc hb ltF cF0
 replace cF1 := bc hb ltF cF1
 replace ltF := bl hb ltF
 replace cC0 := bc hb ltC cC0
 replace cC1 := bc hb ltC cC1
 replace cC2 := bc hb ltC cC2
 replace ltC := bl hb ltC
 replace HX := Lib.hid (HX.out.below hb)
 replace HY := Lib.hid (HY.out.below hb)
 replace HL := Lib.hid (HL.out.below hb)
 replace hB := hB.trans (hb.mono hB.size)
 generalize rsgI y = sr at *
 clear hb
 go_wp2_with fail
 refine (ksign_any _ x L _ HX.out (by omega)).mono ?_
 rintro e w2 ⟨rfl, hb⟩
 replace cA0 := bc hb ltA cA0
 replace cA1 := bc hb ltA cA1
 replace cA2 := bc hb ltA cA2
 replace ltA := bl hb ltA
 replace cF0 := bc hb ltF cF0
 replace cF1 := bc hb ltF cF1
 replace ltF := bl hb ltF
 replace cC0 := bc hb ltC cC0
 replace cC1 := bc hb ltC cC1
 replace cC2 := bc hb ltC cC2
 replace ltC := bl hb ltC
 replace HX := Lib.hid (HX.out.below hb)
 replace HY := Lib.hid (HY.out.below hb)
 replace HL := Lib.hid (HL.out.below hb)
 replace hB := hB.trans (hb.mono hB.size)
 clear hb
 generalize rsgI x = sx at *
 go_wp2_with fail
 go_ret
 exact ⟨by rw [← HU.out]; rfl, hB⟩
set_option maxHeartbeats 2000000 in
theorem up_m6 (vx vf vr : Value) (x y : Rat) (f : Int) (B L : Nat) (w : World) (hx : RatV w vx x L) (hf : IntN B w vf f) (hy : RatV w vr y L) (hL : 1 ≤ L) (hm : (L + 1) * 4 ≤ 140737488355328) (hsr : rsgI y ≠ 0) :
   Calls Tryz.prog 109 #[vx, vf, vr, .int .i64 6] w fun e w' => e = .returned (.bool (upX 6 (rsgI y) (rcmpI y (mkRat 1 2)) (decide (rsgI x < 0)) (oddI f))) ∧ Below w.heap.size w w' := by
 have HX := Lib.hid hx
 have HY := Lib.hid hy
 obtain ⟨p, q, hr, -⟩ := hx
 obtain ⟨p', q', hr', -⟩ := hy
 obtain ⟨neg, a', len', cap', xs, a, len, cap, ys, rfl, -, -, -, -, -, -⟩ := hr
 obtain ⟨neg2, a2', len2', cap2', xs2, a2, len2, cap2, ys2, rfl, -, -, -, -, -, -⟩ := hr'
 obtain ⟨af, nf, cf, rfl, hl, -⟩ := hf
 have hnf := hl.1
 have hlm := hl.2.2.2.1
 have hlc := hl.2.2.1
 unfold maxLen at hlm
 have HL := Lib.hid hl
 clear hl
 generalize decide (f < 0) = dn at *
 have hsz : (rsgI y == 0) = false := by simpa using hsr
 clear hsr
 generalize hU : upX 6 (rsgI y) (rcmpI y (mkRat 1 2)) (decide (rsgI x < 0)) (oddI f) = U
 have HU := Lib.hid ((show upM 6 (rcmpI y (mkRat 1 2)) (decide (rsgI x < 0)) (oddI f) = upX 6 (rsgI y) (rcmpI y (mkRat 1 2)) (decide (rsgI x < 0)) (oddI f) by unfold upX; rw [hsz]; rfl).trans hU)
 clear hU
 go_enter Tryz.func109, Tryz.ntmps109
 go_wp2_with fail
 have hbx : Below w.heap.size w (((w.alloc (.cells #[.bool neg, .slice a' len' cap', .slice a len cap] 28)).alloc (.cells #[.bool dn, .slice af nf cf] 26)).alloc (.cells #[.bool neg2, .slice a2' len2' cap2', .slice a2 len2 cap2] 28)) := ((((Below.refl _ _).alloc (Nat.le_refl _) _).alloc (by simp) _).alloc (by simp <;> omega) _)
 generalize hWW : (((w.alloc (.cells #[.bool neg, .slice a' len' cap', .slice a len cap] 28)).alloc (.cells #[.bool dn, .slice af nf cf] 26)).alloc (.cells #[.bool neg2, .slice a2' len2' cap2', .slice a2 len2 cap2] 28)) = w0 at *
 replace HX := Lib.hid (HX.out.below hbx)
 replace HY := Lib.hid (HY.out.below hbx)
 replace HL := Lib.hid (HL.out.below hbx)
 have cA0 : w0.cell? ⟨w.heap.size, 0, none⟩ = some (.bool neg) := by subst hWW; go_simp
 have cA1 : w0.cell? ⟨w.heap.size, 1, none⟩ = some (.slice a' len' cap') := by subst hWW; go_simp
 have cA2 : w0.cell? ⟨w.heap.size, 2, none⟩ = some (.slice a len cap) := by subst hWW; go_simp
 have ltA : w.heap.size < w0.heap.size := by subst hWW; simp <;> omega
 have cF0 : w0.cell? ⟨w.heap.size + 1, 0, none⟩ = some (.bool dn) := by subst hWW; go_simp
 have cF1 : w0.cell? ⟨w.heap.size + 1, 1, none⟩ = some (.slice af nf cf) := by subst hWW; go_simp
 have ltF : w.heap.size + 1 < w0.heap.size := by subst hWW; simp <;> omega
 have cC0 : w0.cell? ⟨w.heap.size + 1 + 1, 0, none⟩ = some (.bool neg2) := by subst hWW; go_simp
 have cC1 : w0.cell? ⟨w.heap.size + 1 + 1, 1, none⟩ = some (.slice a2' len2' cap2') := by subst hWW; go_simp
 have cC2 : w0.cell? ⟨w.heap.size + 1 + 1, 2, none⟩ = some (.slice a2 len2 cap2) := by subst hWW; go_simp
 have ltC : w.heap.size + 1 + 1 < w0.heap.size := by subst hWW; simp
 have hB := hbx
 clear hbx hWW
 refine (ksign_any _ y L _ HY.out (by omega)).mono ?_
 rintro e w1 ⟨rfl, hb⟩
 replace cA0 := bc hb ltA cA0
 replace cA1 := bc hb ltA cA1
 replace cA2 := bc hb ltA cA2
 replace ltA := bl hb ltA
 replace cF0 := bc hb ltF cF0
 replace cF1 := bc hb ltF cF1
 replace ltF := bl hb ltF
 replace cC0 := bc hb ltC cC0
 replace cC1 := bc hb ltC cC1
 replace cC2 := bc hb ltC cC2
 replace ltC := bl hb ltC
 replace HX := Lib.hid (HX.out.below hb)
 replace HY := Lib.hid (HY.out.below hb)
 replace HL := Lib.hid (HL.out.below hb)
 replace hB := hB.trans (hb.mono hB.size)
 generalize rsgI y = sr at *
 clear hb
 go_wp2_with fail
 refine (ksign_any _ x L _ HX.out (by omega)).mono ?_
 rintro e w2 ⟨rfl, hb⟩
 replace cA0 := bc hb ltA cA0
 replace cA1 := bc hb ltA cA1
 replace cA2 := bc hb ltA cA2
 replace ltA := bl hb ltA
 replace cF0 := bc hb ltF cF0
 replace cF1 := bc hb ltF cF1
 replace ltF := bl hb ltF
 replace cC0 := bc hb ltC cC0
 replace cC1 := bc hb ltC cC1
 replace cC2 := bc hb ltC cC2
 replace ltC := bl hb ltC
 replace HX := Lib.hid (HX.out.below hb)
 replace HY := Lib.hid (HY.out.below hb)
 replace HL := Lib.hid (HL.out.below hb)
 replace hB := hB.trans (hb.mono hB.size)
 clear hb
 generalize rsgI x = sx at *
 go_wp2_with fail
 go_ret
 exact ⟨by rw [← HU.out]; rfl, hB⟩
set_option maxHeartbeats 2000000 in
theorem up_m7 (vx vf vr : Value) (x y : Rat) (f : Int) (B L : Nat) (w : World) (hx : RatV w vx x L) (hf : IntN B w vf f) (hy : RatV w vr y L) (hL : 1 ≤ L) (hm : (L + 1) * 4 ≤ 140737488355328) (hsr : rsgI y ≠ 0) :
   Calls Tryz.prog 109 #[vx, vf, vr, .int .i64 7] w fun e w' => e = .returned (.bool (upX 7 (rsgI y) (rcmpI y (mkRat 1 2)) (decide (rsgI x < 0)) (oddI f))) ∧ Below w.heap.size w w' := by
 have HX := Lib.hid hx
 have HY := Lib.hid hy
 obtain ⟨p, q, hr, -⟩ := hx
 obtain ⟨p', q', hr', -⟩ := hy
 obtain ⟨neg, a', len', cap', xs, a, len, cap, ys, rfl, -, -, -, -, -, -⟩ := hr
 obtain ⟨neg2, a2', len2', cap2', xs2, a2, len2, cap2, ys2, rfl, -, -, -, -, -, -⟩ := hr'
 obtain ⟨af, nf, cf, rfl, hl, -⟩ := hf
 have hnf := hl.1
 have hlm := hl.2.2.2.1
 have hlc := hl.2.2.1
 unfold maxLen at hlm
 have HL := Lib.hid hl
 clear hl
 generalize decide (f < 0) = dn at *
 have hsz : (rsgI y == 0) = false := by simpa using hsr
 clear hsr
 generalize hU : upX 7 (rsgI y) (rcmpI y (mkRat 1 2)) (decide (rsgI x < 0)) (oddI f) = U
 have HU := Lib.hid ((show upM 7 (rcmpI y (mkRat 1 2)) (decide (rsgI x < 0)) (oddI f) = upX 7 (rsgI y) (rcmpI y (mkRat 1 2)) (decide (rsgI x < 0)) (oddI f) by unfold upX; rw [hsz]; rfl).trans hU)
 clear hU
 go_enter Tryz.func109, Tryz.ntmps109
 go_wp2_with fail
 have hbx : Below w.heap.size w (((w.alloc (.cells #[.bool neg, .slice a' len' cap', .slice a len cap] 28)).alloc (.cells #[.bool dn, .slice af nf cf] 26)).alloc (.cells #[.bool neg2, .slice a2' len2' cap2', .slice a2 len2 cap2] 28)) := ((((Below.refl _ _).alloc (Nat.le_refl _) _).alloc (by simp) _).alloc (by simp <;> omega) _)
 generalize hWW : (((w.alloc (.cells #[.bool neg, .slice a' len' cap', .slice a len cap] 28)).alloc (.cells #[.bool dn, .slice af nf cf] 26)).alloc (.cells #[.bool neg2, .slice a2' len2' cap2', .slice a2 len2 cap2] 28)) = w0 at *
 replace HX := Lib.hid (HX.out.below hbx)
 replace HY := Lib.hid (HY.out.below hbx)
 replace HL := Lib.hid (HL.out.below hbx)
 have cA0 : w0.cell? ⟨w.heap.size, 0, none⟩ = some (.bool neg) := by subst hWW; go_simp
 have cA1 : w0.cell? ⟨w.heap.size, 1, none⟩ = some (.slice a' len' cap') := by subst hWW; go_simp
 have cA2 : w0.cell? ⟨w.heap.size, 2, none⟩ = some (.slice a len cap) := by subst hWW; go_simp
 have ltA : w.heap.size < w0.heap.size := by subst hWW; simp <;> omega
 have cF0 : w0.cell? ⟨w.heap.size + 1, 0, none⟩ = some (.bool dn) := by subst hWW; go_simp
 have cF1 : w0.cell? ⟨w.heap.size + 1, 1, none⟩ = some (.slice af nf cf) := by subst hWW; go_simp
 have ltF : w.heap.size + 1 < w0.heap.size := by subst hWW; simp <;> omega
 have cC0 : w0.cell? ⟨w.heap.size + 1 + 1, 0, none⟩ = some (.bool neg2) := by subst hWW; go_simp
 have cC1 : w0.cell? ⟨w.heap.size + 1 + 1, 1, none⟩ = some (.slice a2' len2' cap2') := by subst hWW; go_simp
 have cC2 : w0.cell? ⟨w.heap.size + 1 + 1, 2, none⟩ = some (.slice a2 len2 cap2) := by subst hWW; go_simp
 have ltC : w.heap.size + 1 + 1 < w0.heap.size := by subst hWW; simp
 have hB := hbx
 clear hbx hWW
 refine (ksign_any _ y L _ HY.out (by omega)).mono ?_
 rintro e w1 ⟨rfl, hb⟩
 replace cA0 := bc hb ltA cA0
 replace cA1 := bc hb ltA cA1
 replace cA2 := bc hb ltA cA2
 replace ltA := bl hb ltA
 replace cF0 := bc hb ltF cF0
 replace cF1 := bc hb ltF cF1
 replace ltF := bl hb ltF
 replace cC0 := bc hb ltC cC0
 replace cC1 := bc hb ltC cC1
 replace cC2 := bc hb ltC cC2
 replace ltC := bl hb ltC
 replace HX := Lib.hid (HX.out.below hb)
 replace HY := Lib.hid (HY.out.below hb)
 replace HL := Lib.hid (HL.out.below hb)
 replace hB := hB.trans (hb.mono hB.size)
 generalize rsgI y = sr at *
 clear hb
 go_wp2_with fail
 refine (ksign_any _ x L _ HX.out (by omega)).mono ?_
 rintro e w2 ⟨rfl, hb⟩
 replace cA0 := bc hb ltA cA0
 replace cA1 := bc hb ltA cA1
 replace cA2 := bc hb ltA cA2
 replace ltA := bl hb ltA
 replace cF0 := bc hb ltF cF0
 replace cF1 := bc hb ltF cF1
 replace ltF := bl hb ltF
 replace cC0 := bc hb ltC cC0
 replace cC1 := bc hb ltC cC1
 replace cC2 := bc hb ltC cC2
 replace ltC := bl hb ltC
 replace HX := Lib.hid (HX.out.below hb)
 replace HY := Lib.hid (HY.out.below hb)
 replace HL := Lib.hid (HL.out.below hb)
 replace hB := hB.trans (hb.mono hB.size)
 clear hb
 generalize rsgI x = sx at *
 go_wp2_with fail
 go_ret
 exact ⟨by rw [← HU.out]; rfl, hB⟩
set_option maxHeartbeats 2000000 in
theorem up_m1ne (vx vf vr : Value) (x y : Rat) (f : Int) (B L : Nat) (w : World) (hx : RatV w vx x L) (hf : IntN B w vf f) (hy : RatV w vr y L) (hL : 1 ≤ L) (hm : (L + 1) * 4 ≤ 140737488355328) (hsr : rsgI y ≠ 0) (hh : rcmpI y (mkRat 1 2) ≠ 0) :
   Calls Tryz.prog 109 #[vx, vf, vr, .int .i64 1] w fun e w' => e = .returned (.bool (upX 1 (rsgI y) (rcmpI y (mkRat 1 2)) (decide (rsgI x < 0)) (oddI f))) ∧ Below w.heap.size w w' := by
 have HX := Lib.hid hx
 have HY := Lib.hid hy
 obtain ⟨p, q, hr, -⟩ := hx
 obtain ⟨p', q', hr', -⟩ := hy
 obtain ⟨neg, a', len', cap', xs, a, len, cap, ys, rfl, -, -, -, -, -, -⟩ := hr
 obtain ⟨neg2, a2', len2', cap2', xs2, a2, len2, cap2, ys2, rfl, -, -, -, -, -, -⟩ := hr'
 obtain ⟨af, nf, cf, rfl, hl, -⟩ := hf
 have hnf := hl.1
 have hlm := hl.2.2.2.1
 have hlc := hl.2.2.1
 unfold maxLen at hlm
 have HL := Lib.hid hl
 clear hl
 generalize decide (f < 0) = dn at *
 have hsz : (rsgI y == 0) = false := by simpa using hsr
 clear hsr
 have hh0 : (rcmpI y (mkRat 1 2) == 0) = false := by simpa using hh
 clear hnf
 generalize hU : upX 1 (rsgI y) (rcmpI y (mkRat 1 2)) (decide (rsgI x < 0)) (oddI f) = U
 have HU := Lib.hid ((show upM 1 (rcmpI y (mkRat 1 2)) (decide (rsgI x < 0)) (oddI f) = upX 1 (rsgI y) (rcmpI y (mkRat 1 2)) (decide (rsgI x < 0)) (oddI f) by unfold upX; rw [hsz]; rfl).trans hU)
 clear hU
 have HUm := Lib.hid (show upM 1 (rcmpI y (mkRat 1 2)) (decide (rsgI x < 0)) (oddI f) = decide (0 < rcmpI y (mkRat 1 2)) by unfold upM; simp [hh0, bne])
 clear hh
 go_enter Tryz.func109, Tryz.ntmps109
 go_wp2_with fail
 have hbx : Below w.heap.size w (((w.alloc (.cells #[.bool neg, .slice a' len' cap', .slice a len cap] 28)).alloc (.cells #[.bool dn, .slice af nf cf] 26)).alloc (.cells #[.bool neg2, .slice a2' len2' cap2', .slice a2 len2 cap2] 28)) := ((((Below.refl _ _).alloc (Nat.le_refl _) _).alloc (by simp) _).alloc (by simp <;> omega) _)
 generalize hWW : (((w.alloc (.cells #[.bool neg, .slice a' len' cap', .slice a len cap] 28)).alloc (.cells #[.bool dn, .slice af nf cf] 26)).alloc (.cells #[.bool neg2, .slice a2' len2' cap2', .slice a2 len2 cap2] 28)) = w0 at *
 replace HX := Lib.hid (HX.out.below hbx)
 replace HY := Lib.hid (HY.out.below hbx)
 replace HL := Lib.hid (HL.out.below hbx)
 have cA0 : w0.cell? ⟨w.heap.size, 0, none⟩ = some (.bool neg) := by subst hWW; go_simp
 have cA1 : w0.cell? ⟨w.heap.size, 1, none⟩ = some (.slice a' len' cap') := by subst hWW; go_simp
 have cA2 : w0.cell? ⟨w.heap.size, 2, none⟩ = some (.slice a len cap) := by subst hWW; go_simp
 have ltA : w.heap.size < w0.heap.size := by subst hWW; simp <;> omega
 have cF0 : w0.cell? ⟨w.heap.size + 1, 0, none⟩ = some (.bool dn) := by subst hWW; go_simp
 have cF1 : w0.cell? ⟨w.heap.size + 1, 1, none⟩ = some (.slice af nf cf) := by subst hWW; go_simp
 have ltF : w.heap.size + 1 < w0.heap.size := by subst hWW; simp <;> omega
 have cC0 : w0.cell? ⟨w.heap.size + 1 + 1, 0, none⟩ = some (.bool neg2) := by subst hWW; go_simp
 have cC1 : w0.cell? ⟨w.heap.size + 1 + 1, 1, none⟩ = some (.slice a2' len2' cap2') := by subst hWW; go_simp
 have cC2 : w0.cell? ⟨w.heap.size + 1 + 1, 2, none⟩ = some (.slice a2 len2 cap2) := by subst hWW; go_simp
 have ltC : w.heap.size + 1 + 1 < w0.heap.size := by subst hWW; simp
 have hB := hbx
 clear hbx hWW
 refine (ksign_any _ y L _ HY.out (by omega)).mono ?_
 rintro e w1 ⟨rfl, hb⟩
 replace cA0 := bc hb ltA cA0
 replace cA1 := bc hb ltA cA1
 replace cA2 := bc hb ltA cA2
 replace ltA := bl hb ltA
 replace cF0 := bc hb ltF cF0
 replace cF1 := bc hb ltF cF1
 replace ltF := bl hb ltF
 replace cC0 := bc hb ltC cC0
 replace cC1 := bc hb ltC cC1
 replace cC2 := bc hb ltC cC2
 replace ltC := bl hb ltC
 replace HX := Lib.hid (HX.out.below hb)
 replace HY := Lib.hid (HY.out.below hb)
 replace HL := Lib.hid (HL.out.below hb)
 replace hB := hB.trans (hb.mono hB.size)
 generalize rsgI y = sr at *
 clear hb
 go_wp2_with fail
 refine (ksign_any _ x L _ HX.out (by omega)).mono ?_
 rintro e w2 ⟨rfl, hb⟩
 replace cA0 := bc hb ltA cA0
 replace cA1 := bc hb ltA cA1
 replace cA2 := bc hb ltA cA2
 replace ltA := bl hb ltA
 replace cF0 := bc hb ltF cF0
 replace cF1 := bc hb ltF cF1
 replace ltF := bl hb ltF
 replace cC0 := bc hb ltC cC0
 replace cC1 := bc hb ltC cC1
 replace cC2 := bc hb ltC cC2
 replace ltC := bl hb ltC
 replace HX := Lib.hid (HX.out.below hb)
 replace HY := Lib.hid (HY.out.below hb)
 replace HL := Lib.hid (HL.out.below hb)
 replace hB := hB.trans (hb.mono hB.size)
 clear hb
 generalize rsgI x = sx at *
 go_wp2_with fail
 have HHf := Lib.hid (half_lit w2)
 have hbx : Below w2.heap.size w2 ((w2.alloc (.cells #[.int .u32 1] 67)).alloc (.cells #[.int .u32 2] 67)) := (((Below.refl _ _).alloc (Nat.le_refl _) _).alloc (by simp) _)
 generalize hWW : ((w2.alloc (.cells #[.int .u32 1] 67)).alloc (.cells #[.int .u32 2] 67)) = w3 at *
 replace cA0 := bc hbx ltA cA0
 replace cA1 := bc hbx ltA cA1
 replace cA2 := bc hbx ltA cA2
 replace ltA := bl hbx ltA
 replace cF0 := bc hbx ltF cF0
 replace cF1 := bc hbx ltF cF1
 replace ltF := bl hbx ltF
 replace cC0 := bc hbx ltC cC0
 replace cC1 := bc hbx ltC cC1
 replace cC2 := bc hbx ltC cC2
 replace ltC := bl hbx ltC
 replace HX := Lib.hid (HX.out.below hbx)
 replace HY := Lib.hid (HY.out.below hbx)
 replace HL := Lib.hid (HL.out.below hbx)
 replace hB := hB.trans (hbx.mono hB.size)
 clear hbx hWW
 refine (kcmp_any _ _ y (mkRat 1 2) L 1 _ HY.out HHf.out hL (by omega) (by omega)).mono ?_
 rintro e w4 ⟨rfl, hb⟩
 replace cA0 := bc hb ltA cA0
 replace cA1 := bc hb ltA cA1
 replace cA2 := bc hb ltA cA2
 replace ltA := bl hb ltA
 replace cF0 := bc hb ltF cF0
 replace cF1 := bc hb ltF cF1
 replace ltF := bl hb ltF
 replace cC0 := bc hb ltC cC0
 replace cC1 := bc hb ltC cC1
 replace cC2 := bc hb ltC cC2
 replace ltC := bl hb ltC
 replace HX := Lib.hid (HX.out.below hb)
 replace HY := Lib.hid (HY.out.below hb)
 replace HL := Lib.hid (HL.out.below hb)
 replace HHf := Lib.hid (HHf.out.below hb)
 replace hB := hB.trans (hb.mono hB.size)
 generalize rcmpI y (mkRat 1 2) = hf at *
 clear hb
 clear HX HY HL HHf
 go_wp2_with fail
 go_ret
 exact ⟨by rw [← HU.out, HUm.out]; rfl, hB⟩
set_option maxHeartbeats 2000000 in
theorem up_m1eq0 (vx vf vr : Value) (x y : Rat) (f : Int) (B L : Nat) (w : World) (hx : RatV w vx x L) (hf : IntN B w vf f) (hy : RatV w vr y L) (hL : 1 ≤ L) (hm : (L + 1) * 4 ≤ 140737488355328) (hsr : rsgI y ≠ 0) (hh : rcmpI y (mkRat 1 2) = 0) (ho : f.natAbs = 0) :
   Calls Tryz.prog 109 #[vx, vf, vr, .int .i64 1] w fun e w' => e = .returned (.bool (upX 1 (rsgI y) (rcmpI y (mkRat 1 2)) (decide (rsgI x < 0)) (oddI f))) ∧ Below w.heap.size w w' := by
 have HX := Lib.hid hx
 have HY := Lib.hid hy
 obtain ⟨p, q, hr, -⟩ := hx
 obtain ⟨p', q', hr', -⟩ := hy
 obtain ⟨neg, a', len', cap', xs, a, len, cap, ys, rfl, -, -, -, -, -, -⟩ := hr
 obtain ⟨neg2, a2', len2', cap2', xs2, a2, len2, cap2, ys2, rfl, -, -, -, -, -, -⟩ := hr'
 obtain ⟨af, nf, cf, rfl, hl, -⟩ := hf
 have hnf := hl.1
 have hlm := hl.2.2.2.1
 have hlc := hl.2.2.1
 unfold maxLen at hlm
 have HL := Lib.hid hl
 clear hl
 generalize decide (f < 0) = dn at *
 have hsz : (rsgI y == 0) = false := by simpa using hsr
 clear hsr
 have HO := Lib.hid (show oddI f = false by unfold oddI; rw [ho]; rfl)
 have hnf0 : ¬ 0 < nf := by rw [← hnf, ho, digs_zero]; simp
 clear hnf ho
 generalize hU : upX 1 (rsgI y) (rcmpI y (mkRat 1 2)) (decide (rsgI x < 0)) (oddI f) = U
 have HU := Lib.hid ((show upM 1 (rcmpI y (mkRat 1 2)) (decide (rsgI x < 0)) (oddI f) = upX 1 (rsgI y) (rcmpI y (mkRat 1 2)) (decide (rsgI x < 0)) (oddI f) by unfold upX; rw [hsz]; rfl).trans hU)
 clear hU
 go_enter Tryz.func109, Tryz.ntmps109
 go_wp2_with fail
 have hbx : Below w.heap.size w (((w.alloc (.cells #[.bool neg, .slice a' len' cap', .slice a len cap] 28)).alloc (.cells #[.bool dn, .slice af nf cf] 26)).alloc (.cells #[.bool neg2, .slice a2' len2' cap2', .slice a2 len2 cap2] 28)) := ((((Below.refl _ _).alloc (Nat.le_refl _) _).alloc (by simp) _).alloc (by simp <;> omega) _)
 generalize hWW : (((w.alloc (.cells #[.bool neg, .slice a' len' cap', .slice a len cap] 28)).alloc (.cells #[.bool dn, .slice af nf cf] 26)).alloc (.cells #[.bool neg2, .slice a2' len2' cap2', .slice a2 len2 cap2] 28)) = w0 at *
 replace HX := Lib.hid (HX.out.below hbx)
 replace HY := Lib.hid (HY.out.below hbx)
 replace HL := Lib.hid (HL.out.below hbx)
 have cA0 : w0.cell? ⟨w.heap.size, 0, none⟩ = some (.bool neg) := by subst hWW; go_simp
 have cA1 : w0.cell? ⟨w.heap.size, 1, none⟩ = some (.slice a' len' cap') := by subst hWW; go_simp
 have cA2 : w0.cell? ⟨w.heap.size, 2, none⟩ = some (.slice a len cap) := by subst hWW; go_simp
 have ltA : w.heap.size < w0.heap.size := by subst hWW; simp <;> omega
 have cF0 : w0.cell? ⟨w.heap.size + 1, 0, none⟩ = some (.bool dn) := by subst hWW; go_simp
 have cF1 : w0.cell? ⟨w.heap.size + 1, 1, none⟩ = some (.slice af nf cf) := by subst hWW; go_simp
 have ltF : w.heap.size + 1 < w0.heap.size := by subst hWW; simp <;> omega
 have cC0 : w0.cell? ⟨w.heap.size + 1 + 1, 0, none⟩ = some (.bool neg2) := by subst hWW; go_simp
 have cC1 : w0.cell? ⟨w.heap.size + 1 + 1, 1, none⟩ = some (.slice a2' len2' cap2') := by subst hWW; go_simp
 have cC2 : w0.cell? ⟨w.heap.size + 1 + 1, 2, none⟩ = some (.slice a2 len2 cap2) := by subst hWW; go_simp
 have ltC : w.heap.size + 1 + 1 < w0.heap.size := by subst hWW; simp
 have hB := hbx
 clear hbx hWW
 refine (ksign_any _ y L _ HY.out (by omega)).mono ?_
 rintro e w1 ⟨rfl, hb⟩
 replace cA0 := bc hb ltA cA0
 replace cA1 := bc hb ltA cA1
 replace cA2 := bc hb ltA cA2
 replace ltA := bl hb ltA
 replace cF0 := bc hb ltF cF0
 replace cF1 := bc hb ltF cF1
 replace ltF := bl hb ltF
 replace cC0 := bc hb ltC cC0
 replace cC1 := bc hb ltC cC1
 replace cC2 := bc hb ltC cC2
 replace ltC := bl hb ltC
 replace HX := Lib.hid (HX.out.below hb)
 replace HY := Lib.hid (HY.out.below hb)
 replace HL := Lib.hid (HL.out.below hb)
 replace hB := hB.trans (hb.mono hB.size)
 generalize rsgI y = sr at *
 clear hb
 go_wp2_with fail
 refine (ksign_any _ x L _ HX.out (by omega)).mono ?_
 rintro e w2 ⟨rfl, hb⟩
 replace cA0 := bc hb ltA cA0
 replace cA1 := bc hb ltA cA1
 replace cA2 := bc hb ltA cA2
 replace ltA := bl hb ltA
 replace cF0 := bc hb ltF cF0
 replace cF1 := bc hb ltF cF1
 replace ltF := bl hb ltF
 replace cC0 := bc hb ltC cC0
 replace cC1 := bc hb ltC cC1
 replace cC2 := bc hb ltC cC2
 replace ltC := bl hb ltC
 replace HX := Lib.hid (HX.out.below hb)
 replace HY := Lib.hid (HY.out.below hb)
 replace HL := Lib.hid (HL.out.below hb)
 replace hB := hB.trans (hb.mono hB.size)
 clear hb
 generalize rsgI x = sx at *
 go_wp2_with fail
 have HHf := Lib.hid (half_lit w2)
 have hbx : Below w2.heap.size w2 ((w2.alloc (.cells #[.int .u32 1] 67)).alloc (.cells #[.int .u32 2] 67)) := (((Below.refl _ _).alloc (Nat.le_refl _) _).alloc (by simp) _)
 generalize hWW : ((w2.alloc (.cells #[.int .u32 1] 67)).alloc (.cells #[.int .u32 2] 67)) = w3 at *
 replace cA0 := bc hbx ltA cA0
 replace cA1 := bc hbx ltA cA1
 replace cA2 := bc hbx ltA cA2
 replace ltA := bl hbx ltA
 replace cF0 := bc hbx ltF cF0
 replace cF1 := bc hbx ltF cF1
 replace ltF := bl hbx ltF
 replace cC0 := bc hbx ltC cC0
 replace cC1 := bc hbx ltC cC1
 replace cC2 := bc hbx ltC cC2
 replace ltC := bl hbx ltC
 replace HX := Lib.hid (HX.out.below hbx)
 replace HY := Lib.hid (HY.out.below hbx)
 replace HL := Lib.hid (HL.out.below hbx)
 replace hB := hB.trans (hbx.mono hB.size)
 clear hbx hWW
 refine (kcmp_any _ _ y (mkRat 1 2) L 1 _ HY.out HHf.out hL (by omega) (by omega)).mono ?_
 rintro e w4 ⟨rfl, hb⟩
 replace cA0 := bc hb ltA cA0
 replace cA1 := bc hb ltA cA1
 replace cA2 := bc hb ltA cA2
 replace ltA := bl hb ltA
 replace cF0 := bc hb ltF cF0
 replace cF1 := bc hb ltF cF1
 replace ltF := bl hb ltF
 replace cC0 := bc hb ltC cC0
 replace cC1 := bc hb ltC cC1
 replace cC2 := bc hb ltC cC2
 replace ltC := bl hb ltC
 replace HX := Lib.hid (HX.out.below hb)
 replace HY := Lib.hid (HY.out.below hb)
 replace HL := Lib.hid (HL.out.below hb)
 replace HHf := Lib.hid (HHf.out.below hb)
 replace hB := hB.trans (hb.mono hB.size)
 rw [hh] at HU ⊢
 clear hb
 clear HX HY HL HHf
 go_wp2_with fail
 go_ret
 exact ⟨by rw [← HU.out, HO.out]; rfl, hB⟩
set_option maxHeartbeats 2000000 in
theorem up_m1eq1 (vx vf vr : Value) (x y : Rat) (f : Int) (B L : Nat) (w : World) (hx : RatV w vx x L) (hf : IntN B w vf f) (hy : RatV w vr y L) (hL : 1 ≤ L) (hm : (L + 1) * 4 ≤ 140737488355328) (hsr : rsgI y ≠ 0) (hh : rcmpI y (mkRat 1 2) = 0) (ho : f.natAbs ≠ 0) :
   Calls Tryz.prog 109 #[vx, vf, vr, .int .i64 1] w fun e w' => e = .returned (.bool (upX 1 (rsgI y) (rcmpI y (mkRat 1 2)) (decide (rsgI x < 0)) (oddI f))) ∧ Below w.heap.size w w' := by
 have HX := Lib.hid hx
 have HY := Lib.hid hy
 obtain ⟨p, q, hr, -⟩ := hx
 obtain ⟨p', q', hr', -⟩ := hy
 obtain ⟨neg, a', len', cap', xs, a, len, cap, ys, rfl, -, -, -, -, -, -⟩ := hr
 obtain ⟨neg2, a2', len2', cap2', xs2, a2, len2, cap2, ys2, rfl, -, -, -, -, -, -⟩ := hr'
 obtain ⟨af, nf, cf, rfl, hl, -⟩ := hf
 have hnf := hl.1
 have hlm := hl.2.2.2.1
 have hlc := hl.2.2.1
 unfold maxLen at hlm
 have HL := Lib.hid hl
 clear hl
 generalize decide (f < 0) = dn at *
 have hsz : (rsgI y == 0) = false := by simpa using hsr
 clear hsr
 have hnf0 : 0 < nf := by
   have : nf ≠ 0 := fun h => ho (digs_len_zero.1 (by omega))
   omega
 have HO := Lib.hid (odd_digs (f := f) rfl rfl (by rw [hnf]; omega))
 have hlim := (lim_digs f.natAbs).getD 0
 clear ho hnf
 generalize hU : upX 1 (rsgI y) (rcmpI y (mkRat 1 2)) (decide (rsgI x < 0)) (oddI f) = U
 have HU := Lib.hid ((show upM 1 (rcmpI y (mkRat 1 2)) (decide (rsgI x < 0)) (oddI f) = upX 1 (rsgI y) (rcmpI y (mkRat 1 2)) (decide (rsgI x < 0)) (oddI f) by unfold upX; rw [hsz]; rfl).trans hU)
 clear hU
 go_enter Tryz.func109, Tryz.ntmps109
 go_wp2_with fail
 have hbx : Below w.heap.size w (((w.alloc (.cells #[.bool neg, .slice a' len' cap', .slice a len cap] 28)).alloc (.cells #[.bool dn, .slice af nf cf] 26)).alloc (.cells #[.bool neg2, .slice a2' len2' cap2', .slice a2 len2 cap2] 28)) := ((((Below.refl _ _).alloc (Nat.le_refl _) _).alloc (by simp) _).alloc (by simp <;> omega) _)
 generalize hWW : (((w.alloc (.cells #[.bool neg, .slice a' len' cap', .slice a len cap] 28)).alloc (.cells #[.bool dn, .slice af nf cf] 26)).alloc (.cells #[.bool neg2, .slice a2' len2' cap2', .slice a2 len2 cap2] 28)) = w0 at *
 replace HX := Lib.hid (HX.out.below hbx)
 replace HY := Lib.hid (HY.out.below hbx)
 replace HL := Lib.hid (HL.out.below hbx)
 have cA0 : w0.cell? ⟨w.heap.size, 0, none⟩ = some (.bool neg) := by subst hWW; go_simp
 have cA1 : w0.cell? ⟨w.heap.size, 1, none⟩ = some (.slice a' len' cap') := by subst hWW; go_simp
 have cA2 : w0.cell? ⟨w.heap.size, 2, none⟩ = some (.slice a len cap) := by subst hWW; go_simp
 have ltA : w.heap.size < w0.heap.size := by subst hWW; simp <;> omega
 have cF0 : w0.cell? ⟨w.heap.size + 1, 0, none⟩ = some (.bool dn) := by subst hWW; go_simp
 have cF1 : w0.cell? ⟨w.heap.size + 1, 1, none⟩ = some (.slice af nf cf) := by subst hWW; go_simp
 have ltF : w.heap.size + 1 < w0.heap.size := by subst hWW; simp <;> omega
 have cC0 : w0.cell? ⟨w.heap.size + 1 + 1, 0, none⟩ = some (.bool neg2) := by subst hWW; go_simp
 have cC1 : w0.cell? ⟨w.heap.size + 1 + 1, 1, none⟩ = some (.slice a2' len2' cap2') := by subst hWW; go_simp
 have cC2 : w0.cell? ⟨w.heap.size + 1 + 1, 2, none⟩ = some (.slice a2 len2 cap2) := by subst hWW; go_simp
 have ltC : w.heap.size + 1 + 1 < w0.heap.size := by subst hWW; simp
 have hB := hbx
 clear hbx hWW
 refine (ksign_any _ y L _ HY.out (by omega)).mono ?_
 rintro e w1 ⟨rfl, hb⟩
 replace cA0 := bc hb ltA cA0
 replace cA1 := bc hb ltA cA1
 replace cA2 := bc hb ltA cA2
 replace ltA := bl hb ltA
 replace cF0 := bc hb ltF cF0
 replace cF1 := bc hb ltF cF1
 replace ltF := bl hb ltF
 replace cC0 := bc hb ltC cC0
 replace cC1 := bc hb ltC cC1
 replace cC2 := bc hb ltC cC2
 replace ltC := bl hb ltC
 replace HX := Lib.hid (HX.out.below hb)
 replace HY := Lib.hid (HY.out.below hb)
 replace HL := Lib.hid (HL.out.below hb)
 replace hB := hB.trans (hb.mono hB.size)
 generalize rsgI y = sr at *
 clear hb
 go_wp2_with fail
 refine (ksign_any _ x L _ HX.out (by omega)).mono ?_
 rintro e w2 ⟨rfl, hb⟩
 replace cA0 := bc hb ltA cA0
 replace cA1 := bc hb ltA cA1
 replace cA2 := bc hb ltA cA2
 replace ltA := bl hb ltA
 replace cF0 := bc hb ltF cF0
 replace cF1 := bc hb ltF cF1
 replace ltF := bl hb ltF
 replace cC0 := bc hb ltC cC0
 replace cC1 := bc hb ltC cC1
 replace cC2 := bc hb ltC cC2
 replace ltC := bl hb ltC
 replace HX := Lib.hid (HX.out.below hb)
 replace HY := Lib.hid (HY.out.below hb)
 replace HL := Lib.hid (HL.out.below hb)
 replace hB := hB.trans (hb.mono hB.size)
 clear hb
 generalize rsgI x = sx at *
 go_wp2_with fail
 have HHf := Lib.hid (half_lit w2)
 have hbx : Below w2.heap.size w2 ((w2.alloc (.cells #[.int .u32 1] 67)).alloc (.cells #[.int .u32 2] 67)) := (((Below.refl _ _).alloc (Nat.le_refl _) _).alloc (by simp) _)
 generalize hWW : ((w2.alloc (.cells #[.int .u32 1] 67)).alloc (.cells #[.int .u32 2] 67)) = w3 at *
 replace cA0 := bc hbx ltA cA0
 replace cA1 := bc hbx ltA cA1
 replace cA2 := bc hbx ltA cA2
 replace ltA := bl hbx ltA
 replace cF0 := bc hbx ltF cF0
 replace cF1 := bc hbx ltF cF1
 replace ltF := bl hbx ltF
 replace cC0 := bc hbx ltC cC0
 replace cC1 := bc hbx ltC cC1
 replace cC2 := bc hbx ltC cC2
 replace ltC := bl hbx ltC
 replace HX := Lib.hid (HX.out.below hbx)
 replace HY := Lib.hid (HY.out.below hbx)
 replace HL := Lib.hid (HL.out.below hbx)
 replace hB := hB.trans (hbx.mono hB.size)
 clear hbx hWW
 obtain ⟨b, off, rfl, _, hcc⟩ := HL.out.2.2.at (k := 0) (by omega)
 refine (kcmp_any _ _ y (mkRat 1 2) L 1 _ HY.out HHf.out hL (by omega) (by omega)).mono ?_
 rintro e w4 ⟨rfl, hb⟩
 replace cA0 := bc hb ltA cA0
 replace cA1 := bc hb ltA cA1
 replace cA2 := bc hb ltA cA2
 replace ltA := bl hb ltA
 replace cF0 := bc hb ltF cF0
 replace cF1 := bc hb ltF cF1
 replace ltF := bl hb ltF
 replace cC0 := bc hb ltC cC0
 replace cC1 := bc hb ltC cC1
 replace cC2 := bc hb ltC cC2
 replace ltC := bl hb ltC
 replace HX := Lib.hid (HX.out.below hb)
 replace HY := Lib.hid (HY.out.below hb)
 replace HL := Lib.hid (HL.out.below hb)
 replace HHf := Lib.hid (HHf.out.below hb)
 replace hB := hB.trans (hb.mono hB.size)
 have c0 := hcc 0 (by omega) _ hb
 rw [Nat.add_zero] at c0
 generalize (digs f.natAbs).getD 0 0 = z0 at *
 clear hcc
 rw [hh] at HU ⊢
 clear hb
 clear HX HY HHf
 go_wp2_with fail
 go_ret
 exact ⟨by rw [← HU.out, HO.out]; rfl, hB⟩
set_option maxHeartbeats 2000000 in
theorem up_m2ne (vx vf vr : Value) (x y : Rat) (f : Int) (B L : Nat) (w : World) (hx : RatV w vx x L) (hf : IntN B w vf f) (hy : RatV w vr y L) (hL : 1 ≤ L) (hm : (L + 1) * 4 ≤ 140737488355328) (hsr : rsgI y ≠ 0) (hh : rcmpI y (mkRat 1 2) ≠ 0) :
   Calls Tryz.prog 109 #[vx, vf, vr, .int .i64 2] w fun e w' => e = .returned (.bool (upX 2 (rsgI y) (rcmpI y (mkRat 1 2)) (decide (rsgI x < 0)) (oddI f))) ∧ Below w.heap.size w w' := by
 have HX := Lib.hid hx
 have HY := Lib.hid hy
 obtain ⟨p, q, hr, -⟩ := hx
 obtain ⟨p', q', hr', -⟩ := hy
 obtain ⟨neg, a', len', cap', xs, a, len, cap, ys, rfl, -, -, -, -, -, -⟩ := hr
 obtain ⟨neg2, a2', len2', cap2', xs2, a2, len2, cap2, ys2, rfl, -, -, -, -, -, -⟩ := hr'
 obtain ⟨af, nf, cf, rfl, hl, -⟩ := hf
 have hnf := hl.1
 have hlm := hl.2.2.2.1
 have hlc := hl.2.2.1
 unfold maxLen at hlm
 have HL := Lib.hid hl
 clear hl
 generalize decide (f < 0) = dn at *
 have hsz : (rsgI y == 0) = false := by simpa using hsr
 clear hsr
 have hh0 : (rcmpI y (mkRat 1 2) == 0) = false := by simpa using hh
 clear hnf
 generalize hU : upX 2 (rsgI y) (rcmpI y (mkRat 1 2)) (decide (rsgI x < 0)) (oddI f) = U
 have HU := Lib.hid ((show upM 2 (rcmpI y (mkRat 1 2)) (decide (rsgI x < 0)) (oddI f) = upX 2 (rsgI y) (rcmpI y (mkRat 1 2)) (decide (rsgI x < 0)) (oddI f) by unfold upX; rw [hsz]; rfl).trans hU)
 clear hU
 have HUm := Lib.hid (show upM 2 (rcmpI y (mkRat 1 2)) (decide (rsgI x < 0)) (oddI f) = decide (0 < rcmpI y (mkRat 1 2)) by unfold upM; simp [hh0, bne])
 clear hh
 go_enter Tryz.func109, Tryz.ntmps109
 go_wp2_with fail
 have hbx : Below w.heap.size w (((w.alloc (.cells #[.bool neg, .slice a' len' cap', .slice a len cap] 28)).alloc (.cells #[.bool dn, .slice af nf cf] 26)).alloc (.cells #[.bool neg2, .slice a2' len2' cap2', .slice a2 len2 cap2] 28)) := ((((Below.refl _ _).alloc (Nat.le_refl _) _).alloc (by simp) _).alloc (by simp <;> omega) _)
 generalize hWW : (((w.alloc (.cells #[.bool neg, .slice a' len' cap', .slice a len cap] 28)).alloc (.cells #[.bool dn, .slice af nf cf] 26)).alloc (.cells #[.bool neg2, .slice a2' len2' cap2', .slice a2 len2 cap2] 28)) = w0 at *
 replace HX := Lib.hid (HX.out.below hbx)
 replace HY := Lib.hid (HY.out.below hbx)
 replace HL := Lib.hid (HL.out.below hbx)
 have cA0 : w0.cell? ⟨w.heap.size, 0, none⟩ = some (.bool neg) := by subst hWW; go_simp
 have cA1 : w0.cell? ⟨w.heap.size, 1, none⟩ = some (.slice a' len' cap') := by subst hWW; go_simp
 have cA2 : w0.cell? ⟨w.heap.size, 2, none⟩ = some (.slice a len cap) := by subst hWW; go_simp
 have ltA : w.heap.size < w0.heap.size := by subst hWW; simp <;> omega
 have cF0 : w0.cell? ⟨w.heap.size + 1, 0, none⟩ = some (.bool dn) := by subst hWW; go_simp
 have cF1 : w0.cell? ⟨w.heap.size + 1, 1, none⟩ = some (.slice af nf cf) := by subst hWW; go_simp
 have ltF : w.heap.size + 1 < w0.heap.size := by subst hWW; simp <;> omega
 have cC0 : w0.cell? ⟨w.heap.size + 1 + 1, 0, none⟩ = some (.bool neg2) := by subst hWW; go_simp
 have cC1 : w0.cell? ⟨w.heap.size + 1 + 1, 1, none⟩ = some (.slice a2' len2' cap2') := by subst hWW; go_simp
 have cC2 : w0.cell? ⟨w.heap.size + 1 + 1, 2, none⟩ = some (.slice a2 len2 cap2) := by subst hWW; go_simp
 have ltC : w.heap.size + 1 + 1 < w0.heap.size := by subst hWW; simp
 have hB := hbx
 clear hbx hWW
 refine (ksign_any _ y L _ HY.out (by omega)).mono ?_
 rintro e w1 ⟨rfl, hb⟩
 replace cA0 := bc hb ltA cA0
 replace cA1 := bc hb ltA cA1
 replace cA2 := bc hb ltA cA2
 replace ltA := bl hb ltA
 replace cF0 := bc hb ltF cF0
 replace cF1 := bc hb ltF cF1
 replace ltF := bl hb ltF
 replace cC0 := bc hb ltC cC0
 replace cC1 := bc hb ltC cC1
 replace cC2 := bc hb ltC cC2
 replace ltC := bl hb ltC
 replace HX := Lib.hid (HX.out.below hb)
 replace HY := Lib.hid (HY.out.below hb)
 replace HL := Lib.hid (HL.out.below hb)
 replace hB := hB.trans (hb.mono hB.size)
 generalize rsgI y = sr at *
 clear hb
 go_wp2_with fail
 refine (ksign_any _ x L _ HX.out (by omega)).mono ?_
 rintro e w2 ⟨rfl, hb⟩
 replace cA0 := bc hb ltA cA0
 replace cA1 := bc hb ltA cA1
 replace cA2 := bc hb ltA cA2
 replace ltA := bl hb ltA
 replace cF0 := bc hb ltF cF0
 replace cF1 := bc hb ltF cF1
 replace ltF := bl hb ltF
 replace cC0 := bc hb ltC cC0
 replace cC1 := bc hb ltC cC1
 replace cC2 := bc hb ltC cC2
 replace ltC := bl hb ltC
 replace HX := Lib.hid (HX.out.below hb)
 replace HY := Lib.hid (HY.out.below hb)
 replace HL := Lib.hid (HL.out.below hb)
 replace hB := hB.trans (hb.mono hB.size)
 clear hb
 generalize rsgI x = sx at *
 go_wp2_with fail
 have HHf := Lib.hid (half_lit w2)
 have hbx : Below w2.heap.size w2 ((w2.alloc (.cells #[.int .u32 1] 67)).alloc (.cells #[.int .u32 2] 67)) := (((Below.refl _ _).alloc (Nat.le_refl _) _).alloc (by simp) _)
 generalize hWW : ((w2.alloc (.cells #[.int .u32 1] 67)).alloc (.cells #[.int .u32 2] 67)) = w3 at *
 replace cA0 := bc hbx ltA cA0
 replace cA1 := bc hbx ltA cA1
 replace cA2 := bc hbx ltA cA2
 replace ltA := bl hbx ltA
 replace cF0 := bc hbx ltF cF0
 replace cF1 := bc hbx ltF cF1
 replace ltF := bl hbx ltF
 replace cC0 := bc hbx ltC cC0
 replace cC1 := bc hbx ltC cC1
 replace cC2 := bc hbx ltC cC2
 replace ltC := bl hbx ltC
 replace HX := Lib.hid (HX.out.below hbx)
 replace HY := Lib.hid (HY.out.below hbx)
 replace HL := Lib.hid (HL.out.below hbx)
 replace hB := hB.trans (hbx.mono hB.size)
 clear hbx hWW
 refine (kcmp_any _ _ y (mkRat 1 2) L 1 _ HY.out HHf.out hL (by omega) (by omega)).mono ?_
 rintro e w4 ⟨rfl, hb⟩
 replace cA0 := bc hb ltA cA0
 replace cA1 := bc hb ltA cA1
 replace cA2 := bc hb ltA cA2
 replace ltA := bl hb ltA
 replace cF0 := bc hb ltF cF0
 replace cF1 := bc hb ltF cF1
 replace ltF := bl hb ltF
 replace cC0 := bc hb ltC cC0
 replace cC1 := bc hb ltC cC1
 replace cC2 := bc hb ltC cC2
 replace ltC := bl hb ltC
 replace HX := Lib.hid (HX.out.below hb)
 replace HY := Lib.hid (HY.out.below hb)
 replace HL := Lib.hid (HL.out.below hb)
 replace HHf := Lib.hid (HHf.out.below hb)
 replace hB := hB.trans (hb.mono hB.size)
 generalize rcmpI y (mkRat 1 2) = hf at *
 clear hb
 clear HX HY HL HHf
 go_wp2_with fail
 go_ret
 exact ⟨by rw [← HU.out, HUm.out]; rfl, hB⟩
set_option maxHeartbeats 2000000 in
theorem up_m2eq (vx vf vr : Value) (x y : Rat) (f : Int) (B L : Nat) (w : World) (hx : RatV w vx x L) (hf : IntN B w vf f) (hy : RatV w vr y L) (hL : 1 ≤ L) (hm : (L + 1) * 4 ≤ 140737488355328) (hsr : rsgI y ≠ 0) (hh : rcmpI y (mkRat 1 2) = 0) :
   Calls Tryz.prog 109 #[vx, vf, vr, .int .i64 2] w fun e w' => e = .returned (.bool (upX 2 (rsgI y) (rcmpI y (mkRat 1 2)) (decide (rsgI x < 0)) (oddI f))) ∧ Below w.heap.size w w' := by
 have HX := Lib.hid hx
 have HY := Lib.hid hy
 obtain ⟨p, q, hr, -⟩ := hx
 obtain ⟨p', q', hr', -⟩ := hy
 obtain ⟨neg, a', len', cap', xs, a, len, cap, ys, rfl, -, -, -, -, -, -⟩ := hr
 obtain ⟨neg2, a2', len2', cap2', xs2, a2, len2, cap2, ys2, rfl, -, -, -, -, -, -⟩ := hr'
 obtain ⟨af, nf, cf, rfl, hl, -⟩ := hf
 have hnf := hl.1
 have hlm := hl.2.2.2.1
 have hlc := hl.2.2.1
 unfold maxLen at hlm
 have HL := Lib.hid hl
 clear hl
 generalize decide (f < 0) = dn at *
 have hsz : (rsgI y == 0) = false := by simpa using hsr
 clear hsr
 clear hnf
 generalize hU : upX 2 (rsgI y) (rcmpI y (mkRat 1 2)) (decide (rsgI x < 0)) (oddI f) = U
 have HU := Lib.hid ((show upM 2 (rcmpI y (mkRat 1 2)) (decide (rsgI x < 0)) (oddI f) = upX 2 (rsgI y) (rcmpI y (mkRat 1 2)) (decide (rsgI x < 0)) (oddI f) by unfold upX; rw [hsz]; rfl).trans hU)
 clear hU
 go_enter Tryz.func109, Tryz.ntmps109
 go_wp2_with fail
 have hbx : Below w.heap.size w (((w.alloc (.cells #[.bool neg, .slice a' len' cap', .slice a len cap] 28)).alloc (.cells #[.bool dn, .slice af nf cf] 26)).alloc (.cells #[.bool neg2, .slice a2' len2' cap2', .slice a2 len2 cap2] 28)) := ((((Below.refl _ _).alloc (Nat.le_refl _) _).alloc (by simp) _).alloc (by simp <;> omega) _)
 generalize hWW : (((w.alloc (.cells #[.bool neg, .slice a' len' cap', .slice a len cap] 28)).alloc (.cells #[.bool dn, .slice af nf cf] 26)).alloc (.cells #[.bool neg2, .slice a2' len2' cap2', .slice a2 len2 cap2] 28)) = w0 at *
 replace HX := Lib.hid (HX.out.below hbx)
 replace HY := Lib.hid (HY.out.below hbx)
 replace HL := Lib.hid (HL.out.below hbx)
 have cA0 : w0.cell? ⟨w.heap.size, 0, none⟩ = some (.bool neg) := by subst hWW; go_simp
 have cA1 : w0.cell? ⟨w.heap.size, 1, none⟩ = some (.slice a' len' cap') := by subst hWW; go_simp
 have cA2 : w0.cell? ⟨w.heap.size, 2, none⟩ = some (.slice a len cap) := by subst hWW; go_simp
 have ltA : w.heap.size < w0.heap.size := by subst hWW; simp <;> omega
 have cF0 : w0.cell? ⟨w.heap.size + 1, 0, none⟩ = some (.bool dn) := by subst hWW; go_simp
 have cF1 : w0.cell? ⟨w.heap.size + 1, 1, none⟩ = some (.slice af nf cf) := by subst hWW; go_simp
 have ltF : w.heap.size + 1 < w0.heap.size := by subst hWW; simp <;> omega
 have cC0 : w0.cell? ⟨w.heap.size + 1 + 1, 0, none⟩ = some (.bool neg2) := by subst hWW; go_simp
 have cC1 : w0.cell? ⟨w.heap.size + 1 + 1, 1, none⟩ = some (.slice a2' len2' cap2') := by subst hWW; go_simp
 have cC2 : w0.cell? ⟨w.heap.size + 1 + 1, 2, none⟩ = some (.slice a2 len2 cap2) := by subst hWW; go_simp
 have ltC : w.heap.size + 1 + 1 < w0.heap.size := by subst hWW; simp
 have hB := hbx
 clear hbx hWW
 refine (ksign_any _ y L _ HY.out (by omega)).mono ?_
 rintro e w1 ⟨rfl, hb⟩
 replace cA0 := bc hb ltA cA0
 replace cA1 := bc hb ltA cA1
 replace cA2 := bc hb ltA cA2
 replace ltA := bl hb ltA
 replace cF0 := bc hb ltF cF0
 replace cF1 := bc hb ltF cF1
 replace ltF := bl hb ltF
 replace cC0 := bc hb ltC cC0
 replace cC1 := bc hb ltC cC1
 replace cC2 := bc hb ltC cC2
 replace ltC := bl hb ltC
 replace HX := Lib.hid (HX.out.below hb)
 replace HY := Lib.hid (HY.out.below hb)
 replace HL := Lib.hid (HL.out.below hb)
 replace hB := hB.trans (hb.mono hB.size)
 generalize rsgI y = sr at *
 clear hb
 go_wp2_with fail
 refine (ksign_any _ x L _ HX.out (by omega)).mono ?_
 rintro e w2 ⟨rfl, hb⟩
 replace cA0 := bc hb ltA cA0
 replace cA1 := bc hb ltA cA1
 replace cA2 := bc hb ltA cA2
 replace ltA := bl hb ltA
 replace cF0 := bc hb ltF cF0
 replace cF1 := bc hb ltF cF1
 replace ltF := bl hb ltF
 replace cC0 := bc hb ltC cC0
 replace cC1 := bc hb ltC cC1
 replace cC2 := bc hb ltC cC2
 replace ltC := bl hb ltC
 replace HX := Lib.hid (HX.out.below hb)
 replace HY := Lib.hid (HY.out.below hb)
 replace HL := Lib.hid (HL.out.below hb)
 replace hB := hB.trans (hb.mono hB.size)
 clear hb
 generalize rsgI x = sx at *
 go_wp2_with fail
 have HHf := Lib.hid (half_lit w2)
 have hbx : Below w2.heap.size w2 ((w2.alloc (.cells #[.int .u32 1] 67)).alloc (.cells #[.int .u32 2] 67)) := (((Below.refl _ _).alloc (Nat.le_refl _) _).alloc (by simp) _)
 generalize hWW : ((w2.alloc (.cells #[.int .u32 1] 67)).alloc (.cells #[.int .u32 2] 67)) = w3 at *
 replace cA0 := bc hbx ltA cA0
 replace cA1 := bc hbx ltA cA1
 replace cA2 := bc hbx ltA cA2
 replace ltA := bl hbx ltA
 replace cF0 := bc hbx ltF cF0
 replace cF1 := bc hbx ltF cF1
 replace ltF := bl hbx ltF
 replace cC0 := bc hbx ltC cC0
 replace cC1 := bc hbx ltC cC1
 replace cC2 := bc hbx ltC cC2
 replace ltC := bl hbx ltC
 replace HX := Lib.hid (HX.out.below hbx)
 replace HY := Lib.hid (HY.out.below hbx)
 replace HL := Lib.hid (HL.out.below hbx)
 replace hB := hB.trans (hbx.mono hB.size)
 clear hbx hWW
 refine (kcmp_any _ _ y (mkRat 1 2) L 1 _ HY.out HHf.out hL (by omega) (by omega)).mono ?_
 rintro e w4 ⟨rfl, hb⟩
 replace cA0 := bc hb ltA cA0
 replace cA1 := bc hb ltA cA1
 replace cA2 := bc hb ltA cA2
 replace ltA := bl hb ltA
 replace cF0 := bc hb ltF cF0
 replace cF1 := bc hb ltF cF1
 replace ltF := bl hb ltF
 replace cC0 := bc hb ltC cC0
 replace cC1 := bc hb ltC cC1
 replace cC2 := bc hb ltC cC2
 replace ltC := bl hb ltC
 replace HX := Lib.hid (HX.out.below hb)
 replace HY := Lib.hid (HY.out.below hb)
 replace HL := Lib.hid (HL.out.below hb)
 replace HHf := Lib.hid (HHf.out.below hb)
 replace hB := hB.trans (hb.mono hB.size)
 rw [hh] at HU ⊢
 clear hb
 clear HX HY HL HHf
 go_wp2_with fail
 go_ret
 exact ⟨by rw [← HU.out]; rfl, hB⟩
set_option maxHeartbeats 2000000 in
theorem up_m3ne (vx vf vr : Value) (x y : Rat) (f : Int) (B L : Nat) (w : World) (hx : RatV w vx x L) (hf : IntN B w vf f) (hy : RatV w vr y L) (hL : 1 ≤ L) (hm : (L + 1) * 4 ≤ 140737488355328) (hsr : rsgI y ≠ 0) (hh : rcmpI y (mkRat 1 2) ≠ 0) :
   Calls Tryz.prog 109 #[vx, vf, vr, .int .i64 3] w fun e w' => e = .returned (.bool (upX 3 (rsgI y) (rcmpI y (mkRat 1 2)) (decide (rsgI x < 0)) (oddI f))) ∧ Below w.heap.size w w' := by
 have HX := Lib.hid hx
 have HY := Lib.hid hy
 obtain ⟨p, q, hr, -⟩ := hx
 obtain ⟨p', q', hr', -⟩ := hy
 obtain ⟨neg, a', len', cap', xs, a, len, cap, ys, rfl, -, -, -, -, -, -⟩ := hr
 obtain ⟨neg2, a2', len2', cap2', xs2, a2, len2, cap2, ys2, rfl, -, -, -, -, -, -⟩ := hr'
 obtain ⟨af, nf, cf, rfl, hl, -⟩ := hf
 have hnf := hl.1
 have hlm := hl.2.2.2.1
 have hlc := hl.2.2.1
 unfold maxLen at hlm
 have HL := Lib.hid hl
 clear hl
 generalize decide (f < 0) = dn at *
 have hsz : (rsgI y == 0) = false := by simpa using hsr
 clear hsr
 have hh0 : (rcmpI y (mkRat 1 2) == 0) = false := by simpa using hh
 clear hnf
 generalize hU : upX 3 (rsgI y) (rcmpI y (mkRat 1 2)) (decide (rsgI x < 0)) (oddI f) = U
 have HU := Lib.hid ((show upM 3 (rcmpI y (mkRat 1 2)) (decide (rsgI x < 0)) (oddI f) = upX 3 (rsgI y) (rcmpI y (mkRat 1 2)) (decide (rsgI x < 0)) (oddI f) by unfold upX; rw [hsz]; rfl).trans hU)
 clear hU
 have HUm := Lib.hid (show upM 3 (rcmpI y (mkRat 1 2)) (decide (rsgI x < 0)) (oddI f) = decide (0 < rcmpI y (mkRat 1 2)) by unfold upM; simp [hh0, bne])
 clear hh
 go_enter Tryz.func109, Tryz.ntmps109
 go_wp2_with fail
 have hbx : Below w.heap.size w (((w.alloc (.cells #[.bool neg, .slice a' len' cap', .slice a len cap] 28)).alloc (.cells #[.bool dn, .slice af nf cf] 26)).alloc (.cells #[.bool neg2, .slice a2' len2' cap2', .slice a2 len2 cap2] 28)) := ((((Below.refl _ _).alloc (Nat.le_refl _) _).alloc (by simp) _).alloc (by simp <;> omega) _)
 generalize hWW : (((w.alloc (.cells #[.bool neg, .slice a' len' cap', .slice a len cap] 28)).alloc (.cells #[.bool dn, .slice af nf cf] 26)).alloc (.cells #[.bool neg2, .slice a2' len2' cap2', .slice a2 len2 cap2] 28)) = w0 at *
 replace HX := Lib.hid (HX.out.below hbx)
 replace HY := Lib.hid (HY.out.below hbx)
 replace HL := Lib.hid (HL.out.below hbx)
 have cA0 : w0.cell? ⟨w.heap.size, 0, none⟩ = some (.bool neg) := by subst hWW; go_simp
 have cA1 : w0.cell? ⟨w.heap.size, 1, none⟩ = some (.slice a' len' cap') := by subst hWW; go_simp
 have cA2 : w0.cell? ⟨w.heap.size, 2, none⟩ = some (.slice a len cap) := by subst hWW; go_simp
 have ltA : w.heap.size < w0.heap.size := by subst hWW; simp <;> omega
 have cF0 : w0.cell? ⟨w.heap.size + 1, 0, none⟩ = some (.bool dn) := by subst hWW; go_simp
 have cF1 : w0.cell? ⟨w.heap.size + 1, 1, none⟩ = some (.slice af nf cf) := by subst hWW; go_simp
 have ltF : w.heap.size + 1 < w0.heap.size := by subst hWW; simp <;> omega
 have cC0 : w0.cell? ⟨w.heap.size + 1 + 1, 0, none⟩ = some (.bool neg2) := by subst hWW; go_simp
 have cC1 : w0.cell? ⟨w.heap.size + 1 + 1, 1, none⟩ = some (.slice a2' len2' cap2') := by subst hWW; go_simp
 have cC2 : w0.cell? ⟨w.heap.size + 1 + 1, 2, none⟩ = some (.slice a2 len2 cap2) := by subst hWW; go_simp
 have ltC : w.heap.size + 1 + 1 < w0.heap.size := by subst hWW; simp
 have hB := hbx
 clear hbx hWW
 refine (ksign_any _ y L _ HY.out (by omega)).mono ?_
 rintro e w1 ⟨rfl, hb⟩
 replace cA0 := bc hb ltA cA0
 replace cA1 := bc hb ltA cA1
 replace cA2 := bc hb ltA cA2
 replace ltA := bl hb ltA
 replace cF0 := bc hb ltF cF0
 replace cF1 := bc hb ltF cF1
 replace ltF := bl hb ltF
 replace cC0 := bc hb ltC cC0
 replace cC1 := bc hb ltC cC1
 replace cC2 := bc hb ltC cC2
 replace ltC := bl hb ltC
 replace HX := Lib.hid (HX.out.below hb)
 replace HY := Lib.hid (HY.out.below hb)
 replace HL := Lib.hid (HL.out.below hb)
 replace hB := hB.trans (hb.mono hB.size)
 generalize rsgI y = sr at *
 clear hb
 go_wp2_with fail
 refine (ksign_any _ x L _ HX.out (by omega)).mono ?_
 rintro e w2 ⟨rfl, hb⟩
 replace cA0 := bc hb ltA cA0
 replace cA1 := bc hb ltA cA1
 replace cA2 := bc hb ltA cA2
 replace ltA := bl hb ltA
 replace cF0 := bc hb ltF cF0
 replace cF1 := bc hb ltF cF1
 replace ltF := bl hb ltF
 replace cC0 := bc hb ltC cC0
 replace cC1 := bc hb ltC cC1
 replace cC2 := bc hb ltC cC2
 replace ltC := bl hb ltC
 replace HX := Lib.hid (HX.out.below hb)
 replace HY := Lib.hid (HY.out.below hb)
 replace HL := Lib.hid (HL.out.below hb)
 replace hB := hB.trans (hb.mono hB.size)
 clear hb
 generalize rsgI x = sx at *
 go_wp2_with fail
 have HHf := Lib.hid (half_lit w2)
 have hbx : Below w2.heap.size w2 ((w2.alloc (.cells #[.int .u32 1] 67)).alloc (.cells #[.int .u32 2] 67)) := (((Below.refl _ _).alloc (Nat.le_refl _) _).alloc (by simp) _)
 generalize hWW : ((w2.alloc (.cells #[.int .u32 1] 67)).alloc (.cells #[.int .u32 2] 67)) = w3 at *
 replace cA0 := bc hbx ltA cA0
 replace cA1 := bc hbx ltA cA1
 replace cA2 := bc hbx ltA cA2
 replace ltA := bl hbx ltA
 replace cF0 := bc hbx ltF cF0
 replace cF1 := bc hbx ltF cF1
 replace ltF := bl hbx ltF
 replace cC0 := bc hbx ltC cC0
 replace cC1 := bc hbx ltC cC1
 replace cC2 := bc hbx ltC cC2
 replace ltC := bl hbx ltC
 replace HX := Lib.hid (HX.out.below hbx)
 replace HY := Lib.hid (HY.out.below hbx)
 replace HL := Lib.hid (HL.out.below hbx)
 replace hB := hB.trans (hbx.mono hB.size)
 clear hbx hWW
 refine (kcmp_any _ _ y (mkRat 1 2) L 1 _ HY.out HHf.out hL (by omega) (by omega)).mono ?_
 rintro e w4 ⟨rfl, hb⟩
 replace cA0 := bc hb ltA cA0
 replace cA1 := bc hb ltA cA1
 replace cA2 := bc hb ltA cA2
 replace ltA := bl hb ltA
 replace cF0 := bc hb ltF cF0
 replace cF1 := bc hb ltF cF1
 replace ltF := bl hb ltF
 replace cC0 := bc hb ltC cC0
 replace cC1 := bc hb ltC cC1
 replace cC2 := bc hb ltC cC2
 replace ltC := bl hb ltC
 replace HX := Lib.hid (HX.out.below hb)
 replace HY := Lib.hid (HY.out.below hb)
 replace HL := Lib.hid (HL.out.below hb)
 replace HHf := Lib.hid (HHf.out.below hb)
 replace hB := hB.trans (hb.mono hB.size)
 generalize rcmpI y (mkRat 1 2) = hf at *
 clear hb
 clear HX HY HL HHf
 go_wp2_with fail
 go_ret
 exact ⟨by rw [← HU.out, HUm.out]; rfl, hB⟩
set_option maxHeartbeats 2000000 in
theorem up_m3eq (vx vf vr : Value) (x y : Rat) (f : Int) (B L : Nat) (w : World) (hx : RatV w vx x L) (hf : IntN B w vf f) (hy : RatV w vr y L) (hL : 1 ≤ L) (hm : (L + 1) * 4 ≤ 140737488355328) (hsr : rsgI y ≠ 0) (hh : rcmpI y (mkRat 1 2) = 0) :
   Calls Tryz.prog 109 #[vx, vf, vr, .int .i64 3] w fun e w' => e = .returned (.bool (upX 3 (rsgI y) (rcmpI y (mkRat 1 2)) (decide (rsgI x < 0)) (oddI f))) ∧ Below w.heap.size w w' := by
 have HX := Lib.hid hx
 have HY := Lib.hid hy
 obtain ⟨p, q, hr, -⟩ := hx
 obtain ⟨p', q', hr', -⟩ := hy
 obtain ⟨neg, a', len', cap', xs, a, len, cap, ys, rfl, -, -, -, -, -, -⟩ := hr
 obtain ⟨neg2, a2', len2', cap2', xs2, a2, len2, cap2, ys2, rfl, -, -, -, -, -, -⟩ := hr'
 obtain ⟨af, nf, cf, rfl, hl, -⟩ := hf
 have hnf := hl.1
 have hlm := hl.2.2.2.1
 have hlc := hl.2.2.1
 unfold maxLen at hlm
 have HL := Lib.hid hl
 clear hl
 generalize decide (f < 0) = dn at *
 have hsz : (rsgI y == 0) = false := by simpa using hsr
 clear hsr
 clear hnf
 generalize hU : upX 3 (rsgI y) (rcmpI y (mkRat 1 2)) (decide (rsgI x < 0)) (oddI f) = U
 have HU := Lib.hid ((show upM 3 (rcmpI y (mkRat 1 2)) (decide (rsgI x < 0)) (oddI f) = upX 3 (rsgI y) (rcmpI y (mkRat 1 2)) (decide (rsgI x < 0)) (oddI f) by unfold upX; rw [hsz]; rfl).trans hU)
 clear hU
 go_enter Tryz.func109, Tryz.ntmps109
 go_wp2_with fail
 have hbx : Below w.heap.size w (((w.alloc (.cells #[.bool neg, .slice a' len' cap', .slice a len cap] 28)).alloc (.cells #[.bool dn, .slice af nf cf] 26)).alloc (.cells #[.bool neg2, .slice a2' len2' cap2', .slice a2 len2 cap2] 28)) := ((((Below.refl _ _).alloc (Nat.le_refl _) _).alloc (by simp) _).alloc (by simp <;> omega) _)
 generalize hWW : (((w.alloc (.cells #[.bool neg, .slice a' len' cap', .slice a len cap] 28)).alloc (.cells #[.bool dn, .slice af nf cf] 26)).alloc (.cells #[.bool neg2, .slice a2' len2' cap2', .slice a2 len2 cap2] 28)) = w0 at *
 replace HX := Lib.hid (HX.out.below hbx)
 replace HY := Lib.hid (HY.out.below hbx)
 replace HL := Lib.hid (HL.out.below hbx)
 have cA0 : w0.cell? ⟨w.heap.size, 0, none⟩ = some (.bool neg) := by subst hWW; go_simp
 have cA1 : w0.cell? ⟨w.heap.size, 1, none⟩ = some (.slice a' len' cap') := by subst hWW; go_simp
 have cA2 : w0.cell? ⟨w.heap.size, 2, none⟩ = some (.slice a len cap) := by subst hWW; go_simp
 have ltA : w.heap.size < w0.heap.size := by subst hWW; simp <;> omega
 have cF0 : w0.cell? ⟨w.heap.size + 1, 0, none⟩ = some (.bool dn) := by subst hWW; go_simp
 have cF1 : w0.cell? ⟨w.heap.size + 1, 1, none⟩ = some (.slice af nf cf) := by subst hWW; go_simp
 have ltF : w.heap.size + 1 < w0.heap.size := by subst hWW; simp <;> omega
 have cC0 : w0.cell? ⟨w.heap.size + 1 + 1, 0, none⟩ = some (.bool neg2) := by subst hWW; go_simp
 have cC1 : w0.cell? ⟨w.heap.size + 1 + 1, 1, none⟩ = some (.slice a2' len2' cap2') := by subst hWW; go_simp
 have cC2 : w0.cell? ⟨w.heap.size + 1 + 1, 2, none⟩ = some (.slice a2 len2 cap2) := by subst hWW; go_simp
 have ltC : w.heap.size + 1 + 1 < w0.heap.size := by subst hWW; simp
 have hB := hbx
 clear hbx hWW
 refine (ksign_any _ y L _ HY.out (by omega)).mono ?_
 rintro e w1 ⟨rfl, hb⟩
 replace cA0 := bc hb ltA cA0
 replace cA1 := bc hb ltA cA1
 replace cA2 := bc hb ltA cA2
 replace ltA := bl hb ltA
 replace cF0 := bc hb ltF cF0
 replace cF1 := bc hb ltF cF1
 replace ltF := bl hb ltF
 replace cC0 := bc hb ltC cC0
 replace cC1 := bc hb ltC cC1
 replace cC2 := bc hb ltC cC2
 replace ltC := bl hb ltC
 replace HX := Lib.hid (HX.out.below hb)
 replace HY := Lib.hid (HY.out.below hb)
 replace HL := Lib.hid (HL.out.below hb)
 replace hB := hB.trans (hb.mono hB.size)
 generalize rsgI y = sr at *
 clear hb
 go_wp2_with fail
 refine (ksign_any _ x L _ HX.out (by omega)).mono ?_
 rintro e w2 ⟨rfl, hb⟩
 replace cA0 := bc hb ltA cA0
 replace cA1 := bc hb ltA cA1
 replace cA2 := bc hb ltA cA2
 replace ltA := bl hb ltA
 replace cF0 := bc hb ltF cF0
 replace cF1 := bc hb ltF cF1
 replace ltF := bl hb ltF
 replace cC0 := bc hb ltC cC0
 replace cC1 := bc hb ltC cC1
 replace cC2 := bc hb ltC cC2
 replace ltC := bl hb ltC
 replace HX := Lib.hid (HX.out.below hb)
 replace HY := Lib.hid (HY.out.below hb)
 replace HL := Lib.hid (HL.out.below hb)
 replace hB := hB.trans (hb.mono hB.size)
 clear hb
 generalize rsgI x = sx at *
 go_wp2_with fail
 have HHf := Lib.hid (half_lit w2)
 have hbx : Below w2.heap.size w2 ((w2.alloc (.cells #[.int .u32 1] 67)).alloc (.cells #[.int .u32 2] 67)) := (((Below.refl _ _).alloc (Nat.le_refl _) _).alloc (by simp) _)
 generalize hWW : ((w2.alloc (.cells #[.int .u32 1] 67)).alloc (.cells #[.int .u32 2] 67)) = w3 at *
 replace cA0 := bc hbx ltA cA0
 replace cA1 := bc hbx ltA cA1
 replace cA2 := bc hbx ltA cA2
 replace ltA := bl hbx ltA
 replace cF0 := bc hbx ltF cF0
 replace cF1 := bc hbx ltF cF1
 replace ltF := bl hbx ltF
 replace cC0 := bc hbx ltC cC0
 replace cC1 := bc hbx ltC cC1
 replace cC2 := bc hbx ltC cC2
 replace ltC := bl hbx ltC
 replace HX := Lib.hid (HX.out.below hbx)
 replace HY := Lib.hid (HY.out.below hbx)
 replace HL := Lib.hid (HL.out.below hbx)
 replace hB := hB.trans (hbx.mono hB.size)
 clear hbx hWW
 refine (kcmp_any _ _ y (mkRat 1 2) L 1 _ HY.out HHf.out hL (by omega) (by omega)).mono ?_
 rintro e w4 ⟨rfl, hb⟩
 replace cA0 := bc hb ltA cA0
 replace cA1 := bc hb ltA cA1
 replace cA2 := bc hb ltA cA2
 replace ltA := bl hb ltA
 replace cF0 := bc hb ltF cF0
 replace cF1 := bc hb ltF cF1
 replace ltF := bl hb ltF
 replace cC0 := bc hb ltC cC0
 replace cC1 := bc hb ltC cC1
 replace cC2 := bc hb ltC cC2
 replace ltC := bl hb ltC
 replace HX := Lib.hid (HX.out.below hb)
 replace HY := Lib.hid (HY.out.below hb)
 replace HL := Lib.hid (HL.out.below hb)
 replace HHf := Lib.hid (HHf.out.below hb)
 replace hB := hB.trans (hb.mono hB.size)
 rw [hh] at HU ⊢
 clear hb
 clear HX HY HL HHf
 go_wp2_with fail
 go_ret
 exact ⟨by rw [← HU.out]; rfl, hB⟩
theorem up_any (vx vf vr : Value) (x y : Rat) (f : Int) (B L : Nat) (w : World) (hx : RatV w vx x L) (hf : IntN B w vf f) (hy : RatV w vr y L) (hL : 1 ≤ L) (hm : (L + 1) * 4 ≤ 140737488355328) (m : Int) (h1 : 1 ≤ m) (h2 : m ≤ 7) :
   Calls Tryz.prog 109 #[vx, vf, vr, .int .i64 m] w fun e w' => e = .returned (.bool (upX m (rsgI y) (rcmpI y (mkRat 1 2)) (decide (rsgI x < 0)) (oddI f))) ∧ Below w.heap.size w w' := by
 by_cases hs : rsgI y = 0
 · exact up_zero vx vf vr x y f B L w hx hf hy hL hm m hs
 by_cases hh : rcmpI y (mkRat 1 2) = 0
 · rcases (show m = 1 ∨ m = 2 ∨ m = 3 ∨ m = 4 ∨ m = 5 ∨ m = 6 ∨ m = 7 by omega) with rfl | rfl | rfl | rfl | rfl | rfl | rfl
   · by_cases ho : f.natAbs = 0
     · exact up_m1eq0 vx vf vr x y f B L w hx hf hy hL hm hs hh ho
     · exact up_m1eq1 vx vf vr x y f B L w hx hf hy hL hm hs hh ho
   · exact up_m2eq vx vf vr x y f B L w hx hf hy hL hm hs hh
   · exact up_m3eq vx vf vr x y f B L w hx hf hy hL hm hs hh
   · exact up_m4 vx vf vr x y f B L w hx hf hy hL hm hs
   · exact up_m5 vx vf vr x y f B L w hx hf hy hL hm hs
   · exact up_m6 vx vf vr x y f B L w hx hf hy hL hm hs
   · exact up_m7 vx vf vr x y f B L w hx hf hy hL hm hs
 · rcases (show m = 1 ∨ m = 2 ∨ m = 3 ∨ m = 4 ∨ m = 5 ∨ m = 6 ∨ m = 7 by omega) with rfl | rfl | rfl | rfl | rfl | rfl | rfl
   · exact up_m1ne vx vf vr x y f B L w hx hf hy hL hm hs hh
   · exact up_m2ne vx vf vr x y f B L w hx hf hy hL hm hs hh
   · exact up_m3ne vx vf vr x y f B L w hx hf hy hL hm hs hh
   · exact up_m4 vx vf vr x y f B L w hx hf hy hL hm hs
   · exact up_m5 vx vf vr x y f B L w hx hf hy hL hm hs
   · exact up_m6 vx vf vr x y f B L w hx hf hy hL hm hs
   · exact up_m7 vx vf vr x y f B L w hx hf hy hL hm hs
end Go.Proofs.YtahmndacoanfiaaGreat
namespace Go.Proofs.YtahmndacoanfiaaGreat
set_option maxRecDepth 100000
open Go.RowKit
theorem rsg_zero {r : Rat} : (rsgI r == 0) = decide (r = 0) := by
 unfold rsgI
 by_cases h : r = 0
 · subst h; rfl
 · have h1 : r.num ≠ 0 := fun e => h (Rat.num_eq_zero.1 e)
   have h2 : r.num.sign ≠ 0 := fun e => h1 (Int.sign_eq_zero_iff_zero.1 e)
   rw [decide_eq_false h]; simpa using h2
theorem rsg_neg (r : Rat) : decide (rsgI r < 0) = decide (r < 0) := rat_neg r
theorem upX_upB (m : Int) (r : Rat) : upX m (rsgI (r - (r.floor : Rat))) (rcmpI (r - (r.floor : Rat)) (mkRat 1 2)) (decide (rsgI r < 0)) (oddI r.floor) = upB m r := by
 unfold upX upB
 rw [rsg_zero, rsg_neg]
 rfl
theorem rsz_int {z : Int} {L : Nat} (h : (digs z.natAbs).length ≤ L) (hL : 1 ≤ L) : Rsz (z : Rat) L := ⟨h, Nat.le_trans (digs_length_le (k := 1) (by show 1 < _; omega)) hL⟩
theorem rsz_one : Rsz ((1 : Int) : Rat) 1 := rsz_int (digs_length_le (by simp)) (Nat.le_refl _)
set_option maxHeartbeats 4000000 in
theorem rround_no (v : Value) (r : Rat) (m : Int) (L : Nat) (w : World) (hv : RatV w v r L) (hL : 1 ≤ L) (hm : (2 * L + 8) * 4 ≤ 140737488355328) (h1 : 1 ≤ m) (h2 : m ≤ 7) (hu : upB m r = false) :
   Calls Tryz.prog 75 #[v, .int .i64 0, .int .i64 m] w fun e w' => ∃ b s, e = .returned (.tuple #[.agg #[b, s, .int .i64 0], .int .i64 0]) ∧ IntN w.heap.size w' (.agg #[b, s]) (roundI m r) ∧ Below w.heap.size w w' := by
 have HRd := Lib.hid (round_no (m := m) hu)
 have HUp := Lib.hid ((upX_upB m r).trans hu)
 clear hu
 have HR := Lib.hid hv
 obtain ⟨p, q, hr, hpq⟩ := hv
 obtain ⟨neg, a', len', cap', xs, a, len, cap, ys, rfl, -, -, -, -, -, -⟩ := hr
 clear hpq
 go_enter Tryz.func75, Tryz.ntmps75
 go_wp2_with fail
 have hbx : Below w.heap.size w ((w.alloc (.cells #[.bool neg, .slice a' len' cap', .slice a len cap] 28)).alloc (.cells #[.bool false, .slice none 0 0, .int .i64 0] 86)) := (((Below.refl _ _).alloc (Nat.le_refl _) _).alloc (by simp) _)
 generalize hWW : ((w.alloc (.cells #[.bool neg, .slice a' len' cap', .slice a len cap] 28)).alloc (.cells #[.bool false, .slice none 0 0, .int .i64 0] 86)) = w0 at *
 replace HR := Lib.hid (HR.out.below hbx)
 have cA0 : w0.cell? ⟨w.heap.size, 0, none⟩ = some (.bool neg) := by subst hWW; go_simp
 have cA1 : w0.cell? ⟨w.heap.size, 1, none⟩ = some (.slice a' len' cap') := by subst hWW; go_simp
 have cA2 : w0.cell? ⟨w.heap.size, 2, none⟩ = some (.slice a len cap) := by subst hWW; go_simp
 have ltA : w.heap.size < w0.heap.size := by subst hWW; simp <;> omega
 have cR0 : w0.cell? ⟨w.heap.size + 1, 0, none⟩ = some (.bool false) := by subst hWW; go_simp
 have fR0 : w0.frozen? ⟨w.heap.size + 1, 0, none⟩ = false := by subst hWW; go_simp
 have cR1 : w0.cell? ⟨w.heap.size + 1, 1, none⟩ = some (.slice none 0 0) := by subst hWW; go_simp
 have fR1 : w0.frozen? ⟨w.heap.size + 1, 1, none⟩ = false := by subst hWW; go_simp
 have cR2 : w0.cell? ⟨w.heap.size + 1, 2, none⟩ = some (.int .i64 0) := by subst hWW; go_simp
 have fR2 : w0.frozen? ⟨w.heap.size + 1, 2, none⟩ = false := by subst hWW; go_simp
 have ltR : w.heap.size + 1 < w0.heap.size := by subst hWW; simp
 have hB := hbx
 clear hbx hWW
 refine (jplaces_zero _).mono ?_
 rintro e w' ⟨rfl, rfl⟩
 go_wp2_with fail
 refine (jmode_ok m _ h1 h2).mono ?_
 rintro e w' ⟨rfl, rfl⟩
 go_wp2_with fail
 have SCA0 := Lib.hid cA0
 have SCA1 := Lib.hid cA1
 have SCA2 := Lib.hid cA2
 have SLA := Lib.hid ltA
 have SCR0 := Lib.hid cR0
 have SFR0 := Lib.hid fR0
 have SCR1 := Lib.hid cR1
 have SFR1 := Lib.hid fR1
 have SCR2 := Lib.hid cR2
 have SFR2 := Lib.hid fR2
 have SLR := Lib.hid ltR
 have SHR := Lib.hid HR.out
 have SB := Lib.hid hB
 have eA0 := box_ext (B := w0.heap.size) cA0 ltA
 have eA1 := box_ext (B := w0.heap.size) cA1 ltA
 have eA2 := box_ext (B := w0.heap.size) cA2 ltA
 have eR0 := box_ext (B := w0.heap.size) cR0 ltR
 have eR1 := box_ext (B := w0.heap.size) cR1 ltR
 have eR2 := box_ext (B := w0.heap.size) cR2 ltR
 refine wp_region_float 6 [(0, false), (1, false), (2, true), (3, false), (4, true), (5, true)] [(7, true)] (fun w' => ∃ W : Ext w0.heap.size w0, w' = W.1) _ 8 (.cells #[.bool false, .slice none 0 0, .slice none 0 0] 28) w0.heap.size (by kernel_rfl) rfl rfl rfl (fun a w => by simp [execOp, go_sem]) (fun w ⟨W, e⟩ => e ▸ W.2.size) (fun w ⟨W, e⟩ => ⟨⟨_, (e ▸ W.2).alloc (e ▸ W.2.size) _⟩, rfl⟩) (by kernel_rfl) ⟨⟨w0.drew, (Below.refl _ _).drew⟩, rfl⟩ ?_
 repeat (refine wpFl_calm rfl (fun K hK => ?_); go_simp; refine hK _ ?_; clear hK K)
 clear eA0 eA1 eA2 eR0 eR1 eR2
 have hbx : Below w0.heap.size w0 w0.drew := (Below.refl _ _).drew
 have hM := hbx
 replace cA0 := bc hbx ltA cA0
 replace cA1 := bc hbx ltA cA1
 replace cA2 := bc hbx ltA cA2
 replace ltA := bl hbx ltA
 replace cR0 := bc hbx ltR cR0
 replace fR0 := bf hbx ltR fR0
 replace cR1 := bc hbx ltR cR1
 replace fR1 := bf hbx ltR fR1
 replace cR2 := bc hbx ltR cR2
 replace fR2 := bf hbx ltR fR2
 replace ltR := bl hbx ltR
 replace HR := Lib.hid (HR.out.below hbx)
 replace hB := hB.trans (hbx.mono hB.size)
 clear hbx
 generalize w0.drew = ww0d at *
 refine wpFl_eff rfl rfl (fun wy hC hg K hK => ?_)
 obtain ⟨⟨wz, hE⟩, hwe⟩ := hC
 change wy = wz at hwe
 subst hwe
 replace cA0 := bc hg ltA cA0
 replace cA1 := bc hg ltA cA1
 replace cA2 := bc hg ltA cA2
 replace ltA := bl hg ltA
 replace cR0 := bc hg ltR cR0
 replace fR0 := bf hg ltR fR0
 replace cR1 := bc hg ltR cR1
 replace fR1 := bf hg ltR fR1
 replace cR2 := bc hg ltR cR2
 replace fR2 := bf hg ltR fR2
 replace ltR := bl hg ltR
 replace HR := Lib.hid (HR.out.below hg)
 replace hB := hB.trans (hg.mono hB.size)
 replace hM := hE
 clear hE hg
 go_simp
 refine (jpower_none _).mono ?_
 rintro e w1 ⟨v1, rfl, hv1, hb⟩
 replace cA0 := bc hb ltA cA0
 replace cA1 := bc hb ltA cA1
 replace cA2 := bc hb ltA cA2
 replace ltA := bl hb ltA
 replace cR0 := bc hb ltR cR0
 replace fR0 := bf hb ltR fR0
 replace cR1 := bc hb ltR cR1
 replace fR1 := bf hb ltR fR1
 replace cR2 := bc hb ltR cR2
 replace fR2 := bf hb ltR fR2
 replace ltR := bl hb ltR
 replace HR := Lib.hid (HR.out.below hb)
 replace hM := hM.trans (hb.mono hM.size)
 replace hB := hB.trans (hb.mono hB.size)
 obtain ⟨a1, n1, c1, rfl, hl1⟩ := hv1
 have HP := Lib.hid (show IntR w1 (.agg #[.bool false, .slice a1 n1 c1]) 1 1 from ⟨false, a1, n1, c1, _, rfl, hl1, by rw [natOf_digs]; rfl, by rw [← hl1.1]; exact digs_length_le (by simp)⟩)
 clear hl1
 refine hK _ _ ⟨⟨w1, hM⟩, rfl⟩ hb ?_
 clear hK K hb
 repeat (refine wpFl_calm rfl (fun K hK => ?_); go_simp; refine hK _ ?_; clear hK K)
 refine wpFl_eff rfl rfl (fun wy hC hg K hK => ?_)
 obtain ⟨⟨wz, hE⟩, hwe⟩ := hC
 change wy = wz at hwe
 subst hwe
 replace cA0 := bc hg ltA cA0
 replace cA1 := bc hg ltA cA1
 replace cA2 := bc hg ltA cA2
 replace ltA := bl hg ltA
 replace cR0 := bc hg ltR cR0
 replace fR0 := bf hg ltR fR0
 replace cR1 := bc hg ltR cR1
 replace fR1 := bf hg ltR fR1
 replace cR2 := bc hg ltR cR2
 replace fR2 := bf hg ltR fR2
 replace ltR := bl hg ltR
 replace HR := Lib.hid (HR.out.below hg)
 replace HP := Lib.hid (HP.out.below hg)
 replace hB := hB.trans (hg.mono hB.size)
 replace hM := hE
 clear hE hg
 go_simp
 refine (jwhole_any _ 1 1 _ HP.out (by omega)).mono ?_
 rintro e w2 ⟨v2, rfl, hv2, hb⟩
 replace cA0 := bc hb ltA cA0
 replace cA1 := bc hb ltA cA1
 replace cA2 := bc hb ltA cA2
 replace ltA := bl hb ltA
 replace cR0 := bc hb ltR cR0
 replace fR0 := bf hb ltR fR0
 replace cR1 := bc hb ltR cR1
 replace fR1 := bf hb ltR fR1
 replace cR2 := bc hb ltR cR2
 replace fR2 := bf hb ltR fR2
 replace ltR := bl hb ltR
 replace HR := Lib.hid (HR.out.below hb)
 replace HP := Lib.hid (HP.out.below hb)
 replace hM := hM.trans (hb.mono hM.size)
 replace hB := hB.trans (hb.mono hB.size)
 have HW := Lib.hid (hv2.raw rsz_one)
 clear hv2
 refine hK _ _ ⟨⟨w2, hM⟩, rfl⟩ hb ?_
 clear hK K hb
 refine wpFl_eff rfl rfl (fun wy hC hg K hK => ?_)
 obtain ⟨⟨wz, hE⟩, hwe⟩ := hC
 change wy = wz at hwe
 subst hwe
 replace cA0 := bc hg ltA cA0
 replace cA1 := bc hg ltA cA1
 replace cA2 := bc hg ltA cA2
 replace ltA := bl hg ltA
 replace cR0 := bc hg ltR cR0
 replace fR0 := bf hg ltR fR0
 replace cR1 := bc hg ltR cR1
 replace fR1 := bf hg ltR fR1
 replace cR2 := bc hg ltR cR2
 replace fR2 := bf hg ltR fR2
 replace ltR := bl hg ltR
 replace HR := Lib.hid (HR.out.below hg)
 replace HP := Lib.hid (HP.out.below hg)
 replace HW := Lib.hid (HW.out.below hg)
 replace hB := hB.trans (hg.mono hB.size)
 replace hM := hE
 clear hE hg
 go_simp
 refine (kmul_any _ _ r ((1 : Int) : Rat) L 1 _ HR.out HW.out hL (by omega) (by omega)).mono ?_
 rintro e w3 ⟨v3, rfl, hv3, hsz, hb⟩
 replace cA0 := bc hb ltA cA0
 replace cA1 := bc hb ltA cA1
 replace cA2 := bc hb ltA cA2
 replace ltA := bl hb ltA
 replace cR0 := bc hb ltR cR0
 replace fR0 := bf hb ltR fR0
 replace cR1 := bc hb ltR cR1
 replace fR1 := bf hb ltR fR1
 replace cR2 := bc hb ltR cR2
 replace fR2 := bf hb ltR fR2
 replace ltR := bl hb ltR
 replace HR := Lib.hid (HR.out.below hb)
 replace HP := Lib.hid (HP.out.below hb)
 replace HW := Lib.hid (HW.out.below hb)
 replace hM := hM.trans (hb.mono hM.size)
 replace hB := hB.trans (hb.mono hB.size)
 rw [show r * ((1 : Int) : Rat) = r from Rat.mul_one r] at hv3 hsz
 have HX := Lib.hid (hv3.raw hsz)
 obtain ⟨x', l', k', x, l, k, rfl, -, -, -, -⟩ := hv3
 clear hsz
 generalize decide (r.num < 0) = dn at *
 refine hK _ _ ⟨⟨w3, hM⟩, rfl⟩ hb ?_
 clear hK K hb
 clear HP HW
 refine wpFl_nil fun gX wy hC hg hBk hge => ?_
 obtain ⟨⟨wz, hE⟩, hwe⟩ := hC
 change wy = wz at hwe
 subst hwe
 replace cA0 := bc hg ltA cA0
 replace cA1 := bc hg ltA cA1
 replace cA2 := bc hg ltA cA2
 replace ltA := bl hg ltA
 replace cR0 := bc hg ltR cR0
 replace fR0 := bf hg ltR fR0
 replace cR1 := bc hg ltR cR1
 replace fR1 := bf hg ltR fR1
 replace cR2 := bc hg ltR cR2
 replace fR2 := bf hg ltR fR2
 replace ltR := bl hg ltR
 replace HR := Lib.hid (HR.out.below hg)
 replace HX := Lib.hid (HX.out.below hg)
 replace hB := hB.trans (hg.mono hB.size)
 replace hM := hE
 clear hE hg
 have z0 := blk_cell hBk 0
 have y0 := blk_free hBk 0
 have z1 := blk_cell hBk 1
 have y1 := blk_free hBk 1
 have z2 := blk_cell hBk 2
 have y2 := blk_free hBk 2
 simp at z0 z1 z2
 have hgl := blk_lt hBk
 refine wpSched_eff rfl rfl (fun K hK => ?_)
 go_simp
 refine hK _ _ ⟨⟨_, (((hM.setCell (p := ⟨gX, 0, none⟩) hge _).setCell (p := ⟨gX, 1, none⟩) hge _).setCell (p := ⟨gX, 2, none⟩) hge _)⟩, rfl⟩ ?_
 clear hK K
 refine wpSched_nil ?_
 have hMn := (((hM.setCell (p := ⟨gX, 0, none⟩) hge (.bool dn)).setCell (p := ⟨gX, 1, none⟩) hge (.slice x' l' k')).setCell (p := ⟨gX, 2, none⟩) hge (.slice x l k))
 replace HX := Lib.hid (HX.out.off hBk zRat_no (.bool dn) (.slice x' l' k') (.slice x l k))
 replace cA0 := bc hMn SLA.out SCA0.out
 replace cA1 := bc hMn SLA.out SCA1.out
 replace cA2 := bc hMn SLA.out SCA2.out
 replace ltA := bl hMn SLA.out
 replace cR0 := bc hMn SLR.out SCR0.out
 replace fR0 := bf hMn SLR.out SFR0.out
 replace cR1 := bc hMn SLR.out SCR1.out
 replace fR1 := bf hMn SLR.out SFR1.out
 replace cR2 := bc hMn SLR.out SCR2.out
 replace fR2 := bf hMn SLR.out SFR2.out
 replace ltR := bl hMn SLR.out
 replace HR := Lib.hid (SHR.out.below hMn)
 replace hB := SB.out.trans (hMn.mono SB.out.size)
 have cX0 : (((wy.setCell ⟨gX, 0, none⟩ (.bool dn)).setCell ⟨gX, 1, none⟩ (.slice x' l' k')).setCell ⟨gX, 2, none⟩ (.slice x l k)).cell? ⟨gX, 0, none⟩ = some (.bool dn) := by go_simp
 have cX1 : (((wy.setCell ⟨gX, 0, none⟩ (.bool dn)).setCell ⟨gX, 1, none⟩ (.slice x' l' k')).setCell ⟨gX, 2, none⟩ (.slice x l k)).cell? ⟨gX, 1, none⟩ = some (.slice x' l' k') := by go_simp
 have cX2 : (((wy.setCell ⟨gX, 0, none⟩ (.bool dn)).setCell ⟨gX, 1, none⟩ (.slice x' l' k')).setCell ⟨gX, 2, none⟩ (.slice x l k)).cell? ⟨gX, 2, none⟩ = some (.slice x l k) := by go_simp
 have ltX : gX < (((wy.setCell ⟨gX, 0, none⟩ (.bool dn)).setCell ⟨gX, 1, none⟩ (.slice x' l' k')).setCell ⟨gX, 2, none⟩ (.slice x l k)).heap.size := by simpa using hgl
 have neXA : w.heap.size < gX := Nat.lt_of_lt_of_le SLA.out hge
 have neXR : w.heap.size + 1 < gX := Nat.lt_of_lt_of_le SLR.out hge
 clear SCA0 SCA1 SCA2 SLA SCR0 SFR0 SCR1 SFR1 SCR2 SFR2 SLR SHR SB
 clear hMn hM hBk hgl z0 y0 z1 y1 z2 y2
 go_wp2_with fail
 generalize (((wy.setCell ⟨gX, 0, none⟩ (.bool dn)).setCell ⟨gX, 1, none⟩ (.slice x' l' k')).setCell ⟨gX, 2, none⟩ (.slice x l k)) = w4 at *
 clear HR
 clear cA0 cA1 cA2 ltA
 refine (kfloor_any _ r (L + 1) _ HX.out (by omega) (by omega)).mono ?_
 rintro e w5 ⟨v5, rfl, hv5, hln, hb⟩
 replace cR0 := bc hb ltR cR0
 replace fR0 := bf hb ltR fR0
 replace cR1 := bc hb ltR cR1
 replace fR1 := bf hb ltR fR1
 replace cR2 := bc hb ltR cR2
 replace fR2 := bf hb ltR fR2
 replace ltR := bl hb ltR
 replace cX0 := bc hb ltX cX0
 replace cX1 := bc hb ltX cX1
 replace cX2 := bc hb ltX cX2
 replace ltX := bl hb ltX
 replace HX := Lib.hid (HX.out.below hb)
 replace hB := hB.trans (hb.mono hB.size)
 have HF0 := Lib.hid (hv5.raw (L + 1) hln)
 have HLn := Lib.hid hln
 clear hv5 hln
 clear hb
 go_wp2_with fail
 have hsR := ltR
 refine (jnorm_any _ _ (L + 1) _ HF0.out (by omega)).mono ?_
 rintro e w6 ⟨v6, rfl, hv6, hb⟩
 replace cR0 := bc hb ltR cR0
 replace fR0 := bf hb ltR fR0
 replace cR1 := bc hb ltR cR1
 replace fR1 := bf hb ltR fR1
 replace cR2 := bc hb ltR cR2
 replace fR2 := bf hb ltR fR2
 replace ltR := bl hb ltR
 replace cX0 := bc hb ltX cX0
 replace cX1 := bc hb ltX cX1
 replace cX2 := bc hb ltX cX2
 replace ltX := bl hb ltX
 replace HX := Lib.hid (HX.out.below hb)
 replace HF0 := Lib.hid (HF0.out.below hb)
 replace hB := hB.trans (hb.mono hB.size)
 have HF := Lib.hid (hv6.mono (show w.heap.size + 2 ≤ w5.heap.size from hsR))
 obtain ⟨af, nf, cf, rfl, -, -⟩ := hv6
 generalize decide (r.floor < 0) = df at *
 clear hb
 clear HF0
 go_wp2_with fail
 have hbx : Below w6.heap.size w6 (w6.alloc (.cells #[.bool df, .slice af nf cf] 26)) := ((Below.refl _ _).alloc (Nat.le_refl _) _)
 generalize hWW : (w6.alloc (.cells #[.bool df, .slice af nf cf] 26)) = w7 at *
 replace cR0 := bc hbx ltR cR0
 replace fR0 := bf hbx ltR fR0
 replace cR1 := bc hbx ltR cR1
 replace fR1 := bf hbx ltR fR1
 replace cR2 := bc hbx ltR cR2
 replace fR2 := bf hbx ltR fR2
 replace ltR := bl hbx ltR
 replace cX0 := bc hbx ltX cX0
 replace cX1 := bc hbx ltX cX1
 replace cX2 := bc hbx ltX cX2
 replace ltX := bl hbx ltX
 replace HX := Lib.hid (HX.out.below hbx)
 replace HF := Lib.hid (HF.out.below hbx)
 have cF0 : w7.cell? ⟨w6.heap.size, 0, none⟩ = some (.bool df) := by subst hWW; go_simp
 have cF1 : w7.cell? ⟨w6.heap.size, 1, none⟩ = some (.slice af nf cf) := by subst hWW; go_simp
 have ltF : w6.heap.size < w7.heap.size := by subst hWW; simp
 replace hB := hB.trans (hbx.mono hB.size)
 clear hbx hWW
 have eR0 := box_ext (B := w7.heap.size) cR0 ltR
 have eR1 := box_ext (B := w7.heap.size) cR1 ltR
 have eR2 := box_ext (B := w7.heap.size) cR2 ltR
 have eX0 := box_ext (B := w7.heap.size) cX0 ltX
 have eX1 := box_ext (B := w7.heap.size) cX1 ltX
 have eX2 := box_ext (B := w7.heap.size) cX2 ltX
 have eF0 := box_ext (B := w7.heap.size) cF0 ltF
 have eF1 := box_ext (B := w7.heap.size) cF1 ltF
 refine wp_region_sched [(0, false), (1, false), (2, false), (3, false), (6, false), (4, true), (5, true), (7, true)] (fun w' => ∃ W : Ext w7.heap.size w7, w' = W.1) (by kernel_rfl) (by kernel_rfl) ⟨⟨w7.drew, (Below.refl _ _).drew⟩, rfl⟩ ?_
 repeat (refine wpSched_calm rfl (fun K hK => ?_); go_simp; refine hK _ ?_; clear hK K)
 clear eR0 eR1 eR2 eX0 eX1 eX2 eF0 eF1
 have hbx : Below w7.heap.size w7 w7.drew := (Below.refl _ _).drew
 have hM := hbx
 replace cR0 := bc hbx ltR cR0
 replace fR0 := bf hbx ltR fR0
 replace cR1 := bc hbx ltR cR1
 replace fR1 := bf hbx ltR fR1
 replace cR2 := bc hbx ltR cR2
 replace fR2 := bf hbx ltR fR2
 replace ltR := bl hbx ltR
 replace cX0 := bc hbx ltX cX0
 replace cX1 := bc hbx ltX cX1
 replace cX2 := bc hbx ltX cX2
 replace ltX := bl hbx ltX
 replace cF0 := bc hbx ltF cF0
 replace cF1 := bc hbx ltF cF1
 replace ltF := bl hbx ltF
 replace HX := Lib.hid (HX.out.below hbx)
 replace HF := Lib.hid (HF.out.below hbx)
 replace hB := hB.trans (hbx.mono hB.size)
 clear hbx
 generalize w7.drew = ww7d at *
 refine wpSched_eff rfl rfl (fun K hK => ?_)
 go_simp
 refine (jwhole_any _ _ (L + 1) _ (HF.out.raw (L + 1) HLn.out) (by omega)).mono ?_
 rintro e w8 ⟨v8, rfl, hv8, hb⟩
 replace cR0 := bc hb ltR cR0
 replace fR0 := bf hb ltR fR0
 replace cR1 := bc hb ltR cR1
 replace fR1 := bf hb ltR fR1
 replace cR2 := bc hb ltR cR2
 replace fR2 := bf hb ltR fR2
 replace ltR := bl hb ltR
 replace cX0 := bc hb ltX cX0
 replace cX1 := bc hb ltX cX1
 replace cX2 := bc hb ltX cX2
 replace ltX := bl hb ltX
 replace cF0 := bc hb ltF cF0
 replace cF1 := bc hb ltF cF1
 replace ltF := bl hb ltF
 replace HX := Lib.hid (HX.out.below hb)
 replace HF := Lib.hid (HF.out.below hb)
 replace hM := hM.trans (hb.mono hM.size)
 replace hB := hB.trans (hb.mono hB.size)
 have HW := Lib.hid (hv8.raw (rsz_int HLn.out (by omega)))
 clear hv8
 clear hb
 refine hK _ _ ⟨⟨w8, hM⟩, rfl⟩ ?_
 clear hK K
 refine wpSched_eff rfl rfl (fun K hK => ?_)
 go_simp
 refine (ksub_any _ _ r _ (L + 1) (L + 1) _ HX.out HW.out (by omega) (by omega) (by omega)).mono ?_
 rintro e w9 ⟨v9, rfl, hv9, hsz, hb⟩
 replace cR0 := bc hb ltR cR0
 replace fR0 := bf hb ltR fR0
 replace cR1 := bc hb ltR cR1
 replace fR1 := bf hb ltR fR1
 replace cR2 := bc hb ltR cR2
 replace fR2 := bf hb ltR fR2
 replace ltR := bl hb ltR
 replace cX0 := bc hb ltX cX0
 replace cX1 := bc hb ltX cX1
 replace cX2 := bc hb ltX cX2
 replace ltX := bl hb ltX
 replace cF0 := bc hb ltF cF0
 replace cF1 := bc hb ltF cF1
 replace ltF := bl hb ltF
 replace HX := Lib.hid (HX.out.below hb)
 replace HF := Lib.hid (HF.out.below hb)
 replace HW := Lib.hid (HW.out.below hb)
 replace hM := hM.trans (hb.mono hM.size)
 replace hB := hB.trans (hb.mono hB.size)
 have HS := Lib.hid (hv9.raw hsz)
 clear hv9 hsz
 clear hb
 refine hK _ _ ⟨⟨w9, hM⟩, rfl⟩ ?_
 clear hK K
 refine wpSched_eff rfl rfl (fun K hK => ?_)
 go_simp
 refine (up_any _ _ _ r _ _ _ (L + 1 + (L + 1) + 1) _ (HX.out.mono (by omega)) HF.out HS.out (by omega) (by omega) m h1 h2).mono ?_
 rintro e w10 ⟨rfl, hb⟩
 replace cR0 := bc hb ltR cR0
 replace fR0 := bf hb ltR fR0
 replace cR1 := bc hb ltR cR1
 replace fR1 := bf hb ltR fR1
 replace cR2 := bc hb ltR cR2
 replace fR2 := bf hb ltR fR2
 replace ltR := bl hb ltR
 replace cX0 := bc hb ltX cX0
 replace cX1 := bc hb ltX cX1
 replace cX2 := bc hb ltX cX2
 replace ltX := bl hb ltX
 replace cF0 := bc hb ltF cF0
 replace cF1 := bc hb ltF cF1
 replace ltF := bl hb ltF
 replace HX := Lib.hid (HX.out.below hb)
 replace HF := Lib.hid (HF.out.below hb)
 replace HW := Lib.hid (HW.out.below hb)
 replace HS := Lib.hid (HS.out.below hb)
 replace hM := hM.trans (hb.mono hM.size)
 replace hB := hB.trans (hb.mono hB.size)
 rw [HUp.out]
 clear hb
 refine hK _ _ ⟨⟨w10, hM⟩, rfl⟩ ?_
 clear hK K
 clear HW HS
 refine wpSched_nil ?_
 rw [← HRd.out] at HF
 have HFin := Lib.hid (dec_store (B' := w.heap.size) (g := w.heap.size + 1) HF.out (by omega) (by omega) (.int .i64 0))
 go_wp2_with fail
 exact bodyPost_ret (v := .tuple #[.agg #[.bool df, .slice af nf cf, .int .i64 0], .int .i64 0]) (by simp [results, Tryz.results75, go_sem, cR0, cR1, cR2]) rfl ⟨_, _, rfl, HFin.out, ((hB.setCell (p := ⟨w.heap.size + 1, 0, none⟩) (by simp) _).setCell (p := ⟨w.heap.size + 1, 1, none⟩) (by simp) _).setCell (p := ⟨w.heap.size + 1, 2, none⟩) (by simp) _⟩
set_option maxHeartbeats 4000000 in
theorem rround_up (v : Value) (r : Rat) (m : Int) (L : Nat) (w : World) (hv : RatV w v r L) (hL : 1 ≤ L) (hm : (2 * L + 8) * 4 ≤ 140737488355328) (h1 : 1 ≤ m) (h2 : m ≤ 7) (hu : upB m r = true) :
   Calls Tryz.prog 75 #[v, .int .i64 0, .int .i64 m] w fun e w' => ∃ b s, e = .returned (.tuple #[.agg #[b, s, .int .i64 0], .int .i64 0]) ∧ IntN w.heap.size w' (.agg #[b, s]) (roundI m r) ∧ Below w.heap.size w w' := by
 have HRd := Lib.hid (round_up (m := m) hu)
 have HUp := Lib.hid ((upX_upB m r).trans hu)
 clear hu
 have HR := Lib.hid hv
 obtain ⟨p, q, hr, hpq⟩ := hv
 obtain ⟨neg, a', len', cap', xs, a, len, cap, ys, rfl, -, -, -, -, -, -⟩ := hr
 clear hpq
 go_enter Tryz.func75, Tryz.ntmps75
 go_wp2_with fail
 have hbx : Below w.heap.size w ((w.alloc (.cells #[.bool neg, .slice a' len' cap', .slice a len cap] 28)).alloc (.cells #[.bool false, .slice none 0 0, .int .i64 0] 86)) := (((Below.refl _ _).alloc (Nat.le_refl _) _).alloc (by simp) _)
 generalize hWW : ((w.alloc (.cells #[.bool neg, .slice a' len' cap', .slice a len cap] 28)).alloc (.cells #[.bool false, .slice none 0 0, .int .i64 0] 86)) = w0 at *
 replace HR := Lib.hid (HR.out.below hbx)
 have cA0 : w0.cell? ⟨w.heap.size, 0, none⟩ = some (.bool neg) := by subst hWW; go_simp
 have cA1 : w0.cell? ⟨w.heap.size, 1, none⟩ = some (.slice a' len' cap') := by subst hWW; go_simp
 have cA2 : w0.cell? ⟨w.heap.size, 2, none⟩ = some (.slice a len cap) := by subst hWW; go_simp
 have ltA : w.heap.size < w0.heap.size := by subst hWW; simp <;> omega
 have cR0 : w0.cell? ⟨w.heap.size + 1, 0, none⟩ = some (.bool false) := by subst hWW; go_simp
 have fR0 : w0.frozen? ⟨w.heap.size + 1, 0, none⟩ = false := by subst hWW; go_simp
 have cR1 : w0.cell? ⟨w.heap.size + 1, 1, none⟩ = some (.slice none 0 0) := by subst hWW; go_simp
 have fR1 : w0.frozen? ⟨w.heap.size + 1, 1, none⟩ = false := by subst hWW; go_simp
 have cR2 : w0.cell? ⟨w.heap.size + 1, 2, none⟩ = some (.int .i64 0) := by subst hWW; go_simp
 have fR2 : w0.frozen? ⟨w.heap.size + 1, 2, none⟩ = false := by subst hWW; go_simp
 have ltR : w.heap.size + 1 < w0.heap.size := by subst hWW; simp
 have hB := hbx
 clear hbx hWW
 refine (jplaces_zero _).mono ?_
 rintro e w' ⟨rfl, rfl⟩
 go_wp2_with fail
 refine (jmode_ok m _ h1 h2).mono ?_
 rintro e w' ⟨rfl, rfl⟩
 go_wp2_with fail
 have SCA0 := Lib.hid cA0
 have SCA1 := Lib.hid cA1
 have SCA2 := Lib.hid cA2
 have SLA := Lib.hid ltA
 have SCR0 := Lib.hid cR0
 have SFR0 := Lib.hid fR0
 have SCR1 := Lib.hid cR1
 have SFR1 := Lib.hid fR1
 have SCR2 := Lib.hid cR2
 have SFR2 := Lib.hid fR2
 have SLR := Lib.hid ltR
 have SHR := Lib.hid HR.out
 have SB := Lib.hid hB
 have eA0 := box_ext (B := w0.heap.size) cA0 ltA
 have eA1 := box_ext (B := w0.heap.size) cA1 ltA
 have eA2 := box_ext (B := w0.heap.size) cA2 ltA
 have eR0 := box_ext (B := w0.heap.size) cR0 ltR
 have eR1 := box_ext (B := w0.heap.size) cR1 ltR
 have eR2 := box_ext (B := w0.heap.size) cR2 ltR
 refine wp_region_float 6 [(0, false), (1, false), (2, true), (3, false), (4, true), (5, true)] [(7, true)] (fun w' => ∃ W : Ext w0.heap.size w0, w' = W.1) _ 8 (.cells #[.bool false, .slice none 0 0, .slice none 0 0] 28) w0.heap.size (by kernel_rfl) rfl rfl rfl (fun a w => by simp [execOp, go_sem]) (fun w ⟨W, e⟩ => e ▸ W.2.size) (fun w ⟨W, e⟩ => ⟨⟨_, (e ▸ W.2).alloc (e ▸ W.2.size) _⟩, rfl⟩) (by kernel_rfl) ⟨⟨w0.drew, (Below.refl _ _).drew⟩, rfl⟩ ?_
 repeat (refine wpFl_calm rfl (fun K hK => ?_); go_simp; refine hK _ ?_; clear hK K)
 clear eA0 eA1 eA2 eR0 eR1 eR2
 have hbx : Below w0.heap.size w0 w0.drew := (Below.refl _ _).drew
 have hM := hbx
 replace cA0 := bc hbx ltA cA0
 replace cA1 := bc hbx ltA cA1
 replace cA2 := bc hbx ltA cA2
 replace ltA := bl hbx ltA
 replace cR0 := bc hbx ltR cR0
 replace fR0 := bf hbx ltR fR0
 replace cR1 := bc hbx ltR cR1
 replace fR1 := bf hbx ltR fR1
 replace cR2 := bc hbx ltR cR2
 replace fR2 := bf hbx ltR fR2
 replace ltR := bl hbx ltR
 replace HR := Lib.hid (HR.out.below hbx)
 replace hB := hB.trans (hbx.mono hB.size)
 clear hbx
 generalize w0.drew = ww0d at *
 refine wpFl_eff rfl rfl (fun wy hC hg K hK => ?_)
 obtain ⟨⟨wz, hE⟩, hwe⟩ := hC
 change wy = wz at hwe
 subst hwe
 replace cA0 := bc hg ltA cA0
 replace cA1 := bc hg ltA cA1
 replace cA2 := bc hg ltA cA2
 replace ltA := bl hg ltA
 replace cR0 := bc hg ltR cR0
 replace fR0 := bf hg ltR fR0
 replace cR1 := bc hg ltR cR1
 replace fR1 := bf hg ltR fR1
 replace cR2 := bc hg ltR cR2
 replace fR2 := bf hg ltR fR2
 replace ltR := bl hg ltR
 replace HR := Lib.hid (HR.out.below hg)
 replace hB := hB.trans (hg.mono hB.size)
 replace hM := hE
 clear hE hg
 go_simp
 refine (jpower_none _).mono ?_
 rintro e w1 ⟨v1, rfl, hv1, hb⟩
 replace cA0 := bc hb ltA cA0
 replace cA1 := bc hb ltA cA1
 replace cA2 := bc hb ltA cA2
 replace ltA := bl hb ltA
 replace cR0 := bc hb ltR cR0
 replace fR0 := bf hb ltR fR0
 replace cR1 := bc hb ltR cR1
 replace fR1 := bf hb ltR fR1
 replace cR2 := bc hb ltR cR2
 replace fR2 := bf hb ltR fR2
 replace ltR := bl hb ltR
 replace HR := Lib.hid (HR.out.below hb)
 replace hM := hM.trans (hb.mono hM.size)
 replace hB := hB.trans (hb.mono hB.size)
 obtain ⟨a1, n1, c1, rfl, hl1⟩ := hv1
 have HP := Lib.hid (show IntR w1 (.agg #[.bool false, .slice a1 n1 c1]) 1 1 from ⟨false, a1, n1, c1, _, rfl, hl1, by rw [natOf_digs]; rfl, by rw [← hl1.1]; exact digs_length_le (by simp)⟩)
 clear hl1
 refine hK _ _ ⟨⟨w1, hM⟩, rfl⟩ hb ?_
 clear hK K hb
 repeat (refine wpFl_calm rfl (fun K hK => ?_); go_simp; refine hK _ ?_; clear hK K)
 refine wpFl_eff rfl rfl (fun wy hC hg K hK => ?_)
 obtain ⟨⟨wz, hE⟩, hwe⟩ := hC
 change wy = wz at hwe
 subst hwe
 replace cA0 := bc hg ltA cA0
 replace cA1 := bc hg ltA cA1
 replace cA2 := bc hg ltA cA2
 replace ltA := bl hg ltA
 replace cR0 := bc hg ltR cR0
 replace fR0 := bf hg ltR fR0
 replace cR1 := bc hg ltR cR1
 replace fR1 := bf hg ltR fR1
 replace cR2 := bc hg ltR cR2
 replace fR2 := bf hg ltR fR2
 replace ltR := bl hg ltR
 replace HR := Lib.hid (HR.out.below hg)
 replace HP := Lib.hid (HP.out.below hg)
 replace hB := hB.trans (hg.mono hB.size)
 replace hM := hE
 clear hE hg
 go_simp
 refine (jwhole_any _ 1 1 _ HP.out (by omega)).mono ?_
 rintro e w2 ⟨v2, rfl, hv2, hb⟩
 replace cA0 := bc hb ltA cA0
 replace cA1 := bc hb ltA cA1
 replace cA2 := bc hb ltA cA2
 replace ltA := bl hb ltA
 replace cR0 := bc hb ltR cR0
 replace fR0 := bf hb ltR fR0
 replace cR1 := bc hb ltR cR1
 replace fR1 := bf hb ltR fR1
 replace cR2 := bc hb ltR cR2
 replace fR2 := bf hb ltR fR2
 replace ltR := bl hb ltR
 replace HR := Lib.hid (HR.out.below hb)
 replace HP := Lib.hid (HP.out.below hb)
 replace hM := hM.trans (hb.mono hM.size)
 replace hB := hB.trans (hb.mono hB.size)
 have HW := Lib.hid (hv2.raw rsz_one)
 clear hv2
 refine hK _ _ ⟨⟨w2, hM⟩, rfl⟩ hb ?_
 clear hK K hb
 refine wpFl_eff rfl rfl (fun wy hC hg K hK => ?_)
 obtain ⟨⟨wz, hE⟩, hwe⟩ := hC
 change wy = wz at hwe
 subst hwe
 replace cA0 := bc hg ltA cA0
 replace cA1 := bc hg ltA cA1
 replace cA2 := bc hg ltA cA2
 replace ltA := bl hg ltA
 replace cR0 := bc hg ltR cR0
 replace fR0 := bf hg ltR fR0
 replace cR1 := bc hg ltR cR1
 replace fR1 := bf hg ltR fR1
 replace cR2 := bc hg ltR cR2
 replace fR2 := bf hg ltR fR2
 replace ltR := bl hg ltR
 replace HR := Lib.hid (HR.out.below hg)
 replace HP := Lib.hid (HP.out.below hg)
 replace HW := Lib.hid (HW.out.below hg)
 replace hB := hB.trans (hg.mono hB.size)
 replace hM := hE
 clear hE hg
 go_simp
 refine (kmul_any _ _ r ((1 : Int) : Rat) L 1 _ HR.out HW.out hL (by omega) (by omega)).mono ?_
 rintro e w3 ⟨v3, rfl, hv3, hsz, hb⟩
 replace cA0 := bc hb ltA cA0
 replace cA1 := bc hb ltA cA1
 replace cA2 := bc hb ltA cA2
 replace ltA := bl hb ltA
 replace cR0 := bc hb ltR cR0
 replace fR0 := bf hb ltR fR0
 replace cR1 := bc hb ltR cR1
 replace fR1 := bf hb ltR fR1
 replace cR2 := bc hb ltR cR2
 replace fR2 := bf hb ltR fR2
 replace ltR := bl hb ltR
 replace HR := Lib.hid (HR.out.below hb)
 replace HP := Lib.hid (HP.out.below hb)
 replace HW := Lib.hid (HW.out.below hb)
 replace hM := hM.trans (hb.mono hM.size)
 replace hB := hB.trans (hb.mono hB.size)
 rw [show r * ((1 : Int) : Rat) = r from Rat.mul_one r] at hv3 hsz
 have HX := Lib.hid (hv3.raw hsz)
 obtain ⟨x', l', k', x, l, k, rfl, -, -, -, -⟩ := hv3
 clear hsz
 generalize decide (r.num < 0) = dn at *
 refine hK _ _ ⟨⟨w3, hM⟩, rfl⟩ hb ?_
 clear hK K hb
 clear HP HW
 refine wpFl_nil fun gX wy hC hg hBk hge => ?_
 obtain ⟨⟨wz, hE⟩, hwe⟩ := hC
 change wy = wz at hwe
 subst hwe
 replace cA0 := bc hg ltA cA0
 replace cA1 := bc hg ltA cA1
 replace cA2 := bc hg ltA cA2
 replace ltA := bl hg ltA
 replace cR0 := bc hg ltR cR0
 replace fR0 := bf hg ltR fR0
 replace cR1 := bc hg ltR cR1
 replace fR1 := bf hg ltR fR1
 replace cR2 := bc hg ltR cR2
 replace fR2 := bf hg ltR fR2
 replace ltR := bl hg ltR
 replace HR := Lib.hid (HR.out.below hg)
 replace HX := Lib.hid (HX.out.below hg)
 replace hB := hB.trans (hg.mono hB.size)
 replace hM := hE
 clear hE hg
 have z0 := blk_cell hBk 0
 have y0 := blk_free hBk 0
 have z1 := blk_cell hBk 1
 have y1 := blk_free hBk 1
 have z2 := blk_cell hBk 2
 have y2 := blk_free hBk 2
 simp at z0 z1 z2
 have hgl := blk_lt hBk
 refine wpSched_eff rfl rfl (fun K hK => ?_)
 go_simp
 refine hK _ _ ⟨⟨_, (((hM.setCell (p := ⟨gX, 0, none⟩) hge _).setCell (p := ⟨gX, 1, none⟩) hge _).setCell (p := ⟨gX, 2, none⟩) hge _)⟩, rfl⟩ ?_
 clear hK K
 refine wpSched_nil ?_
 have hMn := (((hM.setCell (p := ⟨gX, 0, none⟩) hge (.bool dn)).setCell (p := ⟨gX, 1, none⟩) hge (.slice x' l' k')).setCell (p := ⟨gX, 2, none⟩) hge (.slice x l k))
 replace HX := Lib.hid (HX.out.off hBk zRat_no (.bool dn) (.slice x' l' k') (.slice x l k))
 replace cA0 := bc hMn SLA.out SCA0.out
 replace cA1 := bc hMn SLA.out SCA1.out
 replace cA2 := bc hMn SLA.out SCA2.out
 replace ltA := bl hMn SLA.out
 replace cR0 := bc hMn SLR.out SCR0.out
 replace fR0 := bf hMn SLR.out SFR0.out
 replace cR1 := bc hMn SLR.out SCR1.out
 replace fR1 := bf hMn SLR.out SFR1.out
 replace cR2 := bc hMn SLR.out SCR2.out
 replace fR2 := bf hMn SLR.out SFR2.out
 replace ltR := bl hMn SLR.out
 replace HR := Lib.hid (SHR.out.below hMn)
 replace hB := SB.out.trans (hMn.mono SB.out.size)
 have cX0 : (((wy.setCell ⟨gX, 0, none⟩ (.bool dn)).setCell ⟨gX, 1, none⟩ (.slice x' l' k')).setCell ⟨gX, 2, none⟩ (.slice x l k)).cell? ⟨gX, 0, none⟩ = some (.bool dn) := by go_simp
 have cX1 : (((wy.setCell ⟨gX, 0, none⟩ (.bool dn)).setCell ⟨gX, 1, none⟩ (.slice x' l' k')).setCell ⟨gX, 2, none⟩ (.slice x l k)).cell? ⟨gX, 1, none⟩ = some (.slice x' l' k') := by go_simp
 have cX2 : (((wy.setCell ⟨gX, 0, none⟩ (.bool dn)).setCell ⟨gX, 1, none⟩ (.slice x' l' k')).setCell ⟨gX, 2, none⟩ (.slice x l k)).cell? ⟨gX, 2, none⟩ = some (.slice x l k) := by go_simp
 have ltX : gX < (((wy.setCell ⟨gX, 0, none⟩ (.bool dn)).setCell ⟨gX, 1, none⟩ (.slice x' l' k')).setCell ⟨gX, 2, none⟩ (.slice x l k)).heap.size := by simpa using hgl
 have neXA : w.heap.size < gX := Nat.lt_of_lt_of_le SLA.out hge
 have neXR : w.heap.size + 1 < gX := Nat.lt_of_lt_of_le SLR.out hge
 clear SCA0 SCA1 SCA2 SLA SCR0 SFR0 SCR1 SFR1 SCR2 SFR2 SLR SHR SB
 clear hMn hM hBk hgl z0 y0 z1 y1 z2 y2
 go_wp2_with fail
 generalize (((wy.setCell ⟨gX, 0, none⟩ (.bool dn)).setCell ⟨gX, 1, none⟩ (.slice x' l' k')).setCell ⟨gX, 2, none⟩ (.slice x l k)) = w4 at *
 clear HR
 clear cA0 cA1 cA2 ltA
 refine (kfloor_any _ r (L + 1) _ HX.out (by omega) (by omega)).mono ?_
 rintro e w5 ⟨v5, rfl, hv5, hln, hb⟩
 replace cR0 := bc hb ltR cR0
 replace fR0 := bf hb ltR fR0
 replace cR1 := bc hb ltR cR1
 replace fR1 := bf hb ltR fR1
 replace cR2 := bc hb ltR cR2
 replace fR2 := bf hb ltR fR2
 replace ltR := bl hb ltR
 replace cX0 := bc hb ltX cX0
 replace cX1 := bc hb ltX cX1
 replace cX2 := bc hb ltX cX2
 replace ltX := bl hb ltX
 replace HX := Lib.hid (HX.out.below hb)
 replace hB := hB.trans (hb.mono hB.size)
 have HF0 := Lib.hid (hv5.raw (L + 1) hln)
 have HLn := Lib.hid hln
 clear hv5 hln
 clear hb
 go_wp2_with fail
 have hsR := ltR
 refine (jnorm_any _ _ (L + 1) _ HF0.out (by omega)).mono ?_
 rintro e w6 ⟨v6, rfl, hv6, hb⟩
 replace cR0 := bc hb ltR cR0
 replace fR0 := bf hb ltR fR0
 replace cR1 := bc hb ltR cR1
 replace fR1 := bf hb ltR fR1
 replace cR2 := bc hb ltR cR2
 replace fR2 := bf hb ltR fR2
 replace ltR := bl hb ltR
 replace cX0 := bc hb ltX cX0
 replace cX1 := bc hb ltX cX1
 replace cX2 := bc hb ltX cX2
 replace ltX := bl hb ltX
 replace HX := Lib.hid (HX.out.below hb)
 replace HF0 := Lib.hid (HF0.out.below hb)
 replace hB := hB.trans (hb.mono hB.size)
 have HF := Lib.hid (hv6.mono (show w.heap.size + 2 ≤ w5.heap.size from hsR))
 obtain ⟨af, nf, cf, rfl, -, -⟩ := hv6
 generalize decide (r.floor < 0) = df at *
 clear hb
 clear HF0
 have hs6 := ltR
 have SCR0 := Lib.hid cR0
 have SFR0 := Lib.hid fR0
 have SCR1 := Lib.hid cR1
 have SFR1 := Lib.hid fR1
 have SCR2 := Lib.hid cR2
 have SFR2 := Lib.hid fR2
 have SLR := Lib.hid ltR
 have SCX0 := Lib.hid cX0
 have SCX1 := Lib.hid cX1
 have SCX2 := Lib.hid cX2
 have SLX := Lib.hid ltX
 have SHX := Lib.hid HX.out
 have SHF := Lib.hid HF.out
 have SB := Lib.hid hB
 have hP : Below w6.heap.size w6 w6 := Below.refl _ _
 go_wp2_with fail
 have hbx : Below w6.heap.size w6 (w6.alloc (.cells #[.bool df, .slice af nf cf] 26)) := ((Below.refl _ _).alloc (Nat.le_refl _) _)
 generalize hWW : (w6.alloc (.cells #[.bool df, .slice af nf cf] 26)) = w7 at *
 replace cR0 := bc hbx ltR cR0
 replace fR0 := bf hbx ltR fR0
 replace cR1 := bc hbx ltR cR1
 replace fR1 := bf hbx ltR fR1
 replace cR2 := bc hbx ltR cR2
 replace fR2 := bf hbx ltR fR2
 replace ltR := bl hbx ltR
 replace cX0 := bc hbx ltX cX0
 replace cX1 := bc hbx ltX cX1
 replace cX2 := bc hbx ltX cX2
 replace ltX := bl hbx ltX
 replace HX := Lib.hid (HX.out.below hbx)
 replace HF := Lib.hid (HF.out.below hbx)
 have cF0 : w7.cell? ⟨w6.heap.size, 0, none⟩ = some (.bool df) := by subst hWW; go_simp
 have fF0 : w7.frozen? ⟨w6.heap.size, 0, none⟩ = false := by subst hWW; go_simp
 have cF1 : w7.cell? ⟨w6.heap.size, 1, none⟩ = some (.slice af nf cf) := by subst hWW; go_simp
 have fF1 : w7.frozen? ⟨w6.heap.size, 1, none⟩ = false := by subst hWW; go_simp
 have ltF : w6.heap.size < w7.heap.size := by subst hWW; simp
 replace hB := hB.trans (hbx.mono hB.size)
 replace hP := hP.trans (hbx.mono hP.size)
 clear hbx hWW
 have eR0 := box_ext (B := w7.heap.size) cR0 ltR
 have eR1 := box_ext (B := w7.heap.size) cR1 ltR
 have eR2 := box_ext (B := w7.heap.size) cR2 ltR
 have eX0 := box_ext (B := w7.heap.size) cX0 ltX
 have eX1 := box_ext (B := w7.heap.size) cX1 ltX
 have eX2 := box_ext (B := w7.heap.size) cX2 ltX
 have eF0 := box_ext (B := w7.heap.size) cF0 ltF
 have eF1 := box_ext (B := w7.heap.size) cF1 ltF
 refine wp_region_sched [(0, false), (1, false), (2, false), (3, false), (6, false), (4, true), (5, true), (7, true)] (fun w' => ∃ W : Ext w7.heap.size w7, w' = W.1) (by kernel_rfl) (by kernel_rfl) ⟨⟨w7.drew, (Below.refl _ _).drew⟩, rfl⟩ ?_
 repeat (refine wpSched_calm rfl (fun K hK => ?_); go_simp; refine hK _ ?_; clear hK K)
 clear eR0 eR1 eR2 eX0 eX1 eX2 eF0 eF1
 have hbx : Below w7.heap.size w7 w7.drew := (Below.refl _ _).drew
 have hM := hbx
 replace cR0 := bc hbx ltR cR0
 replace fR0 := bf hbx ltR fR0
 replace cR1 := bc hbx ltR cR1
 replace fR1 := bf hbx ltR fR1
 replace cR2 := bc hbx ltR cR2
 replace fR2 := bf hbx ltR fR2
 replace ltR := bl hbx ltR
 replace cX0 := bc hbx ltX cX0
 replace cX1 := bc hbx ltX cX1
 replace cX2 := bc hbx ltX cX2
 replace ltX := bl hbx ltX
 replace cF0 := bc hbx ltF cF0
 replace fF0 := bf hbx ltF fF0
 replace cF1 := bc hbx ltF cF1
 replace fF1 := bf hbx ltF fF1
 replace ltF := bl hbx ltF
 replace HX := Lib.hid (HX.out.below hbx)
 replace HF := Lib.hid (HF.out.below hbx)
 replace hB := hB.trans (hbx.mono hB.size)
 replace hP := hP.trans (hbx.mono hP.size)
 clear hbx
 generalize w7.drew = ww7d at *
 refine wpSched_eff rfl rfl (fun K hK => ?_)
 go_simp
 refine (jwhole_any _ _ (L + 1) _ (HF.out.raw (L + 1) HLn.out) (by omega)).mono ?_
 rintro e w8 ⟨v8, rfl, hv8, hb⟩
 replace cR0 := bc hb ltR cR0
 replace fR0 := bf hb ltR fR0
 replace cR1 := bc hb ltR cR1
 replace fR1 := bf hb ltR fR1
 replace cR2 := bc hb ltR cR2
 replace fR2 := bf hb ltR fR2
 replace ltR := bl hb ltR
 replace cX0 := bc hb ltX cX0
 replace cX1 := bc hb ltX cX1
 replace cX2 := bc hb ltX cX2
 replace ltX := bl hb ltX
 replace cF0 := bc hb ltF cF0
 replace fF0 := bf hb ltF fF0
 replace cF1 := bc hb ltF cF1
 replace fF1 := bf hb ltF fF1
 replace ltF := bl hb ltF
 replace HX := Lib.hid (HX.out.below hb)
 replace HF := Lib.hid (HF.out.below hb)
 replace hM := hM.trans (hb.mono hM.size)
 replace hB := hB.trans (hb.mono hB.size)
 replace hP := hP.trans (hb.mono hP.size)
 have HW := Lib.hid (hv8.raw (rsz_int HLn.out (by omega)))
 clear hv8
 clear hb
 refine hK _ _ ⟨⟨w8, hM⟩, rfl⟩ ?_
 clear hK K
 refine wpSched_eff rfl rfl (fun K hK => ?_)
 go_simp
 refine (ksub_any _ _ r _ (L + 1) (L + 1) _ HX.out HW.out (by omega) (by omega) (by omega)).mono ?_
 rintro e w9 ⟨v9, rfl, hv9, hsz, hb⟩
 replace cR0 := bc hb ltR cR0
 replace fR0 := bf hb ltR fR0
 replace cR1 := bc hb ltR cR1
 replace fR1 := bf hb ltR fR1
 replace cR2 := bc hb ltR cR2
 replace fR2 := bf hb ltR fR2
 replace ltR := bl hb ltR
 replace cX0 := bc hb ltX cX0
 replace cX1 := bc hb ltX cX1
 replace cX2 := bc hb ltX cX2
 replace ltX := bl hb ltX
 replace cF0 := bc hb ltF cF0
 replace fF0 := bf hb ltF fF0
 replace cF1 := bc hb ltF cF1
 replace fF1 := bf hb ltF fF1
 replace ltF := bl hb ltF
 replace HX := Lib.hid (HX.out.below hb)
 replace HF := Lib.hid (HF.out.below hb)
 replace HW := Lib.hid (HW.out.below hb)
 replace hM := hM.trans (hb.mono hM.size)
 replace hB := hB.trans (hb.mono hB.size)
 replace hP := hP.trans (hb.mono hP.size)
 have HS := Lib.hid (hv9.raw hsz)
 clear hv9 hsz
 clear hb
 refine hK _ _ ⟨⟨w9, hM⟩, rfl⟩ ?_
 clear hK K
 refine wpSched_eff rfl rfl (fun K hK => ?_)
 go_simp
 refine (up_any _ _ _ r _ _ _ (L + 1 + (L + 1) + 1) _ (HX.out.mono (by omega)) HF.out HS.out (by omega) (by omega) m h1 h2).mono ?_
 rintro e w10 ⟨rfl, hb⟩
 replace cR0 := bc hb ltR cR0
 replace fR0 := bf hb ltR fR0
 replace cR1 := bc hb ltR cR1
 replace fR1 := bf hb ltR fR1
 replace cR2 := bc hb ltR cR2
 replace fR2 := bf hb ltR fR2
 replace ltR := bl hb ltR
 replace cX0 := bc hb ltX cX0
 replace cX1 := bc hb ltX cX1
 replace cX2 := bc hb ltX cX2
 replace ltX := bl hb ltX
 replace cF0 := bc hb ltF cF0
 replace fF0 := bf hb ltF fF0
 replace cF1 := bc hb ltF cF1
 replace fF1 := bf hb ltF fF1
 replace ltF := bl hb ltF
 replace HX := Lib.hid (HX.out.below hb)
 replace HF := Lib.hid (HF.out.below hb)
 replace HW := Lib.hid (HW.out.below hb)
 replace HS := Lib.hid (HS.out.below hb)
 replace hM := hM.trans (hb.mono hM.size)
 replace hB := hB.trans (hb.mono hB.size)
 replace hP := hP.trans (hb.mono hP.size)
 rw [HUp.out]
 clear hb
 refine hK _ _ ⟨⟨w10, hM⟩, rfl⟩ ?_
 clear hK K
 clear HW HS
 refine wpSched_nil ?_
 go_wp2_with fail
 have HOne := Lib.hid (show IntR (w10.alloc (.cells #[.int .u32 1] 67)) (.agg #[.bool false, .slice (some ⟨w10.heap.size, 0, none⟩) 1 1]) 1 (L + 1) from ⟨false, _, 1, 1, _, rfl, lit_one w10 1 (by omega) (by omega), by rw [natOf_digs]; rfl, by omega⟩)
 have hbx : Below w10.heap.size w10 (w10.alloc (.cells #[.int .u32 1] 67)) := ((Below.refl _ _).alloc (Nat.le_refl _) _)
 generalize hWW : (w10.alloc (.cells #[.int .u32 1] 67)) = w11 at *
 replace cR0 := bc hbx ltR cR0
 replace fR0 := bf hbx ltR fR0
 replace cR1 := bc hbx ltR cR1
 replace fR1 := bf hbx ltR fR1
 replace cR2 := bc hbx ltR cR2
 replace fR2 := bf hbx ltR fR2
 replace ltR := bl hbx ltR
 replace cX0 := bc hbx ltX cX0
 replace cX1 := bc hbx ltX cX1
 replace cX2 := bc hbx ltX cX2
 replace ltX := bl hbx ltX
 replace cF0 := bc hbx ltF cF0
 replace fF0 := bf hbx ltF fF0
 replace cF1 := bc hbx ltF cF1
 replace fF1 := bf hbx ltF fF1
 replace ltF := bl hbx ltF
 replace HX := Lib.hid (HX.out.below hbx)
 replace HF := Lib.hid (HF.out.below hbx)
 replace hB := hB.trans (hbx.mono hB.size)
 replace hP := hP.trans (hbx.mono hP.size)
 clear hbx hWW
 have hsF := ltF
 have hs11 := ltR
 refine (jadd_any _ _ _ _ (L + 1) _ (HF.out.raw (L + 1) HLn.out) HOne.out (by omega)).mono ?_
 rintro e w12 ⟨v12, rfl, hv12, hb⟩
 replace cR0 := bc hb ltR cR0
 replace fR0 := bf hb ltR fR0
 replace cR1 := bc hb ltR cR1
 replace fR1 := bf hb ltR fR1
 replace cR2 := bc hb ltR cR2
 replace fR2 := bf hb ltR fR2
 replace ltR := bl hb ltR
 replace cX0 := bc hb ltX cX0
 replace cX1 := bc hb ltX cX1
 replace cX2 := bc hb ltX cX2
 replace ltX := bl hb ltX
 replace cF0 := bc hb ltF cF0
 replace fF0 := bf hb ltF fF0
 replace cF1 := bc hb ltF cF1
 replace fF1 := bf hb ltF fF1
 replace ltF := bl hb ltF
 replace HX := Lib.hid (HX.out.below hb)
 replace HF := Lib.hid (HF.out.below hb)
 replace HOne := Lib.hid (HOne.out.below hb)
 replace hB := hB.trans (hb.mono hB.size)
 replace hP := hP.trans (hb.mono hP.size)
 rw [← HRd.out] at hv12
 obtain ⟨an, nn, cn, rfl, p1, p2⟩ := hv12
 have HN := Lib.hid (int_store (B := w11.heap.size) (B' := w.heap.size + 2) (g := w6.heap.size) ⟨an, nn, cn, rfl, p1, p2⟩ hsF (by omega))
 clear p1 p2
 generalize decide (roundI m r < 0) = dr at *
 clear hb
 clear HOne
 have hne1 : w6.heap.size ≠ w.heap.size + 1 := by omega
 have hne2 : w.heap.size + 1 ≠ w6.heap.size := by omega
 have HFin := Lib.hid (dec_store (B' := w.heap.size) (g := w.heap.size + 1) HN.out (by omega) (by omega) (.int .i64 0))
 have hB2 := SB.out.trans (((hP.setCell (p := ⟨w6.heap.size, 0, none⟩) (Nat.le_refl _) (.bool dr)).setCell (p := ⟨w6.heap.size, 1, none⟩) (Nat.le_refl _) (.slice an nn cn)).mono SB.out.size)
 go_wp2_with fail
 exact bodyPost_ret (v := .tuple #[.agg #[.bool dr, .slice an nn cn, .int .i64 0], .int .i64 0]) (by simp [results, Tryz.results75, go_sem, cR0, cR1, cR2]) rfl ⟨_, _, rfl, HFin.out, ((hB2.setCell (p := ⟨w.heap.size + 1, 0, none⟩) (by simp) _).setCell (p := ⟨w.heap.size + 1, 1, none⟩) (by simp) _).setCell (p := ⟨w.heap.size + 1, 2, none⟩) (by simp) _⟩
theorem rround_any (v : Value) (r : Rat) (m : Int) (L : Nat) (w : World) (hv : RatV w v r L) (hL : 1 ≤ L) (hm : (2 * L + 8) * 4 ≤ 140737488355328) (h1 : 1 ≤ m) (h2 : m ≤ 7) :
   Calls Tryz.prog 75 #[v, .int .i64 0, .int .i64 m] w fun e w' => ∃ b s, e = .returned (.tuple #[.agg #[b, s, .int .i64 0], .int .i64 0]) ∧ IntN w.heap.size w' (.agg #[b, s]) (roundI m r) ∧ Below w.heap.size w w' := by
 cases hu : upB m r
 · exact rround_no v r m L w hv hL hm h1 h2 hu
 · exact rround_up v r m L w hv hL hm h1 h2 hu
set_option maxHeartbeats 1000000 in
theorem jinteger_any (v : Value) (r : Rat) (m : Int) (L : Nat) (w : World) (hv : RatV w v r L) (hL : 1 ≤ L) (hm : (2 * L + 8) * 4 ≤ 140737488355328) (h1 : 1 ≤ m) (h2 : m ≤ 7) :
   Calls Tryz.prog 46 #[v, .int .i64 m] w fun e w' => ∃ v, e = .returned (.tuple #[v, .int .i64 0]) ∧ IntN w.heap.size w' v (roundI m r) ∧ Below w.heap.size w w' := by
 obtain ⟨p, q, hr, hpq⟩ := hv
 have HR := Lib.hid (show RatV w v r L from ⟨p, q, hr, hpq⟩)
 obtain ⟨neg, a', len', cap', xs, a, len, cap, ys, rfl, -, -, -, -, -, -⟩ := hr
 clear hpq
 go_enter Tryz.func46, Tryz.ntmps46
 go_wp2_with fail
 have hbx : Below w.heap.size w ((w.alloc (.cells #[.bool neg, .slice a' len' cap', .slice a len cap] 28)).alloc (.cells #[.bool false, .slice none 0 0] 26)) := (((Below.refl _ _).alloc (Nat.le_refl _) _).alloc (by simp) _)
 generalize hWW : ((w.alloc (.cells #[.bool neg, .slice a' len' cap', .slice a len cap] 28)).alloc (.cells #[.bool false, .slice none 0 0] 26)) = w0 at *
 replace HR := Lib.hid (HR.out.below hbx)
 have cA0 : w0.cell? ⟨w.heap.size, 0, none⟩ = some (.bool neg) := by subst hWW; go_simp
 have cA1 : w0.cell? ⟨w.heap.size, 1, none⟩ = some (.slice a' len' cap') := by subst hWW; go_simp
 have cA2 : w0.cell? ⟨w.heap.size, 2, none⟩ = some (.slice a len cap) := by subst hWW; go_simp
 have ltA : w.heap.size < w0.heap.size := by subst hWW; simp <;> omega
 have cR0 : w0.cell? ⟨w.heap.size + 1, 0, none⟩ = some (.bool false) := by subst hWW; go_simp
 have fR0 : w0.frozen? ⟨w.heap.size + 1, 0, none⟩ = false := by subst hWW; go_simp
 have cR1 : w0.cell? ⟨w.heap.size + 1, 1, none⟩ = some (.slice none 0 0) := by subst hWW; go_simp
 have fR1 : w0.frozen? ⟨w.heap.size + 1, 1, none⟩ = false := by subst hWW; go_simp
 have ltR : w.heap.size + 1 < w0.heap.size := by subst hWW; simp
 have hB := hbx
 clear hbx hWW
 have hs1 := ltR
 refine (rround_any _ r m L _ HR.out hL hm h1 h2).mono ?_
 rintro e w1 ⟨vb, vs, rfl, hv1, hb⟩
 replace cA0 := bc hb ltA cA0
 replace cA1 := bc hb ltA cA1
 replace cA2 := bc hb ltA cA2
 replace ltA := bl hb ltA
 replace cR0 := bc hb ltR cR0
 replace fR0 := bf hb ltR fR0
 replace cR1 := bc hb ltR cR1
 replace fR1 := bf hb ltR fR1
 replace ltR := bl hb ltR
 replace HR := Lib.hid (HR.out.below hb)
 replace hB := hB.trans (hb.mono hB.size)
 obtain ⟨a1, n1, c1, e1, p1, p2⟩ := hv1
 cases e1
 have HFin := Lib.hid (int_store (B := w0.heap.size) (B' := w.heap.size) (g := w.heap.size + 1) (z := roundI m r) ⟨a1, n1, c1, rfl, p1, p2⟩ hs1 (by omega))
 clear p1 p2
 generalize decide (roundI m r < 0) = dn at *
 clear hb
 go_wp2_with fail
 exact bodyPost_ret (v := .tuple #[.agg #[.bool dn, .slice a1 n1 c1], .int .i64 0]) (by simp [results, Tryz.results46, go_sem, cR0, cR1, ltR]) rfl ⟨_, rfl, HFin.out.below ((Below.refl _ _).alloc (Nat.le_refl _) _), (((hB.setCell (p := ⟨w.heap.size + 1, 0, none⟩) (by simp) _).setCell (p := ⟨w.heap.size + 1, 1, none⟩) (by simp) _).alloc (by simpa using hB.size) _)⟩
end Go.Proofs.YtahmndacoanfiaaGreat
