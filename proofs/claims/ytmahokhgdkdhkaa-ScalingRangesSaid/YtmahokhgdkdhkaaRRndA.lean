/- Rounding: what the reference's Floor, places, Mode, power, Whole and up return. Condition: the limbs can be read, and take at most 2^47 bytes. -/
import Derived.Test.YtmahokhgdkdhkaaRIntD
import Derived.Test.YtmahokhgdkdhkaaRRatD
import Derived.Test.YtmahokhgdkdhkaaRnd
import Derived.Test.YtmahokhgdkdhkaaIntU
namespace Go.Proofs.Ytmahokhgdkdhkaa
set_option maxRecDepth 100000
open Go.RowKit

set_option maxHeartbeats 2000000 in
theorem kfloor_any (v : Value) (r : Rat) (L : Nat) (w : World) (hv : RatV w v r L) (hL : 1 ≤ L) (hm : (2 * L + 1) * 4 ≤ 140737488355328) :
    Calls Try.prog 71 #[v] w fun e w' => ∃ v, e = .returned v ∧ IntN w.heap.size w' v r.floor ∧ (digs r.floor.natAbs).length ≤ L ∧ Below w.heap.size w w' := by
  obtain ⟨p, q, hr, hpq⟩ := hv
  have HRl := Lib.hid hr.lens
  have HS := Lib.hid (mk_floor (p := ptN p q) (ptD_ne q))
  rw [mk_pt, hpq] at HS
  have HLn := Lib.hid (ptN_len (q := q) HRl.out.1)
  have HLd := Lib.hid (show (digs ((ptD q : Nat) : Int).natAbs).length ≤ L by simpa using ptD_len HRl.out.2 hL)
  have HLf := Lib.hid (show (digs r.floor.natAbs).length ≤ L by rw [← HS.out]; exact Nat.le_trans (digs_len_le' (Int.natAbs_ediv_le_natAbs _ _)) HLn.out)
  have HR := Lib.hid hr
  obtain ⟨neg, a', len', cap', xs, a, len, cap, ys, rfl, -, -, -, -, -, -⟩ := hr
  clear hpq
  go_enter Try.func71, Try.ntmps71
  go_wp2_with fail
  have hbx : Below w.heap.size w ((w.alloc (.cells #[.bool neg, .slice a' len' cap', .slice a len cap] 27)).alloc (.cells #[.bool false, .slice none 0 0] 25)) := (((Below.refl _ _).alloc (Nat.le_refl _) _).alloc (by simp) _)
  generalize hWW : ((w.alloc (.cells #[.bool neg, .slice a' len' cap', .slice a len cap] 27)).alloc (.cells #[.bool false, .slice none 0 0] 25)) = w0 at *
  replace HR := Lib.hid (HR.out.below hbx)
  have cA0 : w0.cell? ⟨w.heap.size, 0, none⟩ = some (.bool neg) := by subst hWW; go_simp
  have cA1 : w0.cell? ⟨w.heap.size, 1, none⟩ = some (.slice a' len' cap') := by subst hWW; go_simp
  have cA2 : w0.cell? ⟨w.heap.size, 2, none⟩ = some (.slice a len cap) := by subst hWW; go_simp
  have ltA : w.heap.size < w0.heap.size := by subst hWW; simp <;> omega
  have cR0 : w0.cell? ⟨w.heap.size + 1, 0, none⟩ = some (.bool false) := by subst hWW; go_simp
  have fR0 : w0.frozen? ⟨w.heap.size + 1, 0, none⟩ = false := by subst hWW; go_simp
  have cR1 : w0.cell? ⟨w.heap.size + 1, 1, none⟩ = some (.slice none 0 0) := by subst hWW; go_simp
  have fR1 : w0.frozen? ⟨w.heap.size + 1, 1, none⟩ = false := by subst hWW; go_simp
  have ltR : w.heap.size + 1 < w0.heap.size := by subst hWW; simp
  have hB := hbx
  clear hbx hWW
  have SCA0 := Lib.hid cA0
  have SCA1 := Lib.hid cA1
  have SCA2 := Lib.hid cA2
  have SLA := Lib.hid ltA
  have SCR0 := Lib.hid cR0
  have SFR0 := Lib.hid fR0
  have SCR1 := Lib.hid cR1
  have SFR1 := Lib.hid fR1
  have SLR := Lib.hid ltR
  have SHR := Lib.hid HR.out
  have SB := Lib.hid hB
  have eA0 := box_ext (B := w0.heap.size) cA0 ltA
  have eA1 := box_ext (B := w0.heap.size) cA1 ltA
  have eA2 := box_ext (B := w0.heap.size) cA2 ltA
  have eR0 := box_ext (B := w0.heap.size) cR0 ltR
  have eR1 := box_ext (B := w0.heap.size) cR1 ltR
  refine wp_region_float2 10 11 [(0, false), (2, false), (1, true), (3, true), (4, true), (5, true), (6, false), (7, false), (8, false), (9, false)] [(12, true), (13, true), (14, false)] (fun w' => ∃ W : Ext w0.heap.size w0, w' = W.1) _ _ 3 4 (.cells #[.bool false, .slice none 0 0] 25) (.cells #[.bool false, .slice none 0 0] 25) w0.heap.size (by kernel_rfl) rfl rfl rfl rfl rfl rfl (fun a w => by simp [execOp, go_sem, ptr]) (fun a w => by simp [execOp, go_sem, ptr]) (fun w ⟨W, e⟩ => e ▸ W.2.size) (fun w ⟨W, e⟩ => ⟨⟨_, (e ▸ W.2).alloc (e ▸ W.2.size) _⟩, rfl⟩) (fun w ⟨W, e⟩ => ⟨⟨_, (e ▸ W.2).alloc (e ▸ W.2.size) _⟩, rfl⟩) (by decide) (by kernel_rfl) ⟨⟨w0.drew, (Below.refl _ _).drew⟩, rfl⟩ ?_
  repeat (refine wpFl2_calm rfl (fun K hK => ?_); go_simp; refine hK _ ?_; clear hK K)
  clear eA0 eA1 eA2 eR0 eR1
  have hbx : Below w0.heap.size w0 w0.drew := (Below.refl _ _).drew
  have hM := hbx
  replace cA0 := bc hbx ltA cA0
  replace cA1 := bc hbx ltA cA1
  replace cA2 := bc hbx ltA cA2
  replace ltA := bl hbx ltA
  replace cR0 := bc hbx ltR cR0
  replace fR0 := bf hbx ltR fR0
  replace cR1 := bc hbx ltR cR1
  replace fR1 := bf hbx ltR fR1
  replace ltR := bl hbx ltR
  replace HR := Lib.hid (HR.out.below hbx)
  replace hB := hB.trans (hbx.mono hB.size)
  clear hbx
  generalize w0.drew = ww0d at *
  refine wpFl2_eff rfl rfl (fun wy hC hg K hK => ?_)
  obtain ⟨⟨wz, hE⟩, hwe⟩ := hC
  change wy = wz at hwe
  subst hwe
  replace cA0 := bc hg ltA cA0
  replace cA1 := bc hg ltA cA1
  replace cA2 := bc hg ltA cA2
  replace ltA := bl hg ltA
  replace cR0 := bc hg ltR cR0
  replace fR0 := bf hg ltR fR0
  replace cR1 := bc hg ltR cR1
  replace fR1 := bf hg ltR fR1
  replace ltR := bl hg ltR
  replace HR := Lib.hid (HR.out.below hg)
  replace hB := hB.trans (hg.mono hB.size)
  replace hM := hE
  clear hE hg
  go_simp
  refine (ktop_any _ p q L _ HR.out (by omega)).mono ?_
  rintro e w1 ⟨v1, rfl, hi, hb⟩
  replace cA0 := bc hb ltA cA0
  replace cA1 := bc hb ltA cA1
  replace cA2 := bc hb ltA cA2
  replace ltA := bl hb ltA
  replace cR0 := bc hb ltR cR0
  replace fR0 := bf hb ltR fR0
  replace cR1 := bc hb ltR cR1
  replace fR1 := bf hb ltR fR1
  replace ltR := bl hb ltR
  replace HR := Lib.hid (HR.out.below hb)
  replace hM := hM.trans (hb.mono hM.size)
  replace hB := hB.trans (hb.mono hB.size)
  have HI := Lib.hid (hi.raw L HLn.out)
  clear hi
  refine hK _ _ ⟨⟨w1, hM⟩, rfl⟩ hb ?_
  clear hK K hb
  refine wpFl2_eff rfl rfl (fun wy hC hg K hK => ?_)
  obtain ⟨⟨wz, hE⟩, hwe⟩ := hC
  change wy = wz at hwe
  subst hwe
  replace cA0 := bc hg ltA cA0
  replace cA1 := bc hg ltA cA1
  replace cA2 := bc hg ltA cA2
  replace ltA := bl hg ltA
  replace cR0 := bc hg ltR cR0
  replace fR0 := bf hg ltR fR0
  replace cR1 := bc hg ltR cR1
  replace fR1 := bf hg ltR fR1
  replace ltR := bl hg ltR
  replace HR := Lib.hid (HR.out.below hg)
  replace HI := Lib.hid (HI.out.below hg)
  replace hB := hB.trans (hg.mono hB.size)
  replace hM := hE
  clear hE hg
  go_simp
  refine (klow_any _ p q L _ HR.out (by omega)).mono ?_
  rintro e w2 ⟨v2, rfl, hd, hb⟩
  replace cA0 := bc hb ltA cA0
  replace cA1 := bc hb ltA cA1
  replace cA2 := bc hb ltA cA2
  replace ltA := bl hb ltA
  replace cR0 := bc hb ltR cR0
  replace fR0 := bf hb ltR fR0
  replace cR1 := bc hb ltR cR1
  replace fR1 := bf hb ltR fR1
  replace ltR := bl hb ltR
  replace HR := Lib.hid (HR.out.below hb)
  replace HI := Lib.hid (HI.out.below hb)
  replace hM := hM.trans (hb.mono hM.size)
  replace hB := hB.trans (hb.mono hB.size)
  have HD := Lib.hid (hd.rawN (ptD_len HRl.out.2 hL))
  clear hd
  refine hK _ _ ⟨⟨w2, hM⟩, rfl⟩ hb ?_
  clear hK K hb
  refine wpFl2_eff rfl rfl (fun wy hC hg K hK => ?_)
  obtain ⟨⟨wz, hE⟩, hwe⟩ := hC
  change wy = wz at hwe
  subst hwe
  replace cA0 := bc hg ltA cA0
  replace cA1 := bc hg ltA cA1
  replace cA2 := bc hg ltA cA2
  replace ltA := bl hg ltA
  replace cR0 := bc hg ltR cR0
  replace fR0 := bf hg ltR fR0
  replace cR1 := bc hg ltR cR1
  replace fR1 := bf hg ltR fR1
  replace ltR := bl hg ltR
  replace HR := Lib.hid (HR.out.below hg)
  replace HI := Lib.hid (HI.out.below hg)
  replace HD := Lib.hid (HD.out.below hg)
  replace hB := hB.trans (hg.mono hB.size)
  replace hM := hE
  clear hE hg
  go_simp
  refine (jmake_raw _ _ L _ HD.out (by omega)).mono ?_
  rintro e w3 ⟨v3, rfl, hj, hb⟩
  replace cA0 := bc hb ltA cA0
  replace cA1 := bc hb ltA cA1
  replace cA2 := bc hb ltA cA2
  replace ltA := bl hb ltA
  replace cR0 := bc hb ltR cR0
  replace fR0 := bf hb ltR fR0
  replace cR1 := bc hb ltR cR1
  replace fR1 := bf hb ltR fR1
  replace ltR := bl hb ltR
  replace HR := Lib.hid (HR.out.below hb)
  replace HI := Lib.hid (HI.out.below hb)
  replace HD := Lib.hid (HD.out.below hb)
  replace hM := hM.trans (hb.mono hM.size)
  replace hB := hB.trans (hb.mono hB.size)
  have HJ := Lib.hid hj
  clear hj
  refine hK _ _ ⟨⟨w3, hM⟩, rfl⟩ hb ?_
  clear hK K hb
  refine wpFl2_eff rfl rfl (fun wy hC hg K hK => ?_)
  obtain ⟨⟨wz, hE⟩, hwe⟩ := hC
  change wy = wz at hwe
  subst hwe
  replace cA0 := bc hg ltA cA0
  replace cA1 := bc hg ltA cA1
  replace cA2 := bc hg ltA cA2
  replace ltA := bl hg ltA
  replace cR0 := bc hg ltR cR0
  replace fR0 := bf hg ltR fR0
  replace cR1 := bc hg ltR cR1
  replace fR1 := bf hg ltR fR1
  replace ltR := bl hg ltR
  replace HR := Lib.hid (HR.out.below hg)
  replace HI := Lib.hid (HI.out.below hg)
  replace HD := Lib.hid (HD.out.below hg)
  replace HJ := Lib.hid (HJ.out.below hg)
  replace hB := hB.trans (hg.mono hB.size)
  replace hM := hE
  clear hE hg
  go_simp
  have hsB' : w.heap.size + 2 ≤ wy.heap.size := ltR
  refine (jdivmod_any _ _ _ _ L _ HI.out HJ.out (by have := Nat.pos_of_ne_zero (ptD_ne q); omega) HLn.out HLd.out hm).mono ?_
  rintro e w4 ⟨vq, vs, rfl, hq, hs, hb⟩
  replace cA0 := bc hb ltA cA0
  replace cA1 := bc hb ltA cA1
  replace cA2 := bc hb ltA cA2
  replace ltA := bl hb ltA
  replace cR0 := bc hb ltR cR0
  replace fR0 := bf hb ltR fR0
  replace cR1 := bc hb ltR cR1
  replace fR1 := bf hb ltR fR1
  replace ltR := bl hb ltR
  replace HR := Lib.hid (HR.out.below hb)
  replace HI := Lib.hid (HI.out.below hb)
  replace HD := Lib.hid (HD.out.below hb)
  replace HJ := Lib.hid (HJ.out.below hb)
  replace hM := hM.trans (hb.mono hM.size)
  replace hB := hB.trans (hb.mono hB.size)
  rw [HS.out] at hq
  have HQ := Lib.hid (hq.mono hsB')
  obtain ⟨aq, nq, cq, rfl, -, -⟩ := hq
  obtain ⟨az, nz, cz, rfl, -, -⟩ := hs
  generalize decide (r.floor < 0) = dq at *
  generalize decide (ptN p q % ((ptD q : Nat) : Int) < 0) = ds at *
  refine hK _ _ ⟨⟨w4, hM⟩, rfl⟩ hb ?_
  clear hK K hb
  clear HI HD HJ
  repeat (refine wpFl2_calm rfl (fun K hK => ?_); go_simp; refine hK _ ?_; clear hK K)
  refine wpFl2_nil fun gQ gE wy hC hg hBk hBk2 hge hge2 hgn => ?_
  obtain ⟨⟨wz, hE⟩, hwe⟩ := hC
  change wy = wz at hwe
  subst hwe
  replace cA0 := bc hg ltA cA0
  replace cA1 := bc hg ltA cA1
  replace cA2 := bc hg ltA cA2
  replace ltA := bl hg ltA
  replace cR0 := bc hg ltR cR0
  replace fR0 := bf hg ltR fR0
  replace cR1 := bc hg ltR cR1
  replace fR1 := bf hg ltR fR1
  replace ltR := bl hg ltR
  replace HR := Lib.hid (HR.out.below hg)
  replace HQ := Lib.hid (HQ.out.below hg)
  replace hB := hB.trans (hg.mono hB.size)
  replace hM := hE
  clear hE hg
  have z0 := blk_cell hBk 0
  have y0 := blk_free hBk 0
  have z1 := blk_cell hBk 1
  have y1 := blk_free hBk 1
  have v0 := blk_cell hBk2 0
  have u0 := blk_free hBk2 0
  have v1 := blk_cell hBk2 1
  have u1 := blk_free hBk2 1
  simp at z0 z1 v0 v1
  have hgl := blk_lt hBk
  have hgl2 := blk_lt hBk2
  have hgn2 := Ne.symm hgn
  refine wpSched_eff rfl rfl (fun K hK => ?_)
  go_simp
  refine hK _ _ ⟨⟨_, ((hM.setCell (p := ⟨gQ, 0, none⟩) hge _).setCell (p := ⟨gQ, 1, none⟩) hge _)⟩, rfl⟩ ?_
  clear hK K
  refine wpSched_eff rfl rfl (fun K hK => ?_)
  go_simp
  refine hK _ _ ⟨⟨_, ((((hM.setCell (p := ⟨gQ, 0, none⟩) hge _).setCell (p := ⟨gQ, 1, none⟩) hge _).setCell (p := ⟨gE, 0, none⟩) hge2 _).setCell (p := ⟨gE, 1, none⟩) hge2 _)⟩, rfl⟩ ?_
  clear hK K
  repeat (refine wpSched_calm rfl (fun K hK => ?_); go_simp; refine hK _ ?_; clear hK K)
  refine wpSched_nil ?_
  have hMn := ((((hM.setCell (p := ⟨gQ, 0, none⟩) hge (.bool dq)).setCell (p := ⟨gQ, 1, none⟩) hge (.slice aq nq cq)).setCell (p := ⟨gE, 0, none⟩) hge2 (.bool ds)).setCell (p := ⟨gE, 1, none⟩) hge2 (.slice az nz cz))
  replace HQ := Lib.hid (HQ.out.off4 hBk zInt_no hBk2 zInt_no (.bool dq) (.slice aq nq cq) (.bool ds) (.slice az nz cz))
  replace cA0 := bc hMn SLA.out SCA0.out
  replace cA1 := bc hMn SLA.out SCA1.out
  replace cA2 := bc hMn SLA.out SCA2.out
  replace ltA := bl hMn SLA.out
  replace cR0 := bc hMn SLR.out SCR0.out
  replace fR0 := bf hMn SLR.out SFR0.out
  replace cR1 := bc hMn SLR.out SCR1.out
  replace fR1 := bf hMn SLR.out SFR1.out
  replace ltR := bl hMn SLR.out
  replace HR := Lib.hid (SHR.out.below hMn)
  replace hB := SB.out.trans (hMn.mono SB.out.size)
  have cQ0 : ((((wy.setCell ⟨gQ, 0, none⟩ (.bool dq)).setCell ⟨gQ, 1, none⟩ (.slice aq nq cq)).setCell ⟨gE, 0, none⟩ (.bool ds)).setCell ⟨gE, 1, none⟩ (.slice az nz cz)).cell? ⟨gQ, 0, none⟩ = some (.bool dq) := by go_simp
  have fQ0 : ((((wy.setCell ⟨gQ, 0, none⟩ (.bool dq)).setCell ⟨gQ, 1, none⟩ (.slice aq nq cq)).setCell ⟨gE, 0, none⟩ (.bool ds)).setCell ⟨gE, 1, none⟩ (.slice az nz cz)).frozen? ⟨gQ, 0, none⟩ = false := by go_simp
  have cQ1 : ((((wy.setCell ⟨gQ, 0, none⟩ (.bool dq)).setCell ⟨gQ, 1, none⟩ (.slice aq nq cq)).setCell ⟨gE, 0, none⟩ (.bool ds)).setCell ⟨gE, 1, none⟩ (.slice az nz cz)).cell? ⟨gQ, 1, none⟩ = some (.slice aq nq cq) := by go_simp
  have fQ1 : ((((wy.setCell ⟨gQ, 0, none⟩ (.bool dq)).setCell ⟨gQ, 1, none⟩ (.slice aq nq cq)).setCell ⟨gE, 0, none⟩ (.bool ds)).setCell ⟨gE, 1, none⟩ (.slice az nz cz)).frozen? ⟨gQ, 1, none⟩ = false := by go_simp
  have ltQ : gQ < ((((wy.setCell ⟨gQ, 0, none⟩ (.bool dq)).setCell ⟨gQ, 1, none⟩ (.slice aq nq cq)).setCell ⟨gE, 0, none⟩ (.bool ds)).setCell ⟨gE, 1, none⟩ (.slice az nz cz)).heap.size := by simpa using hgl
  have cE0 : ((((wy.setCell ⟨gQ, 0, none⟩ (.bool dq)).setCell ⟨gQ, 1, none⟩ (.slice aq nq cq)).setCell ⟨gE, 0, none⟩ (.bool ds)).setCell ⟨gE, 1, none⟩ (.slice az nz cz)).cell? ⟨gE, 0, none⟩ = some (.bool ds) := by go_simp
  have fE0 : ((((wy.setCell ⟨gQ, 0, none⟩ (.bool dq)).setCell ⟨gQ, 1, none⟩ (.slice aq nq cq)).setCell ⟨gE, 0, none⟩ (.bool ds)).setCell ⟨gE, 1, none⟩ (.slice az nz cz)).frozen? ⟨gE, 0, none⟩ = false := by go_simp
  have cE1 : ((((wy.setCell ⟨gQ, 0, none⟩ (.bool dq)).setCell ⟨gQ, 1, none⟩ (.slice aq nq cq)).setCell ⟨gE, 0, none⟩ (.bool ds)).setCell ⟨gE, 1, none⟩ (.slice az nz cz)).cell? ⟨gE, 1, none⟩ = some (.slice az nz cz) := by go_simp
  have fE1 : ((((wy.setCell ⟨gQ, 0, none⟩ (.bool dq)).setCell ⟨gQ, 1, none⟩ (.slice aq nq cq)).setCell ⟨gE, 0, none⟩ (.bool ds)).setCell ⟨gE, 1, none⟩ (.slice az nz cz)).frozen? ⟨gE, 1, none⟩ = false := by go_simp
  have ltE : gE < ((((wy.setCell ⟨gQ, 0, none⟩ (.bool dq)).setCell ⟨gQ, 1, none⟩ (.slice aq nq cq)).setCell ⟨gE, 0, none⟩ (.bool ds)).setCell ⟨gE, 1, none⟩ (.slice az nz cz)).heap.size := by simpa using hgl2
  have neQA : w.heap.size < gQ := Nat.lt_of_lt_of_le SLA.out hge
  have neEA : w.heap.size < gE := Nat.lt_of_lt_of_le SLA.out hge2
  have neQR : w.heap.size + 1 < gQ := Nat.lt_of_lt_of_le SLR.out hge
  have neER : w.heap.size + 1 < gE := Nat.lt_of_lt_of_le SLR.out hge2
  clear SCA0 SCA1 SCA2 SLA SCR0 SFR0 SCR1 SFR1 SLR SHR SB
  clear hMn hM hBk hBk2 hgl hgl2 z0 y0 z1 y1 v0 u0 v1 u1
  go_wp2_with fail
  generalize ((((wy.setCell ⟨gQ, 0, none⟩ (.bool dq)).setCell ⟨gQ, 1, none⟩ (.slice aq nq cq)).setCell ⟨gE, 0, none⟩ (.bool ds)).setCell ⟨gE, 1, none⟩ (.slice az nz cz)) = w5 at *
  have HFin := Lib.hid (int_store (B' := w.heap.size) (g := w.heap.size + 1) HQ.out (by omega) (by omega))
  exact bodyPost_ret (v := .agg #[.bool dq, .slice aq nq cq]) (by simp [results, Try.results71, go_sem, cR0, cR1]) rfl ⟨_, rfl, HFin.out, HLf.out, (hB.setCell (p := ⟨w.heap.size + 1, 0, none⟩) (by simp) _).setCell (p := ⟨w.heap.size + 1, 1, none⟩) (by simp) _⟩

theorem jplaces_zero (w : World) : Calls Try.prog 67 #[.int .i64 0] w fun e w' => e = .returned (.bool true) ∧ w = w' := by
  go_enter Try.func67, Try.ntmps67
  go_wp2_with fail
  go_ret
  exact ⟨rfl, rfl⟩
theorem jmode_ok (m : Int) (w : World) (h1 : 1 ≤ m) (h2 : m ≤ 7) : Calls Try.prog 68 #[.int .i64 m] w fun e w' => e = .returned (.bool true) ∧ w = w' := by
  go_enter Try.func68, Try.ntmps68
  go_wp2_with fail
  go_ret
  exact ⟨rfl, rfl⟩
theorem jpower_none (w : World) : Calls Try.prog 70 #[.int .i64 0] w fun e w' => ∃ v, e = .returned v ∧ Num w' v 1 ∧ Below w.heap.size w w' := by
  have hb0 : Below w.heap.size w (w.alloc (.cells #[.int .u32 10] 87)) := (Below.refl _ _).alloc (Nat.le_refl _) _
  go_enter Try.func70, Try.ntmps70
  go_wp2_with fail
  refine (rpow_none _ _).mono ?_
  rintro e w1 ⟨v1, rfl, hv1, hb1⟩
  have HV := Lib.hid hv1
  clear hv1
  go_wp2_with fail
  go_ret
  exact ⟨_, rfl, HV.out, hb0.trans (hb1.mono (by simp))⟩

theorem lit_one (w : World) (n : Nat) (hn : n < 4294967296) (h0 : n ≠ 0) : Limbs (w.alloc (.cells #[.int .u32 (n : Int)] 87)) (some ⟨w.heap.size, 0, none⟩) 1 1 (digs n) := by
  have hl := limbs_lit w 87 [n] (fun x hx => by simp at hx; omega) (by simp [maxLen])
  rw [digs_one hn h0]
  exact hl

set_option maxHeartbeats 1000000 in
theorem jwhole_any (v : Value) (z : Int) (L : Nat) (w : World) (hv : IntR w v z L) (hm : L * 4 ≤ 281474976710656) :
    Calls Try.prog 69 #[v] w fun e w' => ∃ v, e = .returned v ∧ RatN w.heap.size w' v (z : Rat) ∧ Below w.heap.size w w' := by
  have HV := Lib.hid hv
  obtain ⟨neg, a, len, cap, xs, rfl, -, -, -⟩ := hv
  go_enter Try.func69, Try.ntmps69
  go_wp2_with fail
  have hbx : Below w.heap.size w ((w.alloc (.cells #[.bool neg, .slice a len cap] 25)).alloc (.cells #[.bool false, .slice none 0 0, .slice none 0 0] 27)) := (((Below.refl _ _).alloc (Nat.le_refl _) _).alloc (by simp) _)
  generalize hWW : ((w.alloc (.cells #[.bool neg, .slice a len cap] 25)).alloc (.cells #[.bool false, .slice none 0 0, .slice none 0 0] 27)) = w0 at *
  replace HV := Lib.hid (HV.out.below hbx)
  have cA0 : w0.cell? ⟨w.heap.size, 0, none⟩ = some (.bool neg) := by subst hWW; go_simp
  have cA1 : w0.cell? ⟨w.heap.size, 1, none⟩ = some (.slice a len cap) := by subst hWW; go_simp
  have ltA : w.heap.size < w0.heap.size := by subst hWW; simp <;> omega
  have cR0 : w0.cell? ⟨w.heap.size + 1, 0, none⟩ = some (.bool false) := by subst hWW; go_simp
  have fR0 : w0.frozen? ⟨w.heap.size + 1, 0, none⟩ = false := by subst hWW; go_simp
  have cR1 : w0.cell? ⟨w.heap.size + 1, 1, none⟩ = some (.slice none 0 0) := by subst hWW; go_simp
  have fR1 : w0.frozen? ⟨w.heap.size + 1, 1, none⟩ = false := by subst hWW; go_simp
  have cR2 : w0.cell? ⟨w.heap.size + 1, 2, none⟩ = some (.slice none 0 0) := by subst hWW; go_simp
  have fR2 : w0.frozen? ⟨w.heap.size + 1, 2, none⟩ = false := by subst hWW; go_simp
  have ltR : w.heap.size + 1 < w0.heap.size := by subst hWW; simp
  have hB := hbx
  clear hbx hWW
  have hs0 := ltR
  refine (jnorm_any _ z L _ HV.out hm).mono ?_
  rintro e w1 ⟨v1, rfl, hv1, hb⟩
  replace cA0 := bc hb ltA cA0
  replace cA1 := bc hb ltA cA1
  replace ltA := bl hb ltA
  replace cR0 := bc hb ltR cR0
  replace fR0 := bf hb ltR fR0
  replace cR1 := bc hb ltR cR1
  replace fR1 := bf hb ltR fR1
  replace cR2 := bc hb ltR cR2
  replace fR2 := bf hb ltR fR2
  replace ltR := bl hb ltR
  replace HV := Lib.hid (HV.out.below hb)
  replace hB := hB.trans (hb.mono hB.size)
  have hsz := hb.size
  obtain ⟨a1, n1, c1, rfl, p1, p2⟩ := hv1
  have hl1 := lit_one (((w1.setCell ⟨w.heap.size + 1, 0, none⟩ (.bool (decide (z < 0)))).setCell ⟨w.heap.size + 1, 1, none⟩ (.slice a1 n1 c1)).setCell ⟨w.heap.size + 1, 2, none⟩ (.slice (some ⟨w1.heap.size, 0, none⟩) 1 1)) 1 (by omega) (by omega)
  rw [show (((w1.setCell ⟨w.heap.size + 1, 0, none⟩ (.bool (decide (z < 0)))).setCell ⟨w.heap.size + 1, 1, none⟩ (.slice a1 n1 c1)).setCell ⟨w.heap.size + 1, 2, none⟩ (.slice (some ⟨w1.heap.size, 0, none⟩) 1 1)).heap.size = w1.heap.size by simp] at hl1
  have HFin := Lib.hid (show RatN w.heap.size ((((w1.setCell ⟨w.heap.size + 1, 0, none⟩ (.bool (decide (z < 0)))).setCell ⟨w.heap.size + 1, 1, none⟩ (.slice a1 n1 c1)).setCell ⟨w.heap.size + 1, 2, none⟩ (.slice (some ⟨w1.heap.size, 0, none⟩) 1 1)).alloc (.cells #[.int .u32 1] 87)) (.agg #[.bool (decide (z < 0)), .slice a1 n1 c1, .slice (some ⟨w1.heap.size, 0, none⟩) 1 1]) (z : Rat) from ⟨a1, n1, c1, some ⟨w1.heap.size, 0, none⟩, 1, 1, rfl, (((p1.off (p2.off hs0) 0 _).off (p2.off hs0) 1 _).off (p2.off hs0) 2 _).below ((Below.refl _ _).alloc (Nat.le_refl _) _), p2.mono (by omega), hl1, new_at _ _ _ _ _ (by omega)⟩)
  clear p1 p2 hl1
  generalize decide (z < 0) = dn at *
  clear hb
  go_wp2_with fail
  exact bodyPost_ret (v := .agg #[.bool dn, .slice a1 n1 c1, .slice (some ⟨w1.heap.size, 0, none⟩) 1 1]) (by simp [results, Try.results69, go_sem, cR0, cR1, cR2, ltR]) rfl ⟨_, rfl, HFin.out, (((hB.setCell (p := ⟨w.heap.size + 1, 0, none⟩) (by simp) _).setCell (p := ⟨w.heap.size + 1, 1, none⟩) (by simp) _).setCell (p := ⟨w.heap.size + 1, 2, none⟩) (by simp) _).alloc (by simpa using hB.size) _⟩

end Go.Proofs.Ytmahokhgdkdhkaa
