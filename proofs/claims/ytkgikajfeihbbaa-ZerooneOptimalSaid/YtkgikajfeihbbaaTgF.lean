/- 0-1 programs: what the reference's Tighten returns. -/
import Derived.Test.YtkgikajfeihbbaaTgD
import Derived.Test.YtkgikajfeihbbaaTgE
namespace Go.Proofs.Ytkgikajfeihbbaa
set_option maxRecDepth 100000
open Go.RowKit

set_option maxHeartbeats 16000000 in
theorem rtighten_any (p : ProbM) (a0 a1 a2 : Option Addr) (l0 c0 l1 c1 l2 c2 : Nat) (w : World) (h0 : Row .i64 w a0 l0 c0 p.val) (h1 : RowsIn w a1 l1 c1 p.rows) (h2 : Row .i64 w a2 l2 c2 p.fix) (ho : validOf p = 0) :
    Calls Try.prog 19 #[.agg #[.slice a0 l0 c0, .slice a1 l1 c1, .slice a2 l2 c2]] w fun e w' => ∃ o v, e = .returned (.tuple #[v, .int .i64 (resE o)]) ∧ TightTo p.rows p.fix o ∧ ProbIn w' v (resP p o) ∧ Below w.heap.size w w' := by
  have HPb := Lib.hid (show ProbIn w (.agg #[.slice a0 l0 c0, .slice a1 l1 c1, .slice a2 l2 c2]) p from ⟨a0, l0, c0, a1, l1, c1, a2, l2, c2, rfl, h0, h1, h2⟩)
  have H0 := Lib.hid h0
  have H1 := Lib.hid h1
  have H2 := Lib.hid h2
  have HL0 := Lib.hid h0.1
  have HL1 := Lib.hid h1.1
  have HL2 := Lib.hid h2.1
  have HRw := Lib.hid h1
  have HVd := Lib.hid (validM ho)
  have hn0 : l0 ≤ 24 := by rw [← h0.1]; exact (validM ho).n
  have HO := Lib.hid ho
  have hn2 : l2 ≤ 24 := by rw [← h2.1, (validM ho).fixn]; exact (validM ho).n
  have hn1 : l1 ≤ 60 := by rw [← h1.1]; exact (validM ho).m
  have HW0 := Lib.hid (show Wf64 p.val from h0.2.1)
  have HWr := Lib.hid (show ∀ i, i < l1 → Wf64 (p.rows.getD i default).coef from fun i hi => by
    obtain ⟨_, _, _, _, _, _, _, hrow, _⟩ := h1.at hi
    exact hrow.2.1)
  have HN := Lib.hid (show (∀ i, i < p.rows.length → (p.rows.getD i default).coef.length = l2) ∧ (∀ i, i < p.rows.length → Small (p.rows.getD i default).coef) from ⟨fun i hi => by rw [(validM ho).coefn i hi, ← (validM ho).fixn]; exact h2.1, (validM ho).coef⟩)
  clear h0 h1 h2 ho
  go_enter Try.func19, Try.ntmps19
  go_wp2_with fail
  have hbx : Below w.heap.size w ((w.alloc (.cells #[.slice a0 l0 c0, .slice a1 l1 c1, .slice a2 l2 c2] 25)).alloc (.cells #[.slice none 0 0, .slice none 0 0, .slice none 0 0] 25)) := (((Below.refl _ _).alloc (Nat.le_refl _) _).alloc (by simp) _)
  generalize hWW : ((w.alloc (.cells #[.slice a0 l0 c0, .slice a1 l1 c1, .slice a2 l2 c2] 25)).alloc (.cells #[.slice none 0 0, .slice none 0 0, .slice none 0 0] 25)) = w0 at *
  replace HPb := Lib.hid (HPb.out.below hbx)
  replace H0 := Lib.hid (H0.out.below hbx)
  replace H2 := Lib.hid (H2.out.below hbx)
  have cK0 : w0.cell? ⟨w.heap.size, 0, none⟩ = some (.slice a0 l0 c0) := by subst hWW; go_simp
  have cK1 : w0.cell? ⟨w.heap.size, 1, none⟩ = some (.slice a1 l1 c1) := by subst hWW; go_simp
  have cK2 : w0.cell? ⟨w.heap.size, 2, none⟩ = some (.slice a2 l2 c2) := by subst hWW; go_simp
  have ltK : w.heap.size < w0.heap.size := by subst hWW; simp <;> omega
  have cR0 : w0.cell? ⟨w.heap.size + 1, 0, none⟩ = some (.slice none 0 0) := by subst hWW; go_simp
  have fR0 : w0.frozen? ⟨w.heap.size + 1, 0, none⟩ = false := by subst hWW; go_simp
  have cR1 : w0.cell? ⟨w.heap.size + 1, 1, none⟩ = some (.slice none 0 0) := by subst hWW; go_simp
  have fR1 : w0.frozen? ⟨w.heap.size + 1, 1, none⟩ = false := by subst hWW; go_simp
  have cR2 : w0.cell? ⟨w.heap.size + 1, 2, none⟩ = some (.slice none 0 0) := by subst hWW; go_simp
  have fR2 : w0.frozen? ⟨w.heap.size + 1, 2, none⟩ = false := by subst hWW; go_simp
  have ltR : w.heap.size + 1 < w0.heap.size := by subst hWW; simp
  have hB := hbx
  clear hbx hWW
  refine (ref_valid_any _ p _ HPb.out).mono ?_
  rintro e w0v ⟨rfl, hb⟩
  replace cK0 := bc hb ltK cK0
  replace cK1 := bc hb ltK cK1
  replace cK2 := bc hb ltK cK2
  replace ltK := bl hb ltK
  replace cR0 := bc hb ltR cR0
  replace fR0 := bf hb ltR fR0
  replace cR1 := bc hb ltR cR1
  replace fR1 := bf hb ltR fR1
  replace cR2 := bc hb ltR cR2
  replace fR2 := bf hb ltR fR2
  replace ltR := bl hb ltR
  replace HPb := Lib.hid (HPb.out.below hb)
  replace H0 := Lib.hid (H0.out.below hb)
  replace H2 := Lib.hid (H2.out.below hb)
  replace hB := hB.trans (hb.mono hB.size)
  rw [HO.out]
  clear hb
  clear HPb
  go_wp2_with fail
  have SCK0 := Lib.hid cK0
  have SCK1 := Lib.hid cK1
  have SCK2 := Lib.hid cK2
  have SLK := Lib.hid ltK
  have SCR0 := Lib.hid cR0
  have SFR0 := Lib.hid fR0
  have SCR1 := Lib.hid cR1
  have SFR1 := Lib.hid fR1
  have SCR2 := Lib.hid cR2
  have SFR2 := Lib.hid fR2
  have SLR := Lib.hid ltR
  have SH0 := Lib.hid H0.out
  have SH2 := Lib.hid H2.out
  have SB := Lib.hid hB
  have eK0 := box_ext (B := w0v.heap.size) cK0 ltK
  have eK1 := box_ext (B := w0v.heap.size) cK1 ltK
  have eK2 := box_ext (B := w0v.heap.size) cK2 ltK
  have eR0 := box_ext (B := w0v.heap.size) cR0 ltR
  have eR1 := box_ext (B := w0v.heap.size) cR1 ltR
  have eR2 := box_ext (B := w0v.heap.size) cR2 ltR
  refine wp_region_float 7 [(0, false), (1, false), (3, false), (4, false), (2, true), (5, true), (6, false)] [(8, true)] (fun w' => ∃ W : Ext w0v.heap.size w0v, w' = W.1) _ 5 (.cells #[.slice none 0 0, .slice none 0 0, .slice none 0 0] 25) w0v.heap.size (by kernel_rfl) rfl rfl rfl (fun a w => by simp [execOp, go_sem]) (fun w ⟨W, e⟩ => e ▸ W.2.size) (fun w ⟨W, e⟩ => ⟨⟨_, (e ▸ W.2).alloc (e ▸ W.2.size) _⟩, rfl⟩) (by kernel_rfl) ⟨⟨w0v.drew, (Below.refl _ _).drew⟩, rfl⟩ ?_
  repeat (refine wpFl_calm rfl (fun K hK => ?_); go_simp; refine hK _ ?_; clear hK K)
  clear eK0 eK1 eK2 eR0 eR1 eR2
  have hbx : Below w0v.heap.size w0v w0v.drew := (Below.refl _ _).drew
  have hM := hbx
  replace cK0 := bc hbx ltK cK0
  replace cK1 := bc hbx ltK cK1
  replace cK2 := bc hbx ltK cK2
  replace ltK := bl hbx ltK
  replace cR0 := bc hbx ltR cR0
  replace fR0 := bf hbx ltR fR0
  replace cR1 := bc hbx ltR cR1
  replace fR1 := bf hbx ltR fR1
  replace cR2 := bc hbx ltR cR2
  replace fR2 := bf hbx ltR fR2
  replace ltR := bl hbx ltR
  replace H0 := Lib.hid (H0.out.below hbx)
  replace H2 := Lib.hid (H2.out.below hbx)
  replace hB := hB.trans (hbx.mono hB.size)
  clear hbx
  generalize w0v.drew = ww0vd at *
  refine wpFl_eff rfl rfl (fun wy hC hg K hK => ?_)
  obtain ⟨⟨wz, hE⟩, hwe⟩ := hC
  change wy = wz at hwe
  subst hwe
  replace cK0 := bc hg ltK cK0
  replace cK1 := bc hg ltK cK1
  replace cK2 := bc hg ltK cK2
  replace ltK := bl hg ltK
  replace cR0 := bc hg ltR cR0
  replace fR0 := bf hg ltR fR0
  replace cR1 := bc hg ltR cR1
  replace fR1 := bf hg ltR fR1
  replace cR2 := bc hg ltR cR2
  replace fR2 := bf hg ltR fR2
  replace ltR := bl hg ltR
  replace H0 := Lib.hid (H0.out.below hg)
  replace H2 := Lib.hid (H2.out.below hg)
  replace hB := hB.trans (hg.mono hB.size)
  replace hM := hE
  clear hE hg
  go_simp
  refine (rints_any (w.heap.size + 2) p.val a0 l0 c0 _ H0.out (by omega) (by omega)).mono ?_
  rintro e w1 ⟨b0, d0, rfl, hv1, hb⟩
  replace cK0 := bc hb ltK cK0
  replace cK1 := bc hb ltK cK1
  replace cK2 := bc hb ltK cK2
  replace ltK := bl hb ltK
  replace cR0 := bc hb ltR cR0
  replace fR0 := bf hb ltR fR0
  replace cR1 := bc hb ltR cR1
  replace fR1 := bf hb ltR fR1
  replace cR2 := bc hb ltR cR2
  replace fR2 := bf hb ltR fR2
  replace ltR := bl hb ltR
  replace H0 := Lib.hid (H0.out.below hb)
  replace H2 := Lib.hid (H2.out.below hb)
  replace hM := hM.trans (hb.mono hM.size)
  replace hB := hB.trans (hb.mono hB.size)
  have HV1 := Lib.hid hv1
  have HZ1 := Lib.hid (show Sz w1 w1.heap.size from Nat.le_refl _)
  have hz1 : w.heap.size + 2 ≤ w1.heap.size := ltR
  have HI1 := Lib.hid hv1.in
  clear hv1
  refine hK _ _ ⟨⟨w1, hM⟩, rfl⟩ hb ?_
  clear hK K hb
  refine wpFl_eff rfl rfl (fun wy hC hg K hK => ?_)
  obtain ⟨⟨wz, hE⟩, hwe⟩ := hC
  change wy = wz at hwe
  subst hwe
  replace cK0 := bc hg ltK cK0
  replace cK1 := bc hg ltK cK1
  replace cK2 := bc hg ltK cK2
  replace ltK := bl hg ltK
  replace cR0 := bc hg ltR cR0
  replace fR0 := bf hg ltR fR0
  replace cR1 := bc hg ltR cR1
  replace fR1 := bf hg ltR fR1
  replace cR2 := bc hg ltR cR2
  replace fR2 := bf hg ltR fR2
  replace ltR := bl hg ltR
  replace H0 := Lib.hid (H0.out.below hg)
  replace H2 := Lib.hid (H2.out.below hg)
  replace HV1 := Lib.hid (HV1.out.below hg)
  replace HZ1 := Lib.hid (HZ1.out.below hg)
  replace hB := hB.trans (hg.mono hB.size)
  replace hM := hE
  clear hE hg
  go_simp
  refine (rints_any w1.heap.size p.fix a2 l2 c2 _ H2.out (by omega) HZ1.out).mono ?_
  rintro e w2 ⟨b2, d2, rfl, hv2, hb⟩
  replace cK0 := bc hb ltK cK0
  replace cK1 := bc hb ltK cK1
  replace cK2 := bc hb ltK cK2
  replace ltK := bl hb ltK
  replace cR0 := bc hb ltR cR0
  replace fR0 := bf hb ltR fR0
  replace cR1 := bc hb ltR cR1
  replace fR1 := bf hb ltR fR1
  replace cR2 := bc hb ltR cR2
  replace fR2 := bf hb ltR fR2
  replace ltR := bl hb ltR
  replace H0 := Lib.hid (H0.out.below hb)
  replace H2 := Lib.hid (H2.out.below hb)
  replace HV1 := Lib.hid (HV1.out.below hb)
  replace HZ1 := Lib.hid (HZ1.out.below hb)
  replace hM := hM.trans (hb.mono hM.size)
  replace hB := hB.trans (hb.mono hB.size)
  have HLt2 := Lib.hid hv2.lt
  have HV2 := Lib.hid (hv2.mono hz1)
  clear hv2
  refine hK _ _ ⟨⟨w2, hM⟩, rfl⟩ hb ?_
  clear hK K hb
  repeat (refine wpFl_calm rfl (fun K hK => ?_); go_simp; refine hK _ ?_; clear hK K)
  refine wpFl_nil fun gQ wy hC hg hBk hge => ?_
  obtain ⟨⟨wz, hE⟩, hwe⟩ := hC
  change wy = wz at hwe
  subst hwe
  replace cK0 := bc hg ltK cK0
  replace cK1 := bc hg ltK cK1
  replace cK2 := bc hg ltK cK2
  replace ltK := bl hg ltK
  replace cR0 := bc hg ltR cR0
  replace fR0 := bf hg ltR fR0
  replace cR1 := bc hg ltR cR1
  replace fR1 := bf hg ltR fR1
  replace cR2 := bc hg ltR cR2
  replace fR2 := bf hg ltR fR2
  replace ltR := bl hg ltR
  replace H0 := Lib.hid (H0.out.below hg)
  replace H2 := Lib.hid (H2.out.below hg)
  replace HV1 := Lib.hid (HV1.out.below hg)
  replace HZ1 := Lib.hid (HZ1.out.below hg)
  replace HV2 := Lib.hid (HV2.out.below hg)
  replace hB := hB.trans (hg.mono hB.size)
  replace hM := hE
  clear hE hg
  have z0 := blk_cell hBk 0
  have y0 := blk_free hBk 0
  have z1 := blk_cell hBk 1
  have y1 := blk_free hBk 1
  have z2 := blk_cell hBk 2
  have y2 := blk_free hBk 2
  simp at z0 z1 z2
  have hgl := blk_lt hBk
  refine wpSched_eff rfl rfl (fun K hK => ?_)
  go_simp
  refine hK _ _ ⟨⟨_, (((hM.setCell (p := ⟨gQ, 0, none⟩) hge _).setCell (p := ⟨gQ, 1, none⟩) hge _).setCell (p := ⟨gQ, 2, none⟩) hge _)⟩, rfl⟩ ?_
  clear hK K
  refine wpSched_nil ?_
  have hMn := (((hM.setCell (p := ⟨gQ, 0, none⟩) hge (.slice b0 l0 d0)).setCell (p := ⟨gQ, 1, none⟩) hge (.slice none 0 0)).setCell (p := ⟨gQ, 2, none⟩) hge (.slice b2 l2 d2))
  have hq1 := HV1.out.offBlk hBk (by decide)
  have hq2 := HV2.out.offBlk hBk (by decide)
  replace HV1 := Lib.hid (((HV1.out.by (gby_set _ _ 0 (.slice b0 l0 d0)) hq1).by (gby_set _ _ 1 (.slice none 0 0)) hq1).by (gby_set _ _ 2 (.slice b2 l2 d2)) hq1)
  replace HV2 := Lib.hid (((HV2.out.by (gby_set _ _ 0 (.slice b0 l0 d0)) hq2).by (gby_set _ _ 1 (.slice none 0 0)) hq2).by (gby_set _ _ 2 (.slice b2 l2 d2)) hq2)
  have HQb := Lib.hid (blk_set (o := 2) (blk_set (o := 1) (blk_set (o := 0) hBk (.slice b0 l0 d0)) (.slice none 0 0)) (.slice b2 l2 d2))
  simp at HQb
  replace cK0 := bc hMn SLK.out SCK0.out
  replace cK1 := bc hMn SLK.out SCK1.out
  replace cK2 := bc hMn SLK.out SCK2.out
  replace ltK := bl hMn SLK.out
  replace cR0 := bc hMn SLR.out SCR0.out
  replace fR0 := bf hMn SLR.out SFR0.out
  replace cR1 := bc hMn SLR.out SCR1.out
  replace fR1 := bf hMn SLR.out SFR1.out
  replace cR2 := bc hMn SLR.out SCR2.out
  replace fR2 := bf hMn SLR.out SFR2.out
  replace ltR := bl hMn SLR.out
  replace H0 := Lib.hid (SH0.out.below hMn)
  replace H2 := Lib.hid (SH2.out.below hMn)
  replace hB := SB.out.trans (hMn.mono SB.out.size)
  have cQ0 : (((wy.setCell ⟨gQ, 0, none⟩ (.slice b0 l0 d0)).setCell ⟨gQ, 1, none⟩ (.slice none 0 0)).setCell ⟨gQ, 2, none⟩ (.slice b2 l2 d2)).cell? ⟨gQ, 0, none⟩ = some (.slice b0 l0 d0) := by go_simp
  have cQ1 : (((wy.setCell ⟨gQ, 0, none⟩ (.slice b0 l0 d0)).setCell ⟨gQ, 1, none⟩ (.slice none 0 0)).setCell ⟨gQ, 2, none⟩ (.slice b2 l2 d2)).cell? ⟨gQ, 1, none⟩ = some (.slice none 0 0) := by go_simp
  have cQ2 : (((wy.setCell ⟨gQ, 0, none⟩ (.slice b0 l0 d0)).setCell ⟨gQ, 1, none⟩ (.slice none 0 0)).setCell ⟨gQ, 2, none⟩ (.slice b2 l2 d2)).cell? ⟨gQ, 2, none⟩ = some (.slice b2 l2 d2) := by go_simp
  have ltQ : gQ < (((wy.setCell ⟨gQ, 0, none⟩ (.slice b0 l0 d0)).setCell ⟨gQ, 1, none⟩ (.slice none 0 0)).setCell ⟨gQ, 2, none⟩ (.slice b2 l2 d2)).heap.size := by simpa using hgl
  have neQK : w.heap.size < gQ := Nat.lt_of_lt_of_le SLK.out hge
  have neQR : w.heap.size + 1 < gQ := Nat.lt_of_lt_of_le SLR.out hge
  clear SCK0 SCK1 SCK2 SLK SCR0 SFR0 SCR1 SFR1 SCR2 SFR2 SLR SH0 SH2 SB
  clear hMn hM hBk hgl z0 y0 z1 y1 z2 y2
  go_wp2_with fail
  generalize (((wy.setCell ⟨gQ, 0, none⟩ (.slice b0 l0 d0)).setCell ⟨gQ, 1, none⟩ (.slice none 0 0)).setCell ⟨gQ, 2, none⟩ (.slice b2 l2 d2)) = w3 at *
  have HCr := Lib.hid (And.intro cR0 (And.intro cR1 (And.intro cR2 (And.intro fR0 (And.intro fR1 fR2)))))
  have HBw := Lib.hid hB
  have hwl : w.heap.size + 2 ≤ w3.heap.size := by omega
  have hqw : w.heap.size + 2 ≤ gQ := by omega
  have hbt : ∀ j, (Value.slice b2 l2 d2).ownBlock = some j → j < w3.heap.size := HV2.out.in
  have HCk := Lib.hid cK1
  have hkq : w.heap.size ≠ gQ := by omega
  clear cK0 cK1 cK2 cR0 cR1 cR2 fR0 fR1 fR2 H0 H2 hB cQ0 cQ1 cQ2 hge neQK neQR
  have HBt := Lib.hid hbt
  have HQ1 := Lib.hid hq1
  have HQ2 := Lib.hid hq2
  clear hbt hq1 hq2
  go_loopw [6] (fun i wr => ∃ (k : Nat) (b1 : Option Addr) (d1 : Nat) (cs : List Value), k ≤ l1 ∧ i = .int .i64 k ∧ w3.grownBy wr (some gQ) ∧ Hid (wr.heap[gQ]? = some (.cells #[.slice b0 l0 d0, .slice b1 k d1, .slice b2 l2 d2] 25)) ∧ Hid (OwnsK wr w3.heap.size 44 3 (.slice b1 k d1) k cs) ∧ Hid (RowsAre wr w3.heap.size cs p.rows k)) (fun i _ => l1 - (intOf i).toNat)
  case atStart => exact ⟨0, none, 0, [], by omega, rfl, gby_refl _ _, HQb, Lib.hid (OwnsK.nil _ _ _ _), Lib.hid (fun i hi => by omega)⟩
  case round =>
    clear HQb
    obtain ⟨k, b1, d1, cs, hk, rfl, hG, HQ, HU, HA⟩ := hrel
    have hBr := HBw.out.trans (below_gby (B := w.heap.size) hG (by omega) (by omega))
    have hgs := hG.size
    by_cases hlt : k < l1
    · have k1 : wr.cell? ⟨w.heap.size, 1, none⟩ = some (.slice a1 l1 c1) := (cell_by hG ltK hkq).trans HCk.out
      obtain ⟨b, off, rfl, hbs, ai, li, ci, hrow, hcc⟩ := HRw.out.at hlt
      obtain ⟨y0, y1, y2⟩ := hcc _ hBr
      have hli : li ≤ 24 := by rw [← hrow.1, HVd.out.coefn k (by rw [HL1.out]; exact hlt)]; exact HVd.out.n
      generalize hrk : p.rows.getD k default = r at *
      have HRk := Lib.hid hrk
      have HRx := Lib.hid (hrow.below hBr)
      clear hcc hrow hrk
      obtain ⟨gU, hu1, hu2, hu3⟩ : ∃ gU, (∀ j, (Value.slice b1 k d1).ownBlock = some j → j = gU) ∧ w3.heap.size ≤ gU ∧ gU ≠ wr.heap.size := by
        rcases HU.out.form with ⟨e, -, -⟩ | ⟨g', cap, e, -, -, hg', hlt', -⟩
        · exact ⟨wr.heap.size + 1, by rw [e]; simp [Value.ownBlock], by omega, by omega⟩
        · exact ⟨g', by rw [e]; simp [Value.ownBlock], hg', by omega⟩
      have HU1 := Lib.hid hu1
      have hgq : gQ < wr.heap.size := by omega
      have hbq : b < wr.heap.size := by omega
      clear hu1
      go_wp2_with fail
      have q1 : wr.cell? ⟨gQ, 1, none⟩ = some (.slice b1 k d1) := (blk_cell HQ.out 1).trans rfl
      have eq1 := Gr.cell (R := gU) (R2 := gU) q1 (by omega) (by omega) (by omega)
      have ek1 := Gr.cell (R := gU) (R2 := gU) k1 (by omega) (by omega) (by omega)
      have ez0 := Gr.cell (R := gU) (R2 := gU) y0 hbq (by omega) (by omega)
      have ez1 := Gr.cell (R := gU) (R2 := gU) y1 hbq (by omega) (by omega)
      have ez2 := Gr.cell (R := gU) (R2 := gU) y2 hbq (by omega) (by omega)
      have HUx := HU
      have HAx := HA
      have hbx : Below wr.heap.size wr wr := Below.refl _ _
      clear q1 k1 HU HA y0 y1 y2
      refine wp_region_tail [(0, false), (1, false), (2, false), (3, false), (4, false), (5, false), (6, false), (7, false), (9, false), (10, false), (11, false), (12, false), (13, false), (14, false), (15, false), (16, false), (17, false), (18, false), (19, false), (20, false), (8, true), (21, false), (22, true), (23, true)] [24, 25] (fun w' => ∃ W : Gr gU gU wr, w' = W.1) (by kernel_rfl) (by kernel_rfl) ⟨⟨wr.drew, below_grown ((Below.refl _ _).drew)⟩, rfl⟩ ?_
      repeat (refine wpSt_calm rfl (fun K hK => ?_); go_simp; refine hK _ ?_; clear hK K)
      clear eq1 ek1 ez0 ez1 ez2
      refine wpSt_eff rfl rfl (fun K hK => ?_)
      go_simp
      refine (rints_any w3.heap.size r.coef ai li ci _ (HRx.out.below ((Below.refl _ _).drew)) (by omega) (by simp; omega)).mono ?_
      rintro e w4 ⟨b4, d4, rfl, hv4, hb4⟩
      have hM : Below wr.heap.size wr w4 := ((Below.refl wr.heap.size wr).drew).trans (hb4.mono (by simp))
      have HV4 := Lib.hid hv4
      have HU4 := Lib.hid (HUx.out.later hM)
      have HA4 := Lib.hid (HAx.out.below hM)
      have hms := hM.size
      refine hK _ _ ⟨⟨w4, below_grown hM⟩, rfl⟩ ?_
      clear hK K hb4 hv4 HRx HUx HAx
      repeat (refine wpSt_calm rfl (fun K hK => ?_); go_simp; refine hK _ ?_; clear hK K)
      refine wpSt_eff rfl rfl (fun K hK => ?_)
      go_simp
      refine hK _ _ ⟨⟨_, below_grown (hM.alloc hM.size _)⟩, rfl⟩ ?_
      clear hK K
      refine wpSt_eff rfl rfl (fun K hK => ?_)
      refine wp_appK1 _ _ 23 rfl w3.heap.size 44 3 (by omega) _ 40 Try.underlying23 infoRow rfl (.slice b1 k d1) k cs rfl [.slice b4 li d4, .int .i64 r.mn, .int .i64 r.mx] rfl (by simp [Value.oneCell']) HU4.out rfl (by omega) (by simp only [maxLen]; omega) (by omega) fun v' w5 h1 h2 => ?_
      have hG5 := h2.1
      rcases h1.form with ⟨-, h0, -⟩ | ⟨g', cap', rfl, hk1, hk2, hg', hgl', -, -⟩
      · omega
      refine hK _ _ ⟨⟨w5, kept_trans (below_grown hM) (kept_gby hG5 HU1.out)⟩, rfl⟩ ?_
      clear hK K
      have hne5 : some gQ ≠ (Value.slice b1 k d1).ownBlock := fun e => by have := HU1.out gQ e.symm; omega
      have HQ5 := Lib.hid (blk_by (blk_by (HQ.out) (gby_below (g := none) (hbx.trans (hM.mono (by omega)))) (by simp)) hG5 hne5)
      have q1 : w5.cell? ⟨gQ, 1, none⟩ = some (.slice b1 k d1) := (blk_cell HQ5.out 1).trans rfl
      have q2 : w5.frozen? ⟨gQ, 1, none⟩ = false := blk_free HQ5.out 1
      have hGw : w3.grownBy w5 (some gQ) := gby_mix (gby_mix hG (gby_below (g := none) (hbx.trans (hM.mono (by omega)))) (by simp)) hG5 (fun j hj => by have := HU1.out j hj; omega)
      have hGn := gby_trans hGw (gby_set w5 gQ 1 (.slice (some ⟨g', 0, none⟩) (k + 1) cap'))
      have HQn := Lib.hid (blk_set (o := 1) HQ5.out (.slice (some ⟨g', 0, none⟩) (k + 1) cap'))
      simp at HQn
      have hql : gQ < w3.heap.size := ltQ
      have HUn := Lib.hid (show OwnsK (w5.setCell ⟨gQ, 1, none⟩ (.slice (some ⟨g', 0, none⟩) (k + 1) cap')) w3.heap.size 44 3 (.slice (some ⟨g', 0, none⟩) (k + 1) cap') (k + 1) (cs ++ [.slice b4 li d4, .int .i64 r.mn, .int .i64 r.mx]) from World.ownsRow.kept h1 (gby_set _ _ _ _) (own_ne (OwnsK.lt h1) hql))
      have HAn := Lib.hid (show RowsAre (w5.setCell ⟨gQ, 1, none⟩ (.slice (some ⟨g', 0, none⟩) (k + 1) cap')) w3.heap.size (cs ++ [.slice b4 li d4, .int .i64 r.mn, .int .i64 r.mx]) p.rows (k + 1) by
        have hs := RowsAre.snoc (b := b4) (l := li) (d := d4) HA4.out HU4.out hG5 (by rw [HRk.out]; exact HV4.out)
        rw [HRk.out] at hs
        exact hs.by (gby_set _ _ _ _) hql)
      clear h1 h2 HQ5 hG5 hne5 HA4 HU4 HV4 HQ hGw
      refine wpSt_end ?_
      refine wpTail_op rfl rfl (fun K hK => ?_)
      go_simp
      refine hK _ _ ?_
      clear hK K
      refine wpTail_op rfl rfl (fun K hK => ?_)
      go_simp
      refine hK _ _ ?_
      clear hK K
      refine wpTail_nil ?_
      go_wp2_with fail
      go_roundw
      case rel => exact ⟨k + 1, some ⟨g', 0, none⟩, cap', _, by omega, by go_num, hGn, HQn, HUn, HAn⟩
      case measure => simp [intOf]; omega
    · obtain rfl : k = l1 := by omega
      have k1 : wr.cell? ⟨w.heap.size, 1, none⟩ = some (.slice a1 k c1) := (cell_by hG ltK hkq).trans HCk.out
      have hRB : w.heap.size + 1 < w3.heap.size := by omega
      generalize wr = w4 at *
      have HV1' := Lib.hid (HV1.out.by hG HQ1.out)
      have HV2' := Lib.hid (HV2.out.by hG HQ2.out)
      have hgq4 : gQ < w4.heap.size := blk_lt HQ.out
      obtain ⟨g, hg0, hg1, hgB, hgR, hgq, hgw, hg4⟩ : ∃ g, (l2 = 0 ∨ b2 = some ⟨g, 0, none⟩) ∧ ((Value.slice b0 l0 d0).ownBlock = none ∨ (Value.slice b0 l0 d0).ownBlock ≠ some g) ∧ g < w3.heap.size ∧ g ≠ w.heap.size + 1 ∧ g ≠ gQ ∧ w.heap.size ≤ g ∧ g < w4.heap.size := by
        rcases Owns.form2 HV2'.out with ⟨e, e'⟩ | ⟨g, cap, e, -, -, h1, h2⟩
        · cases e; exact ⟨w.heap.size, .inl rfl, own_ne HV1'.out.lt (by omega), by omega, by omega, by omega, by omega, by omega⟩
        · cases e
          refine ⟨g, .inr rfl, .inr (fun e => ?_), HBt.out g rfl, by omega, fun e => ?_, by omega, h2⟩
          · have h1 := HI1.out g e; have h2 := HLt2.out g rfl; omega
          · subst e
            rcases HQ2.out with h | h
            · simp [Value.ownBlock] at h
            · exact h rfl
      have HRx := Lib.hid (show ∀ wr, w4.grownBy wr (some g) → wr.cell? ⟨w.heap.size + 1, 0, none⟩ = some (.slice none 0 0) ∧ wr.cell? ⟨w.heap.size + 1, 1, none⟩ = some (.slice none 0 0) ∧ wr.cell? ⟨w.heap.size + 1, 2, none⟩ = some (.slice none 0 0) ∧ wr.frozen? ⟨w.heap.size + 1, 0, none⟩ = false ∧ wr.frozen? ⟨w.heap.size + 1, 1, none⟩ = false ∧ wr.frozen? ⟨w.heap.size + 1, 2, none⟩ = false ∧ Below w.heap.size w wr from fun wr hG4 => by
        have hne : w.heap.size + 1 ≠ gQ := by omega
        have hne' : w.heap.size + 1 ≠ g := by omega
        have hl4 : w.heap.size + 1 < w4.heap.size := by omega
        exact ⟨(cell_by hG4 hl4 hne').trans ((cell_by hG ltR hne).trans HCr.out.1), (cell_by hG4 hl4 hne').trans ((cell_by hG ltR hne).trans HCr.out.2.1), (cell_by hG4 hl4 hne').trans ((cell_by hG ltR hne).trans HCr.out.2.2.1), (frozen_by hG4 hl4 hne').trans ((frozen_by hG ltR hne).trans HCr.out.2.2.2.1), (frozen_by hG4 hl4 hne').trans ((frozen_by hG ltR hne).trans HCr.out.2.2.2.2.1), (frozen_by hG4 hl4 hne').trans ((frozen_by hG ltR hne).trans HCr.out.2.2.2.2.2), hBr.trans (below_gby (B := w.heap.size) hG4 hBr.size hgw)⟩)
      have HCx := Lib.hid (show ∀ wr, w4.grownBy wr (some g) → wr.cell? ⟨gQ, 0, none⟩ = some (.slice b0 l0 d0) ∧ wr.cell? ⟨gQ, 1, none⟩ = some (.slice b1 k d1) ∧ wr.cell? ⟨gQ, 2, none⟩ = some (.slice b2 l2 d2) ∧ RowsIn wr b1 k d1 p.rows ∧ RowsAre wr w3.heap.size cs p.rows k ∧ OwnI wr (w.heap.size + 2) (.slice b0 l0 d0) p.val ∧ OwnsK wr w3.heap.size 44 3 (.slice b1 k d1) k cs from fun wr hG4 => by
        have h1 : OwnsK wr w3.heap.size 44 3 (.slice b1 k d1) k cs := World.ownsRow.kept HU.out hG4 (own_ne (OwnsK.lt HU.out) hgB)
        have h2 := HA.out.by hG4 hgB
        obtain ⟨a, cap, e, h3⟩ := rows_in h1 h2 HL1.out HWr.out
        cases e
        have hb := blk_by HQ.out hG4 (by simpa using (Ne.symm hgq))
        exact ⟨(blk_cell hb 0).trans rfl, (blk_cell hb 1).trans rfl, (blk_cell hb 2).trans rfl, h3, h2, HV1'.out.by hG4 hg1, h1⟩)
      have HVt := Lib.hid (show Trits p.fix from HVd.out.fix)
      clear HV1 HV2 HU HA HQ HCk HCr HBw HRw
      go_wp2_with fail
      clear k1 hBr hG
      go_loopw [7] (fun _ wr => ∃ f, w4.grownBy wr (some g) ∧ Hid (OwnI wr (w.heap.size + 2) (.slice b2 l2 d2) f) ∧ Hid (Way p.rows p.fix f)) (fun _ wr => freeN (fixOf wr (.slice b2 l2 d2)))
      case atStart => exact ⟨p.fix, gby_refl _ _, HV2', Lib.hid (way_start HVt.out)⟩
      case round =>
        clear HV2'
        obtain ⟨f, hG, HO, HW⟩ := hrel
        have HFe := Lib.hid (fixOf_own HO.out)
        obtain ⟨x0, x1, x2, -, -, -, -⟩ := HCx.out wr hG
        have HRs := Lib.hid (show ∀ w', wr.grownBy w' (some g) → RowsIn w' b1 k d1 p.rows from fun w' h => (HCx.out w' (gby_trans hG h)).2.2.2.1)
        generalize wr = w5 at *
        go_wp2_with fail
        refine (step_any p.rows f b1 b2 k d1 l2 d2 g (w.heap.size + 2) _ HRs.out HO.out hg0 HN.out.1 HN.out.2 hn2 hn1 HW.out.trits).mono ?_
        rintro e w6 ⟨more, ok, f', rfl, hS, hO6, hG6⟩
        have HS := Lib.hid hS
        have HO6 := Lib.hid hO6
        have hGn := gby_trans hG hG6
        obtain ⟨x0', x1', x2', -, -, -, -⟩ := HCx.out w6 hGn
        obtain ⟨r0, r1, r2, f0, f1, f2, hBf⟩ := HRx.out w6 hGn
        have hs6 := hGn.size
        have hrl4 : w.heap.size + 1 < w6.heap.size := by omega
        clear hS hO6 hG6 x0 x1 x2 HRs
        cases ok
        · have HT := Lib.hid (show TightTo p.rows p.fix none by
            rcases HS.out with ⟨-, -, h⟩ | ⟨h, -⟩ | ⟨h, -⟩
            · rcases h with ⟨r, hr, hc⟩ | ⟨r, hr, i, hi, h1, h2⟩
              · exact way_no HW.out hr hc
              · exact way_no2 HW.out hr hi h1 h2
            · cases h
            · cases h)
          clear HS
          go_wp2_with fail
          exact bodyPost_ret (v := .tuple #[.agg #[.slice none 0 0, .slice none 0 0, .slice none 0 0], .int .i64 14]) (by simp [results, Try.results19, go_sem, r0, r1, r2]) rfl ⟨none, _, rfl, HT.out, prob_zero _, ((hBf.setCell (p := ⟨w.heap.size + 1, 0, none⟩) (by simp) _).setCell (p := ⟨w.heap.size + 1, 1, none⟩) (by simp) _).setCell (p := ⟨w.heap.size + 1, 2, none⟩) (by simp) _⟩
        cases more
        · have HE := Lib.hid (show f' = f ∧ ∀ r, r ∈ p.rows → canB r f = true ∧ RowClosed r f by
            rcases HS.out with ⟨h, -⟩ | ⟨-, h, -⟩ | ⟨-, -, h1, h2⟩
            · cases h
            · cases h
            · exact ⟨h1, h2⟩)
          have HT := Lib.hid (way_yes HW.out HE.out.2)
          have HOf := Lib.hid (show OwnI w6 (w.heap.size + 2) (.slice b2 l2 d2) f by have h := HO6.out; rwa [HE.out.1] at h)
          have hgF := gby_trans (gby_trans (gby_set w6 (w.heap.size + 1) 0 (.slice b0 l0 d0)) (gby_set _ (w.heap.size + 1) 1 (.slice b1 k d1))) (gby_set _ (w.heap.size + 1) 2 (.slice b2 l2 d2))
          have HF := Lib.hid (show ∀ wF, w6.grownBy wF (some (w.heap.size + 1)) → ProbIn wF (.agg #[.slice b0 l0 d0, .slice b1 k d1, .slice b2 l2 d2]) (resP p (some f)) from fun wF hF => by
            obtain ⟨-, -, -, -, h2, h3, h1⟩ := HCx.out w6 hGn
            have k1 : OwnsK wF w3.heap.size 44 3 (.slice b1 k d1) k cs := World.ownsRow.kept h1 hF (own_ne (OwnsK.lt h1) hRB)
            obtain ⟨a, cap, e, k2⟩ := rows_in k1 (h2.by hF hRB) HL1.out HWr.out
            cases e
            obtain ⟨a', cap', e', k3⟩ := (h3.by hF (own_ne h3.lt (by omega))).row HW0.out
            cases e'
            obtain ⟨a'', cap'', e'', k4⟩ := (HOf.out.by hF (own_ne HOf.out.lt (by omega))).row (wf_trits HW.out.trits)
            cases e''
            exact ⟨_, _, _, _, _, _, _, _, _, rfl, k3, k2, k4⟩)
          have HFF := Lib.hid (HF.out _ hgF)
          have HBF := Lib.hid (hBf.trans (below_gby (B := w.heap.size) hgF hBf.size (by omega)))
          clear HS HE HF hgF hBf HO6 HOf
          go_wp2_with fail
          exact bodyPost_ret (v := .tuple #[.agg #[.slice b0 l0 d0, .slice b1 k d1, .slice b2 l2 d2], .int .i64 0]) (by simp [results, Try.results19, go_sem, r0, r1, r2]) rfl ⟨some f, _, rfl, HT.out, HFF.out, HBF.out⟩
        · have HE := Lib.hid (show Way p.rows p.fix f' ∧ freeN f' + 1 = freeN f by
            rcases HS.out with ⟨h, -⟩ | ⟨-, -, r, hr, i, hi, hf, v, hv, hno, rfl⟩ | ⟨-, h, -⟩
            · cases h
            · exact ⟨way_set HW.out hr hi hf hv hno, free_set hi hf (by omega)⟩
            · cases h)
          have HF6 := Lib.hid (fixOf_own HO6.out)
          have HW2 := Lib.hid HE.out.1
          clear HS
          go_wp2_with fail
          go_roundw
          case rel => exact ⟨f', hGn, HO6, HW2⟩
          case measure => rw [HF6.out, HFe.out]; have := HE.out.2; omega

end Go.Proofs.Ytkgikajfeihbbaa
