/- Fractions: what ratio.Add returns. Condition: the limbs can be read, and take at most 2^47 bytes. -/
import Derived.Test.YtahmndacoanfiaaGreatIntA
import Derived.Test.YtahmndacoanfiaaGreatRatD
namespace Go.Proofs.YtahmndacoanfiaaGreat
set_option maxRecDepth 100000
open Go.RowKit

theorem NatRaw.mono {w : World} {v : Value} {q L M : Nat} (h : NatRaw w v q L) (hL : L ≤ M) : NatRaw w v q M := by
  obtain ⟨a, l, c, ys, rfl, h1, h2, h3⟩ := h
  exact ⟨a, l, c, ys, rfl, h1, h2, by omega⟩

set_option maxHeartbeats 4000000 in
theorem qadd_any (v u : Value) (r s : Rat) (L M : Nat) (w : World) (hv : RatV w v r L) (hu : RatV w u s M) (hL : 1 ≤ L) (hM1 : 1 ≤ M) (hm : (L + M + 1) * 4 ≤ 140737488355328) :
    Calls Tryz.prog 24 #[v, u] w fun e w' => ∃ v, e = .returned v ∧ RatN w.heap.size w' v (r + s) ∧ Rsz (r + s) (L + M + 1) ∧ Below w.heap.size w w' := by
  obtain ⟨p, q, hr, hpq⟩ := hv
  obtain ⟨p', q', hr', hpq'⟩ := hu
  have HRl := Lib.hid hr.lens
  have HRl' := Lib.hid hr'.lens
  have HS := Lib.hid (mk_add (p := ptN p q) (s := ptN p' q') (q := ptD q) (t := ptD q') (ptD_ne q) (ptD_ne q'))
  rw [mk_pt, mk_pt, hpq, hpq'] at HS
  have HR := Lib.hid hr
  have HR' := Lib.hid hr'
  obtain ⟨neg, a', len', cap', xs, a, len, cap, ys, rfl, -, -, -, -, -, -⟩ := hr
  obtain ⟨neg2, a2', len2', cap2', xs2, a2, len2, cap2, ys2, rfl, -, -, -, -, -, -⟩ := hr'
  clear hpq hpq'
  go_enter Tryz.func24, Tryz.ntmps24
  go_wp2_with fail
  have hbx : Below w.heap.size w (((w.alloc (.cells #[.bool neg, .slice a' len' cap', .slice a len cap] 28)).alloc (.cells #[.bool neg2, .slice a2' len2' cap2', .slice a2 len2 cap2] 28)).alloc (.cells #[.bool false, .slice none 0 0, .slice none 0 0] 28)) := ((((Below.refl _ _).alloc (Nat.le_refl _) _).alloc (by simp) _).alloc (by simp <;> omega) _)
  generalize hWW : (((w.alloc (.cells #[.bool neg, .slice a' len' cap', .slice a len cap] 28)).alloc (.cells #[.bool neg2, .slice a2' len2' cap2', .slice a2 len2 cap2] 28)).alloc (.cells #[.bool false, .slice none 0 0, .slice none 0 0] 28)) = w0 at *
  replace HR := Lib.hid (HR.out.below hbx)
  replace HR' := Lib.hid (HR'.out.below hbx)
  have cA0 : w0.cell? ⟨w.heap.size, 0, none⟩ = some (.bool neg) := by subst hWW; go_simp
  have cA1 : w0.cell? ⟨w.heap.size, 1, none⟩ = some (.slice a' len' cap') := by subst hWW; go_simp
  have cA2 : w0.cell? ⟨w.heap.size, 2, none⟩ = some (.slice a len cap) := by subst hWW; go_simp
  have ltA : w.heap.size < w0.heap.size := by subst hWW; simp <;> omega
  have cB0 : w0.cell? ⟨w.heap.size + 1, 0, none⟩ = some (.bool neg2) := by subst hWW; go_simp
  have cB1 : w0.cell? ⟨w.heap.size + 1, 1, none⟩ = some (.slice a2' len2' cap2') := by subst hWW; go_simp
  have cB2 : w0.cell? ⟨w.heap.size + 1, 2, none⟩ = some (.slice a2 len2 cap2) := by subst hWW; go_simp
  have ltB : w.heap.size + 1 < w0.heap.size := by subst hWW; simp <;> omega
  have cR0 : w0.cell? ⟨w.heap.size + 1 + 1, 0, none⟩ = some (.bool false) := by subst hWW; go_simp
  have fR0 : w0.frozen? ⟨w.heap.size + 1 + 1, 0, none⟩ = false := by subst hWW; go_simp
  have cR1 : w0.cell? ⟨w.heap.size + 1 + 1, 1, none⟩ = some (.slice none 0 0) := by subst hWW; go_simp
  have fR1 : w0.frozen? ⟨w.heap.size + 1 + 1, 1, none⟩ = false := by subst hWW; go_simp
  have cR2 : w0.cell? ⟨w.heap.size + 1 + 1, 2, none⟩ = some (.slice none 0 0) := by subst hWW; go_simp
  have fR2 : w0.frozen? ⟨w.heap.size + 1 + 1, 2, none⟩ = false := by subst hWW; go_simp
  have ltR : w.heap.size + 1 + 1 < w0.heap.size := by subst hWW; simp
  have hB := hbx
  clear hbx hWW
  refine (parts_any _ p q L _ HR.out hL).mono ?_
  rintro e w1 ⟨vi, vd, rfl, hi, hd, hb⟩
  replace cA0 := bc hb ltA cA0
  replace cA1 := bc hb ltA cA1
  replace cA2 := bc hb ltA cA2
  replace ltA := bl hb ltA
  replace cB0 := bc hb ltB cB0
  replace cB1 := bc hb ltB cB1
  replace cB2 := bc hb ltB cB2
  replace ltB := bl hb ltB
  replace cR0 := bc hb ltR cR0
  replace fR0 := bf hb ltR fR0
  replace cR1 := bc hb ltR cR1
  replace fR1 := bf hb ltR fR1
  replace cR2 := bc hb ltR cR2
  replace fR2 := bf hb ltR fR2
  replace ltR := bl hb ltR
  replace HR := Lib.hid (HR.out.below hb)
  replace HR' := Lib.hid (HR'.out.below hb)
  replace hB := hB.trans (hb.mono hB.size)
  have HI := Lib.hid hi
  have HD := Lib.hid hd
  obtain ⟨ni, ai, li, ci, xi, rfl, -, -, -⟩ := hi
  clear hd
  clear hb
  go_wp2_with fail
  have hbx : Below w1.heap.size w1 (w1.alloc (.cells #[.bool ni, .slice ai li ci] 26)) := ((Below.refl _ _).alloc (Nat.le_refl _) _)
  generalize hWW : (w1.alloc (.cells #[.bool ni, .slice ai li ci] 26)) = w1a at *
  replace cA0 := bc hbx ltA cA0
  replace cA1 := bc hbx ltA cA1
  replace cA2 := bc hbx ltA cA2
  replace ltA := bl hbx ltA
  replace cB0 := bc hbx ltB cB0
  replace cB1 := bc hbx ltB cB1
  replace cB2 := bc hbx ltB cB2
  replace ltB := bl hbx ltB
  replace cR0 := bc hbx ltR cR0
  replace fR0 := bf hbx ltR fR0
  replace cR1 := bc hbx ltR cR1
  replace fR1 := bf hbx ltR fR1
  replace cR2 := bc hbx ltR cR2
  replace fR2 := bf hbx ltR fR2
  replace ltR := bl hbx ltR
  replace HR := Lib.hid (HR.out.below hbx)
  replace HR' := Lib.hid (HR'.out.below hbx)
  replace HI := Lib.hid (HI.out.below hbx)
  replace HD := Lib.hid (HD.out.below hbx)
  have cX0 : w1a.cell? ⟨w1.heap.size, 0, none⟩ = some (.bool ni) := by subst hWW; go_simp
  have cX1 : w1a.cell? ⟨w1.heap.size, 1, none⟩ = some (.slice ai li ci) := by subst hWW; go_simp
  have ltX : w1.heap.size < w1a.heap.size := by subst hWW; simp
  replace hB := hB.trans (hbx.mono hB.size)
  clear hbx hWW
  refine (parts_any _ p' q' M _ HR'.out hM1).mono ?_
  rintro e w2 ⟨vi', vd', rfl, hi, hd, hb⟩
  replace cA0 := bc hb ltA cA0
  replace cA1 := bc hb ltA cA1
  replace cA2 := bc hb ltA cA2
  replace ltA := bl hb ltA
  replace cB0 := bc hb ltB cB0
  replace cB1 := bc hb ltB cB1
  replace cB2 := bc hb ltB cB2
  replace ltB := bl hb ltB
  replace cR0 := bc hb ltR cR0
  replace fR0 := bf hb ltR fR0
  replace cR1 := bc hb ltR cR1
  replace fR1 := bf hb ltR fR1
  replace cR2 := bc hb ltR cR2
  replace fR2 := bf hb ltR fR2
  replace ltR := bl hb ltR
  replace cX0 := bc hb ltX cX0
  replace cX1 := bc hb ltX cX1
  replace ltX := bl hb ltX
  replace HR := Lib.hid (HR.out.below hb)
  replace HR' := Lib.hid (HR'.out.below hb)
  replace HI := Lib.hid (HI.out.below hb)
  replace HD := Lib.hid (HD.out.below hb)
  replace hB := hB.trans (hb.mono hB.size)
  have HI' := Lib.hid hi
  have HD' := Lib.hid hd
  obtain ⟨nj, aj, lj, cj, xj, rfl, -, -, -⟩ := hi
  clear hd
  clear hb
  go_wp2_with fail
  have hbx : Below w2.heap.size w2 (w2.alloc (.cells #[.bool nj, .slice aj lj cj] 26)) := ((Below.refl _ _).alloc (Nat.le_refl _) _)
  generalize hWW : (w2.alloc (.cells #[.bool nj, .slice aj lj cj] 26)) = w2a at *
  replace cA0 := bc hbx ltA cA0
  replace cA1 := bc hbx ltA cA1
  replace cA2 := bc hbx ltA cA2
  replace ltA := bl hbx ltA
  replace cB0 := bc hbx ltB cB0
  replace cB1 := bc hbx ltB cB1
  replace cB2 := bc hbx ltB cB2
  replace ltB := bl hbx ltB
  replace cR0 := bc hbx ltR cR0
  replace fR0 := bf hbx ltR fR0
  replace cR1 := bc hbx ltR cR1
  replace fR1 := bf hbx ltR fR1
  replace cR2 := bc hbx ltR cR2
  replace fR2 := bf hbx ltR fR2
  replace ltR := bl hbx ltR
  replace cX0 := bc hbx ltX cX0
  replace cX1 := bc hbx ltX cX1
  replace ltX := bl hbx ltX
  replace HR := Lib.hid (HR.out.below hbx)
  replace HR' := Lib.hid (HR'.out.below hbx)
  replace HI := Lib.hid (HI.out.below hbx)
  replace HD := Lib.hid (HD.out.below hbx)
  replace HI' := Lib.hid (HI'.out.below hbx)
  replace HD' := Lib.hid (HD'.out.below hbx)
  have cY0 : w2a.cell? ⟨w2.heap.size, 0, none⟩ = some (.bool nj) := by subst hWW; go_simp
  have cY1 : w2a.cell? ⟨w2.heap.size, 1, none⟩ = some (.slice aj lj cj) := by subst hWW; go_simp
  have ltY : w2.heap.size < w2a.heap.size := by subst hWW; simp
  replace hB := hB.trans (hbx.mono hB.size)
  clear hbx hWW
  clear HR HR'
  clear cA0 cA1 cA2 ltA
  clear cB0 cB1 cB2 ltB
  have SCR0 := Lib.hid cR0
  have SFR0 := Lib.hid fR0
  have SCR1 := Lib.hid cR1
  have SFR1 := Lib.hid fR1
  have SCR2 := Lib.hid cR2
  have SFR2 := Lib.hid fR2
  have SLR := Lib.hid ltR
  have SCX0 := Lib.hid cX0
  have SCX1 := Lib.hid cX1
  have SLX := Lib.hid ltX
  have SCY0 := Lib.hid cY0
  have SCY1 := Lib.hid cY1
  have SLY := Lib.hid ltY
  have SHI := Lib.hid HI.out
  have SHD := Lib.hid HD.out
  have SHI' := Lib.hid HI'.out
  have SHD' := Lib.hid HD'.out
  have SB := Lib.hid hB
  have eR0 := box_ext (B := w2a.heap.size) cR0 ltR
  have eR1 := box_ext (B := w2a.heap.size) cR1 ltR
  have eR2 := box_ext (B := w2a.heap.size) cR2 ltR
  have eX0 := box_ext (B := w2a.heap.size) cX0 ltX
  have eX1 := box_ext (B := w2a.heap.size) cX1 ltX
  have eY0 := box_ext (B := w2a.heap.size) cY0 ltY
  have eY1 := box_ext (B := w2a.heap.size) cY1 ltY
  refine wp_region_float 9 [(0, false), (1, false), (4, false), (5, false), (2, true), (3, true), (6, true), (7, true), (8, true)] [(10, true)] (fun w' => ∃ W : Ext w2a.heap.size w2a, w' = W.1) _ 9 (.cells #[.bool false, .slice none 0 0] 26) w2a.heap.size (by kernel_rfl) rfl rfl rfl (fun a w => by simp [execOp, go_sem]) (fun w ⟨W, e⟩ => e ▸ W.2.size) (fun w ⟨W, e⟩ => ⟨⟨_, (e ▸ W.2).alloc (e ▸ W.2.size) _⟩, rfl⟩) (by kernel_rfl) ⟨⟨w2a.drew, (Below.refl _ _).drew⟩, rfl⟩ ?_
  repeat (refine wpFl_calm rfl (fun K hK => ?_); go_simp; refine hK _ ?_; clear hK K)
  clear eR0 eR1 eR2 eX0 eX1 eY0 eY1
  have hbx : Below w2a.heap.size w2a w2a.drew := (Below.refl _ _).drew
  have hM := hbx
  replace cR0 := bc hbx ltR cR0
  replace fR0 := bf hbx ltR fR0
  replace cR1 := bc hbx ltR cR1
  replace fR1 := bf hbx ltR fR1
  replace cR2 := bc hbx ltR cR2
  replace fR2 := bf hbx ltR fR2
  replace ltR := bl hbx ltR
  replace cX0 := bc hbx ltX cX0
  replace cX1 := bc hbx ltX cX1
  replace ltX := bl hbx ltX
  replace cY0 := bc hbx ltY cY0
  replace cY1 := bc hbx ltY cY1
  replace ltY := bl hbx ltY
  replace HI := Lib.hid (HI.out.below hbx)
  replace HD := Lib.hid (HD.out.below hbx)
  replace HI' := Lib.hid (HI'.out.below hbx)
  replace HD' := Lib.hid (HD'.out.below hbx)
  replace hB := hB.trans (hbx.mono hB.size)
  clear hbx
  generalize w2a.drew = ww2ad at *
  refine wpFl_eff rfl rfl (fun wy hC hg K hK => ?_)
  obtain ⟨⟨wz, hE⟩, hwe⟩ := hC
  change wy = wz at hwe
  subst hwe
  replace cR0 := bc hg ltR cR0
  replace fR0 := bf hg ltR fR0
  replace cR1 := bc hg ltR cR1
  replace fR1 := bf hg ltR fR1
  replace cR2 := bc hg ltR cR2
  replace fR2 := bf hg ltR fR2
  replace ltR := bl hg ltR
  replace cX0 := bc hg ltX cX0
  replace cX1 := bc hg ltX cX1
  replace ltX := bl hg ltX
  replace cY0 := bc hg ltY cY0
  replace cY1 := bc hg ltY cY1
  replace ltY := bl hg ltY
  replace HI := Lib.hid (HI.out.below hg)
  replace HD := Lib.hid (HD.out.below hg)
  replace HI' := Lib.hid (HI'.out.below hg)
  replace HD' := Lib.hid (HD'.out.below hg)
  replace hB := hB.trans (hg.mono hB.size)
  replace hM := hE
  clear hE hg
  go_simp
  refine (whole_raw _ _ M _ HD'.out (by omega)).mono ?_
  rintro e w3 ⟨v3, rfl, hv3, hb⟩
  replace cR0 := bc hb ltR cR0
  replace fR0 := bf hb ltR fR0
  replace cR1 := bc hb ltR cR1
  replace fR1 := bf hb ltR fR1
  replace cR2 := bc hb ltR cR2
  replace fR2 := bf hb ltR fR2
  replace ltR := bl hb ltR
  replace cX0 := bc hb ltX cX0
  replace cX1 := bc hb ltX cX1
  replace ltX := bl hb ltX
  replace cY0 := bc hb ltY cY0
  replace cY1 := bc hb ltY cY1
  replace ltY := bl hb ltY
  replace HI := Lib.hid (HI.out.below hb)
  replace HD := Lib.hid (HD.out.below hb)
  replace HI' := Lib.hid (HI'.out.below hb)
  replace HD' := Lib.hid (HD'.out.below hb)
  replace hM := hM.trans (hb.mono hM.size)
  replace hB := hB.trans (hb.mono hB.size)
  have HV3 := Lib.hid hv3
  clear hv3
  refine hK _ _ ⟨⟨w3, hM⟩, rfl⟩ hb ?_
  clear hK K hb
  refine wpFl_eff rfl rfl (fun wy hC hg K hK => ?_)
  obtain ⟨⟨wz, hE⟩, hwe⟩ := hC
  change wy = wz at hwe
  subst hwe
  replace cR0 := bc hg ltR cR0
  replace fR0 := bf hg ltR fR0
  replace cR1 := bc hg ltR cR1
  replace fR1 := bf hg ltR fR1
  replace cR2 := bc hg ltR cR2
  replace fR2 := bf hg ltR fR2
  replace ltR := bl hg ltR
  replace cX0 := bc hg ltX cX0
  replace cX1 := bc hg ltX cX1
  replace ltX := bl hg ltX
  replace cY0 := bc hg ltY cY0
  replace cY1 := bc hg ltY cY1
  replace ltY := bl hg ltY
  replace HI := Lib.hid (HI.out.below hg)
  replace HD := Lib.hid (HD.out.below hg)
  replace HI' := Lib.hid (HI'.out.below hg)
  replace HD' := Lib.hid (HD'.out.below hg)
  replace HV3 := Lib.hid (HV3.out.below hg)
  replace hB := hB.trans (hg.mono hB.size)
  replace hM := hE
  clear hE hg
  go_simp
  refine (imul_any _ _ _ _ L M _ HI.out HV3.out (by omega)).mono ?_
  rintro e w4 ⟨v4, rfl, hv4, hb⟩
  replace cR0 := bc hb ltR cR0
  replace fR0 := bf hb ltR fR0
  replace cR1 := bc hb ltR cR1
  replace fR1 := bf hb ltR fR1
  replace cR2 := bc hb ltR cR2
  replace fR2 := bf hb ltR fR2
  replace ltR := bl hb ltR
  replace cX0 := bc hb ltX cX0
  replace cX1 := bc hb ltX cX1
  replace ltX := bl hb ltX
  replace cY0 := bc hb ltY cY0
  replace cY1 := bc hb ltY cY1
  replace ltY := bl hb ltY
  replace HI := Lib.hid (HI.out.below hb)
  replace HD := Lib.hid (HD.out.below hb)
  replace HI' := Lib.hid (HI'.out.below hb)
  replace HD' := Lib.hid (HD'.out.below hb)
  replace HV3 := Lib.hid (HV3.out.below hb)
  replace hM := hM.trans (hb.mono hM.size)
  replace hB := hB.trans (hb.mono hB.size)
  have HV4 := Lib.hid (hv4.raw (L + M) (int_mul_len (ptN_len HRl.out.1) (show (digs ((ptD q' : Nat) : Int).natAbs).length ≤ M by simpa using ptD_len HRl'.out.2 hM1)))
  clear hv4
  refine hK _ _ ⟨⟨w4, hM⟩, rfl⟩ hb ?_
  clear hK K hb
  refine wpFl_eff rfl rfl (fun wy hC hg K hK => ?_)
  obtain ⟨⟨wz, hE⟩, hwe⟩ := hC
  change wy = wz at hwe
  subst hwe
  replace cR0 := bc hg ltR cR0
  replace fR0 := bf hg ltR fR0
  replace cR1 := bc hg ltR cR1
  replace fR1 := bf hg ltR fR1
  replace cR2 := bc hg ltR cR2
  replace fR2 := bf hg ltR fR2
  replace ltR := bl hg ltR
  replace cX0 := bc hg ltX cX0
  replace cX1 := bc hg ltX cX1
  replace ltX := bl hg ltX
  replace cY0 := bc hg ltY cY0
  replace cY1 := bc hg ltY cY1
  replace ltY := bl hg ltY
  replace HI := Lib.hid (HI.out.below hg)
  replace HD := Lib.hid (HD.out.below hg)
  replace HI' := Lib.hid (HI'.out.below hg)
  replace HD' := Lib.hid (HD'.out.below hg)
  replace HV3 := Lib.hid (HV3.out.below hg)
  replace HV4 := Lib.hid (HV4.out.below hg)
  replace hB := hB.trans (hg.mono hB.size)
  replace hM := hE
  clear hE hg
  go_simp
  refine (whole_raw _ _ L _ HD.out (by omega)).mono ?_
  rintro e w5 ⟨v5, rfl, hv5, hb⟩
  replace cR0 := bc hb ltR cR0
  replace fR0 := bf hb ltR fR0
  replace cR1 := bc hb ltR cR1
  replace fR1 := bf hb ltR fR1
  replace cR2 := bc hb ltR cR2
  replace fR2 := bf hb ltR fR2
  replace ltR := bl hb ltR
  replace cX0 := bc hb ltX cX0
  replace cX1 := bc hb ltX cX1
  replace ltX := bl hb ltX
  replace cY0 := bc hb ltY cY0
  replace cY1 := bc hb ltY cY1
  replace ltY := bl hb ltY
  replace HI := Lib.hid (HI.out.below hb)
  replace HD := Lib.hid (HD.out.below hb)
  replace HI' := Lib.hid (HI'.out.below hb)
  replace HD' := Lib.hid (HD'.out.below hb)
  replace HV3 := Lib.hid (HV3.out.below hb)
  replace HV4 := Lib.hid (HV4.out.below hb)
  replace hM := hM.trans (hb.mono hM.size)
  replace hB := hB.trans (hb.mono hB.size)
  have HV5 := Lib.hid hv5
  clear hv5
  refine hK _ _ ⟨⟨w5, hM⟩, rfl⟩ hb ?_
  clear hK K hb
  refine wpFl_eff rfl rfl (fun wy hC hg K hK => ?_)
  obtain ⟨⟨wz, hE⟩, hwe⟩ := hC
  change wy = wz at hwe
  subst hwe
  replace cR0 := bc hg ltR cR0
  replace fR0 := bf hg ltR fR0
  replace cR1 := bc hg ltR cR1
  replace fR1 := bf hg ltR fR1
  replace cR2 := bc hg ltR cR2
  replace fR2 := bf hg ltR fR2
  replace ltR := bl hg ltR
  replace cX0 := bc hg ltX cX0
  replace cX1 := bc hg ltX cX1
  replace ltX := bl hg ltX
  replace cY0 := bc hg ltY cY0
  replace cY1 := bc hg ltY cY1
  replace ltY := bl hg ltY
  replace HI := Lib.hid (HI.out.below hg)
  replace HD := Lib.hid (HD.out.below hg)
  replace HI' := Lib.hid (HI'.out.below hg)
  replace HD' := Lib.hid (HD'.out.below hg)
  replace HV3 := Lib.hid (HV3.out.below hg)
  replace HV4 := Lib.hid (HV4.out.below hg)
  replace HV5 := Lib.hid (HV5.out.below hg)
  replace hB := hB.trans (hg.mono hB.size)
  replace hM := hE
  clear hE hg
  go_simp
  refine (imul_any _ _ _ _ M L _ HI'.out HV5.out (by omega)).mono ?_
  rintro e w6 ⟨v6, rfl, hv6, hb⟩
  replace cR0 := bc hb ltR cR0
  replace fR0 := bf hb ltR fR0
  replace cR1 := bc hb ltR cR1
  replace fR1 := bf hb ltR fR1
  replace cR2 := bc hb ltR cR2
  replace fR2 := bf hb ltR fR2
  replace ltR := bl hb ltR
  replace cX0 := bc hb ltX cX0
  replace cX1 := bc hb ltX cX1
  replace ltX := bl hb ltX
  replace cY0 := bc hb ltY cY0
  replace cY1 := bc hb ltY cY1
  replace ltY := bl hb ltY
  replace HI := Lib.hid (HI.out.below hb)
  replace HD := Lib.hid (HD.out.below hb)
  replace HI' := Lib.hid (HI'.out.below hb)
  replace HD' := Lib.hid (HD'.out.below hb)
  replace HV3 := Lib.hid (HV3.out.below hb)
  replace HV4 := Lib.hid (HV4.out.below hb)
  replace HV5 := Lib.hid (HV5.out.below hb)
  replace hM := hM.trans (hb.mono hM.size)
  replace hB := hB.trans (hb.mono hB.size)
  have HV6 := Lib.hid ((hv6.raw (M + L) (int_mul_len (ptN_len HRl'.out.1) (show (digs ((ptD q : Nat) : Int).natAbs).length ≤ L by simpa using ptD_len HRl.out.2 hL))).mono (show M + L ≤ L + M by omega))
  clear hv6
  refine hK _ _ ⟨⟨w6, hM⟩, rfl⟩ hb ?_
  clear hK K hb
  refine wpFl_eff rfl rfl (fun wy hC hg K hK => ?_)
  obtain ⟨⟨wz, hE⟩, hwe⟩ := hC
  change wy = wz at hwe
  subst hwe
  replace cR0 := bc hg ltR cR0
  replace fR0 := bf hg ltR fR0
  replace cR1 := bc hg ltR cR1
  replace fR1 := bf hg ltR fR1
  replace cR2 := bc hg ltR cR2
  replace fR2 := bf hg ltR fR2
  replace ltR := bl hg ltR
  replace cX0 := bc hg ltX cX0
  replace cX1 := bc hg ltX cX1
  replace ltX := bl hg ltX
  replace cY0 := bc hg ltY cY0
  replace cY1 := bc hg ltY cY1
  replace ltY := bl hg ltY
  replace HI := Lib.hid (HI.out.below hg)
  replace HD := Lib.hid (HD.out.below hg)
  replace HI' := Lib.hid (HI'.out.below hg)
  replace HD' := Lib.hid (HD'.out.below hg)
  replace HV3 := Lib.hid (HV3.out.below hg)
  replace HV4 := Lib.hid (HV4.out.below hg)
  replace HV5 := Lib.hid (HV5.out.below hg)
  replace HV6 := Lib.hid (HV6.out.below hg)
  replace hB := hB.trans (hg.mono hB.size)
  replace hM := hE
  clear hE hg
  go_simp
  refine (iadd_any _ _ _ _ (L + M) _ HV4.out HV6.out (by omega)).mono ?_
  rintro e w7 ⟨v7, rfl, hv7, hb⟩
  replace cR0 := bc hb ltR cR0
  replace fR0 := bf hb ltR fR0
  replace cR1 := bc hb ltR cR1
  replace fR1 := bf hb ltR fR1
  replace cR2 := bc hb ltR cR2
  replace fR2 := bf hb ltR fR2
  replace ltR := bl hb ltR
  replace cX0 := bc hb ltX cX0
  replace cX1 := bc hb ltX cX1
  replace ltX := bl hb ltX
  replace cY0 := bc hb ltY cY0
  replace cY1 := bc hb ltY cY1
  replace ltY := bl hb ltY
  replace HI := Lib.hid (HI.out.below hb)
  replace HD := Lib.hid (HD.out.below hb)
  replace HI' := Lib.hid (HI'.out.below hb)
  replace HD' := Lib.hid (HD'.out.below hb)
  replace HV3 := Lib.hid (HV3.out.below hb)
  replace HV4 := Lib.hid (HV4.out.below hb)
  replace HV5 := Lib.hid (HV5.out.below hb)
  replace HV6 := Lib.hid (HV6.out.below hb)
  replace hM := hM.trans (hb.mono hM.size)
  replace hB := hB.trans (hb.mono hB.size)
  have HV7 := Lib.hid (hv7.raw (L + M + 1) (int_add_len (int_mul_len (ptN_len HRl.out.1) (show (digs ((ptD q' : Nat) : Int).natAbs).length ≤ M by simpa using ptD_len HRl'.out.2 hM1)) (Nat.le_trans (int_mul_len (ptN_len HRl'.out.1) (show (digs ((ptD q : Nat) : Int).natAbs).length ≤ L by simpa using ptD_len HRl.out.2 hL)) (by omega))))
  obtain ⟨a7, n7, c7, rfl, -, -⟩ := hv7
  generalize decide (ptN p q * ((ptD q' : Nat) : Int) + ptN p' q' * ((ptD q : Nat) : Int) < 0) = d7 at *
  refine hK _ _ ⟨⟨w7, hM⟩, rfl⟩ hb ?_
  clear hK K hb
  clear HV3 HV4 HV5 HV6
  refine wpFl_nil fun gZ wy hC hg hBk hge => ?_
  obtain ⟨⟨wz, hE⟩, hwe⟩ := hC
  change wy = wz at hwe
  subst hwe
  replace cR0 := bc hg ltR cR0
  replace fR0 := bf hg ltR fR0
  replace cR1 := bc hg ltR cR1
  replace fR1 := bf hg ltR fR1
  replace cR2 := bc hg ltR cR2
  replace fR2 := bf hg ltR fR2
  replace ltR := bl hg ltR
  replace cX0 := bc hg ltX cX0
  replace cX1 := bc hg ltX cX1
  replace ltX := bl hg ltX
  replace cY0 := bc hg ltY cY0
  replace cY1 := bc hg ltY cY1
  replace ltY := bl hg ltY
  replace HI := Lib.hid (HI.out.below hg)
  replace HD := Lib.hid (HD.out.below hg)
  replace HI' := Lib.hid (HI'.out.below hg)
  replace HD' := Lib.hid (HD'.out.below hg)
  replace HV7 := Lib.hid (HV7.out.below hg)
  replace hB := hB.trans (hg.mono hB.size)
  replace hM := hE
  clear hE hg
  have z0 := blk_cell hBk 0
  have y0 := blk_free hBk 0
  have z1 := blk_cell hBk 1
  have y1 := blk_free hBk 1
  simp at z0 z1
  have hgl := blk_lt hBk
  refine wpSched_eff rfl rfl (fun K hK => ?_)
  go_simp
  refine hK _ _ ⟨⟨_, ((hM.setCell (p := ⟨gZ, 0, none⟩) hge _).setCell (p := ⟨gZ, 1, none⟩) hge _)⟩, rfl⟩ ?_
  clear hK K
  refine wpSched_nil ?_
  have hMn := ((hM.setCell (p := ⟨gZ, 0, none⟩) hge (.bool d7)).setCell (p := ⟨gZ, 1, none⟩) hge (.slice a7 n7 c7))
  replace HV7 := Lib.hid (HV7.out.off hBk zInt_no 0 (.bool d7) 1 (.slice a7 n7 c7))
  replace cR0 := bc hMn SLR.out SCR0.out
  replace fR0 := bf hMn SLR.out SFR0.out
  replace cR1 := bc hMn SLR.out SCR1.out
  replace fR1 := bf hMn SLR.out SFR1.out
  replace cR2 := bc hMn SLR.out SCR2.out
  replace fR2 := bf hMn SLR.out SFR2.out
  replace ltR := bl hMn SLR.out
  replace cX0 := bc hMn SLX.out SCX0.out
  replace cX1 := bc hMn SLX.out SCX1.out
  replace ltX := bl hMn SLX.out
  replace cY0 := bc hMn SLY.out SCY0.out
  replace cY1 := bc hMn SLY.out SCY1.out
  replace ltY := bl hMn SLY.out
  replace HI := Lib.hid (SHI.out.below hMn)
  replace HD := Lib.hid (SHD.out.below hMn)
  replace HI' := Lib.hid (SHI'.out.below hMn)
  replace HD' := Lib.hid (SHD'.out.below hMn)
  replace hB := SB.out.trans (hMn.mono SB.out.size)
  have cZ0 : ((wy.setCell ⟨gZ, 0, none⟩ (.bool d7)).setCell ⟨gZ, 1, none⟩ (.slice a7 n7 c7)).cell? ⟨gZ, 0, none⟩ = some (.bool d7) := by go_simp
  have cZ1 : ((wy.setCell ⟨gZ, 0, none⟩ (.bool d7)).setCell ⟨gZ, 1, none⟩ (.slice a7 n7 c7)).cell? ⟨gZ, 1, none⟩ = some (.slice a7 n7 c7) := by go_simp
  have ltZ : gZ < ((wy.setCell ⟨gZ, 0, none⟩ (.bool d7)).setCell ⟨gZ, 1, none⟩ (.slice a7 n7 c7)).heap.size := by simpa using hgl
  have neZR : w.heap.size + 1 + 1 < gZ := Nat.lt_of_lt_of_le SLR.out hge
  have neZX : w1.heap.size < gZ := Nat.lt_of_lt_of_le SLX.out hge
  have neZY : w2.heap.size < gZ := Nat.lt_of_lt_of_le SLY.out hge
  clear SCR0 SFR0 SCR1 SFR1 SCR2 SFR2 SLR SCX0 SCX1 SLX SCY0 SCY1 SLY SHI SHD SHI' SHD' SB
  clear hMn hM hBk hgl z0 y0 z1 y1
  go_wp2_with fail
  generalize ((wy.setCell ⟨gZ, 0, none⟩ (.bool d7)).setCell ⟨gZ, 1, none⟩ (.slice a7 n7 c7)) = w8 at *
  clear cX0 cX1 ltX
  clear cY0 cY1 ltY
  have eZ0 := Gr.cell (R := w.heap.size + 1 + 1) (R2 := w.heap.size + 1 + 1) cZ0 ltZ (by omega) (by omega)
  have eZ1 := Gr.cell (R := w.heap.size + 1 + 1) (R2 := w.heap.size + 1 + 1) cZ1 ltZ (by omega) (by omega)
  refine wp_region_sched [(0, false), (1, false), (2, false), (3, true), (4, true), (5, true)] (fun w' => ∃ W : Gr (w.heap.size + 1 + 1) (w.heap.size + 1 + 1) w8, w' = W.1) (by kernel_rfl) (by kernel_rfl) ⟨⟨w8.drew, below_grown (Below.refl _ _).drew⟩, rfl⟩ ?_
  repeat (refine wpSched_calm rfl (fun K hK => ?_); go_simp; refine hK _ ?_; clear hK K)
  clear eZ0 eZ1
  have hbx : Below w8.heap.size w8 w8.drew := (Below.refl _ _).drew
  have hM := below_grown (R := w.heap.size + 1 + 1) (R2 := w.heap.size + 1 + 1) hbx
  replace cR0 := bc hbx ltR cR0
  replace fR0 := bf hbx ltR fR0
  replace cR1 := bc hbx ltR cR1
  replace fR1 := bf hbx ltR fR1
  replace cR2 := bc hbx ltR cR2
  replace fR2 := bf hbx ltR fR2
  replace ltR := bl hbx ltR
  replace cZ0 := bc hbx ltZ cZ0
  replace cZ1 := bc hbx ltZ cZ1
  replace ltZ := bl hbx ltZ
  replace HI := Lib.hid (HI.out.below hbx)
  replace HD := Lib.hid (HD.out.below hbx)
  replace HI' := Lib.hid (HI'.out.below hbx)
  replace HD' := Lib.hid (HD'.out.below hbx)
  replace HV7 := Lib.hid (HV7.out.below hbx)
  replace hB := hB.trans (hbx.mono hB.size)
  clear hbx
  generalize w8.drew = ww8d at *
  refine wpSched_eff rfl rfl (fun K hK => ?_)
  go_simp
  refine (mul_raw vd vd' _ _ L M _ HD.out HD'.out (by omega)).mono ?_
  rintro e w9 ⟨v9, rfl, hv9, hb⟩
  replace cR0 := bc hb ltR cR0
  replace fR0 := bf hb ltR fR0
  replace cR1 := bc hb ltR cR1
  replace fR1 := bf hb ltR fR1
  replace cR2 := bc hb ltR cR2
  replace fR2 := bf hb ltR fR2
  replace ltR := bl hb ltR
  replace cZ0 := bc hb ltZ cZ0
  replace cZ1 := bc hb ltZ cZ1
  replace ltZ := bl hb ltZ
  replace HI := Lib.hid (HI.out.below hb)
  replace HD := Lib.hid (HD.out.below hb)
  replace HI' := Lib.hid (HI'.out.below hb)
  replace HD' := Lib.hid (HD'.out.below hb)
  replace HV7 := Lib.hid (HV7.out.below hb)
  replace hM := grown_below hM hb
  replace hB := hB.trans (hb.mono hB.size)
  have HV9 := Lib.hid (hv9.mono (show L + M ≤ L + M + 1 by omega))
  clear hv9
  clear hb
  refine hK _ _ ⟨⟨w9, hM⟩, rfl⟩ ?_
  clear hK K
  have hs1 := ltR
  refine wpSched_eff rfl rfl (fun K hK => ?_)
  go_simp
  refine (reduce_any _ v9 _ _ (L + M + 1) _ HV7.out HV9.out (Nat.mul_ne_zero (ptD_ne q) (ptD_ne q')) hm).mono ?_
  rintro e w10 ⟨v10, rfl, hv10, hsz, hb⟩
  replace cR0 := bc hb ltR cR0
  replace fR0 := bf hb ltR fR0
  replace cR1 := bc hb ltR cR1
  replace fR1 := bf hb ltR fR1
  replace cR2 := bc hb ltR cR2
  replace fR2 := bf hb ltR fR2
  replace ltR := bl hb ltR
  replace cZ0 := bc hb ltZ cZ0
  replace cZ1 := bc hb ltZ cZ1
  replace ltZ := bl hb ltZ
  replace HI := Lib.hid (HI.out.below hb)
  replace HD := Lib.hid (HD.out.below hb)
  replace HI' := Lib.hid (HI'.out.below hb)
  replace HD' := Lib.hid (HD'.out.below hb)
  replace HV7 := Lib.hid (HV7.out.below hb)
  replace HV9 := Lib.hid (HV9.out.below hb)
  replace hM := grown_below hM hb
  replace hB := hB.trans (hb.mono hB.size)
  rw [HS.out] at hv10 hsz
  obtain ⟨x', l', k', x, l, k, rfl, h1, h2, h3, h4⟩ := hv10
  have HSz := Lib.hid hsz
  have HFin := Lib.hid (rat_store (B := w9.heap.size) (B' := w.heap.size) (g := w.heap.size + 1 + 1) (r := r + s) ⟨x', l', k', x, l, k, rfl, h1, h2, h3, h4⟩ hs1 (by omega))
  clear h1 h2 h3 h4 hsz
  generalize decide ((r + s).num < 0) = dn at *
  clear hb
  refine hK _ _ ⟨⟨w10, hM⟩, rfl⟩ ?_
  clear hK K
  refine wpSched_eff rfl rfl (fun K hK => ?_)
  go_simp
  refine hK _ _ ⟨⟨_, grown_set (grown_set (grown_set hM 0 _) 1 _) 2 _⟩, rfl⟩ ?_
  clear hK K
  refine wpSched_nil ?_
  go_wp2_with fail
  exact bodyPost_ret (v := .agg #[.bool dn, .slice x' l' k', .slice x l k]) (by simp [results, Tryz.results24, go_sem, cR0, cR1, cR2]) rfl ⟨_, rfl, HFin.out, HSz.out, ((hB.setCell (p := ⟨w.heap.size + 1 + 1, 0, none⟩) (by simp <;> omega) _).setCell (p := ⟨w.heap.size + 1 + 1, 1, none⟩) (by simp <;> omega) _).setCell (p := ⟨w.heap.size + 1 + 1, 2, none⟩) (by simp <;> omega) _⟩

end Go.Proofs.YtahmndacoanfiaaGreat
