/- What the law EquateShares does if the two numbers are not swapped, for arguments of bulk at most 1048576: ranks are from 0 to 1 and never fall, and the rank of the score with a rank is that rank. -/
import Derived.Test.YtahmndacoanfiaaEqV
import Derived.Test.YtahmndacoanfiaaFrame
import Derived.Test.YtahmndacoanfiaaBulk
namespace Go.Proofs.Ytahmndacoanfiaa
set_option maxRecDepth 100000
open Go.ChangeShapes Go.WideShapes Go.ChangeAt Go.RowKit

theorem sgI_ge {r : Rat} : 0 ≤ rsgI r ↔ 0 ≤ r := by
  have h := sgI_lt (r := r)
  constructor
  · intro h1; rw [← Rat.not_lt]; intro h2; have := h.2 h2; omega
  · intro h1
    rcases Int.lt_or_le (rsgI r) 0 with h2 | h2
    · have := h.1 h2; grind
    · exact h2
theorem cmpI_le0 {r s : Rat} : rcmpI r s ≤ 0 ↔ r ≤ s := by
  have h := cmpI_gt0 (r := r) (s := s)
  constructor
  · intro h1; rw [← Rat.not_lt]; intro h2; have := h.2 h2; omega
  · intro h1
    rcases Int.lt_or_le 0 (rcmpI r s) with h2 | h2
    · have := h.1 h2; grind
    · exact h2
theorem rank_mono {f : List Int} (h : OkF f) {x y : Rat} (hxy : x ≤ y) : rankR f x ≤ rankR f y := by
  have hs := cast_lt h.pos
  have e0 : ((0 : Int) : Rat) = 0 := rfl
  have h4 := rkN_mono h.nn (show x + 1/2 ≤ y + 1/2 by grind)
  unfold rankR
  rw [Rat.div_def, Rat.div_def]
  exact Rat.mul_le_mul_of_nonneg_right h4 (Rat.le_of_lt (Rat.inv_pos.2 (by grind)))
theorem rank_back {f : List Int} (h : OkF f) {p : Rat} (h0 : 0 ≤ p) (h1 : p ≤ 1) : rankR f (invR f (p * (f.sum : Rat))) = p := by
  have hs := cast_lt h.pos
  have e0 : ((0 : Int) : Rat) = 0 := rfl
  have hq : p * (f.sum : Rat) ≤ (f.sum : Rat) := by
    have := Rat.mul_le_mul_of_nonneg_right h1 (show (0 : Rat) ≤ (f.sum : Rat) by grind)
    grind
  obtain ⟨k, hk⟩ := inv_ex h.nn h.2.2 hq
  unfold rankR
  rw [invR_eq hk, rank_inv h.nn (Rat.mul_nonneg h0 (by grind)) hk, Rat.mul_div_cancel]
  grind
theorem cmpI_self (r : Rat) : rcmpI r r = 0 := by unfold rcmpI; rw [if_neg (by grind), if_neg (by grind)]

set_option maxHeartbeats 8000000 in
theorem shares_kn (f : List Int) (a : Option Addr) (len cap : Nat) (vx vy vp : Value) (x y p : Rat) (L : Nat) (w : World) (hI : Ints w a len cap f) (hx : RatV w vx x L) (hy : RatV w vy y L) (hp : RatV w vp p L) (hL : 1 ≤ L) (hm : (2 * L + 200) * 4 ≤ 140737488355328) (hc : decide (0 < rcmpI x y) = false) (hE : eqE f ≠ 0) :
    Calls Try.prog 4 #[.slice a len cap, vx, vy, vp] w fun e w' => e = .returned (.bool true) ∧ Below w.heap.size w w' := by
  have HI := Lib.hid hI
  have HX := Lib.hid hx
  have HY := Lib.hid hy
  have HP := Lib.hid hp
  obtain ⟨negx, ax', lenx', capx', ax, lenx, capx, rfl, -, -⟩ := hx.form
  obtain ⟨negy, ay', leny', capy', ay, leny, capy, rfl, -, -⟩ := hy.form
  obtain ⟨negp, ap', lenp', capp', ap, lenp, capp, rfl, -, -⟩ := hp.form
  clear hI hx hy hp
  have hz : (eqE f == 0) = false := by simpa using hE
  have HNE := Lib.hid hE
  clear hE
  have HS0 := Lib.hid (show rsgI 0 = 0 from rfl)
  have HZ0 : Hid (Rsz (0 : Rat) 1) := Lib.hid (by unfold Rsz; rw [show (0 : Rat).num.natAbs = 0 from rfl, show (0 : Rat).den = 1 from rfl, digs_zero, digs_one (by omega) (by omega)]; simp)
  generalize hef : eqE f = ef at hz ⊢
  have HEF := Lib.hid hef
  clear hef
  go_enter Try.func4, Try.ntmps4
  go_wp2_with fail
  have hbx : Below w.heap.size w (((w.alloc (.cells #[.bool negx, .slice ax' lenx' capx', .slice ax lenx capx] 33)).alloc (.cells #[.bool negy, .slice ay' leny' capy', .slice ay leny capy] 33)).alloc (.cells #[.bool negp, .slice ap' lenp' capp', .slice ap lenp capp] 33)) := ((((Below.refl _ _).alloc (Nat.le_refl _) _).alloc (by simp) _).alloc (by simp <;> omega) _)
  generalize hWW : (((w.alloc (.cells #[.bool negx, .slice ax' lenx' capx', .slice ax lenx capx] 33)).alloc (.cells #[.bool negy, .slice ay' leny' capy', .slice ay leny capy] 33)).alloc (.cells #[.bool negp, .slice ap' lenp' capp', .slice ap lenp capp] 33)) = w0 at *
  replace HI := Lib.hid (HI.out.below hbx)
  replace HX := Lib.hid (HX.out.below hbx)
  replace HY := Lib.hid (HY.out.below hbx)
  replace HP := Lib.hid (HP.out.below hbx)
  have cA0 : w0.cell? ⟨w.heap.size, 0, none⟩ = some (.bool negx) := by subst hWW; go_simp
  have cA1 : w0.cell? ⟨w.heap.size, 1, none⟩ = some (.slice ax' lenx' capx') := by subst hWW; go_simp
  have cA2 : w0.cell? ⟨w.heap.size, 2, none⟩ = some (.slice ax lenx capx) := by subst hWW; go_simp
  have ltA : w.heap.size < w0.heap.size := by subst hWW; simp <;> omega
  have cB0 : w0.cell? ⟨w.heap.size + 1, 0, none⟩ = some (.bool negy) := by subst hWW; go_simp
  have cB1 : w0.cell? ⟨w.heap.size + 1, 1, none⟩ = some (.slice ay' leny' capy') := by subst hWW; go_simp
  have cB2 : w0.cell? ⟨w.heap.size + 1, 2, none⟩ = some (.slice ay leny capy) := by subst hWW; go_simp
  have ltB : w.heap.size + 1 < w0.heap.size := by subst hWW; simp <;> omega
  have cC0 : w0.cell? ⟨w.heap.size + 1 + 1, 0, none⟩ = some (.bool negp) := by subst hWW; go_simp
  have cC1 : w0.cell? ⟨w.heap.size + 1 + 1, 1, none⟩ = some (.slice ap' lenp' capp') := by subst hWW; go_simp
  have cC2 : w0.cell? ⟨w.heap.size + 1 + 1, 2, none⟩ = some (.slice ap lenp capp) := by subst hWW; go_simp
  have ltC : w.heap.size + 1 + 1 < w0.heap.size := by subst hWW; simp
  have hB := hbx
  clear hbx hWW
  have SCA0 := Lib.hid cA0
  have SCA1 := Lib.hid cA1
  have SCA2 := Lib.hid cA2
  have SLA := Lib.hid ltA
  have SCB0 := Lib.hid cB0
  have SCB1 := Lib.hid cB1
  have SCB2 := Lib.hid cB2
  have SLB := Lib.hid ltB
  have SCC0 := Lib.hid cC0
  have SCC1 := Lib.hid cC1
  have SCC2 := Lib.hid cC2
  have SLC := Lib.hid ltC
  have SHI := Lib.hid HI.out
  have SHX := Lib.hid HX.out
  have SHY := Lib.hid HY.out
  have SHP := Lib.hid HP.out
  have SB := Lib.hid hB
  have eA0 := box_ext (B := w0.heap.size) cA0 ltA
  have eA1 := box_ext (B := w0.heap.size) cA1 ltA
  have eA2 := box_ext (B := w0.heap.size) cA2 ltA
  have eB0 := box_ext (B := w0.heap.size) cB0 ltB
  have eB1 := box_ext (B := w0.heap.size) cB1 ltB
  have eB2 := box_ext (B := w0.heap.size) cB2 ltB
  have eC0 := box_ext (B := w0.heap.size) cC0 ltC
  have eC1 := box_ext (B := w0.heap.size) cC1 ltC
  have eC2 := box_ext (B := w0.heap.size) cC2 ltC
  refine wp_region_float2 2 3 [(0, false), (1, false)] [(4, true), (5, true)] (fun w' => ∃ W : Ext w0.heap.size w0, w' = W.1) _ _ 9 10 (.cells #[.bool false, .slice none 0 0, .slice none 0 0] 33) (.cells #[.bool false, .slice none 0 0, .slice none 0 0] 33) w0.heap.size (by kernel_rfl) rfl rfl rfl rfl rfl rfl (fun a w => by simp [execOp, go_sem, ptr]) (fun a w => by simp [execOp, go_sem, ptr]) (fun w ⟨W, e⟩ => e ▸ W.2.size) (fun w ⟨W, e⟩ => ⟨⟨_, (e ▸ W.2).alloc (e ▸ W.2.size) _⟩, rfl⟩) (fun w ⟨W, e⟩ => ⟨⟨_, (e ▸ W.2).alloc (e ▸ W.2.size) _⟩, rfl⟩) (by decide) (by kernel_rfl) ⟨⟨w0.drew, (Below.refl _ _).drew⟩, rfl⟩ ?_
  repeat (refine wpFl2_calm rfl (fun K hK => ?_); go_simp; refine hK _ ?_; clear hK K)
  clear eA0 eA1 eA2 eB0 eB1 eB2 eC0 eC1 eC2
  have hbx : Below w0.heap.size w0 w0.drew := (Below.refl _ _).drew
  have hM := hbx
  replace cA0 := bc hbx ltA cA0
  replace cA1 := bc hbx ltA cA1
  replace cA2 := bc hbx ltA cA2
  replace ltA := bl hbx ltA
  replace cB0 := bc hbx ltB cB0
  replace cB1 := bc hbx ltB cB1
  replace cB2 := bc hbx ltB cB2
  replace ltB := bl hbx ltB
  replace cC0 := bc hbx ltC cC0
  replace cC1 := bc hbx ltC cC1
  replace cC2 := bc hbx ltC cC2
  replace ltC := bl hbx ltC
  replace HI := Lib.hid (HI.out.below hbx)
  replace HX := Lib.hid (HX.out.below hbx)
  replace HY := Lib.hid (HY.out.below hbx)
  replace HP := Lib.hid (HP.out.below hbx)
  replace hB := hB.trans (hbx.mono hB.size)
  clear hbx
  generalize w0.drew = ww0d at *
  refine wpFl2_nil fun gP gQ wy hC hg hBk hBk2 hge hge2 hgn => ?_
  obtain ⟨⟨wz, hE⟩, hwe⟩ := hC
  change wy = wz at hwe
  subst hwe
  replace cA0 := bc hg ltA cA0
  replace cA1 := bc hg ltA cA1
  replace cA2 := bc hg ltA cA2
  replace ltA := bl hg ltA
  replace cB0 := bc hg ltB cB0
  replace cB1 := bc hg ltB cB1
  replace cB2 := bc hg ltB cB2
  replace ltB := bl hg ltB
  replace cC0 := bc hg ltC cC0
  replace cC1 := bc hg ltC cC1
  replace cC2 := bc hg ltC cC2
  replace ltC := bl hg ltC
  replace HI := Lib.hid (HI.out.below hg)
  replace HX := Lib.hid (HX.out.below hg)
  replace HY := Lib.hid (HY.out.below hg)
  replace HP := Lib.hid (HP.out.below hg)
  replace hB := hB.trans (hg.mono hB.size)
  replace hM := hE
  clear hE hg
  have z0 := blk_cell hBk 0
  have y0 := blk_free hBk 0
  have z1 := blk_cell hBk 1
  have y1 := blk_free hBk 1
  have z2 := blk_cell hBk 2
  have y2 := blk_free hBk 2
  have v0 := blk_cell hBk2 0
  have u0 := blk_free hBk2 0
  have v1 := blk_cell hBk2 1
  have u1 := blk_free hBk2 1
  have v2 := blk_cell hBk2 2
  have u2 := blk_free hBk2 2
  simp at z0 z1 z2 v0 v1 v2
  have hgl := blk_lt hBk
  have hgl2 := blk_lt hBk2
  have hgn2 := Ne.symm hgn
  refine wpSched_eff rfl rfl (fun K hK => ?_)
  go_simp
  refine hK _ _ ⟨⟨_, (((hM.setCell (p := ⟨gP, 0, none⟩) hge _).setCell (p := ⟨gP, 1, none⟩) hge _).setCell (p := ⟨gP, 2, none⟩) hge _)⟩, rfl⟩ ?_
  clear hK K
  refine wpSched_eff rfl rfl (fun K hK => ?_)
  go_simp
  refine hK _ _ ⟨⟨_, ((((((hM.setCell (p := ⟨gP, 0, none⟩) hge _).setCell (p := ⟨gP, 1, none⟩) hge _).setCell (p := ⟨gP, 2, none⟩) hge _).setCell (p := ⟨gQ, 0, none⟩) hge2 _).setCell (p := ⟨gQ, 1, none⟩) hge2 _).setCell (p := ⟨gQ, 2, none⟩) hge2 _)⟩, rfl⟩ ?_
  clear hK K
  refine wpSched_nil ?_
  have hMn := ((((((hM.setCell (p := ⟨gP, 0, none⟩) hge (.bool negx)).setCell (p := ⟨gP, 1, none⟩) hge (.slice ax' lenx' capx')).setCell (p := ⟨gP, 2, none⟩) hge (.slice ax lenx capx)).setCell (p := ⟨gQ, 0, none⟩) hge2 (.bool negy)).setCell (p := ⟨gQ, 1, none⟩) hge2 (.slice ay' leny' capy')).setCell (p := ⟨gQ, 2, none⟩) hge2 (.slice ay leny capy))
  replace cA0 := bc hMn SLA.out SCA0.out
  replace cA1 := bc hMn SLA.out SCA1.out
  replace cA2 := bc hMn SLA.out SCA2.out
  replace ltA := bl hMn SLA.out
  replace cB0 := bc hMn SLB.out SCB0.out
  replace cB1 := bc hMn SLB.out SCB1.out
  replace cB2 := bc hMn SLB.out SCB2.out
  replace ltB := bl hMn SLB.out
  replace cC0 := bc hMn SLC.out SCC0.out
  replace cC1 := bc hMn SLC.out SCC1.out
  replace cC2 := bc hMn SLC.out SCC2.out
  replace ltC := bl hMn SLC.out
  replace HI := Lib.hid (SHI.out.below hMn)
  replace HX := Lib.hid (SHX.out.below hMn)
  replace HY := Lib.hid (SHY.out.below hMn)
  replace HP := Lib.hid (SHP.out.below hMn)
  replace hB := SB.out.trans (hMn.mono SB.out.size)
  have cP0 : ((((((wy.setCell ⟨gP, 0, none⟩ (.bool negx)).setCell ⟨gP, 1, none⟩ (.slice ax' lenx' capx')).setCell ⟨gP, 2, none⟩ (.slice ax lenx capx)).setCell ⟨gQ, 0, none⟩ (.bool negy)).setCell ⟨gQ, 1, none⟩ (.slice ay' leny' capy')).setCell ⟨gQ, 2, none⟩ (.slice ay leny capy)).cell? ⟨gP, 0, none⟩ = some (.bool negx) := by go_simp
  have fP0 : ((((((wy.setCell ⟨gP, 0, none⟩ (.bool negx)).setCell ⟨gP, 1, none⟩ (.slice ax' lenx' capx')).setCell ⟨gP, 2, none⟩ (.slice ax lenx capx)).setCell ⟨gQ, 0, none⟩ (.bool negy)).setCell ⟨gQ, 1, none⟩ (.slice ay' leny' capy')).setCell ⟨gQ, 2, none⟩ (.slice ay leny capy)).frozen? ⟨gP, 0, none⟩ = false := by go_simp
  have cP1 : ((((((wy.setCell ⟨gP, 0, none⟩ (.bool negx)).setCell ⟨gP, 1, none⟩ (.slice ax' lenx' capx')).setCell ⟨gP, 2, none⟩ (.slice ax lenx capx)).setCell ⟨gQ, 0, none⟩ (.bool negy)).setCell ⟨gQ, 1, none⟩ (.slice ay' leny' capy')).setCell ⟨gQ, 2, none⟩ (.slice ay leny capy)).cell? ⟨gP, 1, none⟩ = some (.slice ax' lenx' capx') := by go_simp
  have fP1 : ((((((wy.setCell ⟨gP, 0, none⟩ (.bool negx)).setCell ⟨gP, 1, none⟩ (.slice ax' lenx' capx')).setCell ⟨gP, 2, none⟩ (.slice ax lenx capx)).setCell ⟨gQ, 0, none⟩ (.bool negy)).setCell ⟨gQ, 1, none⟩ (.slice ay' leny' capy')).setCell ⟨gQ, 2, none⟩ (.slice ay leny capy)).frozen? ⟨gP, 1, none⟩ = false := by go_simp
  have cP2 : ((((((wy.setCell ⟨gP, 0, none⟩ (.bool negx)).setCell ⟨gP, 1, none⟩ (.slice ax' lenx' capx')).setCell ⟨gP, 2, none⟩ (.slice ax lenx capx)).setCell ⟨gQ, 0, none⟩ (.bool negy)).setCell ⟨gQ, 1, none⟩ (.slice ay' leny' capy')).setCell ⟨gQ, 2, none⟩ (.slice ay leny capy)).cell? ⟨gP, 2, none⟩ = some (.slice ax lenx capx) := by go_simp
  have fP2 : ((((((wy.setCell ⟨gP, 0, none⟩ (.bool negx)).setCell ⟨gP, 1, none⟩ (.slice ax' lenx' capx')).setCell ⟨gP, 2, none⟩ (.slice ax lenx capx)).setCell ⟨gQ, 0, none⟩ (.bool negy)).setCell ⟨gQ, 1, none⟩ (.slice ay' leny' capy')).setCell ⟨gQ, 2, none⟩ (.slice ay leny capy)).frozen? ⟨gP, 2, none⟩ = false := by go_simp
  have ltP : gP < ((((((wy.setCell ⟨gP, 0, none⟩ (.bool negx)).setCell ⟨gP, 1, none⟩ (.slice ax' lenx' capx')).setCell ⟨gP, 2, none⟩ (.slice ax lenx capx)).setCell ⟨gQ, 0, none⟩ (.bool negy)).setCell ⟨gQ, 1, none⟩ (.slice ay' leny' capy')).setCell ⟨gQ, 2, none⟩ (.slice ay leny capy)).heap.size := by simpa using hgl
  have cQ0 : ((((((wy.setCell ⟨gP, 0, none⟩ (.bool negx)).setCell ⟨gP, 1, none⟩ (.slice ax' lenx' capx')).setCell ⟨gP, 2, none⟩ (.slice ax lenx capx)).setCell ⟨gQ, 0, none⟩ (.bool negy)).setCell ⟨gQ, 1, none⟩ (.slice ay' leny' capy')).setCell ⟨gQ, 2, none⟩ (.slice ay leny capy)).cell? ⟨gQ, 0, none⟩ = some (.bool negy) := by go_simp
  have fQ0 : ((((((wy.setCell ⟨gP, 0, none⟩ (.bool negx)).setCell ⟨gP, 1, none⟩ (.slice ax' lenx' capx')).setCell ⟨gP, 2, none⟩ (.slice ax lenx capx)).setCell ⟨gQ, 0, none⟩ (.bool negy)).setCell ⟨gQ, 1, none⟩ (.slice ay' leny' capy')).setCell ⟨gQ, 2, none⟩ (.slice ay leny capy)).frozen? ⟨gQ, 0, none⟩ = false := by go_simp
  have cQ1 : ((((((wy.setCell ⟨gP, 0, none⟩ (.bool negx)).setCell ⟨gP, 1, none⟩ (.slice ax' lenx' capx')).setCell ⟨gP, 2, none⟩ (.slice ax lenx capx)).setCell ⟨gQ, 0, none⟩ (.bool negy)).setCell ⟨gQ, 1, none⟩ (.slice ay' leny' capy')).setCell ⟨gQ, 2, none⟩ (.slice ay leny capy)).cell? ⟨gQ, 1, none⟩ = some (.slice ay' leny' capy') := by go_simp
  have fQ1 : ((((((wy.setCell ⟨gP, 0, none⟩ (.bool negx)).setCell ⟨gP, 1, none⟩ (.slice ax' lenx' capx')).setCell ⟨gP, 2, none⟩ (.slice ax lenx capx)).setCell ⟨gQ, 0, none⟩ (.bool negy)).setCell ⟨gQ, 1, none⟩ (.slice ay' leny' capy')).setCell ⟨gQ, 2, none⟩ (.slice ay leny capy)).frozen? ⟨gQ, 1, none⟩ = false := by go_simp
  have cQ2 : ((((((wy.setCell ⟨gP, 0, none⟩ (.bool negx)).setCell ⟨gP, 1, none⟩ (.slice ax' lenx' capx')).setCell ⟨gP, 2, none⟩ (.slice ax lenx capx)).setCell ⟨gQ, 0, none⟩ (.bool negy)).setCell ⟨gQ, 1, none⟩ (.slice ay' leny' capy')).setCell ⟨gQ, 2, none⟩ (.slice ay leny capy)).cell? ⟨gQ, 2, none⟩ = some (.slice ay leny capy) := by go_simp
  have fQ2 : ((((((wy.setCell ⟨gP, 0, none⟩ (.bool negx)).setCell ⟨gP, 1, none⟩ (.slice ax' lenx' capx')).setCell ⟨gP, 2, none⟩ (.slice ax lenx capx)).setCell ⟨gQ, 0, none⟩ (.bool negy)).setCell ⟨gQ, 1, none⟩ (.slice ay' leny' capy')).setCell ⟨gQ, 2, none⟩ (.slice ay leny capy)).frozen? ⟨gQ, 2, none⟩ = false := by go_simp
  have ltQ : gQ < ((((((wy.setCell ⟨gP, 0, none⟩ (.bool negx)).setCell ⟨gP, 1, none⟩ (.slice ax' lenx' capx')).setCell ⟨gP, 2, none⟩ (.slice ax lenx capx)).setCell ⟨gQ, 0, none⟩ (.bool negy)).setCell ⟨gQ, 1, none⟩ (.slice ay' leny' capy')).setCell ⟨gQ, 2, none⟩ (.slice ay leny capy)).heap.size := by simpa using hgl2
  have nePA : w.heap.size < gP := Nat.lt_of_lt_of_le SLA.out hge
  have neQA : w.heap.size < gQ := Nat.lt_of_lt_of_le SLA.out hge2
  have nePB : w.heap.size + 1 < gP := Nat.lt_of_lt_of_le SLB.out hge
  have neQB : w.heap.size + 1 < gQ := Nat.lt_of_lt_of_le SLB.out hge2
  have nePC : w.heap.size + 1 + 1 < gP := Nat.lt_of_lt_of_le SLC.out hge
  have neQC : w.heap.size + 1 + 1 < gQ := Nat.lt_of_lt_of_le SLC.out hge2
  have hP := hMn
  clear hMn hM hBk hBk2 hgl hgl2 z0 y0 z1 y1 z2 y2 v0 u0 v1 u1 v2 u2
  go_wp2_with fail
  generalize ((((((wy.setCell ⟨gP, 0, none⟩ (.bool negx)).setCell ⟨gP, 1, none⟩ (.slice ax' lenx' capx')).setCell ⟨gP, 2, none⟩ (.slice ax lenx capx)).setCell ⟨gQ, 0, none⟩ (.bool negy)).setCell ⟨gQ, 1, none⟩ (.slice ay' leny' capy')).setCell ⟨gQ, 2, none⟩ (.slice ay leny capy)) = w1 at *
  refine (qcmp_any _ _ x y L L _ HX.out HY.out hL hL (by omega)).mono ?_
  rintro e w2 ⟨rfl, hb⟩
  replace cA0 := bc hb ltA cA0
  replace cA1 := bc hb ltA cA1
  replace cA2 := bc hb ltA cA2
  replace ltA := bl hb ltA
  replace cB0 := bc hb ltB cB0
  replace cB1 := bc hb ltB cB1
  replace cB2 := bc hb ltB cB2
  replace ltB := bl hb ltB
  replace cC0 := bc hb ltC cC0
  replace cC1 := bc hb ltC cC1
  replace cC2 := bc hb ltC cC2
  replace ltC := bl hb ltC
  replace cP0 := bc hb ltP cP0
  replace fP0 := bf hb ltP fP0
  replace cP1 := bc hb ltP cP1
  replace fP1 := bf hb ltP fP1
  replace cP2 := bc hb ltP cP2
  replace fP2 := bf hb ltP fP2
  replace ltP := bl hb ltP
  replace cQ0 := bc hb ltQ cQ0
  replace fQ0 := bf hb ltQ fQ0
  replace cQ1 := bc hb ltQ cQ1
  replace fQ1 := bf hb ltQ fQ1
  replace cQ2 := bc hb ltQ cQ2
  replace fQ2 := bf hb ltQ fQ2
  replace ltQ := bl hb ltQ
  replace HI := Lib.hid (HI.out.below hb)
  replace HX := Lib.hid (HX.out.below hb)
  replace HY := Lib.hid (HY.out.below hb)
  replace HP := Lib.hid (HP.out.below hb)
  replace hB := hB.trans (hb.mono hB.size)
  replace hP := hP.trans (hb.mono hP.size)
  generalize rcmpI x y = cc at *
  clear hb
  go_wp2_with fail
  clear hP
  refine (erank_no f a len cap _ x L _ HI.out HX.out HNE.out).mono ?_
  rintro e w4 ⟨v4, rfl, hv, hb⟩
  replace cA0 := bc hb ltA cA0
  replace cA1 := bc hb ltA cA1
  replace cA2 := bc hb ltA cA2
  replace ltA := bl hb ltA
  replace cB0 := bc hb ltB cB0
  replace cB1 := bc hb ltB cB1
  replace cB2 := bc hb ltB cB2
  replace ltB := bl hb ltB
  replace cC0 := bc hb ltC cC0
  replace cC1 := bc hb ltC cC1
  replace cC2 := bc hb ltC cC2
  replace ltC := bl hb ltC
  replace cP0 := bc hb ltP cP0
  replace fP0 := bf hb ltP fP0
  replace cP1 := bc hb ltP cP1
  replace fP1 := bf hb ltP fP1
  replace cP2 := bc hb ltP cP2
  replace fP2 := bf hb ltP fP2
  replace ltP := bl hb ltP
  replace cQ0 := bc hb ltQ cQ0
  replace fQ0 := bf hb ltQ fQ0
  replace cQ1 := bc hb ltQ cQ1
  replace fQ1 := bf hb ltQ fQ1
  replace cQ2 := bc hb ltQ cQ2
  replace fQ2 := bf hb ltQ fQ2
  replace ltQ := bl hb ltQ
  replace HI := Lib.hid (HI.out.below hb)
  replace HX := Lib.hid (HX.out.below hb)
  replace HY := Lib.hid (HY.out.below hb)
  replace HP := Lib.hid (HP.out.below hb)
  replace hB := hB.trans (hb.mono hB.size)
  rw [HEF.out]
  have HV4 := Lib.hid (hv.mono (Nat.zero_le _))
  obtain ⟨p4', m4', q4', p4, m4, q4, rfl, -, -, -, -⟩ := hv
  generalize decide ((0 : Rat).num < 0) = d4 at *
  clear hb
  go_wp2_with fail
  have hbx : Below w4.heap.size w4 (w4.alloc (.cells #[.bool d4, .slice p4' m4' q4', .slice p4 m4 q4] 33)) := ((Below.refl _ _).alloc (Nat.le_refl _) _)
  generalize hWW : (w4.alloc (.cells #[.bool d4, .slice p4' m4' q4', .slice p4 m4 q4] 33)) = w4a at *
  replace cA0 := bc hbx ltA cA0
  replace cA1 := bc hbx ltA cA1
  replace cA2 := bc hbx ltA cA2
  replace ltA := bl hbx ltA
  replace cB0 := bc hbx ltB cB0
  replace cB1 := bc hbx ltB cB1
  replace cB2 := bc hbx ltB cB2
  replace ltB := bl hbx ltB
  replace cC0 := bc hbx ltC cC0
  replace cC1 := bc hbx ltC cC1
  replace cC2 := bc hbx ltC cC2
  replace ltC := bl hbx ltC
  replace cP0 := bc hbx ltP cP0
  replace fP0 := bf hbx ltP fP0
  replace cP1 := bc hbx ltP cP1
  replace fP1 := bf hbx ltP fP1
  replace cP2 := bc hbx ltP cP2
  replace fP2 := bf hbx ltP fP2
  replace ltP := bl hbx ltP
  replace cQ0 := bc hbx ltQ cQ0
  replace fQ0 := bf hbx ltQ fQ0
  replace cQ1 := bc hbx ltQ cQ1
  replace fQ1 := bf hbx ltQ fQ1
  replace cQ2 := bc hbx ltQ cQ2
  replace fQ2 := bf hbx ltQ fQ2
  replace ltQ := bl hbx ltQ
  replace HI := Lib.hid (HI.out.below hbx)
  replace HX := Lib.hid (HX.out.below hbx)
  replace HY := Lib.hid (HY.out.below hbx)
  replace HP := Lib.hid (HP.out.below hbx)
  replace HV4 := Lib.hid (HV4.out.below hbx)
  have ca0 : w4a.cell? ⟨w4.heap.size, 0, none⟩ = some (.bool d4) := by subst hWW; go_simp
  have ca1 : w4a.cell? ⟨w4.heap.size, 1, none⟩ = some (.slice p4' m4' q4') := by subst hWW; go_simp
  have ca2 : w4a.cell? ⟨w4.heap.size, 2, none⟩ = some (.slice p4 m4 q4) := by subst hWW; go_simp
  have lta : w4.heap.size < w4a.heap.size := by subst hWW; simp
  replace hB := hB.trans (hbx.mono hB.size)
  clear hbx hWW
  refine (erank_no f a len cap _ y L _ HI.out HY.out HNE.out).mono ?_
  rintro e w5 ⟨v5, rfl, hv, hb⟩
  replace cA0 := bc hb ltA cA0
  replace cA1 := bc hb ltA cA1
  replace cA2 := bc hb ltA cA2
  replace ltA := bl hb ltA
  replace cB0 := bc hb ltB cB0
  replace cB1 := bc hb ltB cB1
  replace cB2 := bc hb ltB cB2
  replace ltB := bl hb ltB
  replace cC0 := bc hb ltC cC0
  replace cC1 := bc hb ltC cC1
  replace cC2 := bc hb ltC cC2
  replace ltC := bl hb ltC
  replace cP0 := bc hb ltP cP0
  replace fP0 := bf hb ltP fP0
  replace cP1 := bc hb ltP cP1
  replace fP1 := bf hb ltP fP1
  replace cP2 := bc hb ltP cP2
  replace fP2 := bf hb ltP fP2
  replace ltP := bl hb ltP
  replace cQ0 := bc hb ltQ cQ0
  replace fQ0 := bf hb ltQ fQ0
  replace cQ1 := bc hb ltQ cQ1
  replace fQ1 := bf hb ltQ fQ1
  replace cQ2 := bc hb ltQ cQ2
  replace fQ2 := bf hb ltQ fQ2
  replace ltQ := bl hb ltQ
  replace ca0 := bc hb lta ca0
  replace ca1 := bc hb lta ca1
  replace ca2 := bc hb lta ca2
  replace lta := bl hb lta
  replace HI := Lib.hid (HI.out.below hb)
  replace HX := Lib.hid (HX.out.below hb)
  replace HY := Lib.hid (HY.out.below hb)
  replace HP := Lib.hid (HP.out.below hb)
  replace HV4 := Lib.hid (HV4.out.below hb)
  replace hB := hB.trans (hb.mono hB.size)
  rw [HEF.out]
  have HV5 := Lib.hid (hv.mono (Nat.zero_le _))
  obtain ⟨p5', m5', q5', p5, m5, q5, rfl, -, -, -, -⟩ := hv
  generalize decide ((0 : Rat).num < 0) = d5 at *
  clear hb
  go_wp2_with fail
  have hbx : Below w5.heap.size w5 (w5.alloc (.cells #[.bool d5, .slice p5' m5' q5', .slice p5 m5 q5] 33)) := ((Below.refl _ _).alloc (Nat.le_refl _) _)
  generalize hWW : (w5.alloc (.cells #[.bool d5, .slice p5' m5' q5', .slice p5 m5 q5] 33)) = w5a at *
  replace cA0 := bc hbx ltA cA0
  replace cA1 := bc hbx ltA cA1
  replace cA2 := bc hbx ltA cA2
  replace ltA := bl hbx ltA
  replace cB0 := bc hbx ltB cB0
  replace cB1 := bc hbx ltB cB1
  replace cB2 := bc hbx ltB cB2
  replace ltB := bl hbx ltB
  replace cC0 := bc hbx ltC cC0
  replace cC1 := bc hbx ltC cC1
  replace cC2 := bc hbx ltC cC2
  replace ltC := bl hbx ltC
  replace cP0 := bc hbx ltP cP0
  replace fP0 := bf hbx ltP fP0
  replace cP1 := bc hbx ltP cP1
  replace fP1 := bf hbx ltP fP1
  replace cP2 := bc hbx ltP cP2
  replace fP2 := bf hbx ltP fP2
  replace ltP := bl hbx ltP
  replace cQ0 := bc hbx ltQ cQ0
  replace fQ0 := bf hbx ltQ fQ0
  replace cQ1 := bc hbx ltQ cQ1
  replace fQ1 := bf hbx ltQ fQ1
  replace cQ2 := bc hbx ltQ cQ2
  replace fQ2 := bf hbx ltQ fQ2
  replace ltQ := bl hbx ltQ
  replace ca0 := bc hbx lta ca0
  replace ca1 := bc hbx lta ca1
  replace ca2 := bc hbx lta ca2
  replace lta := bl hbx lta
  replace HI := Lib.hid (HI.out.below hbx)
  replace HX := Lib.hid (HX.out.below hbx)
  replace HY := Lib.hid (HY.out.below hbx)
  replace HP := Lib.hid (HP.out.below hbx)
  replace HV4 := Lib.hid (HV4.out.below hbx)
  replace HV5 := Lib.hid (HV5.out.below hbx)
  have cb0 : w5a.cell? ⟨w5.heap.size, 0, none⟩ = some (.bool d5) := by subst hWW; go_simp
  have cb1 : w5a.cell? ⟨w5.heap.size, 1, none⟩ = some (.slice p5' m5' q5') := by subst hWW; go_simp
  have cb2 : w5a.cell? ⟨w5.heap.size, 2, none⟩ = some (.slice p5 m5 q5) := by subst hWW; go_simp
  have ltb : w5.heap.size < w5a.heap.size := by subst hWW; simp
  replace hB := hB.trans (hbx.mono hB.size)
  clear hbx hWW
  refine (einv_no f a len cap _ p L _ HI.out HP.out HNE.out).mono ?_
  rintro e w6 ⟨v6, rfl, hv, hb⟩
  replace cA0 := bc hb ltA cA0
  replace cA1 := bc hb ltA cA1
  replace cA2 := bc hb ltA cA2
  replace ltA := bl hb ltA
  replace cB0 := bc hb ltB cB0
  replace cB1 := bc hb ltB cB1
  replace cB2 := bc hb ltB cB2
  replace ltB := bl hb ltB
  replace cC0 := bc hb ltC cC0
  replace cC1 := bc hb ltC cC1
  replace cC2 := bc hb ltC cC2
  replace ltC := bl hb ltC
  replace cP0 := bc hb ltP cP0
  replace fP0 := bf hb ltP fP0
  replace cP1 := bc hb ltP cP1
  replace fP1 := bf hb ltP fP1
  replace cP2 := bc hb ltP cP2
  replace fP2 := bf hb ltP fP2
  replace ltP := bl hb ltP
  replace cQ0 := bc hb ltQ cQ0
  replace fQ0 := bf hb ltQ fQ0
  replace cQ1 := bc hb ltQ cQ1
  replace fQ1 := bf hb ltQ fQ1
  replace cQ2 := bc hb ltQ cQ2
  replace fQ2 := bf hb ltQ fQ2
  replace ltQ := bl hb ltQ
  replace ca0 := bc hb lta ca0
  replace ca1 := bc hb lta ca1
  replace ca2 := bc hb lta ca2
  replace lta := bl hb lta
  replace cb0 := bc hb ltb cb0
  replace cb1 := bc hb ltb cb1
  replace cb2 := bc hb ltb cb2
  replace ltb := bl hb ltb
  replace HI := Lib.hid (HI.out.below hb)
  replace HX := Lib.hid (HX.out.below hb)
  replace HY := Lib.hid (HY.out.below hb)
  replace HP := Lib.hid (HP.out.below hb)
  replace HV4 := Lib.hid (HV4.out.below hb)
  replace HV5 := Lib.hid (HV5.out.below hb)
  replace hB := hB.trans (hb.mono hB.size)
  rw [HEF.out]
  have HV6 := Lib.hid (hv.mono (Nat.zero_le _))
  obtain ⟨p6', m6', q6', p6, m6, q6, rfl, -, -, -, -⟩ := hv
  generalize decide ((0 : Rat).num < 0) = d6 at *
  clear hb
  go_wp2_with fail
  have hbx : Below w6.heap.size w6 (w6.alloc (.cells #[.bool d6, .slice p6' m6' q6', .slice p6 m6 q6] 33)) := ((Below.refl _ _).alloc (Nat.le_refl _) _)
  generalize hWW : (w6.alloc (.cells #[.bool d6, .slice p6' m6' q6', .slice p6 m6 q6] 33)) = w6a at *
  replace cA0 := bc hbx ltA cA0
  replace cA1 := bc hbx ltA cA1
  replace cA2 := bc hbx ltA cA2
  replace ltA := bl hbx ltA
  replace cB0 := bc hbx ltB cB0
  replace cB1 := bc hbx ltB cB1
  replace cB2 := bc hbx ltB cB2
  replace ltB := bl hbx ltB
  replace cC0 := bc hbx ltC cC0
  replace cC1 := bc hbx ltC cC1
  replace cC2 := bc hbx ltC cC2
  replace ltC := bl hbx ltC
  replace cP0 := bc hbx ltP cP0
  replace fP0 := bf hbx ltP fP0
  replace cP1 := bc hbx ltP cP1
  replace fP1 := bf hbx ltP fP1
  replace cP2 := bc hbx ltP cP2
  replace fP2 := bf hbx ltP fP2
  replace ltP := bl hbx ltP
  replace cQ0 := bc hbx ltQ cQ0
  replace fQ0 := bf hbx ltQ fQ0
  replace cQ1 := bc hbx ltQ cQ1
  replace fQ1 := bf hbx ltQ fQ1
  replace cQ2 := bc hbx ltQ cQ2
  replace fQ2 := bf hbx ltQ fQ2
  replace ltQ := bl hbx ltQ
  replace ca0 := bc hbx lta ca0
  replace ca1 := bc hbx lta ca1
  replace ca2 := bc hbx lta ca2
  replace lta := bl hbx lta
  replace cb0 := bc hbx ltb cb0
  replace cb1 := bc hbx ltb cb1
  replace cb2 := bc hbx ltb cb2
  replace ltb := bl hbx ltb
  replace HI := Lib.hid (HI.out.below hbx)
  replace HX := Lib.hid (HX.out.below hbx)
  replace HY := Lib.hid (HY.out.below hbx)
  replace HP := Lib.hid (HP.out.below hbx)
  replace HV4 := Lib.hid (HV4.out.below hbx)
  replace HV5 := Lib.hid (HV5.out.below hbx)
  replace HV6 := Lib.hid (HV6.out.below hbx)
  have cs0 : w6a.cell? ⟨w6.heap.size, 0, none⟩ = some (.bool d6) := by subst hWW; go_simp
  have cs1 : w6a.cell? ⟨w6.heap.size, 1, none⟩ = some (.slice p6' m6' q6') := by subst hWW; go_simp
  have cs2 : w6a.cell? ⟨w6.heap.size, 2, none⟩ = some (.slice p6 m6 q6) := by subst hWW; go_simp
  have lts : w6.heap.size < w6a.heap.size := by subst hWW; simp
  replace hB := hB.trans (hbx.mono hB.size)
  clear hbx hWW
  refine (evalid_b f a len cap _ HI.out).mono ?_
  rintro e w7 ⟨rfl, hb⟩
  replace cA0 := bc hb ltA cA0
  replace cA1 := bc hb ltA cA1
  replace cA2 := bc hb ltA cA2
  replace ltA := bl hb ltA
  replace cB0 := bc hb ltB cB0
  replace cB1 := bc hb ltB cB1
  replace cB2 := bc hb ltB cB2
  replace ltB := bl hb ltB
  replace cC0 := bc hb ltC cC0
  replace cC1 := bc hb ltC cC1
  replace cC2 := bc hb ltC cC2
  replace ltC := bl hb ltC
  replace cP0 := bc hb ltP cP0
  replace fP0 := bf hb ltP fP0
  replace cP1 := bc hb ltP cP1
  replace fP1 := bf hb ltP fP1
  replace cP2 := bc hb ltP cP2
  replace fP2 := bf hb ltP fP2
  replace ltP := bl hb ltP
  replace cQ0 := bc hb ltQ cQ0
  replace fQ0 := bf hb ltQ fQ0
  replace cQ1 := bc hb ltQ cQ1
  replace fQ1 := bf hb ltQ fQ1
  replace cQ2 := bc hb ltQ cQ2
  replace fQ2 := bf hb ltQ fQ2
  replace ltQ := bl hb ltQ
  replace ca0 := bc hb lta ca0
  replace ca1 := bc hb lta ca1
  replace ca2 := bc hb lta ca2
  replace lta := bl hb lta
  replace cb0 := bc hb ltb cb0
  replace cb1 := bc hb ltb cb1
  replace cb2 := bc hb ltb cb2
  replace ltb := bl hb ltb
  replace cs0 := bc hb lts cs0
  replace cs1 := bc hb lts cs1
  replace cs2 := bc hb lts cs2
  replace lts := bl hb lts
  replace HI := Lib.hid (HI.out.below hb)
  replace HX := Lib.hid (HX.out.below hb)
  replace HY := Lib.hid (HY.out.below hb)
  replace HP := Lib.hid (HP.out.below hb)
  replace HV4 := Lib.hid (HV4.out.below hb)
  replace HV5 := Lib.hid (HV5.out.below hb)
  replace HV6 := Lib.hid (HV6.out.below hb)
  replace hB := hB.trans (hb.mono hB.size)
  rw [HEF.out]
  clear hb
  go_wp2_with fail
  refine (qsign_any _ 0 1 _ (HV4.out.raw HZ0.out) (by omega)).mono ?_
  rintro e w8 ⟨rfl, hb⟩
  replace cA0 := bc hb ltA cA0
  replace cA1 := bc hb ltA cA1
  replace cA2 := bc hb ltA cA2
  replace ltA := bl hb ltA
  replace cB0 := bc hb ltB cB0
  replace cB1 := bc hb ltB cB1
  replace cB2 := bc hb ltB cB2
  replace ltB := bl hb ltB
  replace cC0 := bc hb ltC cC0
  replace cC1 := bc hb ltC cC1
  replace cC2 := bc hb ltC cC2
  replace ltC := bl hb ltC
  replace cP0 := bc hb ltP cP0
  replace fP0 := bf hb ltP fP0
  replace cP1 := bc hb ltP cP1
  replace fP1 := bf hb ltP fP1
  replace cP2 := bc hb ltP cP2
  replace fP2 := bf hb ltP fP2
  replace ltP := bl hb ltP
  replace cQ0 := bc hb ltQ cQ0
  replace fQ0 := bf hb ltQ fQ0
  replace cQ1 := bc hb ltQ cQ1
  replace fQ1 := bf hb ltQ fQ1
  replace cQ2 := bc hb ltQ cQ2
  replace fQ2 := bf hb ltQ fQ2
  replace ltQ := bl hb ltQ
  replace ca0 := bc hb lta ca0
  replace ca1 := bc hb lta ca1
  replace ca2 := bc hb lta ca2
  replace lta := bl hb lta
  replace cb0 := bc hb ltb cb0
  replace cb1 := bc hb ltb cb1
  replace cb2 := bc hb ltb cb2
  replace ltb := bl hb ltb
  replace cs0 := bc hb lts cs0
  replace cs1 := bc hb lts cs1
  replace cs2 := bc hb lts cs2
  replace lts := bl hb lts
  replace HI := Lib.hid (HI.out.below hb)
  replace HX := Lib.hid (HX.out.below hb)
  replace HY := Lib.hid (HY.out.below hb)
  replace HP := Lib.hid (HP.out.below hb)
  replace HV4 := Lib.hid (HV4.out.below hb)
  replace HV5 := Lib.hid (HV5.out.below hb)
  replace HV6 := Lib.hid (HV6.out.below hb)
  replace hB := hB.trans (hb.mono hB.size)
  rw [HS0.out]
  clear hb
  go_wp2_with fail
  refine (awake_any _).mono ?_
  rintro e w9 ⟨rfl, hb⟩
  replace cA0 := bc hb ltA cA0
  replace cA1 := bc hb ltA cA1
  replace cA2 := bc hb ltA cA2
  replace ltA := bl hb ltA
  replace cB0 := bc hb ltB cB0
  replace cB1 := bc hb ltB cB1
  replace cB2 := bc hb ltB cB2
  replace ltB := bl hb ltB
  replace cC0 := bc hb ltC cC0
  replace cC1 := bc hb ltC cC1
  replace cC2 := bc hb ltC cC2
  replace ltC := bl hb ltC
  replace cP0 := bc hb ltP cP0
  replace fP0 := bf hb ltP fP0
  replace cP1 := bc hb ltP cP1
  replace fP1 := bf hb ltP fP1
  replace cP2 := bc hb ltP cP2
  replace fP2 := bf hb ltP fP2
  replace ltP := bl hb ltP
  replace cQ0 := bc hb ltQ cQ0
  replace fQ0 := bf hb ltQ fQ0
  replace cQ1 := bc hb ltQ cQ1
  replace fQ1 := bf hb ltQ fQ1
  replace cQ2 := bc hb ltQ cQ2
  replace fQ2 := bf hb ltQ fQ2
  replace ltQ := bl hb ltQ
  replace ca0 := bc hb lta ca0
  replace ca1 := bc hb lta ca1
  replace ca2 := bc hb lta ca2
  replace lta := bl hb lta
  replace cb0 := bc hb ltb cb0
  replace cb1 := bc hb ltb cb1
  replace cb2 := bc hb ltb cb2
  replace ltb := bl hb ltb
  replace cs0 := bc hb lts cs0
  replace cs1 := bc hb lts cs1
  replace cs2 := bc hb lts cs2
  replace lts := bl hb lts
  replace HI := Lib.hid (HI.out.below hb)
  replace HX := Lib.hid (HX.out.below hb)
  replace HY := Lib.hid (HY.out.below hb)
  replace HP := Lib.hid (HP.out.below hb)
  replace HV4 := Lib.hid (HV4.out.below hb)
  replace HV5 := Lib.hid (HV5.out.below hb)
  replace HV6 := Lib.hid (HV6.out.below hb)
  replace hB := hB.trans (hb.mono hB.size)
  clear hb
  go_wp2_with fail
  go_ret
  exact ⟨rfl, hB⟩
set_option maxHeartbeats 8000000 in
theorem shares_ki (f : List Int) (a : Option Addr) (len cap : Nat) (vx vy vp : Value) (x y p : Rat) (L : Nat) (w : World) (hI : Ints w a len cap f) (hx : RatV w vx x L) (hy : RatV w vy y L) (hp : RatV w vp p L) (hL : 1 ≤ L) (hm : (2 * L + 200) * 4 ≤ 140737488355328) (hc : decide (0 < rcmpI x y) = false) (hlh : x ≤ y) (hO : OkF f) (hp0 : 0 ≤ p) (hp1 : p ≤ 1) :
    Calls Try.prog 4 #[.slice a len cap, vx, vy, vp] w fun e w' => e = .returned (.bool true) ∧ Below w.heap.size w w' := by
  have HI := Lib.hid hI
  have HX := Lib.hid hx
  have HY := Lib.hid hy
  have HP := Lib.hid hp
  obtain ⟨negx, ax', lenx', capx', ax, lenx, capx, rfl, -, -⟩ := hx.form
  obtain ⟨negy, ay', leny', capy', ay, leny, capy, rfl, -, -⟩ := hy.form
  obtain ⟨negp, ap', lenp', capp', ap, lenp, capp, rfl, -, -⟩ := hp.form
  clear hI hx hy hp
  have HO := Lib.hid (eqE_OkF.2 hO)
  have HF := Lib.hid hO
  have HSa := Lib.hid (show ¬ rsgI (rankR f x) < 0 from fun h => absurd (sgI_lt.1 h) (by have := (rank_in hO x).1; grind))
  have HCab := Lib.hid (show ¬ 0 < rcmpI (rankR f x) (rankR f y) from fun h => absurd (cmpI_gt0.1 h) (by have := rank_mono hO hlh; grind))
  have HCb := Lib.hid (show ¬ 0 < rcmpI (rankR f y) 1 from fun h => absurd (cmpI_gt0.1 h) (by have := (rank_in hO y).2; grind))
  have HD1 := Lib.hid (show Rat.divInt 1 1 = (1 : Rat) by kernel_rfl)
  have HSp := Lib.hid (show ¬ rsgI p < 0 from fun h => absurd (sgI_lt.1 h) (by grind))
  have HCp := Lib.hid (show ¬ 0 < rcmpI p 1 from fun h => absurd (cmpI_gt0.1 h) (by grind))
  have HBk := Lib.hid (rank_back hO hp0 hp1)
  have HIn := Lib.hid (And.intro hp0 hp1)
  have HSf := Lib.hid (cmpI_self p)
  clear hO hp0 hp1 hlh
  go_enter Try.func4, Try.ntmps4
  go_wp2_with fail
  have hbx : Below w.heap.size w (((w.alloc (.cells #[.bool negx, .slice ax' lenx' capx', .slice ax lenx capx] 33)).alloc (.cells #[.bool negy, .slice ay' leny' capy', .slice ay leny capy] 33)).alloc (.cells #[.bool negp, .slice ap' lenp' capp', .slice ap lenp capp] 33)) := ((((Below.refl _ _).alloc (Nat.le_refl _) _).alloc (by simp) _).alloc (by simp <;> omega) _)
  generalize hWW : (((w.alloc (.cells #[.bool negx, .slice ax' lenx' capx', .slice ax lenx capx] 33)).alloc (.cells #[.bool negy, .slice ay' leny' capy', .slice ay leny capy] 33)).alloc (.cells #[.bool negp, .slice ap' lenp' capp', .slice ap lenp capp] 33)) = w0 at *
  replace HI := Lib.hid (HI.out.below hbx)
  replace HX := Lib.hid (HX.out.below hbx)
  replace HY := Lib.hid (HY.out.below hbx)
  replace HP := Lib.hid (HP.out.below hbx)
  have cA0 : w0.cell? ⟨w.heap.size, 0, none⟩ = some (.bool negx) := by subst hWW; go_simp
  have cA1 : w0.cell? ⟨w.heap.size, 1, none⟩ = some (.slice ax' lenx' capx') := by subst hWW; go_simp
  have cA2 : w0.cell? ⟨w.heap.size, 2, none⟩ = some (.slice ax lenx capx) := by subst hWW; go_simp
  have ltA : w.heap.size < w0.heap.size := by subst hWW; simp <;> omega
  have cB0 : w0.cell? ⟨w.heap.size + 1, 0, none⟩ = some (.bool negy) := by subst hWW; go_simp
  have cB1 : w0.cell? ⟨w.heap.size + 1, 1, none⟩ = some (.slice ay' leny' capy') := by subst hWW; go_simp
  have cB2 : w0.cell? ⟨w.heap.size + 1, 2, none⟩ = some (.slice ay leny capy) := by subst hWW; go_simp
  have ltB : w.heap.size + 1 < w0.heap.size := by subst hWW; simp <;> omega
  have cC0 : w0.cell? ⟨w.heap.size + 1 + 1, 0, none⟩ = some (.bool negp) := by subst hWW; go_simp
  have cC1 : w0.cell? ⟨w.heap.size + 1 + 1, 1, none⟩ = some (.slice ap' lenp' capp') := by subst hWW; go_simp
  have cC2 : w0.cell? ⟨w.heap.size + 1 + 1, 2, none⟩ = some (.slice ap lenp capp) := by subst hWW; go_simp
  have ltC : w.heap.size + 1 + 1 < w0.heap.size := by subst hWW; simp
  have hB := hbx
  clear hbx hWW
  have SCA0 := Lib.hid cA0
  have SCA1 := Lib.hid cA1
  have SCA2 := Lib.hid cA2
  have SLA := Lib.hid ltA
  have SCB0 := Lib.hid cB0
  have SCB1 := Lib.hid cB1
  have SCB2 := Lib.hid cB2
  have SLB := Lib.hid ltB
  have SCC0 := Lib.hid cC0
  have SCC1 := Lib.hid cC1
  have SCC2 := Lib.hid cC2
  have SLC := Lib.hid ltC
  have SHI := Lib.hid HI.out
  have SHX := Lib.hid HX.out
  have SHY := Lib.hid HY.out
  have SHP := Lib.hid HP.out
  have SB := Lib.hid hB
  have eA0 := box_ext (B := w0.heap.size) cA0 ltA
  have eA1 := box_ext (B := w0.heap.size) cA1 ltA
  have eA2 := box_ext (B := w0.heap.size) cA2 ltA
  have eB0 := box_ext (B := w0.heap.size) cB0 ltB
  have eB1 := box_ext (B := w0.heap.size) cB1 ltB
  have eB2 := box_ext (B := w0.heap.size) cB2 ltB
  have eC0 := box_ext (B := w0.heap.size) cC0 ltC
  have eC1 := box_ext (B := w0.heap.size) cC1 ltC
  have eC2 := box_ext (B := w0.heap.size) cC2 ltC
  refine wp_region_float2 2 3 [(0, false), (1, false)] [(4, true), (5, true)] (fun w' => ∃ W : Ext w0.heap.size w0, w' = W.1) _ _ 9 10 (.cells #[.bool false, .slice none 0 0, .slice none 0 0] 33) (.cells #[.bool false, .slice none 0 0, .slice none 0 0] 33) w0.heap.size (by kernel_rfl) rfl rfl rfl rfl rfl rfl (fun a w => by simp [execOp, go_sem, ptr]) (fun a w => by simp [execOp, go_sem, ptr]) (fun w ⟨W, e⟩ => e ▸ W.2.size) (fun w ⟨W, e⟩ => ⟨⟨_, (e ▸ W.2).alloc (e ▸ W.2.size) _⟩, rfl⟩) (fun w ⟨W, e⟩ => ⟨⟨_, (e ▸ W.2).alloc (e ▸ W.2.size) _⟩, rfl⟩) (by decide) (by kernel_rfl) ⟨⟨w0.drew, (Below.refl _ _).drew⟩, rfl⟩ ?_
  repeat (refine wpFl2_calm rfl (fun K hK => ?_); go_simp; refine hK _ ?_; clear hK K)
  clear eA0 eA1 eA2 eB0 eB1 eB2 eC0 eC1 eC2
  have hbx : Below w0.heap.size w0 w0.drew := (Below.refl _ _).drew
  have hM := hbx
  replace cA0 := bc hbx ltA cA0
  replace cA1 := bc hbx ltA cA1
  replace cA2 := bc hbx ltA cA2
  replace ltA := bl hbx ltA
  replace cB0 := bc hbx ltB cB0
  replace cB1 := bc hbx ltB cB1
  replace cB2 := bc hbx ltB cB2
  replace ltB := bl hbx ltB
  replace cC0 := bc hbx ltC cC0
  replace cC1 := bc hbx ltC cC1
  replace cC2 := bc hbx ltC cC2
  replace ltC := bl hbx ltC
  replace HI := Lib.hid (HI.out.below hbx)
  replace HX := Lib.hid (HX.out.below hbx)
  replace HY := Lib.hid (HY.out.below hbx)
  replace HP := Lib.hid (HP.out.below hbx)
  replace hB := hB.trans (hbx.mono hB.size)
  clear hbx
  generalize w0.drew = ww0d at *
  refine wpFl2_nil fun gP gQ wy hC hg hBk hBk2 hge hge2 hgn => ?_
  obtain ⟨⟨wz, hE⟩, hwe⟩ := hC
  change wy = wz at hwe
  subst hwe
  replace cA0 := bc hg ltA cA0
  replace cA1 := bc hg ltA cA1
  replace cA2 := bc hg ltA cA2
  replace ltA := bl hg ltA
  replace cB0 := bc hg ltB cB0
  replace cB1 := bc hg ltB cB1
  replace cB2 := bc hg ltB cB2
  replace ltB := bl hg ltB
  replace cC0 := bc hg ltC cC0
  replace cC1 := bc hg ltC cC1
  replace cC2 := bc hg ltC cC2
  replace ltC := bl hg ltC
  replace HI := Lib.hid (HI.out.below hg)
  replace HX := Lib.hid (HX.out.below hg)
  replace HY := Lib.hid (HY.out.below hg)
  replace HP := Lib.hid (HP.out.below hg)
  replace hB := hB.trans (hg.mono hB.size)
  replace hM := hE
  clear hE hg
  have z0 := blk_cell hBk 0
  have y0 := blk_free hBk 0
  have z1 := blk_cell hBk 1
  have y1 := blk_free hBk 1
  have z2 := blk_cell hBk 2
  have y2 := blk_free hBk 2
  have v0 := blk_cell hBk2 0
  have u0 := blk_free hBk2 0
  have v1 := blk_cell hBk2 1
  have u1 := blk_free hBk2 1
  have v2 := blk_cell hBk2 2
  have u2 := blk_free hBk2 2
  simp at z0 z1 z2 v0 v1 v2
  have hgl := blk_lt hBk
  have hgl2 := blk_lt hBk2
  have hgn2 := Ne.symm hgn
  refine wpSched_eff rfl rfl (fun K hK => ?_)
  go_simp
  refine hK _ _ ⟨⟨_, (((hM.setCell (p := ⟨gP, 0, none⟩) hge _).setCell (p := ⟨gP, 1, none⟩) hge _).setCell (p := ⟨gP, 2, none⟩) hge _)⟩, rfl⟩ ?_
  clear hK K
  refine wpSched_eff rfl rfl (fun K hK => ?_)
  go_simp
  refine hK _ _ ⟨⟨_, ((((((hM.setCell (p := ⟨gP, 0, none⟩) hge _).setCell (p := ⟨gP, 1, none⟩) hge _).setCell (p := ⟨gP, 2, none⟩) hge _).setCell (p := ⟨gQ, 0, none⟩) hge2 _).setCell (p := ⟨gQ, 1, none⟩) hge2 _).setCell (p := ⟨gQ, 2, none⟩) hge2 _)⟩, rfl⟩ ?_
  clear hK K
  refine wpSched_nil ?_
  have hMn := ((((((hM.setCell (p := ⟨gP, 0, none⟩) hge (.bool negx)).setCell (p := ⟨gP, 1, none⟩) hge (.slice ax' lenx' capx')).setCell (p := ⟨gP, 2, none⟩) hge (.slice ax lenx capx)).setCell (p := ⟨gQ, 0, none⟩) hge2 (.bool negy)).setCell (p := ⟨gQ, 1, none⟩) hge2 (.slice ay' leny' capy')).setCell (p := ⟨gQ, 2, none⟩) hge2 (.slice ay leny capy))
  replace cA0 := bc hMn SLA.out SCA0.out
  replace cA1 := bc hMn SLA.out SCA1.out
  replace cA2 := bc hMn SLA.out SCA2.out
  replace ltA := bl hMn SLA.out
  replace cB0 := bc hMn SLB.out SCB0.out
  replace cB1 := bc hMn SLB.out SCB1.out
  replace cB2 := bc hMn SLB.out SCB2.out
  replace ltB := bl hMn SLB.out
  replace cC0 := bc hMn SLC.out SCC0.out
  replace cC1 := bc hMn SLC.out SCC1.out
  replace cC2 := bc hMn SLC.out SCC2.out
  replace ltC := bl hMn SLC.out
  replace HI := Lib.hid (SHI.out.below hMn)
  replace HX := Lib.hid (SHX.out.below hMn)
  replace HY := Lib.hid (SHY.out.below hMn)
  replace HP := Lib.hid (SHP.out.below hMn)
  replace hB := SB.out.trans (hMn.mono SB.out.size)
  have cP0 : ((((((wy.setCell ⟨gP, 0, none⟩ (.bool negx)).setCell ⟨gP, 1, none⟩ (.slice ax' lenx' capx')).setCell ⟨gP, 2, none⟩ (.slice ax lenx capx)).setCell ⟨gQ, 0, none⟩ (.bool negy)).setCell ⟨gQ, 1, none⟩ (.slice ay' leny' capy')).setCell ⟨gQ, 2, none⟩ (.slice ay leny capy)).cell? ⟨gP, 0, none⟩ = some (.bool negx) := by go_simp
  have fP0 : ((((((wy.setCell ⟨gP, 0, none⟩ (.bool negx)).setCell ⟨gP, 1, none⟩ (.slice ax' lenx' capx')).setCell ⟨gP, 2, none⟩ (.slice ax lenx capx)).setCell ⟨gQ, 0, none⟩ (.bool negy)).setCell ⟨gQ, 1, none⟩ (.slice ay' leny' capy')).setCell ⟨gQ, 2, none⟩ (.slice ay leny capy)).frozen? ⟨gP, 0, none⟩ = false := by go_simp
  have cP1 : ((((((wy.setCell ⟨gP, 0, none⟩ (.bool negx)).setCell ⟨gP, 1, none⟩ (.slice ax' lenx' capx')).setCell ⟨gP, 2, none⟩ (.slice ax lenx capx)).setCell ⟨gQ, 0, none⟩ (.bool negy)).setCell ⟨gQ, 1, none⟩ (.slice ay' leny' capy')).setCell ⟨gQ, 2, none⟩ (.slice ay leny capy)).cell? ⟨gP, 1, none⟩ = some (.slice ax' lenx' capx') := by go_simp
  have fP1 : ((((((wy.setCell ⟨gP, 0, none⟩ (.bool negx)).setCell ⟨gP, 1, none⟩ (.slice ax' lenx' capx')).setCell ⟨gP, 2, none⟩ (.slice ax lenx capx)).setCell ⟨gQ, 0, none⟩ (.bool negy)).setCell ⟨gQ, 1, none⟩ (.slice ay' leny' capy')).setCell ⟨gQ, 2, none⟩ (.slice ay leny capy)).frozen? ⟨gP, 1, none⟩ = false := by go_simp
  have cP2 : ((((((wy.setCell ⟨gP, 0, none⟩ (.bool negx)).setCell ⟨gP, 1, none⟩ (.slice ax' lenx' capx')).setCell ⟨gP, 2, none⟩ (.slice ax lenx capx)).setCell ⟨gQ, 0, none⟩ (.bool negy)).setCell ⟨gQ, 1, none⟩ (.slice ay' leny' capy')).setCell ⟨gQ, 2, none⟩ (.slice ay leny capy)).cell? ⟨gP, 2, none⟩ = some (.slice ax lenx capx) := by go_simp
  have fP2 : ((((((wy.setCell ⟨gP, 0, none⟩ (.bool negx)).setCell ⟨gP, 1, none⟩ (.slice ax' lenx' capx')).setCell ⟨gP, 2, none⟩ (.slice ax lenx capx)).setCell ⟨gQ, 0, none⟩ (.bool negy)).setCell ⟨gQ, 1, none⟩ (.slice ay' leny' capy')).setCell ⟨gQ, 2, none⟩ (.slice ay leny capy)).frozen? ⟨gP, 2, none⟩ = false := by go_simp
  have ltP : gP < ((((((wy.setCell ⟨gP, 0, none⟩ (.bool negx)).setCell ⟨gP, 1, none⟩ (.slice ax' lenx' capx')).setCell ⟨gP, 2, none⟩ (.slice ax lenx capx)).setCell ⟨gQ, 0, none⟩ (.bool negy)).setCell ⟨gQ, 1, none⟩ (.slice ay' leny' capy')).setCell ⟨gQ, 2, none⟩ (.slice ay leny capy)).heap.size := by simpa using hgl
  have cQ0 : ((((((wy.setCell ⟨gP, 0, none⟩ (.bool negx)).setCell ⟨gP, 1, none⟩ (.slice ax' lenx' capx')).setCell ⟨gP, 2, none⟩ (.slice ax lenx capx)).setCell ⟨gQ, 0, none⟩ (.bool negy)).setCell ⟨gQ, 1, none⟩ (.slice ay' leny' capy')).setCell ⟨gQ, 2, none⟩ (.slice ay leny capy)).cell? ⟨gQ, 0, none⟩ = some (.bool negy) := by go_simp
  have fQ0 : ((((((wy.setCell ⟨gP, 0, none⟩ (.bool negx)).setCell ⟨gP, 1, none⟩ (.slice ax' lenx' capx')).setCell ⟨gP, 2, none⟩ (.slice ax lenx capx)).setCell ⟨gQ, 0, none⟩ (.bool negy)).setCell ⟨gQ, 1, none⟩ (.slice ay' leny' capy')).setCell ⟨gQ, 2, none⟩ (.slice ay leny capy)).frozen? ⟨gQ, 0, none⟩ = false := by go_simp
  have cQ1 : ((((((wy.setCell ⟨gP, 0, none⟩ (.bool negx)).setCell ⟨gP, 1, none⟩ (.slice ax' lenx' capx')).setCell ⟨gP, 2, none⟩ (.slice ax lenx capx)).setCell ⟨gQ, 0, none⟩ (.bool negy)).setCell ⟨gQ, 1, none⟩ (.slice ay' leny' capy')).setCell ⟨gQ, 2, none⟩ (.slice ay leny capy)).cell? ⟨gQ, 1, none⟩ = some (.slice ay' leny' capy') := by go_simp
  have fQ1 : ((((((wy.setCell ⟨gP, 0, none⟩ (.bool negx)).setCell ⟨gP, 1, none⟩ (.slice ax' lenx' capx')).setCell ⟨gP, 2, none⟩ (.slice ax lenx capx)).setCell ⟨gQ, 0, none⟩ (.bool negy)).setCell ⟨gQ, 1, none⟩ (.slice ay' leny' capy')).setCell ⟨gQ, 2, none⟩ (.slice ay leny capy)).frozen? ⟨gQ, 1, none⟩ = false := by go_simp
  have cQ2 : ((((((wy.setCell ⟨gP, 0, none⟩ (.bool negx)).setCell ⟨gP, 1, none⟩ (.slice ax' lenx' capx')).setCell ⟨gP, 2, none⟩ (.slice ax lenx capx)).setCell ⟨gQ, 0, none⟩ (.bool negy)).setCell ⟨gQ, 1, none⟩ (.slice ay' leny' capy')).setCell ⟨gQ, 2, none⟩ (.slice ay leny capy)).cell? ⟨gQ, 2, none⟩ = some (.slice ay leny capy) := by go_simp
  have fQ2 : ((((((wy.setCell ⟨gP, 0, none⟩ (.bool negx)).setCell ⟨gP, 1, none⟩ (.slice ax' lenx' capx')).setCell ⟨gP, 2, none⟩ (.slice ax lenx capx)).setCell ⟨gQ, 0, none⟩ (.bool negy)).setCell ⟨gQ, 1, none⟩ (.slice ay' leny' capy')).setCell ⟨gQ, 2, none⟩ (.slice ay leny capy)).frozen? ⟨gQ, 2, none⟩ = false := by go_simp
  have ltQ : gQ < ((((((wy.setCell ⟨gP, 0, none⟩ (.bool negx)).setCell ⟨gP, 1, none⟩ (.slice ax' lenx' capx')).setCell ⟨gP, 2, none⟩ (.slice ax lenx capx)).setCell ⟨gQ, 0, none⟩ (.bool negy)).setCell ⟨gQ, 1, none⟩ (.slice ay' leny' capy')).setCell ⟨gQ, 2, none⟩ (.slice ay leny capy)).heap.size := by simpa using hgl2
  have nePA : w.heap.size < gP := Nat.lt_of_lt_of_le SLA.out hge
  have neQA : w.heap.size < gQ := Nat.lt_of_lt_of_le SLA.out hge2
  have nePB : w.heap.size + 1 < gP := Nat.lt_of_lt_of_le SLB.out hge
  have neQB : w.heap.size + 1 < gQ := Nat.lt_of_lt_of_le SLB.out hge2
  have nePC : w.heap.size + 1 + 1 < gP := Nat.lt_of_lt_of_le SLC.out hge
  have neQC : w.heap.size + 1 + 1 < gQ := Nat.lt_of_lt_of_le SLC.out hge2
  have hP := hMn
  clear hMn hM hBk hBk2 hgl hgl2 z0 y0 z1 y1 z2 y2 v0 u0 v1 u1 v2 u2
  go_wp2_with fail
  generalize ((((((wy.setCell ⟨gP, 0, none⟩ (.bool negx)).setCell ⟨gP, 1, none⟩ (.slice ax' lenx' capx')).setCell ⟨gP, 2, none⟩ (.slice ax lenx capx)).setCell ⟨gQ, 0, none⟩ (.bool negy)).setCell ⟨gQ, 1, none⟩ (.slice ay' leny' capy')).setCell ⟨gQ, 2, none⟩ (.slice ay leny capy)) = w1 at *
  refine (qcmp_any _ _ x y L L _ HX.out HY.out hL hL (by omega)).mono ?_
  rintro e w2 ⟨rfl, hb⟩
  replace cA0 := bc hb ltA cA0
  replace cA1 := bc hb ltA cA1
  replace cA2 := bc hb ltA cA2
  replace ltA := bl hb ltA
  replace cB0 := bc hb ltB cB0
  replace cB1 := bc hb ltB cB1
  replace cB2 := bc hb ltB cB2
  replace ltB := bl hb ltB
  replace cC0 := bc hb ltC cC0
  replace cC1 := bc hb ltC cC1
  replace cC2 := bc hb ltC cC2
  replace ltC := bl hb ltC
  replace cP0 := bc hb ltP cP0
  replace fP0 := bf hb ltP fP0
  replace cP1 := bc hb ltP cP1
  replace fP1 := bf hb ltP fP1
  replace cP2 := bc hb ltP cP2
  replace fP2 := bf hb ltP fP2
  replace ltP := bl hb ltP
  replace cQ0 := bc hb ltQ cQ0
  replace fQ0 := bf hb ltQ fQ0
  replace cQ1 := bc hb ltQ cQ1
  replace fQ1 := bf hb ltQ fQ1
  replace cQ2 := bc hb ltQ cQ2
  replace fQ2 := bf hb ltQ fQ2
  replace ltQ := bl hb ltQ
  replace HI := Lib.hid (HI.out.below hb)
  replace HX := Lib.hid (HX.out.below hb)
  replace HY := Lib.hid (HY.out.below hb)
  replace HP := Lib.hid (HP.out.below hb)
  replace hB := hB.trans (hb.mono hB.size)
  replace hP := hP.trans (hb.mono hP.size)
  generalize rcmpI x y = cc at *
  clear hb
  go_wp2_with fail
  clear hP
  refine (erank_any f a len cap _ x (L) _ HI.out HX.out (by omega) (by omega) HF.out).mono ?_
  rintro e w4 ⟨v4, rfl, hv, hsz, hb⟩
  replace cA0 := bc hb ltA cA0
  replace cA1 := bc hb ltA cA1
  replace cA2 := bc hb ltA cA2
  replace ltA := bl hb ltA
  replace cB0 := bc hb ltB cB0
  replace cB1 := bc hb ltB cB1
  replace cB2 := bc hb ltB cB2
  replace ltB := bl hb ltB
  replace cC0 := bc hb ltC cC0
  replace cC1 := bc hb ltC cC1
  replace cC2 := bc hb ltC cC2
  replace ltC := bl hb ltC
  replace cP0 := bc hb ltP cP0
  replace fP0 := bf hb ltP fP0
  replace cP1 := bc hb ltP cP1
  replace fP1 := bf hb ltP fP1
  replace cP2 := bc hb ltP cP2
  replace fP2 := bf hb ltP fP2
  replace ltP := bl hb ltP
  replace cQ0 := bc hb ltQ cQ0
  replace fQ0 := bf hb ltQ fQ0
  replace cQ1 := bc hb ltQ cQ1
  replace fQ1 := bf hb ltQ fQ1
  replace cQ2 := bc hb ltQ cQ2
  replace fQ2 := bf hb ltQ fQ2
  replace ltQ := bl hb ltQ
  replace HI := Lib.hid (HI.out.below hb)
  replace HX := Lib.hid (HX.out.below hb)
  replace HY := Lib.hid (HY.out.below hb)
  replace HP := Lib.hid (HP.out.below hb)
  replace hB := hB.trans (hb.mono hB.size)
  have HZ4 := Lib.hid hsz
  have HV4 := Lib.hid (hv.mono (Nat.zero_le _))
  obtain ⟨p4', m4', q4', p4, m4, q4, rfl, -, -, -, -⟩ := hv
  generalize decide ((rankR f x : Rat).num < 0) = d4 at *
  clear hsz
  clear hb
  go_wp2_with fail
  have hbx : Below w4.heap.size w4 (w4.alloc (.cells #[.bool d4, .slice p4' m4' q4', .slice p4 m4 q4] 33)) := ((Below.refl _ _).alloc (Nat.le_refl _) _)
  generalize hWW : (w4.alloc (.cells #[.bool d4, .slice p4' m4' q4', .slice p4 m4 q4] 33)) = w4a at *
  replace cA0 := bc hbx ltA cA0
  replace cA1 := bc hbx ltA cA1
  replace cA2 := bc hbx ltA cA2
  replace ltA := bl hbx ltA
  replace cB0 := bc hbx ltB cB0
  replace cB1 := bc hbx ltB cB1
  replace cB2 := bc hbx ltB cB2
  replace ltB := bl hbx ltB
  replace cC0 := bc hbx ltC cC0
  replace cC1 := bc hbx ltC cC1
  replace cC2 := bc hbx ltC cC2
  replace ltC := bl hbx ltC
  replace cP0 := bc hbx ltP cP0
  replace fP0 := bf hbx ltP fP0
  replace cP1 := bc hbx ltP cP1
  replace fP1 := bf hbx ltP fP1
  replace cP2 := bc hbx ltP cP2
  replace fP2 := bf hbx ltP fP2
  replace ltP := bl hbx ltP
  replace cQ0 := bc hbx ltQ cQ0
  replace fQ0 := bf hbx ltQ fQ0
  replace cQ1 := bc hbx ltQ cQ1
  replace fQ1 := bf hbx ltQ fQ1
  replace cQ2 := bc hbx ltQ cQ2
  replace fQ2 := bf hbx ltQ fQ2
  replace ltQ := bl hbx ltQ
  replace HI := Lib.hid (HI.out.below hbx)
  replace HX := Lib.hid (HX.out.below hbx)
  replace HY := Lib.hid (HY.out.below hbx)
  replace HP := Lib.hid (HP.out.below hbx)
  replace HV4 := Lib.hid (HV4.out.below hbx)
  have ca0 : w4a.cell? ⟨w4.heap.size, 0, none⟩ = some (.bool d4) := by subst hWW; go_simp
  have ca1 : w4a.cell? ⟨w4.heap.size, 1, none⟩ = some (.slice p4' m4' q4') := by subst hWW; go_simp
  have ca2 : w4a.cell? ⟨w4.heap.size, 2, none⟩ = some (.slice p4 m4 q4) := by subst hWW; go_simp
  have lta : w4.heap.size < w4a.heap.size := by subst hWW; simp
  replace hB := hB.trans (hbx.mono hB.size)
  clear hbx hWW
  refine (erank_any f a len cap _ y (L) _ HI.out HY.out (by omega) (by omega) HF.out).mono ?_
  rintro e w5 ⟨v5, rfl, hv, hsz, hb⟩
  replace cA0 := bc hb ltA cA0
  replace cA1 := bc hb ltA cA1
  replace cA2 := bc hb ltA cA2
  replace ltA := bl hb ltA
  replace cB0 := bc hb ltB cB0
  replace cB1 := bc hb ltB cB1
  replace cB2 := bc hb ltB cB2
  replace ltB := bl hb ltB
  replace cC0 := bc hb ltC cC0
  replace cC1 := bc hb ltC cC1
  replace cC2 := bc hb ltC cC2
  replace ltC := bl hb ltC
  replace cP0 := bc hb ltP cP0
  replace fP0 := bf hb ltP fP0
  replace cP1 := bc hb ltP cP1
  replace fP1 := bf hb ltP fP1
  replace cP2 := bc hb ltP cP2
  replace fP2 := bf hb ltP fP2
  replace ltP := bl hb ltP
  replace cQ0 := bc hb ltQ cQ0
  replace fQ0 := bf hb ltQ fQ0
  replace cQ1 := bc hb ltQ cQ1
  replace fQ1 := bf hb ltQ fQ1
  replace cQ2 := bc hb ltQ cQ2
  replace fQ2 := bf hb ltQ fQ2
  replace ltQ := bl hb ltQ
  replace ca0 := bc hb lta ca0
  replace ca1 := bc hb lta ca1
  replace ca2 := bc hb lta ca2
  replace lta := bl hb lta
  replace HI := Lib.hid (HI.out.below hb)
  replace HX := Lib.hid (HX.out.below hb)
  replace HY := Lib.hid (HY.out.below hb)
  replace HP := Lib.hid (HP.out.below hb)
  replace HV4 := Lib.hid (HV4.out.below hb)
  replace hB := hB.trans (hb.mono hB.size)
  have HZ5 := Lib.hid hsz
  have HV5 := Lib.hid (hv.mono (Nat.zero_le _))
  obtain ⟨p5', m5', q5', p5, m5, q5, rfl, -, -, -, -⟩ := hv
  generalize decide ((rankR f y : Rat).num < 0) = d5 at *
  clear hsz
  clear hb
  go_wp2_with fail
  have hbx : Below w5.heap.size w5 (w5.alloc (.cells #[.bool d5, .slice p5' m5' q5', .slice p5 m5 q5] 33)) := ((Below.refl _ _).alloc (Nat.le_refl _) _)
  generalize hWW : (w5.alloc (.cells #[.bool d5, .slice p5' m5' q5', .slice p5 m5 q5] 33)) = w5a at *
  replace cA0 := bc hbx ltA cA0
  replace cA1 := bc hbx ltA cA1
  replace cA2 := bc hbx ltA cA2
  replace ltA := bl hbx ltA
  replace cB0 := bc hbx ltB cB0
  replace cB1 := bc hbx ltB cB1
  replace cB2 := bc hbx ltB cB2
  replace ltB := bl hbx ltB
  replace cC0 := bc hbx ltC cC0
  replace cC1 := bc hbx ltC cC1
  replace cC2 := bc hbx ltC cC2
  replace ltC := bl hbx ltC
  replace cP0 := bc hbx ltP cP0
  replace fP0 := bf hbx ltP fP0
  replace cP1 := bc hbx ltP cP1
  replace fP1 := bf hbx ltP fP1
  replace cP2 := bc hbx ltP cP2
  replace fP2 := bf hbx ltP fP2
  replace ltP := bl hbx ltP
  replace cQ0 := bc hbx ltQ cQ0
  replace fQ0 := bf hbx ltQ fQ0
  replace cQ1 := bc hbx ltQ cQ1
  replace fQ1 := bf hbx ltQ fQ1
  replace cQ2 := bc hbx ltQ cQ2
  replace fQ2 := bf hbx ltQ fQ2
  replace ltQ := bl hbx ltQ
  replace ca0 := bc hbx lta ca0
  replace ca1 := bc hbx lta ca1
  replace ca2 := bc hbx lta ca2
  replace lta := bl hbx lta
  replace HI := Lib.hid (HI.out.below hbx)
  replace HX := Lib.hid (HX.out.below hbx)
  replace HY := Lib.hid (HY.out.below hbx)
  replace HP := Lib.hid (HP.out.below hbx)
  replace HV4 := Lib.hid (HV4.out.below hbx)
  replace HV5 := Lib.hid (HV5.out.below hbx)
  have cb0 : w5a.cell? ⟨w5.heap.size, 0, none⟩ = some (.bool d5) := by subst hWW; go_simp
  have cb1 : w5a.cell? ⟨w5.heap.size, 1, none⟩ = some (.slice p5' m5' q5') := by subst hWW; go_simp
  have cb2 : w5a.cell? ⟨w5.heap.size, 2, none⟩ = some (.slice p5 m5 q5) := by subst hWW; go_simp
  have ltb : w5.heap.size < w5a.heap.size := by subst hWW; simp
  replace hB := hB.trans (hbx.mono hB.size)
  clear hbx hWW
  refine (einv_any f a len cap _ p L _ HI.out HP.out hL (by omega) HF.out HIn.out.1 HIn.out.2).mono ?_
  rintro e w6 ⟨v6, rfl, hv, hsz, hb⟩
  replace cA0 := bc hb ltA cA0
  replace cA1 := bc hb ltA cA1
  replace cA2 := bc hb ltA cA2
  replace ltA := bl hb ltA
  replace cB0 := bc hb ltB cB0
  replace cB1 := bc hb ltB cB1
  replace cB2 := bc hb ltB cB2
  replace ltB := bl hb ltB
  replace cC0 := bc hb ltC cC0
  replace cC1 := bc hb ltC cC1
  replace cC2 := bc hb ltC cC2
  replace ltC := bl hb ltC
  replace cP0 := bc hb ltP cP0
  replace fP0 := bf hb ltP fP0
  replace cP1 := bc hb ltP cP1
  replace fP1 := bf hb ltP fP1
  replace cP2 := bc hb ltP cP2
  replace fP2 := bf hb ltP fP2
  replace ltP := bl hb ltP
  replace cQ0 := bc hb ltQ cQ0
  replace fQ0 := bf hb ltQ fQ0
  replace cQ1 := bc hb ltQ cQ1
  replace fQ1 := bf hb ltQ fQ1
  replace cQ2 := bc hb ltQ cQ2
  replace fQ2 := bf hb ltQ fQ2
  replace ltQ := bl hb ltQ
  replace ca0 := bc hb lta ca0
  replace ca1 := bc hb lta ca1
  replace ca2 := bc hb lta ca2
  replace lta := bl hb lta
  replace cb0 := bc hb ltb cb0
  replace cb1 := bc hb ltb cb1
  replace cb2 := bc hb ltb cb2
  replace ltb := bl hb ltb
  replace HI := Lib.hid (HI.out.below hb)
  replace HX := Lib.hid (HX.out.below hb)
  replace HY := Lib.hid (HY.out.below hb)
  replace HP := Lib.hid (HP.out.below hb)
  replace HV4 := Lib.hid (HV4.out.below hb)
  replace HV5 := Lib.hid (HV5.out.below hb)
  replace hB := hB.trans (hb.mono hB.size)
  have HZ6 := Lib.hid hsz
  have HV6 := Lib.hid (hv.mono (Nat.zero_le _))
  obtain ⟨p6', m6', q6', p6, m6, q6, rfl, -, -, -, -⟩ := hv
  generalize decide ((invR f (p * (f.sum : Rat)) : Rat).num < 0) = d6 at *
  clear hsz
  clear hb
  go_wp2_with fail
  have hbx : Below w6.heap.size w6 (w6.alloc (.cells #[.bool d6, .slice p6' m6' q6', .slice p6 m6 q6] 33)) := ((Below.refl _ _).alloc (Nat.le_refl _) _)
  generalize hWW : (w6.alloc (.cells #[.bool d6, .slice p6' m6' q6', .slice p6 m6 q6] 33)) = w6a at *
  replace cA0 := bc hbx ltA cA0
  replace cA1 := bc hbx ltA cA1
  replace cA2 := bc hbx ltA cA2
  replace ltA := bl hbx ltA
  replace cB0 := bc hbx ltB cB0
  replace cB1 := bc hbx ltB cB1
  replace cB2 := bc hbx ltB cB2
  replace ltB := bl hbx ltB
  replace cC0 := bc hbx ltC cC0
  replace cC1 := bc hbx ltC cC1
  replace cC2 := bc hbx ltC cC2
  replace ltC := bl hbx ltC
  replace cP0 := bc hbx ltP cP0
  replace fP0 := bf hbx ltP fP0
  replace cP1 := bc hbx ltP cP1
  replace fP1 := bf hbx ltP fP1
  replace cP2 := bc hbx ltP cP2
  replace fP2 := bf hbx ltP fP2
  replace ltP := bl hbx ltP
  replace cQ0 := bc hbx ltQ cQ0
  replace fQ0 := bf hbx ltQ fQ0
  replace cQ1 := bc hbx ltQ cQ1
  replace fQ1 := bf hbx ltQ fQ1
  replace cQ2 := bc hbx ltQ cQ2
  replace fQ2 := bf hbx ltQ fQ2
  replace ltQ := bl hbx ltQ
  replace ca0 := bc hbx lta ca0
  replace ca1 := bc hbx lta ca1
  replace ca2 := bc hbx lta ca2
  replace lta := bl hbx lta
  replace cb0 := bc hbx ltb cb0
  replace cb1 := bc hbx ltb cb1
  replace cb2 := bc hbx ltb cb2
  replace ltb := bl hbx ltb
  replace HI := Lib.hid (HI.out.below hbx)
  replace HX := Lib.hid (HX.out.below hbx)
  replace HY := Lib.hid (HY.out.below hbx)
  replace HP := Lib.hid (HP.out.below hbx)
  replace HV4 := Lib.hid (HV4.out.below hbx)
  replace HV5 := Lib.hid (HV5.out.below hbx)
  replace HV6 := Lib.hid (HV6.out.below hbx)
  have cs0 : w6a.cell? ⟨w6.heap.size, 0, none⟩ = some (.bool d6) := by subst hWW; go_simp
  have cs1 : w6a.cell? ⟨w6.heap.size, 1, none⟩ = some (.slice p6' m6' q6') := by subst hWW; go_simp
  have cs2 : w6a.cell? ⟨w6.heap.size, 2, none⟩ = some (.slice p6 m6 q6) := by subst hWW; go_simp
  have lts : w6.heap.size < w6a.heap.size := by subst hWW; simp
  replace hB := hB.trans (hbx.mono hB.size)
  clear hbx hWW
  refine (evalid_b f a len cap _ HI.out).mono ?_
  rintro e w7 ⟨rfl, hb⟩
  replace cA0 := bc hb ltA cA0
  replace cA1 := bc hb ltA cA1
  replace cA2 := bc hb ltA cA2
  replace ltA := bl hb ltA
  replace cB0 := bc hb ltB cB0
  replace cB1 := bc hb ltB cB1
  replace cB2 := bc hb ltB cB2
  replace ltB := bl hb ltB
  replace cC0 := bc hb ltC cC0
  replace cC1 := bc hb ltC cC1
  replace cC2 := bc hb ltC cC2
  replace ltC := bl hb ltC
  replace cP0 := bc hb ltP cP0
  replace fP0 := bf hb ltP fP0
  replace cP1 := bc hb ltP cP1
  replace fP1 := bf hb ltP fP1
  replace cP2 := bc hb ltP cP2
  replace fP2 := bf hb ltP fP2
  replace ltP := bl hb ltP
  replace cQ0 := bc hb ltQ cQ0
  replace fQ0 := bf hb ltQ fQ0
  replace cQ1 := bc hb ltQ cQ1
  replace fQ1 := bf hb ltQ fQ1
  replace cQ2 := bc hb ltQ cQ2
  replace fQ2 := bf hb ltQ fQ2
  replace ltQ := bl hb ltQ
  replace ca0 := bc hb lta ca0
  replace ca1 := bc hb lta ca1
  replace ca2 := bc hb lta ca2
  replace lta := bl hb lta
  replace cb0 := bc hb ltb cb0
  replace cb1 := bc hb ltb cb1
  replace cb2 := bc hb ltb cb2
  replace ltb := bl hb ltb
  replace cs0 := bc hb lts cs0
  replace cs1 := bc hb lts cs1
  replace cs2 := bc hb lts cs2
  replace lts := bl hb lts
  replace HI := Lib.hid (HI.out.below hb)
  replace HX := Lib.hid (HX.out.below hb)
  replace HY := Lib.hid (HY.out.below hb)
  replace HP := Lib.hid (HP.out.below hb)
  replace HV4 := Lib.hid (HV4.out.below hb)
  replace HV5 := Lib.hid (HV5.out.below hb)
  replace HV6 := Lib.hid (HV6.out.below hb)
  replace hB := hB.trans (hb.mono hB.size)
  rw [HO.out]
  clear hb
  go_wp2_with fail
  have eA0 := box_ext (B := w7.heap.size) cA0 ltA
  have eA1 := box_ext (B := w7.heap.size) cA1 ltA
  have eA2 := box_ext (B := w7.heap.size) cA2 ltA
  have eB0 := box_ext (B := w7.heap.size) cB0 ltB
  have eB1 := box_ext (B := w7.heap.size) cB1 ltB
  have eB2 := box_ext (B := w7.heap.size) cB2 ltB
  have eC0 := box_ext (B := w7.heap.size) cC0 ltC
  have eC1 := box_ext (B := w7.heap.size) cC1 ltC
  have eC2 := box_ext (B := w7.heap.size) cC2 ltC
  have eP0 := box_ext (B := w7.heap.size) cP0 ltP
  have eP1 := box_ext (B := w7.heap.size) cP1 ltP
  have eP2 := box_ext (B := w7.heap.size) cP2 ltP
  have eQ0 := box_ext (B := w7.heap.size) cQ0 ltQ
  have eQ1 := box_ext (B := w7.heap.size) cQ1 ltQ
  have eQ2 := box_ext (B := w7.heap.size) cQ2 ltQ
  have ea0 := box_ext (B := w7.heap.size) ca0 lta
  have ea1 := box_ext (B := w7.heap.size) ca1 lta
  have ea2 := box_ext (B := w7.heap.size) ca2 lta
  have eb0 := box_ext (B := w7.heap.size) cb0 ltb
  have eb1 := box_ext (B := w7.heap.size) cb1 ltb
  have eb2 := box_ext (B := w7.heap.size) cb2 ltb
  have es0 := box_ext (B := w7.heap.size) cs0 lts
  have es1 := box_ext (B := w7.heap.size) cs1 lts
  have es2 := box_ext (B := w7.heap.size) cs2 lts
  refine wp_region_sched [(0, false), (1, true), (2, false), (3, false), (4, false), (5, false), (6, true), (7, false), (8, false), (9, false), (10, false), (11, true), (12, true), (13, false), (14, false)] (fun w' => ∃ W : Ext w7.heap.size w7, w' = W.1) (by kernel_rfl) (by kernel_rfl) ⟨⟨w7.drew, (Below.refl _ _).drew⟩, rfl⟩ ?_
  repeat (refine wpSched_calm rfl (fun K hK => ?_); go_simp; refine hK _ ?_; clear hK K)
  have hbx : Below w7.heap.size w7 w7.drew := (Below.refl _ _).drew
  have hM := hbx
  replace cA0 := bc hbx ltA cA0
  replace cA1 := bc hbx ltA cA1
  replace cA2 := bc hbx ltA cA2
  replace ltA := bl hbx ltA
  replace cB0 := bc hbx ltB cB0
  replace cB1 := bc hbx ltB cB1
  replace cB2 := bc hbx ltB cB2
  replace ltB := bl hbx ltB
  replace cC0 := bc hbx ltC cC0
  replace cC1 := bc hbx ltC cC1
  replace cC2 := bc hbx ltC cC2
  replace ltC := bl hbx ltC
  replace cP0 := bc hbx ltP cP0
  replace fP0 := bf hbx ltP fP0
  replace cP1 := bc hbx ltP cP1
  replace fP1 := bf hbx ltP fP1
  replace cP2 := bc hbx ltP cP2
  replace fP2 := bf hbx ltP fP2
  replace ltP := bl hbx ltP
  replace cQ0 := bc hbx ltQ cQ0
  replace fQ0 := bf hbx ltQ fQ0
  replace cQ1 := bc hbx ltQ cQ1
  replace fQ1 := bf hbx ltQ fQ1
  replace cQ2 := bc hbx ltQ cQ2
  replace fQ2 := bf hbx ltQ fQ2
  replace ltQ := bl hbx ltQ
  replace ca0 := bc hbx lta ca0
  replace ca1 := bc hbx lta ca1
  replace ca2 := bc hbx lta ca2
  replace lta := bl hbx lta
  replace cb0 := bc hbx ltb cb0
  replace cb1 := bc hbx ltb cb1
  replace cb2 := bc hbx ltb cb2
  replace ltb := bl hbx ltb
  replace cs0 := bc hbx lts cs0
  replace cs1 := bc hbx lts cs1
  replace cs2 := bc hbx lts cs2
  replace lts := bl hbx lts
  replace HI := Lib.hid (HI.out.below hbx)
  replace HX := Lib.hid (HX.out.below hbx)
  replace HY := Lib.hid (HY.out.below hbx)
  replace HP := Lib.hid (HP.out.below hbx)
  replace HV4 := Lib.hid (HV4.out.below hbx)
  replace HV5 := Lib.hid (HV5.out.below hbx)
  replace HV6 := Lib.hid (HV6.out.below hbx)
  replace hB := hB.trans (hbx.mono hB.size)
  clear hbx
  generalize w7.drew = ww7d at *
  refine wpSched_eff rfl rfl (fun K hK => ?_)
  go_simp
  refine (qsign_any _ (rankR f x) (L + 13) _ (HV4.out.raw HZ4.out) (by omega)).mono ?_
  rintro e w8 ⟨rfl, hb⟩
  replace cA0 := bc hb ltA cA0
  replace cA1 := bc hb ltA cA1
  replace cA2 := bc hb ltA cA2
  replace ltA := bl hb ltA
  replace cB0 := bc hb ltB cB0
  replace cB1 := bc hb ltB cB1
  replace cB2 := bc hb ltB cB2
  replace ltB := bl hb ltB
  replace cC0 := bc hb ltC cC0
  replace cC1 := bc hb ltC cC1
  replace cC2 := bc hb ltC cC2
  replace ltC := bl hb ltC
  replace cP0 := bc hb ltP cP0
  replace fP0 := bf hb ltP fP0
  replace cP1 := bc hb ltP cP1
  replace fP1 := bf hb ltP fP1
  replace cP2 := bc hb ltP cP2
  replace fP2 := bf hb ltP fP2
  replace ltP := bl hb ltP
  replace cQ0 := bc hb ltQ cQ0
  replace fQ0 := bf hb ltQ fQ0
  replace cQ1 := bc hb ltQ cQ1
  replace fQ1 := bf hb ltQ fQ1
  replace cQ2 := bc hb ltQ cQ2
  replace fQ2 := bf hb ltQ fQ2
  replace ltQ := bl hb ltQ
  replace ca0 := bc hb lta ca0
  replace ca1 := bc hb lta ca1
  replace ca2 := bc hb lta ca2
  replace lta := bl hb lta
  replace cb0 := bc hb ltb cb0
  replace cb1 := bc hb ltb cb1
  replace cb2 := bc hb ltb cb2
  replace ltb := bl hb ltb
  replace cs0 := bc hb lts cs0
  replace cs1 := bc hb lts cs1
  replace cs2 := bc hb lts cs2
  replace lts := bl hb lts
  replace HI := Lib.hid (HI.out.below hb)
  replace HX := Lib.hid (HX.out.below hb)
  replace HY := Lib.hid (HY.out.below hb)
  replace HP := Lib.hid (HP.out.below hb)
  replace HV4 := Lib.hid (HV4.out.below hb)
  replace HV5 := Lib.hid (HV5.out.below hb)
  replace HV6 := Lib.hid (HV6.out.below hb)
  replace hM := hM.trans (hb.mono hM.size)
  replace hB := hB.trans (hb.mono hB.size)
  have hq := HSa.out
  generalize rsgI (rankR f x) = sa at *
  have dsa : decide (sa < 0) = false := by simpa using hq
  clear hq HSa
  clear hb
  refine hK _ _ ⟨⟨w8, hM⟩, rfl⟩ ?_
  clear hK K
  repeat (refine wpSched_calm rfl (fun K hK => ?_); go_simp; refine hK _ ?_; clear hK K)
  refine wpSched_geff rfl ?_ (fun K hK => ?_)
  · go_simp
  go_simp
  refine (qcmp_any _ _ (rankR f x) (rankR f y) (L + 13) (L + 13) _ (HV4.out.raw HZ4.out) (HV5.out.raw HZ5.out) (by omega) (by omega) (by omega)).mono ?_
  rintro e w9 ⟨rfl, hb⟩
  replace cA0 := bc hb ltA cA0
  replace cA1 := bc hb ltA cA1
  replace cA2 := bc hb ltA cA2
  replace ltA := bl hb ltA
  replace cB0 := bc hb ltB cB0
  replace cB1 := bc hb ltB cB1
  replace cB2 := bc hb ltB cB2
  replace ltB := bl hb ltB
  replace cC0 := bc hb ltC cC0
  replace cC1 := bc hb ltC cC1
  replace cC2 := bc hb ltC cC2
  replace ltC := bl hb ltC
  replace cP0 := bc hb ltP cP0
  replace fP0 := bf hb ltP fP0
  replace cP1 := bc hb ltP cP1
  replace fP1 := bf hb ltP fP1
  replace cP2 := bc hb ltP cP2
  replace fP2 := bf hb ltP fP2
  replace ltP := bl hb ltP
  replace cQ0 := bc hb ltQ cQ0
  replace fQ0 := bf hb ltQ fQ0
  replace cQ1 := bc hb ltQ cQ1
  replace fQ1 := bf hb ltQ fQ1
  replace cQ2 := bc hb ltQ cQ2
  replace fQ2 := bf hb ltQ fQ2
  replace ltQ := bl hb ltQ
  replace ca0 := bc hb lta ca0
  replace ca1 := bc hb lta ca1
  replace ca2 := bc hb lta ca2
  replace lta := bl hb lta
  replace cb0 := bc hb ltb cb0
  replace cb1 := bc hb ltb cb1
  replace cb2 := bc hb ltb cb2
  replace ltb := bl hb ltb
  replace cs0 := bc hb lts cs0
  replace cs1 := bc hb lts cs1
  replace cs2 := bc hb lts cs2
  replace lts := bl hb lts
  replace HI := Lib.hid (HI.out.below hb)
  replace HX := Lib.hid (HX.out.below hb)
  replace HY := Lib.hid (HY.out.below hb)
  replace HP := Lib.hid (HP.out.below hb)
  replace HV4 := Lib.hid (HV4.out.below hb)
  replace HV5 := Lib.hid (HV5.out.below hb)
  replace HV6 := Lib.hid (HV6.out.below hb)
  replace hM := hM.trans (hb.mono hM.size)
  replace hB := hB.trans (hb.mono hB.size)
  have hq := HCab.out
  generalize rcmpI (rankR f x) (rankR f y) = cab at *
  have dcab : decide (0 < cab) = false := by simpa using hq
  clear hq HCab
  clear hb
  refine hK _ _ ⟨⟨w9, hM⟩, rfl⟩ ?_
  clear hK K
  repeat (refine wpSched_calm rfl (fun K hK => ?_); go_simp; refine hK _ ?_; clear hK K)
  refine wpSched_geff rfl ?_ (fun K hK => ?_)
  · go_simp
  go_simp
  refine (part_any 1 1 _ (by omega) (by omega) (by omega) (by omega) (by omega)).mono ?_
  rintro e wa ⟨va, rfl, hv, hsz, hb⟩
  replace cA0 := bc hb ltA cA0
  replace cA1 := bc hb ltA cA1
  replace cA2 := bc hb ltA cA2
  replace ltA := bl hb ltA
  replace cB0 := bc hb ltB cB0
  replace cB1 := bc hb ltB cB1
  replace cB2 := bc hb ltB cB2
  replace ltB := bl hb ltB
  replace cC0 := bc hb ltC cC0
  replace cC1 := bc hb ltC cC1
  replace cC2 := bc hb ltC cC2
  replace ltC := bl hb ltC
  replace cP0 := bc hb ltP cP0
  replace fP0 := bf hb ltP fP0
  replace cP1 := bc hb ltP cP1
  replace fP1 := bf hb ltP fP1
  replace cP2 := bc hb ltP cP2
  replace fP2 := bf hb ltP fP2
  replace ltP := bl hb ltP
  replace cQ0 := bc hb ltQ cQ0
  replace fQ0 := bf hb ltQ fQ0
  replace cQ1 := bc hb ltQ cQ1
  replace fQ1 := bf hb ltQ fQ1
  replace cQ2 := bc hb ltQ cQ2
  replace fQ2 := bf hb ltQ fQ2
  replace ltQ := bl hb ltQ
  replace ca0 := bc hb lta ca0
  replace ca1 := bc hb lta ca1
  replace ca2 := bc hb lta ca2
  replace lta := bl hb lta
  replace cb0 := bc hb ltb cb0
  replace cb1 := bc hb ltb cb1
  replace cb2 := bc hb ltb cb2
  replace ltb := bl hb ltb
  replace cs0 := bc hb lts cs0
  replace cs1 := bc hb lts cs1
  replace cs2 := bc hb lts cs2
  replace lts := bl hb lts
  replace HI := Lib.hid (HI.out.below hb)
  replace HX := Lib.hid (HX.out.below hb)
  replace HY := Lib.hid (HY.out.below hb)
  replace HP := Lib.hid (HP.out.below hb)
  replace HV4 := Lib.hid (HV4.out.below hb)
  replace HV5 := Lib.hid (HV5.out.below hb)
  replace HV6 := Lib.hid (HV6.out.below hb)
  replace hM := hM.trans (hb.mono hM.size)
  replace hB := hB.trans (hb.mono hB.size)
  rw [HD1.out] at hv hsz
  have HVa := Lib.hid (hv.raw hsz)
  clear hv hsz
  clear hb
  refine hK _ _ ⟨⟨wa, hM⟩, rfl⟩ ?_
  clear hK K
  refine wpSched_geff rfl ?_ (fun K hK => ?_)
  · go_simp
  go_simp
  refine (qcmp_any _ _ (rankR f y) 1 (L + 13) 2 _ (HV5.out.raw HZ5.out) HVa.out (by omega) (by omega) (by omega)).mono ?_
  rintro e wb ⟨rfl, hb⟩
  replace cA0 := bc hb ltA cA0
  replace cA1 := bc hb ltA cA1
  replace cA2 := bc hb ltA cA2
  replace ltA := bl hb ltA
  replace cB0 := bc hb ltB cB0
  replace cB1 := bc hb ltB cB1
  replace cB2 := bc hb ltB cB2
  replace ltB := bl hb ltB
  replace cC0 := bc hb ltC cC0
  replace cC1 := bc hb ltC cC1
  replace cC2 := bc hb ltC cC2
  replace ltC := bl hb ltC
  replace cP0 := bc hb ltP cP0
  replace fP0 := bf hb ltP fP0
  replace cP1 := bc hb ltP cP1
  replace fP1 := bf hb ltP fP1
  replace cP2 := bc hb ltP cP2
  replace fP2 := bf hb ltP fP2
  replace ltP := bl hb ltP
  replace cQ0 := bc hb ltQ cQ0
  replace fQ0 := bf hb ltQ fQ0
  replace cQ1 := bc hb ltQ cQ1
  replace fQ1 := bf hb ltQ fQ1
  replace cQ2 := bc hb ltQ cQ2
  replace fQ2 := bf hb ltQ fQ2
  replace ltQ := bl hb ltQ
  replace ca0 := bc hb lta ca0
  replace ca1 := bc hb lta ca1
  replace ca2 := bc hb lta ca2
  replace lta := bl hb lta
  replace cb0 := bc hb ltb cb0
  replace cb1 := bc hb ltb cb1
  replace cb2 := bc hb ltb cb2
  replace ltb := bl hb ltb
  replace cs0 := bc hb lts cs0
  replace cs1 := bc hb lts cs1
  replace cs2 := bc hb lts cs2
  replace lts := bl hb lts
  replace HI := Lib.hid (HI.out.below hb)
  replace HX := Lib.hid (HX.out.below hb)
  replace HY := Lib.hid (HY.out.below hb)
  replace HP := Lib.hid (HP.out.below hb)
  replace HV4 := Lib.hid (HV4.out.below hb)
  replace HV5 := Lib.hid (HV5.out.below hb)
  replace HV6 := Lib.hid (HV6.out.below hb)
  replace HVa := Lib.hid (HVa.out.below hb)
  replace hM := hM.trans (hb.mono hM.size)
  replace hB := hB.trans (hb.mono hB.size)
  have hq := HCb.out
  generalize rcmpI (rankR f y) 1 = cb at *
  have dcb : decide (0 < cb) = false := by simpa using hq
  clear hq HCb
  clear hb
  refine hK _ _ ⟨⟨wb, hM⟩, rfl⟩ ?_
  clear hK K
  clear HVa
  repeat (refine wpSched_calm rfl (fun K hK => ?_); go_simp; refine hK _ ?_; clear hK K)
  refine wpSched_nil ?_
  clear eA0 eA1 eA2 eB0 eB1 eB2 eC0 eC1 eC2 eP0 eP1 eP2 eQ0 eQ1 eQ2 ea0 ea1 ea2 eb0 eb1 eb2 es0 es1 es2
  go_wp2_with fail
  have eA0 := box_ext (B := wb.heap.size) cA0 ltA
  have eA1 := box_ext (B := wb.heap.size) cA1 ltA
  have eA2 := box_ext (B := wb.heap.size) cA2 ltA
  have eB0 := box_ext (B := wb.heap.size) cB0 ltB
  have eB1 := box_ext (B := wb.heap.size) cB1 ltB
  have eB2 := box_ext (B := wb.heap.size) cB2 ltB
  have eC0 := box_ext (B := wb.heap.size) cC0 ltC
  have eC1 := box_ext (B := wb.heap.size) cC1 ltC
  have eC2 := box_ext (B := wb.heap.size) cC2 ltC
  have eP0 := box_ext (B := wb.heap.size) cP0 ltP
  have eP1 := box_ext (B := wb.heap.size) cP1 ltP
  have eP2 := box_ext (B := wb.heap.size) cP2 ltP
  have eQ0 := box_ext (B := wb.heap.size) cQ0 ltQ
  have eQ1 := box_ext (B := wb.heap.size) cQ1 ltQ
  have eQ2 := box_ext (B := wb.heap.size) cQ2 ltQ
  have ea0 := box_ext (B := wb.heap.size) ca0 lta
  have ea1 := box_ext (B := wb.heap.size) ca1 lta
  have ea2 := box_ext (B := wb.heap.size) ca2 lta
  have eb0 := box_ext (B := wb.heap.size) cb0 ltb
  have eb1 := box_ext (B := wb.heap.size) cb1 ltb
  have eb2 := box_ext (B := wb.heap.size) cb2 ltb
  have es0 := box_ext (B := wb.heap.size) cs0 lts
  have es1 := box_ext (B := wb.heap.size) cs1 lts
  have es2 := box_ext (B := wb.heap.size) cs2 lts
  refine wp_region_sched [(0, false), (1, true), (2, false), (3, false), (4, false), (5, true), (6, true), (7, false), (8, false)] (fun w' => ∃ W : Ext wb.heap.size wb, w' = W.1) (by kernel_rfl) (by kernel_rfl) ⟨⟨wb.drew, (Below.refl _ _).drew⟩, rfl⟩ ?_
  repeat (refine wpSched_calm rfl (fun K hK => ?_); go_simp; refine hK _ ?_; clear hK K)
  have hbx : Below wb.heap.size wb wb.drew := (Below.refl _ _).drew
  have hM := hbx
  replace cA0 := bc hbx ltA cA0
  replace cA1 := bc hbx ltA cA1
  replace cA2 := bc hbx ltA cA2
  replace ltA := bl hbx ltA
  replace cB0 := bc hbx ltB cB0
  replace cB1 := bc hbx ltB cB1
  replace cB2 := bc hbx ltB cB2
  replace ltB := bl hbx ltB
  replace cC0 := bc hbx ltC cC0
  replace cC1 := bc hbx ltC cC1
  replace cC2 := bc hbx ltC cC2
  replace ltC := bl hbx ltC
  replace cP0 := bc hbx ltP cP0
  replace fP0 := bf hbx ltP fP0
  replace cP1 := bc hbx ltP cP1
  replace fP1 := bf hbx ltP fP1
  replace cP2 := bc hbx ltP cP2
  replace fP2 := bf hbx ltP fP2
  replace ltP := bl hbx ltP
  replace cQ0 := bc hbx ltQ cQ0
  replace fQ0 := bf hbx ltQ fQ0
  replace cQ1 := bc hbx ltQ cQ1
  replace fQ1 := bf hbx ltQ fQ1
  replace cQ2 := bc hbx ltQ cQ2
  replace fQ2 := bf hbx ltQ fQ2
  replace ltQ := bl hbx ltQ
  replace ca0 := bc hbx lta ca0
  replace ca1 := bc hbx lta ca1
  replace ca2 := bc hbx lta ca2
  replace lta := bl hbx lta
  replace cb0 := bc hbx ltb cb0
  replace cb1 := bc hbx ltb cb1
  replace cb2 := bc hbx ltb cb2
  replace ltb := bl hbx ltb
  replace cs0 := bc hbx lts cs0
  replace cs1 := bc hbx lts cs1
  replace cs2 := bc hbx lts cs2
  replace lts := bl hbx lts
  replace HI := Lib.hid (HI.out.below hbx)
  replace HX := Lib.hid (HX.out.below hbx)
  replace HY := Lib.hid (HY.out.below hbx)
  replace HP := Lib.hid (HP.out.below hbx)
  replace HV4 := Lib.hid (HV4.out.below hbx)
  replace HV5 := Lib.hid (HV5.out.below hbx)
  replace HV6 := Lib.hid (HV6.out.below hbx)
  replace hB := hB.trans (hbx.mono hB.size)
  clear hbx
  generalize wb.drew = wwbd at *
  refine wpSched_eff rfl rfl (fun K hK => ?_)
  go_simp
  refine (qsign_any _ p L _ HP.out hL).mono ?_
  rintro e wc ⟨rfl, hb⟩
  replace cA0 := bc hb ltA cA0
  replace cA1 := bc hb ltA cA1
  replace cA2 := bc hb ltA cA2
  replace ltA := bl hb ltA
  replace cB0 := bc hb ltB cB0
  replace cB1 := bc hb ltB cB1
  replace cB2 := bc hb ltB cB2
  replace ltB := bl hb ltB
  replace cC0 := bc hb ltC cC0
  replace cC1 := bc hb ltC cC1
  replace cC2 := bc hb ltC cC2
  replace ltC := bl hb ltC
  replace cP0 := bc hb ltP cP0
  replace fP0 := bf hb ltP fP0
  replace cP1 := bc hb ltP cP1
  replace fP1 := bf hb ltP fP1
  replace cP2 := bc hb ltP cP2
  replace fP2 := bf hb ltP fP2
  replace ltP := bl hb ltP
  replace cQ0 := bc hb ltQ cQ0
  replace fQ0 := bf hb ltQ fQ0
  replace cQ1 := bc hb ltQ cQ1
  replace fQ1 := bf hb ltQ fQ1
  replace cQ2 := bc hb ltQ cQ2
  replace fQ2 := bf hb ltQ fQ2
  replace ltQ := bl hb ltQ
  replace ca0 := bc hb lta ca0
  replace ca1 := bc hb lta ca1
  replace ca2 := bc hb lta ca2
  replace lta := bl hb lta
  replace cb0 := bc hb ltb cb0
  replace cb1 := bc hb ltb cb1
  replace cb2 := bc hb ltb cb2
  replace ltb := bl hb ltb
  replace cs0 := bc hb lts cs0
  replace cs1 := bc hb lts cs1
  replace cs2 := bc hb lts cs2
  replace lts := bl hb lts
  replace HI := Lib.hid (HI.out.below hb)
  replace HX := Lib.hid (HX.out.below hb)
  replace HY := Lib.hid (HY.out.below hb)
  replace HP := Lib.hid (HP.out.below hb)
  replace HV4 := Lib.hid (HV4.out.below hb)
  replace HV5 := Lib.hid (HV5.out.below hb)
  replace HV6 := Lib.hid (HV6.out.below hb)
  replace hM := hM.trans (hb.mono hM.size)
  replace hB := hB.trans (hb.mono hB.size)
  have hq := HSp.out
  generalize rsgI p = sp at *
  have dsp : decide (sp < 0) = false := by simpa using hq
  clear hq HSp
  clear hb
  refine hK _ _ ⟨⟨wc, hM⟩, rfl⟩ ?_
  clear hK K
  repeat (refine wpSched_calm rfl (fun K hK => ?_); go_simp; refine hK _ ?_; clear hK K)
  refine wpSched_geff rfl ?_ (fun K hK => ?_)
  · go_simp
  go_simp
  refine (part_any 1 1 _ (by omega) (by omega) (by omega) (by omega) (by omega)).mono ?_
  rintro e we ⟨ve, rfl, hv, hsz, hb⟩
  replace cA0 := bc hb ltA cA0
  replace cA1 := bc hb ltA cA1
  replace cA2 := bc hb ltA cA2
  replace ltA := bl hb ltA
  replace cB0 := bc hb ltB cB0
  replace cB1 := bc hb ltB cB1
  replace cB2 := bc hb ltB cB2
  replace ltB := bl hb ltB
  replace cC0 := bc hb ltC cC0
  replace cC1 := bc hb ltC cC1
  replace cC2 := bc hb ltC cC2
  replace ltC := bl hb ltC
  replace cP0 := bc hb ltP cP0
  replace fP0 := bf hb ltP fP0
  replace cP1 := bc hb ltP cP1
  replace fP1 := bf hb ltP fP1
  replace cP2 := bc hb ltP cP2
  replace fP2 := bf hb ltP fP2
  replace ltP := bl hb ltP
  replace cQ0 := bc hb ltQ cQ0
  replace fQ0 := bf hb ltQ fQ0
  replace cQ1 := bc hb ltQ cQ1
  replace fQ1 := bf hb ltQ fQ1
  replace cQ2 := bc hb ltQ cQ2
  replace fQ2 := bf hb ltQ fQ2
  replace ltQ := bl hb ltQ
  replace ca0 := bc hb lta ca0
  replace ca1 := bc hb lta ca1
  replace ca2 := bc hb lta ca2
  replace lta := bl hb lta
  replace cb0 := bc hb ltb cb0
  replace cb1 := bc hb ltb cb1
  replace cb2 := bc hb ltb cb2
  replace ltb := bl hb ltb
  replace cs0 := bc hb lts cs0
  replace cs1 := bc hb lts cs1
  replace cs2 := bc hb lts cs2
  replace lts := bl hb lts
  replace HI := Lib.hid (HI.out.below hb)
  replace HX := Lib.hid (HX.out.below hb)
  replace HY := Lib.hid (HY.out.below hb)
  replace HP := Lib.hid (HP.out.below hb)
  replace HV4 := Lib.hid (HV4.out.below hb)
  replace HV5 := Lib.hid (HV5.out.below hb)
  replace HV6 := Lib.hid (HV6.out.below hb)
  replace hM := hM.trans (hb.mono hM.size)
  replace hB := hB.trans (hb.mono hB.size)
  rw [HD1.out] at hv hsz
  have HVe := Lib.hid (hv.raw hsz)
  clear hv hsz
  clear hb
  refine hK _ _ ⟨⟨we, hM⟩, rfl⟩ ?_
  clear hK K
  refine wpSched_geff rfl ?_ (fun K hK => ?_)
  · go_simp
  go_simp
  refine (qcmp_any _ _ p 1 L 2 _ HP.out HVe.out hL (by omega) (by omega)).mono ?_
  rintro e wf ⟨rfl, hb⟩
  replace cA0 := bc hb ltA cA0
  replace cA1 := bc hb ltA cA1
  replace cA2 := bc hb ltA cA2
  replace ltA := bl hb ltA
  replace cB0 := bc hb ltB cB0
  replace cB1 := bc hb ltB cB1
  replace cB2 := bc hb ltB cB2
  replace ltB := bl hb ltB
  replace cC0 := bc hb ltC cC0
  replace cC1 := bc hb ltC cC1
  replace cC2 := bc hb ltC cC2
  replace ltC := bl hb ltC
  replace cP0 := bc hb ltP cP0
  replace fP0 := bf hb ltP fP0
  replace cP1 := bc hb ltP cP1
  replace fP1 := bf hb ltP fP1
  replace cP2 := bc hb ltP cP2
  replace fP2 := bf hb ltP fP2
  replace ltP := bl hb ltP
  replace cQ0 := bc hb ltQ cQ0
  replace fQ0 := bf hb ltQ fQ0
  replace cQ1 := bc hb ltQ cQ1
  replace fQ1 := bf hb ltQ fQ1
  replace cQ2 := bc hb ltQ cQ2
  replace fQ2 := bf hb ltQ fQ2
  replace ltQ := bl hb ltQ
  replace ca0 := bc hb lta ca0
  replace ca1 := bc hb lta ca1
  replace ca2 := bc hb lta ca2
  replace lta := bl hb lta
  replace cb0 := bc hb ltb cb0
  replace cb1 := bc hb ltb cb1
  replace cb2 := bc hb ltb cb2
  replace ltb := bl hb ltb
  replace cs0 := bc hb lts cs0
  replace cs1 := bc hb lts cs1
  replace cs2 := bc hb lts cs2
  replace lts := bl hb lts
  replace HI := Lib.hid (HI.out.below hb)
  replace HX := Lib.hid (HX.out.below hb)
  replace HY := Lib.hid (HY.out.below hb)
  replace HP := Lib.hid (HP.out.below hb)
  replace HV4 := Lib.hid (HV4.out.below hb)
  replace HV5 := Lib.hid (HV5.out.below hb)
  replace HV6 := Lib.hid (HV6.out.below hb)
  replace HVe := Lib.hid (HVe.out.below hb)
  replace hM := hM.trans (hb.mono hM.size)
  replace hB := hB.trans (hb.mono hB.size)
  have hq := HCp.out
  generalize rcmpI p 1 = cp at *
  have dcp : decide (0 < cp) = false := by simpa using hq
  clear hq HCp
  clear hb
  refine hK _ _ ⟨⟨wf, hM⟩, rfl⟩ ?_
  clear hK K
  clear HVe
  repeat (refine wpSched_calm rfl (fun K hK => ?_); go_simp; refine hK _ ?_; clear hK K)
  refine wpSched_nil ?_
  clear eA0 eA1 eA2 eB0 eB1 eB2 eC0 eC1 eC2 eP0 eP1 eP2 eQ0 eQ1 eQ2 ea0 ea1 ea2 eb0 eb1 eb2 es0 es1 es2
  go_wp2_with fail
  refine (erank_any f a len cap _ (invR f (p * (f.sum : Rat))) (L + 13) _ HI.out (HV6.out.raw HZ6.out) (by omega) (by omega) HF.out).mono ?_
  rintro e wg ⟨vg, rfl, hv, hsz, hb⟩
  replace cA0 := bc hb ltA cA0
  replace cA1 := bc hb ltA cA1
  replace cA2 := bc hb ltA cA2
  replace ltA := bl hb ltA
  replace cB0 := bc hb ltB cB0
  replace cB1 := bc hb ltB cB1
  replace cB2 := bc hb ltB cB2
  replace ltB := bl hb ltB
  replace cC0 := bc hb ltC cC0
  replace cC1 := bc hb ltC cC1
  replace cC2 := bc hb ltC cC2
  replace ltC := bl hb ltC
  replace cP0 := bc hb ltP cP0
  replace fP0 := bf hb ltP fP0
  replace cP1 := bc hb ltP cP1
  replace fP1 := bf hb ltP fP1
  replace cP2 := bc hb ltP cP2
  replace fP2 := bf hb ltP fP2
  replace ltP := bl hb ltP
  replace cQ0 := bc hb ltQ cQ0
  replace fQ0 := bf hb ltQ fQ0
  replace cQ1 := bc hb ltQ cQ1
  replace fQ1 := bf hb ltQ fQ1
  replace cQ2 := bc hb ltQ cQ2
  replace fQ2 := bf hb ltQ fQ2
  replace ltQ := bl hb ltQ
  replace ca0 := bc hb lta ca0
  replace ca1 := bc hb lta ca1
  replace ca2 := bc hb lta ca2
  replace lta := bl hb lta
  replace cb0 := bc hb ltb cb0
  replace cb1 := bc hb ltb cb1
  replace cb2 := bc hb ltb cb2
  replace ltb := bl hb ltb
  replace cs0 := bc hb lts cs0
  replace cs1 := bc hb lts cs1
  replace cs2 := bc hb lts cs2
  replace lts := bl hb lts
  replace HI := Lib.hid (HI.out.below hb)
  replace HX := Lib.hid (HX.out.below hb)
  replace HY := Lib.hid (HY.out.below hb)
  replace HP := Lib.hid (HP.out.below hb)
  replace HV4 := Lib.hid (HV4.out.below hb)
  replace HV5 := Lib.hid (HV5.out.below hb)
  replace HV6 := Lib.hid (HV6.out.below hb)
  replace hB := hB.trans (hb.mono hB.size)
  rw [HBk.out] at hv hsz
  have HZg := Lib.hid hsz
  have HVg := Lib.hid (hv.mono (Nat.zero_le _))
  obtain ⟨pg', mg', qg', pg, mg, qg, rfl, -, -, -, -⟩ := hv
  generalize decide ((p : Rat).num < 0) = dg at *
  clear hsz
  clear hb
  go_wp2_with fail
  have hbx : Below wg.heap.size wg (wg.alloc (.cells #[.bool dg, .slice pg' mg' qg', .slice pg mg qg] 33)) := ((Below.refl _ _).alloc (Nat.le_refl _) _)
  generalize hWW : (wg.alloc (.cells #[.bool dg, .slice pg' mg' qg', .slice pg mg qg] 33)) = wga at *
  replace cA0 := bc hbx ltA cA0
  replace cA1 := bc hbx ltA cA1
  replace cA2 := bc hbx ltA cA2
  replace ltA := bl hbx ltA
  replace cB0 := bc hbx ltB cB0
  replace cB1 := bc hbx ltB cB1
  replace cB2 := bc hbx ltB cB2
  replace ltB := bl hbx ltB
  replace cC0 := bc hbx ltC cC0
  replace cC1 := bc hbx ltC cC1
  replace cC2 := bc hbx ltC cC2
  replace ltC := bl hbx ltC
  replace cP0 := bc hbx ltP cP0
  replace fP0 := bf hbx ltP fP0
  replace cP1 := bc hbx ltP cP1
  replace fP1 := bf hbx ltP fP1
  replace cP2 := bc hbx ltP cP2
  replace fP2 := bf hbx ltP fP2
  replace ltP := bl hbx ltP
  replace cQ0 := bc hbx ltQ cQ0
  replace fQ0 := bf hbx ltQ fQ0
  replace cQ1 := bc hbx ltQ cQ1
  replace fQ1 := bf hbx ltQ fQ1
  replace cQ2 := bc hbx ltQ cQ2
  replace fQ2 := bf hbx ltQ fQ2
  replace ltQ := bl hbx ltQ
  replace ca0 := bc hbx lta ca0
  replace ca1 := bc hbx lta ca1
  replace ca2 := bc hbx lta ca2
  replace lta := bl hbx lta
  replace cb0 := bc hbx ltb cb0
  replace cb1 := bc hbx ltb cb1
  replace cb2 := bc hbx ltb cb2
  replace ltb := bl hbx ltb
  replace cs0 := bc hbx lts cs0
  replace cs1 := bc hbx lts cs1
  replace cs2 := bc hbx lts cs2
  replace lts := bl hbx lts
  replace HI := Lib.hid (HI.out.below hbx)
  replace HX := Lib.hid (HX.out.below hbx)
  replace HY := Lib.hid (HY.out.below hbx)
  replace HP := Lib.hid (HP.out.below hbx)
  replace HV4 := Lib.hid (HV4.out.below hbx)
  replace HV5 := Lib.hid (HV5.out.below hbx)
  replace HV6 := Lib.hid (HV6.out.below hbx)
  replace HVg := Lib.hid (HVg.out.below hbx)
  have cr0 : wga.cell? ⟨wg.heap.size, 0, none⟩ = some (.bool dg) := by subst hWW; go_simp
  have cr1 : wga.cell? ⟨wg.heap.size, 1, none⟩ = some (.slice pg' mg' qg') := by subst hWW; go_simp
  have cr2 : wga.cell? ⟨wg.heap.size, 2, none⟩ = some (.slice pg mg qg) := by subst hWW; go_simp
  have ltr : wg.heap.size < wga.heap.size := by subst hWW; simp
  replace hB := hB.trans (hbx.mono hB.size)
  clear hbx hWW
  refine (qcmp_any _ _ p p (L + 13 + 13) L _ (HVg.out.raw HZg.out) HP.out (by omega) hL (by omega)).mono ?_
  rintro e wh ⟨rfl, hb⟩
  replace cA0 := bc hb ltA cA0
  replace cA1 := bc hb ltA cA1
  replace cA2 := bc hb ltA cA2
  replace ltA := bl hb ltA
  replace cB0 := bc hb ltB cB0
  replace cB1 := bc hb ltB cB1
  replace cB2 := bc hb ltB cB2
  replace ltB := bl hb ltB
  replace cC0 := bc hb ltC cC0
  replace cC1 := bc hb ltC cC1
  replace cC2 := bc hb ltC cC2
  replace ltC := bl hb ltC
  replace cP0 := bc hb ltP cP0
  replace fP0 := bf hb ltP fP0
  replace cP1 := bc hb ltP cP1
  replace fP1 := bf hb ltP fP1
  replace cP2 := bc hb ltP cP2
  replace fP2 := bf hb ltP fP2
  replace ltP := bl hb ltP
  replace cQ0 := bc hb ltQ cQ0
  replace fQ0 := bf hb ltQ fQ0
  replace cQ1 := bc hb ltQ cQ1
  replace fQ1 := bf hb ltQ fQ1
  replace cQ2 := bc hb ltQ cQ2
  replace fQ2 := bf hb ltQ fQ2
  replace ltQ := bl hb ltQ
  replace ca0 := bc hb lta ca0
  replace ca1 := bc hb lta ca1
  replace ca2 := bc hb lta ca2
  replace lta := bl hb lta
  replace cb0 := bc hb ltb cb0
  replace cb1 := bc hb ltb cb1
  replace cb2 := bc hb ltb cb2
  replace ltb := bl hb ltb
  replace cs0 := bc hb lts cs0
  replace cs1 := bc hb lts cs1
  replace cs2 := bc hb lts cs2
  replace lts := bl hb lts
  replace cr0 := bc hb ltr cr0
  replace cr1 := bc hb ltr cr1
  replace cr2 := bc hb ltr cr2
  replace ltr := bl hb ltr
  replace HI := Lib.hid (HI.out.below hb)
  replace HX := Lib.hid (HX.out.below hb)
  replace HY := Lib.hid (HY.out.below hb)
  replace HP := Lib.hid (HP.out.below hb)
  replace HV4 := Lib.hid (HV4.out.below hb)
  replace HV5 := Lib.hid (HV5.out.below hb)
  replace HV6 := Lib.hid (HV6.out.below hb)
  replace HVg := Lib.hid (HVg.out.below hb)
  replace hB := hB.trans (hb.mono hB.size)
  rw [HSf.out]
  clear hb
  go_wp2_with fail
  refine (awake_any _).mono ?_
  rintro e wi ⟨rfl, hb⟩
  replace cA0 := bc hb ltA cA0
  replace cA1 := bc hb ltA cA1
  replace cA2 := bc hb ltA cA2
  replace ltA := bl hb ltA
  replace cB0 := bc hb ltB cB0
  replace cB1 := bc hb ltB cB1
  replace cB2 := bc hb ltB cB2
  replace ltB := bl hb ltB
  replace cC0 := bc hb ltC cC0
  replace cC1 := bc hb ltC cC1
  replace cC2 := bc hb ltC cC2
  replace ltC := bl hb ltC
  replace cP0 := bc hb ltP cP0
  replace fP0 := bf hb ltP fP0
  replace cP1 := bc hb ltP cP1
  replace fP1 := bf hb ltP fP1
  replace cP2 := bc hb ltP cP2
  replace fP2 := bf hb ltP fP2
  replace ltP := bl hb ltP
  replace cQ0 := bc hb ltQ cQ0
  replace fQ0 := bf hb ltQ fQ0
  replace cQ1 := bc hb ltQ cQ1
  replace fQ1 := bf hb ltQ fQ1
  replace cQ2 := bc hb ltQ cQ2
  replace fQ2 := bf hb ltQ fQ2
  replace ltQ := bl hb ltQ
  replace ca0 := bc hb lta ca0
  replace ca1 := bc hb lta ca1
  replace ca2 := bc hb lta ca2
  replace lta := bl hb lta
  replace cb0 := bc hb ltb cb0
  replace cb1 := bc hb ltb cb1
  replace cb2 := bc hb ltb cb2
  replace ltb := bl hb ltb
  replace cs0 := bc hb lts cs0
  replace cs1 := bc hb lts cs1
  replace cs2 := bc hb lts cs2
  replace lts := bl hb lts
  replace cr0 := bc hb ltr cr0
  replace cr1 := bc hb ltr cr1
  replace cr2 := bc hb ltr cr2
  replace ltr := bl hb ltr
  replace HI := Lib.hid (HI.out.below hb)
  replace HX := Lib.hid (HX.out.below hb)
  replace HY := Lib.hid (HY.out.below hb)
  replace HP := Lib.hid (HP.out.below hb)
  replace HV4 := Lib.hid (HV4.out.below hb)
  replace HV5 := Lib.hid (HV5.out.below hb)
  replace HV6 := Lib.hid (HV6.out.below hb)
  replace HVg := Lib.hid (HVg.out.below hb)
  replace hB := hB.trans (hb.mono hB.size)
  clear hb
  go_wp2_with fail
  go_ret
  exact ⟨rfl, hB⟩
set_option maxHeartbeats 8000000 in
theorem shares_ko (f : List Int) (a : Option Addr) (len cap : Nat) (vx vy vp : Value) (x y p : Rat) (L : Nat) (w : World) (hI : Ints w a len cap f) (hx : RatV w vx x L) (hy : RatV w vy y L) (hp : RatV w vp p L) (hL : 1 ≤ L) (hm : (2 * L + 200) * 4 ≤ 140737488355328) (hc : decide (0 < rcmpI x y) = false) (hlh : x ≤ y) (hO : OkF f) (hpo : p < 0) :
    Calls Try.prog 4 #[.slice a len cap, vx, vy, vp] w fun e w' => e = .returned (.bool true) ∧ Below w.heap.size w w' := by
  have HI := Lib.hid hI
  have HX := Lib.hid hx
  have HY := Lib.hid hy
  have HP := Lib.hid hp
  obtain ⟨negx, ax', lenx', capx', ax, lenx, capx, rfl, -, -⟩ := hx.form
  obtain ⟨negy, ay', leny', capy', ay, leny, capy, rfl, -, -⟩ := hy.form
  obtain ⟨negp, ap', lenp', capp', ap, lenp, capp, rfl, -, -⟩ := hp.form
  clear hI hx hy hp
  have HO := Lib.hid (eqE_OkF.2 hO)
  have HF := Lib.hid hO
  have HSa := Lib.hid (show ¬ rsgI (rankR f x) < 0 from fun h => absurd (sgI_lt.1 h) (by have := (rank_in hO x).1; grind))
  have HCab := Lib.hid (show ¬ 0 < rcmpI (rankR f x) (rankR f y) from fun h => absurd (cmpI_gt0.1 h) (by have := rank_mono hO hlh; grind))
  have HCb := Lib.hid (show ¬ 0 < rcmpI (rankR f y) 1 from fun h => absurd (cmpI_gt0.1 h) (by have := (rank_in hO y).2; grind))
  have HD1 := Lib.hid (show Rat.divInt 1 1 = (1 : Rat) by kernel_rfl)
  have HPo := Lib.hid (show ¬ (0 ≤ p ∧ p ≤ 1) from fun h => by grind)
  have HSp := Lib.hid (sgI_lt.2 hpo)
  clear hO hpo hlh
  go_enter Try.func4, Try.ntmps4
  go_wp2_with fail
  have hbx : Below w.heap.size w (((w.alloc (.cells #[.bool negx, .slice ax' lenx' capx', .slice ax lenx capx] 33)).alloc (.cells #[.bool negy, .slice ay' leny' capy', .slice ay leny capy] 33)).alloc (.cells #[.bool negp, .slice ap' lenp' capp', .slice ap lenp capp] 33)) := ((((Below.refl _ _).alloc (Nat.le_refl _) _).alloc (by simp) _).alloc (by simp <;> omega) _)
  generalize hWW : (((w.alloc (.cells #[.bool negx, .slice ax' lenx' capx', .slice ax lenx capx] 33)).alloc (.cells #[.bool negy, .slice ay' leny' capy', .slice ay leny capy] 33)).alloc (.cells #[.bool negp, .slice ap' lenp' capp', .slice ap lenp capp] 33)) = w0 at *
  replace HI := Lib.hid (HI.out.below hbx)
  replace HX := Lib.hid (HX.out.below hbx)
  replace HY := Lib.hid (HY.out.below hbx)
  replace HP := Lib.hid (HP.out.below hbx)
  have cA0 : w0.cell? ⟨w.heap.size, 0, none⟩ = some (.bool negx) := by subst hWW; go_simp
  have cA1 : w0.cell? ⟨w.heap.size, 1, none⟩ = some (.slice ax' lenx' capx') := by subst hWW; go_simp
  have cA2 : w0.cell? ⟨w.heap.size, 2, none⟩ = some (.slice ax lenx capx) := by subst hWW; go_simp
  have ltA : w.heap.size < w0.heap.size := by subst hWW; simp <;> omega
  have cB0 : w0.cell? ⟨w.heap.size + 1, 0, none⟩ = some (.bool negy) := by subst hWW; go_simp
  have cB1 : w0.cell? ⟨w.heap.size + 1, 1, none⟩ = some (.slice ay' leny' capy') := by subst hWW; go_simp
  have cB2 : w0.cell? ⟨w.heap.size + 1, 2, none⟩ = some (.slice ay leny capy) := by subst hWW; go_simp
  have ltB : w.heap.size + 1 < w0.heap.size := by subst hWW; simp <;> omega
  have cC0 : w0.cell? ⟨w.heap.size + 1 + 1, 0, none⟩ = some (.bool negp) := by subst hWW; go_simp
  have cC1 : w0.cell? ⟨w.heap.size + 1 + 1, 1, none⟩ = some (.slice ap' lenp' capp') := by subst hWW; go_simp
  have cC2 : w0.cell? ⟨w.heap.size + 1 + 1, 2, none⟩ = some (.slice ap lenp capp) := by subst hWW; go_simp
  have ltC : w.heap.size + 1 + 1 < w0.heap.size := by subst hWW; simp
  have hB := hbx
  clear hbx hWW
  have SCA0 := Lib.hid cA0
  have SCA1 := Lib.hid cA1
  have SCA2 := Lib.hid cA2
  have SLA := Lib.hid ltA
  have SCB0 := Lib.hid cB0
  have SCB1 := Lib.hid cB1
  have SCB2 := Lib.hid cB2
  have SLB := Lib.hid ltB
  have SCC0 := Lib.hid cC0
  have SCC1 := Lib.hid cC1
  have SCC2 := Lib.hid cC2
  have SLC := Lib.hid ltC
  have SHI := Lib.hid HI.out
  have SHX := Lib.hid HX.out
  have SHY := Lib.hid HY.out
  have SHP := Lib.hid HP.out
  have SB := Lib.hid hB
  have eA0 := box_ext (B := w0.heap.size) cA0 ltA
  have eA1 := box_ext (B := w0.heap.size) cA1 ltA
  have eA2 := box_ext (B := w0.heap.size) cA2 ltA
  have eB0 := box_ext (B := w0.heap.size) cB0 ltB
  have eB1 := box_ext (B := w0.heap.size) cB1 ltB
  have eB2 := box_ext (B := w0.heap.size) cB2 ltB
  have eC0 := box_ext (B := w0.heap.size) cC0 ltC
  have eC1 := box_ext (B := w0.heap.size) cC1 ltC
  have eC2 := box_ext (B := w0.heap.size) cC2 ltC
  refine wp_region_float2 2 3 [(0, false), (1, false)] [(4, true), (5, true)] (fun w' => ∃ W : Ext w0.heap.size w0, w' = W.1) _ _ 9 10 (.cells #[.bool false, .slice none 0 0, .slice none 0 0] 33) (.cells #[.bool false, .slice none 0 0, .slice none 0 0] 33) w0.heap.size (by kernel_rfl) rfl rfl rfl rfl rfl rfl (fun a w => by simp [execOp, go_sem, ptr]) (fun a w => by simp [execOp, go_sem, ptr]) (fun w ⟨W, e⟩ => e ▸ W.2.size) (fun w ⟨W, e⟩ => ⟨⟨_, (e ▸ W.2).alloc (e ▸ W.2.size) _⟩, rfl⟩) (fun w ⟨W, e⟩ => ⟨⟨_, (e ▸ W.2).alloc (e ▸ W.2.size) _⟩, rfl⟩) (by decide) (by kernel_rfl) ⟨⟨w0.drew, (Below.refl _ _).drew⟩, rfl⟩ ?_
  repeat (refine wpFl2_calm rfl (fun K hK => ?_); go_simp; refine hK _ ?_; clear hK K)
  clear eA0 eA1 eA2 eB0 eB1 eB2 eC0 eC1 eC2
  have hbx : Below w0.heap.size w0 w0.drew := (Below.refl _ _).drew
  have hM := hbx
  replace cA0 := bc hbx ltA cA0
  replace cA1 := bc hbx ltA cA1
  replace cA2 := bc hbx ltA cA2
  replace ltA := bl hbx ltA
  replace cB0 := bc hbx ltB cB0
  replace cB1 := bc hbx ltB cB1
  replace cB2 := bc hbx ltB cB2
  replace ltB := bl hbx ltB
  replace cC0 := bc hbx ltC cC0
  replace cC1 := bc hbx ltC cC1
  replace cC2 := bc hbx ltC cC2
  replace ltC := bl hbx ltC
  replace HI := Lib.hid (HI.out.below hbx)
  replace HX := Lib.hid (HX.out.below hbx)
  replace HY := Lib.hid (HY.out.below hbx)
  replace HP := Lib.hid (HP.out.below hbx)
  replace hB := hB.trans (hbx.mono hB.size)
  clear hbx
  generalize w0.drew = ww0d at *
  refine wpFl2_nil fun gP gQ wy hC hg hBk hBk2 hge hge2 hgn => ?_
  obtain ⟨⟨wz, hE⟩, hwe⟩ := hC
  change wy = wz at hwe
  subst hwe
  replace cA0 := bc hg ltA cA0
  replace cA1 := bc hg ltA cA1
  replace cA2 := bc hg ltA cA2
  replace ltA := bl hg ltA
  replace cB0 := bc hg ltB cB0
  replace cB1 := bc hg ltB cB1
  replace cB2 := bc hg ltB cB2
  replace ltB := bl hg ltB
  replace cC0 := bc hg ltC cC0
  replace cC1 := bc hg ltC cC1
  replace cC2 := bc hg ltC cC2
  replace ltC := bl hg ltC
  replace HI := Lib.hid (HI.out.below hg)
  replace HX := Lib.hid (HX.out.below hg)
  replace HY := Lib.hid (HY.out.below hg)
  replace HP := Lib.hid (HP.out.below hg)
  replace hB := hB.trans (hg.mono hB.size)
  replace hM := hE
  clear hE hg
  have z0 := blk_cell hBk 0
  have y0 := blk_free hBk 0
  have z1 := blk_cell hBk 1
  have y1 := blk_free hBk 1
  have z2 := blk_cell hBk 2
  have y2 := blk_free hBk 2
  have v0 := blk_cell hBk2 0
  have u0 := blk_free hBk2 0
  have v1 := blk_cell hBk2 1
  have u1 := blk_free hBk2 1
  have v2 := blk_cell hBk2 2
  have u2 := blk_free hBk2 2
  simp at z0 z1 z2 v0 v1 v2
  have hgl := blk_lt hBk
  have hgl2 := blk_lt hBk2
  have hgn2 := Ne.symm hgn
  refine wpSched_eff rfl rfl (fun K hK => ?_)
  go_simp
  refine hK _ _ ⟨⟨_, (((hM.setCell (p := ⟨gP, 0, none⟩) hge _).setCell (p := ⟨gP, 1, none⟩) hge _).setCell (p := ⟨gP, 2, none⟩) hge _)⟩, rfl⟩ ?_
  clear hK K
  refine wpSched_eff rfl rfl (fun K hK => ?_)
  go_simp
  refine hK _ _ ⟨⟨_, ((((((hM.setCell (p := ⟨gP, 0, none⟩) hge _).setCell (p := ⟨gP, 1, none⟩) hge _).setCell (p := ⟨gP, 2, none⟩) hge _).setCell (p := ⟨gQ, 0, none⟩) hge2 _).setCell (p := ⟨gQ, 1, none⟩) hge2 _).setCell (p := ⟨gQ, 2, none⟩) hge2 _)⟩, rfl⟩ ?_
  clear hK K
  refine wpSched_nil ?_
  have hMn := ((((((hM.setCell (p := ⟨gP, 0, none⟩) hge (.bool negx)).setCell (p := ⟨gP, 1, none⟩) hge (.slice ax' lenx' capx')).setCell (p := ⟨gP, 2, none⟩) hge (.slice ax lenx capx)).setCell (p := ⟨gQ, 0, none⟩) hge2 (.bool negy)).setCell (p := ⟨gQ, 1, none⟩) hge2 (.slice ay' leny' capy')).setCell (p := ⟨gQ, 2, none⟩) hge2 (.slice ay leny capy))
  replace cA0 := bc hMn SLA.out SCA0.out
  replace cA1 := bc hMn SLA.out SCA1.out
  replace cA2 := bc hMn SLA.out SCA2.out
  replace ltA := bl hMn SLA.out
  replace cB0 := bc hMn SLB.out SCB0.out
  replace cB1 := bc hMn SLB.out SCB1.out
  replace cB2 := bc hMn SLB.out SCB2.out
  replace ltB := bl hMn SLB.out
  replace cC0 := bc hMn SLC.out SCC0.out
  replace cC1 := bc hMn SLC.out SCC1.out
  replace cC2 := bc hMn SLC.out SCC2.out
  replace ltC := bl hMn SLC.out
  replace HI := Lib.hid (SHI.out.below hMn)
  replace HX := Lib.hid (SHX.out.below hMn)
  replace HY := Lib.hid (SHY.out.below hMn)
  replace HP := Lib.hid (SHP.out.below hMn)
  replace hB := SB.out.trans (hMn.mono SB.out.size)
  have cP0 : ((((((wy.setCell ⟨gP, 0, none⟩ (.bool negx)).setCell ⟨gP, 1, none⟩ (.slice ax' lenx' capx')).setCell ⟨gP, 2, none⟩ (.slice ax lenx capx)).setCell ⟨gQ, 0, none⟩ (.bool negy)).setCell ⟨gQ, 1, none⟩ (.slice ay' leny' capy')).setCell ⟨gQ, 2, none⟩ (.slice ay leny capy)).cell? ⟨gP, 0, none⟩ = some (.bool negx) := by go_simp
  have fP0 : ((((((wy.setCell ⟨gP, 0, none⟩ (.bool negx)).setCell ⟨gP, 1, none⟩ (.slice ax' lenx' capx')).setCell ⟨gP, 2, none⟩ (.slice ax lenx capx)).setCell ⟨gQ, 0, none⟩ (.bool negy)).setCell ⟨gQ, 1, none⟩ (.slice ay' leny' capy')).setCell ⟨gQ, 2, none⟩ (.slice ay leny capy)).frozen? ⟨gP, 0, none⟩ = false := by go_simp
  have cP1 : ((((((wy.setCell ⟨gP, 0, none⟩ (.bool negx)).setCell ⟨gP, 1, none⟩ (.slice ax' lenx' capx')).setCell ⟨gP, 2, none⟩ (.slice ax lenx capx)).setCell ⟨gQ, 0, none⟩ (.bool negy)).setCell ⟨gQ, 1, none⟩ (.slice ay' leny' capy')).setCell ⟨gQ, 2, none⟩ (.slice ay leny capy)).cell? ⟨gP, 1, none⟩ = some (.slice ax' lenx' capx') := by go_simp
  have fP1 : ((((((wy.setCell ⟨gP, 0, none⟩ (.bool negx)).setCell ⟨gP, 1, none⟩ (.slice ax' lenx' capx')).setCell ⟨gP, 2, none⟩ (.slice ax lenx capx)).setCell ⟨gQ, 0, none⟩ (.bool negy)).setCell ⟨gQ, 1, none⟩ (.slice ay' leny' capy')).setCell ⟨gQ, 2, none⟩ (.slice ay leny capy)).frozen? ⟨gP, 1, none⟩ = false := by go_simp
  have cP2 : ((((((wy.setCell ⟨gP, 0, none⟩ (.bool negx)).setCell ⟨gP, 1, none⟩ (.slice ax' lenx' capx')).setCell ⟨gP, 2, none⟩ (.slice ax lenx capx)).setCell ⟨gQ, 0, none⟩ (.bool negy)).setCell ⟨gQ, 1, none⟩ (.slice ay' leny' capy')).setCell ⟨gQ, 2, none⟩ (.slice ay leny capy)).cell? ⟨gP, 2, none⟩ = some (.slice ax lenx capx) := by go_simp
  have fP2 : ((((((wy.setCell ⟨gP, 0, none⟩ (.bool negx)).setCell ⟨gP, 1, none⟩ (.slice ax' lenx' capx')).setCell ⟨gP, 2, none⟩ (.slice ax lenx capx)).setCell ⟨gQ, 0, none⟩ (.bool negy)).setCell ⟨gQ, 1, none⟩ (.slice ay' leny' capy')).setCell ⟨gQ, 2, none⟩ (.slice ay leny capy)).frozen? ⟨gP, 2, none⟩ = false := by go_simp
  have ltP : gP < ((((((wy.setCell ⟨gP, 0, none⟩ (.bool negx)).setCell ⟨gP, 1, none⟩ (.slice ax' lenx' capx')).setCell ⟨gP, 2, none⟩ (.slice ax lenx capx)).setCell ⟨gQ, 0, none⟩ (.bool negy)).setCell ⟨gQ, 1, none⟩ (.slice ay' leny' capy')).setCell ⟨gQ, 2, none⟩ (.slice ay leny capy)).heap.size := by simpa using hgl
  have cQ0 : ((((((wy.setCell ⟨gP, 0, none⟩ (.bool negx)).setCell ⟨gP, 1, none⟩ (.slice ax' lenx' capx')).setCell ⟨gP, 2, none⟩ (.slice ax lenx capx)).setCell ⟨gQ, 0, none⟩ (.bool negy)).setCell ⟨gQ, 1, none⟩ (.slice ay' leny' capy')).setCell ⟨gQ, 2, none⟩ (.slice ay leny capy)).cell? ⟨gQ, 0, none⟩ = some (.bool negy) := by go_simp
  have fQ0 : ((((((wy.setCell ⟨gP, 0, none⟩ (.bool negx)).setCell ⟨gP, 1, none⟩ (.slice ax' lenx' capx')).setCell ⟨gP, 2, none⟩ (.slice ax lenx capx)).setCell ⟨gQ, 0, none⟩ (.bool negy)).setCell ⟨gQ, 1, none⟩ (.slice ay' leny' capy')).setCell ⟨gQ, 2, none⟩ (.slice ay leny capy)).frozen? ⟨gQ, 0, none⟩ = false := by go_simp
  have cQ1 : ((((((wy.setCell ⟨gP, 0, none⟩ (.bool negx)).setCell ⟨gP, 1, none⟩ (.slice ax' lenx' capx')).setCell ⟨gP, 2, none⟩ (.slice ax lenx capx)).setCell ⟨gQ, 0, none⟩ (.bool negy)).setCell ⟨gQ, 1, none⟩ (.slice ay' leny' capy')).setCell ⟨gQ, 2, none⟩ (.slice ay leny capy)).cell? ⟨gQ, 1, none⟩ = some (.slice ay' leny' capy') := by go_simp
  have fQ1 : ((((((wy.setCell ⟨gP, 0, none⟩ (.bool negx)).setCell ⟨gP, 1, none⟩ (.slice ax' lenx' capx')).setCell ⟨gP, 2, none⟩ (.slice ax lenx capx)).setCell ⟨gQ, 0, none⟩ (.bool negy)).setCell ⟨gQ, 1, none⟩ (.slice ay' leny' capy')).setCell ⟨gQ, 2, none⟩ (.slice ay leny capy)).frozen? ⟨gQ, 1, none⟩ = false := by go_simp
  have cQ2 : ((((((wy.setCell ⟨gP, 0, none⟩ (.bool negx)).setCell ⟨gP, 1, none⟩ (.slice ax' lenx' capx')).setCell ⟨gP, 2, none⟩ (.slice ax lenx capx)).setCell ⟨gQ, 0, none⟩ (.bool negy)).setCell ⟨gQ, 1, none⟩ (.slice ay' leny' capy')).setCell ⟨gQ, 2, none⟩ (.slice ay leny capy)).cell? ⟨gQ, 2, none⟩ = some (.slice ay leny capy) := by go_simp
  have fQ2 : ((((((wy.setCell ⟨gP, 0, none⟩ (.bool negx)).setCell ⟨gP, 1, none⟩ (.slice ax' lenx' capx')).setCell ⟨gP, 2, none⟩ (.slice ax lenx capx)).setCell ⟨gQ, 0, none⟩ (.bool negy)).setCell ⟨gQ, 1, none⟩ (.slice ay' leny' capy')).setCell ⟨gQ, 2, none⟩ (.slice ay leny capy)).frozen? ⟨gQ, 2, none⟩ = false := by go_simp
  have ltQ : gQ < ((((((wy.setCell ⟨gP, 0, none⟩ (.bool negx)).setCell ⟨gP, 1, none⟩ (.slice ax' lenx' capx')).setCell ⟨gP, 2, none⟩ (.slice ax lenx capx)).setCell ⟨gQ, 0, none⟩ (.bool negy)).setCell ⟨gQ, 1, none⟩ (.slice ay' leny' capy')).setCell ⟨gQ, 2, none⟩ (.slice ay leny capy)).heap.size := by simpa using hgl2
  have nePA : w.heap.size < gP := Nat.lt_of_lt_of_le SLA.out hge
  have neQA : w.heap.size < gQ := Nat.lt_of_lt_of_le SLA.out hge2
  have nePB : w.heap.size + 1 < gP := Nat.lt_of_lt_of_le SLB.out hge
  have neQB : w.heap.size + 1 < gQ := Nat.lt_of_lt_of_le SLB.out hge2
  have nePC : w.heap.size + 1 + 1 < gP := Nat.lt_of_lt_of_le SLC.out hge
  have neQC : w.heap.size + 1 + 1 < gQ := Nat.lt_of_lt_of_le SLC.out hge2
  have hP := hMn
  clear hMn hM hBk hBk2 hgl hgl2 z0 y0 z1 y1 z2 y2 v0 u0 v1 u1 v2 u2
  go_wp2_with fail
  generalize ((((((wy.setCell ⟨gP, 0, none⟩ (.bool negx)).setCell ⟨gP, 1, none⟩ (.slice ax' lenx' capx')).setCell ⟨gP, 2, none⟩ (.slice ax lenx capx)).setCell ⟨gQ, 0, none⟩ (.bool negy)).setCell ⟨gQ, 1, none⟩ (.slice ay' leny' capy')).setCell ⟨gQ, 2, none⟩ (.slice ay leny capy)) = w1 at *
  refine (qcmp_any _ _ x y L L _ HX.out HY.out hL hL (by omega)).mono ?_
  rintro e w2 ⟨rfl, hb⟩
  replace cA0 := bc hb ltA cA0
  replace cA1 := bc hb ltA cA1
  replace cA2 := bc hb ltA cA2
  replace ltA := bl hb ltA
  replace cB0 := bc hb ltB cB0
  replace cB1 := bc hb ltB cB1
  replace cB2 := bc hb ltB cB2
  replace ltB := bl hb ltB
  replace cC0 := bc hb ltC cC0
  replace cC1 := bc hb ltC cC1
  replace cC2 := bc hb ltC cC2
  replace ltC := bl hb ltC
  replace cP0 := bc hb ltP cP0
  replace fP0 := bf hb ltP fP0
  replace cP1 := bc hb ltP cP1
  replace fP1 := bf hb ltP fP1
  replace cP2 := bc hb ltP cP2
  replace fP2 := bf hb ltP fP2
  replace ltP := bl hb ltP
  replace cQ0 := bc hb ltQ cQ0
  replace fQ0 := bf hb ltQ fQ0
  replace cQ1 := bc hb ltQ cQ1
  replace fQ1 := bf hb ltQ fQ1
  replace cQ2 := bc hb ltQ cQ2
  replace fQ2 := bf hb ltQ fQ2
  replace ltQ := bl hb ltQ
  replace HI := Lib.hid (HI.out.below hb)
  replace HX := Lib.hid (HX.out.below hb)
  replace HY := Lib.hid (HY.out.below hb)
  replace HP := Lib.hid (HP.out.below hb)
  replace hB := hB.trans (hb.mono hB.size)
  replace hP := hP.trans (hb.mono hP.size)
  generalize rcmpI x y = cc at *
  clear hb
  go_wp2_with fail
  clear hP
  refine (erank_any f a len cap _ x (L) _ HI.out HX.out (by omega) (by omega) HF.out).mono ?_
  rintro e w4 ⟨v4, rfl, hv, hsz, hb⟩
  replace cA0 := bc hb ltA cA0
  replace cA1 := bc hb ltA cA1
  replace cA2 := bc hb ltA cA2
  replace ltA := bl hb ltA
  replace cB0 := bc hb ltB cB0
  replace cB1 := bc hb ltB cB1
  replace cB2 := bc hb ltB cB2
  replace ltB := bl hb ltB
  replace cC0 := bc hb ltC cC0
  replace cC1 := bc hb ltC cC1
  replace cC2 := bc hb ltC cC2
  replace ltC := bl hb ltC
  replace cP0 := bc hb ltP cP0
  replace fP0 := bf hb ltP fP0
  replace cP1 := bc hb ltP cP1
  replace fP1 := bf hb ltP fP1
  replace cP2 := bc hb ltP cP2
  replace fP2 := bf hb ltP fP2
  replace ltP := bl hb ltP
  replace cQ0 := bc hb ltQ cQ0
  replace fQ0 := bf hb ltQ fQ0
  replace cQ1 := bc hb ltQ cQ1
  replace fQ1 := bf hb ltQ fQ1
  replace cQ2 := bc hb ltQ cQ2
  replace fQ2 := bf hb ltQ fQ2
  replace ltQ := bl hb ltQ
  replace HI := Lib.hid (HI.out.below hb)
  replace HX := Lib.hid (HX.out.below hb)
  replace HY := Lib.hid (HY.out.below hb)
  replace HP := Lib.hid (HP.out.below hb)
  replace hB := hB.trans (hb.mono hB.size)
  have HZ4 := Lib.hid hsz
  have HV4 := Lib.hid (hv.mono (Nat.zero_le _))
  obtain ⟨p4', m4', q4', p4, m4, q4, rfl, -, -, -, -⟩ := hv
  generalize decide ((rankR f x : Rat).num < 0) = d4 at *
  clear hsz
  clear hb
  go_wp2_with fail
  have hbx : Below w4.heap.size w4 (w4.alloc (.cells #[.bool d4, .slice p4' m4' q4', .slice p4 m4 q4] 33)) := ((Below.refl _ _).alloc (Nat.le_refl _) _)
  generalize hWW : (w4.alloc (.cells #[.bool d4, .slice p4' m4' q4', .slice p4 m4 q4] 33)) = w4a at *
  replace cA0 := bc hbx ltA cA0
  replace cA1 := bc hbx ltA cA1
  replace cA2 := bc hbx ltA cA2
  replace ltA := bl hbx ltA
  replace cB0 := bc hbx ltB cB0
  replace cB1 := bc hbx ltB cB1
  replace cB2 := bc hbx ltB cB2
  replace ltB := bl hbx ltB
  replace cC0 := bc hbx ltC cC0
  replace cC1 := bc hbx ltC cC1
  replace cC2 := bc hbx ltC cC2
  replace ltC := bl hbx ltC
  replace cP0 := bc hbx ltP cP0
  replace fP0 := bf hbx ltP fP0
  replace cP1 := bc hbx ltP cP1
  replace fP1 := bf hbx ltP fP1
  replace cP2 := bc hbx ltP cP2
  replace fP2 := bf hbx ltP fP2
  replace ltP := bl hbx ltP
  replace cQ0 := bc hbx ltQ cQ0
  replace fQ0 := bf hbx ltQ fQ0
  replace cQ1 := bc hbx ltQ cQ1
  replace fQ1 := bf hbx ltQ fQ1
  replace cQ2 := bc hbx ltQ cQ2
  replace fQ2 := bf hbx ltQ fQ2
  replace ltQ := bl hbx ltQ
  replace HI := Lib.hid (HI.out.below hbx)
  replace HX := Lib.hid (HX.out.below hbx)
  replace HY := Lib.hid (HY.out.below hbx)
  replace HP := Lib.hid (HP.out.below hbx)
  replace HV4 := Lib.hid (HV4.out.below hbx)
  have ca0 : w4a.cell? ⟨w4.heap.size, 0, none⟩ = some (.bool d4) := by subst hWW; go_simp
  have ca1 : w4a.cell? ⟨w4.heap.size, 1, none⟩ = some (.slice p4' m4' q4') := by subst hWW; go_simp
  have ca2 : w4a.cell? ⟨w4.heap.size, 2, none⟩ = some (.slice p4 m4 q4) := by subst hWW; go_simp
  have lta : w4.heap.size < w4a.heap.size := by subst hWW; simp
  replace hB := hB.trans (hbx.mono hB.size)
  clear hbx hWW
  refine (erank_any f a len cap _ y (L) _ HI.out HY.out (by omega) (by omega) HF.out).mono ?_
  rintro e w5 ⟨v5, rfl, hv, hsz, hb⟩
  replace cA0 := bc hb ltA cA0
  replace cA1 := bc hb ltA cA1
  replace cA2 := bc hb ltA cA2
  replace ltA := bl hb ltA
  replace cB0 := bc hb ltB cB0
  replace cB1 := bc hb ltB cB1
  replace cB2 := bc hb ltB cB2
  replace ltB := bl hb ltB
  replace cC0 := bc hb ltC cC0
  replace cC1 := bc hb ltC cC1
  replace cC2 := bc hb ltC cC2
  replace ltC := bl hb ltC
  replace cP0 := bc hb ltP cP0
  replace fP0 := bf hb ltP fP0
  replace cP1 := bc hb ltP cP1
  replace fP1 := bf hb ltP fP1
  replace cP2 := bc hb ltP cP2
  replace fP2 := bf hb ltP fP2
  replace ltP := bl hb ltP
  replace cQ0 := bc hb ltQ cQ0
  replace fQ0 := bf hb ltQ fQ0
  replace cQ1 := bc hb ltQ cQ1
  replace fQ1 := bf hb ltQ fQ1
  replace cQ2 := bc hb ltQ cQ2
  replace fQ2 := bf hb ltQ fQ2
  replace ltQ := bl hb ltQ
  replace ca0 := bc hb lta ca0
  replace ca1 := bc hb lta ca1
  replace ca2 := bc hb lta ca2
  replace lta := bl hb lta
  replace HI := Lib.hid (HI.out.below hb)
  replace HX := Lib.hid (HX.out.below hb)
  replace HY := Lib.hid (HY.out.below hb)
  replace HP := Lib.hid (HP.out.below hb)
  replace HV4 := Lib.hid (HV4.out.below hb)
  replace hB := hB.trans (hb.mono hB.size)
  have HZ5 := Lib.hid hsz
  have HV5 := Lib.hid (hv.mono (Nat.zero_le _))
  obtain ⟨p5', m5', q5', p5, m5, q5, rfl, -, -, -, -⟩ := hv
  generalize decide ((rankR f y : Rat).num < 0) = d5 at *
  clear hsz
  clear hb
  go_wp2_with fail
  have hbx : Below w5.heap.size w5 (w5.alloc (.cells #[.bool d5, .slice p5' m5' q5', .slice p5 m5 q5] 33)) := ((Below.refl _ _).alloc (Nat.le_refl _) _)
  generalize hWW : (w5.alloc (.cells #[.bool d5, .slice p5' m5' q5', .slice p5 m5 q5] 33)) = w5a at *
  replace cA0 := bc hbx ltA cA0
  replace cA1 := bc hbx ltA cA1
  replace cA2 := bc hbx ltA cA2
  replace ltA := bl hbx ltA
  replace cB0 := bc hbx ltB cB0
  replace cB1 := bc hbx ltB cB1
  replace cB2 := bc hbx ltB cB2
  replace ltB := bl hbx ltB
  replace cC0 := bc hbx ltC cC0
  replace cC1 := bc hbx ltC cC1
  replace cC2 := bc hbx ltC cC2
  replace ltC := bl hbx ltC
  replace cP0 := bc hbx ltP cP0
  replace fP0 := bf hbx ltP fP0
  replace cP1 := bc hbx ltP cP1
  replace fP1 := bf hbx ltP fP1
  replace cP2 := bc hbx ltP cP2
  replace fP2 := bf hbx ltP fP2
  replace ltP := bl hbx ltP
  replace cQ0 := bc hbx ltQ cQ0
  replace fQ0 := bf hbx ltQ fQ0
  replace cQ1 := bc hbx ltQ cQ1
  replace fQ1 := bf hbx ltQ fQ1
  replace cQ2 := bc hbx ltQ cQ2
  replace fQ2 := bf hbx ltQ fQ2
  replace ltQ := bl hbx ltQ
  replace ca0 := bc hbx lta ca0
  replace ca1 := bc hbx lta ca1
  replace ca2 := bc hbx lta ca2
  replace lta := bl hbx lta
  replace HI := Lib.hid (HI.out.below hbx)
  replace HX := Lib.hid (HX.out.below hbx)
  replace HY := Lib.hid (HY.out.below hbx)
  replace HP := Lib.hid (HP.out.below hbx)
  replace HV4 := Lib.hid (HV4.out.below hbx)
  replace HV5 := Lib.hid (HV5.out.below hbx)
  have cb0 : w5a.cell? ⟨w5.heap.size, 0, none⟩ = some (.bool d5) := by subst hWW; go_simp
  have cb1 : w5a.cell? ⟨w5.heap.size, 1, none⟩ = some (.slice p5' m5' q5') := by subst hWW; go_simp
  have cb2 : w5a.cell? ⟨w5.heap.size, 2, none⟩ = some (.slice p5 m5 q5) := by subst hWW; go_simp
  have ltb : w5.heap.size < w5a.heap.size := by subst hWW; simp
  replace hB := hB.trans (hbx.mono hB.size)
  clear hbx hWW
  refine (einv_out f a len cap _ p L _ HI.out HP.out hL (by omega) HF.out HPo.out).mono ?_
  rintro e w6 ⟨v6, rfl, hv, hb⟩
  replace cA0 := bc hb ltA cA0
  replace cA1 := bc hb ltA cA1
  replace cA2 := bc hb ltA cA2
  replace ltA := bl hb ltA
  replace cB0 := bc hb ltB cB0
  replace cB1 := bc hb ltB cB1
  replace cB2 := bc hb ltB cB2
  replace ltB := bl hb ltB
  replace cC0 := bc hb ltC cC0
  replace cC1 := bc hb ltC cC1
  replace cC2 := bc hb ltC cC2
  replace ltC := bl hb ltC
  replace cP0 := bc hb ltP cP0
  replace fP0 := bf hb ltP fP0
  replace cP1 := bc hb ltP cP1
  replace fP1 := bf hb ltP fP1
  replace cP2 := bc hb ltP cP2
  replace fP2 := bf hb ltP fP2
  replace ltP := bl hb ltP
  replace cQ0 := bc hb ltQ cQ0
  replace fQ0 := bf hb ltQ fQ0
  replace cQ1 := bc hb ltQ cQ1
  replace fQ1 := bf hb ltQ fQ1
  replace cQ2 := bc hb ltQ cQ2
  replace fQ2 := bf hb ltQ fQ2
  replace ltQ := bl hb ltQ
  replace ca0 := bc hb lta ca0
  replace ca1 := bc hb lta ca1
  replace ca2 := bc hb lta ca2
  replace lta := bl hb lta
  replace cb0 := bc hb ltb cb0
  replace cb1 := bc hb ltb cb1
  replace cb2 := bc hb ltb cb2
  replace ltb := bl hb ltb
  replace HI := Lib.hid (HI.out.below hb)
  replace HX := Lib.hid (HX.out.below hb)
  replace HY := Lib.hid (HY.out.below hb)
  replace HP := Lib.hid (HP.out.below hb)
  replace HV4 := Lib.hid (HV4.out.below hb)
  replace HV5 := Lib.hid (HV5.out.below hb)
  replace hB := hB.trans (hb.mono hB.size)
  have HV6 := Lib.hid (hv.mono (Nat.zero_le _))
  obtain ⟨p6', m6', q6', p6, m6, q6, rfl, -, -, -, -⟩ := hv
  generalize decide ((0 : Rat).num < 0) = d6 at *
  clear hb
  go_wp2_with fail
  have hbx : Below w6.heap.size w6 (w6.alloc (.cells #[.bool d6, .slice p6' m6' q6', .slice p6 m6 q6] 33)) := ((Below.refl _ _).alloc (Nat.le_refl _) _)
  generalize hWW : (w6.alloc (.cells #[.bool d6, .slice p6' m6' q6', .slice p6 m6 q6] 33)) = w6a at *
  replace cA0 := bc hbx ltA cA0
  replace cA1 := bc hbx ltA cA1
  replace cA2 := bc hbx ltA cA2
  replace ltA := bl hbx ltA
  replace cB0 := bc hbx ltB cB0
  replace cB1 := bc hbx ltB cB1
  replace cB2 := bc hbx ltB cB2
  replace ltB := bl hbx ltB
  replace cC0 := bc hbx ltC cC0
  replace cC1 := bc hbx ltC cC1
  replace cC2 := bc hbx ltC cC2
  replace ltC := bl hbx ltC
  replace cP0 := bc hbx ltP cP0
  replace fP0 := bf hbx ltP fP0
  replace cP1 := bc hbx ltP cP1
  replace fP1 := bf hbx ltP fP1
  replace cP2 := bc hbx ltP cP2
  replace fP2 := bf hbx ltP fP2
  replace ltP := bl hbx ltP
  replace cQ0 := bc hbx ltQ cQ0
  replace fQ0 := bf hbx ltQ fQ0
  replace cQ1 := bc hbx ltQ cQ1
  replace fQ1 := bf hbx ltQ fQ1
  replace cQ2 := bc hbx ltQ cQ2
  replace fQ2 := bf hbx ltQ fQ2
  replace ltQ := bl hbx ltQ
  replace ca0 := bc hbx lta ca0
  replace ca1 := bc hbx lta ca1
  replace ca2 := bc hbx lta ca2
  replace lta := bl hbx lta
  replace cb0 := bc hbx ltb cb0
  replace cb1 := bc hbx ltb cb1
  replace cb2 := bc hbx ltb cb2
  replace ltb := bl hbx ltb
  replace HI := Lib.hid (HI.out.below hbx)
  replace HX := Lib.hid (HX.out.below hbx)
  replace HY := Lib.hid (HY.out.below hbx)
  replace HP := Lib.hid (HP.out.below hbx)
  replace HV4 := Lib.hid (HV4.out.below hbx)
  replace HV5 := Lib.hid (HV5.out.below hbx)
  replace HV6 := Lib.hid (HV6.out.below hbx)
  have cs0 : w6a.cell? ⟨w6.heap.size, 0, none⟩ = some (.bool d6) := by subst hWW; go_simp
  have cs1 : w6a.cell? ⟨w6.heap.size, 1, none⟩ = some (.slice p6' m6' q6') := by subst hWW; go_simp
  have cs2 : w6a.cell? ⟨w6.heap.size, 2, none⟩ = some (.slice p6 m6 q6) := by subst hWW; go_simp
  have lts : w6.heap.size < w6a.heap.size := by subst hWW; simp
  replace hB := hB.trans (hbx.mono hB.size)
  clear hbx hWW
  refine (evalid_b f a len cap _ HI.out).mono ?_
  rintro e w7 ⟨rfl, hb⟩
  replace cA0 := bc hb ltA cA0
  replace cA1 := bc hb ltA cA1
  replace cA2 := bc hb ltA cA2
  replace ltA := bl hb ltA
  replace cB0 := bc hb ltB cB0
  replace cB1 := bc hb ltB cB1
  replace cB2 := bc hb ltB cB2
  replace ltB := bl hb ltB
  replace cC0 := bc hb ltC cC0
  replace cC1 := bc hb ltC cC1
  replace cC2 := bc hb ltC cC2
  replace ltC := bl hb ltC
  replace cP0 := bc hb ltP cP0
  replace fP0 := bf hb ltP fP0
  replace cP1 := bc hb ltP cP1
  replace fP1 := bf hb ltP fP1
  replace cP2 := bc hb ltP cP2
  replace fP2 := bf hb ltP fP2
  replace ltP := bl hb ltP
  replace cQ0 := bc hb ltQ cQ0
  replace fQ0 := bf hb ltQ fQ0
  replace cQ1 := bc hb ltQ cQ1
  replace fQ1 := bf hb ltQ fQ1
  replace cQ2 := bc hb ltQ cQ2
  replace fQ2 := bf hb ltQ fQ2
  replace ltQ := bl hb ltQ
  replace ca0 := bc hb lta ca0
  replace ca1 := bc hb lta ca1
  replace ca2 := bc hb lta ca2
  replace lta := bl hb lta
  replace cb0 := bc hb ltb cb0
  replace cb1 := bc hb ltb cb1
  replace cb2 := bc hb ltb cb2
  replace ltb := bl hb ltb
  replace cs0 := bc hb lts cs0
  replace cs1 := bc hb lts cs1
  replace cs2 := bc hb lts cs2
  replace lts := bl hb lts
  replace HI := Lib.hid (HI.out.below hb)
  replace HX := Lib.hid (HX.out.below hb)
  replace HY := Lib.hid (HY.out.below hb)
  replace HP := Lib.hid (HP.out.below hb)
  replace HV4 := Lib.hid (HV4.out.below hb)
  replace HV5 := Lib.hid (HV5.out.below hb)
  replace HV6 := Lib.hid (HV6.out.below hb)
  replace hB := hB.trans (hb.mono hB.size)
  rw [HO.out]
  clear hb
  go_wp2_with fail
  have eA0 := box_ext (B := w7.heap.size) cA0 ltA
  have eA1 := box_ext (B := w7.heap.size) cA1 ltA
  have eA2 := box_ext (B := w7.heap.size) cA2 ltA
  have eB0 := box_ext (B := w7.heap.size) cB0 ltB
  have eB1 := box_ext (B := w7.heap.size) cB1 ltB
  have eB2 := box_ext (B := w7.heap.size) cB2 ltB
  have eC0 := box_ext (B := w7.heap.size) cC0 ltC
  have eC1 := box_ext (B := w7.heap.size) cC1 ltC
  have eC2 := box_ext (B := w7.heap.size) cC2 ltC
  have eP0 := box_ext (B := w7.heap.size) cP0 ltP
  have eP1 := box_ext (B := w7.heap.size) cP1 ltP
  have eP2 := box_ext (B := w7.heap.size) cP2 ltP
  have eQ0 := box_ext (B := w7.heap.size) cQ0 ltQ
  have eQ1 := box_ext (B := w7.heap.size) cQ1 ltQ
  have eQ2 := box_ext (B := w7.heap.size) cQ2 ltQ
  have ea0 := box_ext (B := w7.heap.size) ca0 lta
  have ea1 := box_ext (B := w7.heap.size) ca1 lta
  have ea2 := box_ext (B := w7.heap.size) ca2 lta
  have eb0 := box_ext (B := w7.heap.size) cb0 ltb
  have eb1 := box_ext (B := w7.heap.size) cb1 ltb
  have eb2 := box_ext (B := w7.heap.size) cb2 ltb
  have es0 := box_ext (B := w7.heap.size) cs0 lts
  have es1 := box_ext (B := w7.heap.size) cs1 lts
  have es2 := box_ext (B := w7.heap.size) cs2 lts
  refine wp_region_sched [(0, false), (1, true), (2, false), (3, false), (4, false), (5, false), (6, true), (7, false), (8, false), (9, false), (10, false), (11, true), (12, true), (13, false), (14, false)] (fun w' => ∃ W : Ext w7.heap.size w7, w' = W.1) (by kernel_rfl) (by kernel_rfl) ⟨⟨w7.drew, (Below.refl _ _).drew⟩, rfl⟩ ?_
  repeat (refine wpSched_calm rfl (fun K hK => ?_); go_simp; refine hK _ ?_; clear hK K)
  have hbx : Below w7.heap.size w7 w7.drew := (Below.refl _ _).drew
  have hM := hbx
  replace cA0 := bc hbx ltA cA0
  replace cA1 := bc hbx ltA cA1
  replace cA2 := bc hbx ltA cA2
  replace ltA := bl hbx ltA
  replace cB0 := bc hbx ltB cB0
  replace cB1 := bc hbx ltB cB1
  replace cB2 := bc hbx ltB cB2
  replace ltB := bl hbx ltB
  replace cC0 := bc hbx ltC cC0
  replace cC1 := bc hbx ltC cC1
  replace cC2 := bc hbx ltC cC2
  replace ltC := bl hbx ltC
  replace cP0 := bc hbx ltP cP0
  replace fP0 := bf hbx ltP fP0
  replace cP1 := bc hbx ltP cP1
  replace fP1 := bf hbx ltP fP1
  replace cP2 := bc hbx ltP cP2
  replace fP2 := bf hbx ltP fP2
  replace ltP := bl hbx ltP
  replace cQ0 := bc hbx ltQ cQ0
  replace fQ0 := bf hbx ltQ fQ0
  replace cQ1 := bc hbx ltQ cQ1
  replace fQ1 := bf hbx ltQ fQ1
  replace cQ2 := bc hbx ltQ cQ2
  replace fQ2 := bf hbx ltQ fQ2
  replace ltQ := bl hbx ltQ
  replace ca0 := bc hbx lta ca0
  replace ca1 := bc hbx lta ca1
  replace ca2 := bc hbx lta ca2
  replace lta := bl hbx lta
  replace cb0 := bc hbx ltb cb0
  replace cb1 := bc hbx ltb cb1
  replace cb2 := bc hbx ltb cb2
  replace ltb := bl hbx ltb
  replace cs0 := bc hbx lts cs0
  replace cs1 := bc hbx lts cs1
  replace cs2 := bc hbx lts cs2
  replace lts := bl hbx lts
  replace HI := Lib.hid (HI.out.below hbx)
  replace HX := Lib.hid (HX.out.below hbx)
  replace HY := Lib.hid (HY.out.below hbx)
  replace HP := Lib.hid (HP.out.below hbx)
  replace HV4 := Lib.hid (HV4.out.below hbx)
  replace HV5 := Lib.hid (HV5.out.below hbx)
  replace HV6 := Lib.hid (HV6.out.below hbx)
  replace hB := hB.trans (hbx.mono hB.size)
  clear hbx
  generalize w7.drew = ww7d at *
  refine wpSched_eff rfl rfl (fun K hK => ?_)
  go_simp
  refine (qsign_any _ (rankR f x) (L + 13) _ (HV4.out.raw HZ4.out) (by omega)).mono ?_
  rintro e w8 ⟨rfl, hb⟩
  replace cA0 := bc hb ltA cA0
  replace cA1 := bc hb ltA cA1
  replace cA2 := bc hb ltA cA2
  replace ltA := bl hb ltA
  replace cB0 := bc hb ltB cB0
  replace cB1 := bc hb ltB cB1
  replace cB2 := bc hb ltB cB2
  replace ltB := bl hb ltB
  replace cC0 := bc hb ltC cC0
  replace cC1 := bc hb ltC cC1
  replace cC2 := bc hb ltC cC2
  replace ltC := bl hb ltC
  replace cP0 := bc hb ltP cP0
  replace fP0 := bf hb ltP fP0
  replace cP1 := bc hb ltP cP1
  replace fP1 := bf hb ltP fP1
  replace cP2 := bc hb ltP cP2
  replace fP2 := bf hb ltP fP2
  replace ltP := bl hb ltP
  replace cQ0 := bc hb ltQ cQ0
  replace fQ0 := bf hb ltQ fQ0
  replace cQ1 := bc hb ltQ cQ1
  replace fQ1 := bf hb ltQ fQ1
  replace cQ2 := bc hb ltQ cQ2
  replace fQ2 := bf hb ltQ fQ2
  replace ltQ := bl hb ltQ
  replace ca0 := bc hb lta ca0
  replace ca1 := bc hb lta ca1
  replace ca2 := bc hb lta ca2
  replace lta := bl hb lta
  replace cb0 := bc hb ltb cb0
  replace cb1 := bc hb ltb cb1
  replace cb2 := bc hb ltb cb2
  replace ltb := bl hb ltb
  replace cs0 := bc hb lts cs0
  replace cs1 := bc hb lts cs1
  replace cs2 := bc hb lts cs2
  replace lts := bl hb lts
  replace HI := Lib.hid (HI.out.below hb)
  replace HX := Lib.hid (HX.out.below hb)
  replace HY := Lib.hid (HY.out.below hb)
  replace HP := Lib.hid (HP.out.below hb)
  replace HV4 := Lib.hid (HV4.out.below hb)
  replace HV5 := Lib.hid (HV5.out.below hb)
  replace HV6 := Lib.hid (HV6.out.below hb)
  replace hM := hM.trans (hb.mono hM.size)
  replace hB := hB.trans (hb.mono hB.size)
  have hq := HSa.out
  generalize rsgI (rankR f x) = sa at *
  have dsa : decide (sa < 0) = false := by simpa using hq
  clear hq HSa
  clear hb
  refine hK _ _ ⟨⟨w8, hM⟩, rfl⟩ ?_
  clear hK K
  repeat (refine wpSched_calm rfl (fun K hK => ?_); go_simp; refine hK _ ?_; clear hK K)
  refine wpSched_geff rfl ?_ (fun K hK => ?_)
  · go_simp
  go_simp
  refine (qcmp_any _ _ (rankR f x) (rankR f y) (L + 13) (L + 13) _ (HV4.out.raw HZ4.out) (HV5.out.raw HZ5.out) (by omega) (by omega) (by omega)).mono ?_
  rintro e w9 ⟨rfl, hb⟩
  replace cA0 := bc hb ltA cA0
  replace cA1 := bc hb ltA cA1
  replace cA2 := bc hb ltA cA2
  replace ltA := bl hb ltA
  replace cB0 := bc hb ltB cB0
  replace cB1 := bc hb ltB cB1
  replace cB2 := bc hb ltB cB2
  replace ltB := bl hb ltB
  replace cC0 := bc hb ltC cC0
  replace cC1 := bc hb ltC cC1
  replace cC2 := bc hb ltC cC2
  replace ltC := bl hb ltC
  replace cP0 := bc hb ltP cP0
  replace fP0 := bf hb ltP fP0
  replace cP1 := bc hb ltP cP1
  replace fP1 := bf hb ltP fP1
  replace cP2 := bc hb ltP cP2
  replace fP2 := bf hb ltP fP2
  replace ltP := bl hb ltP
  replace cQ0 := bc hb ltQ cQ0
  replace fQ0 := bf hb ltQ fQ0
  replace cQ1 := bc hb ltQ cQ1
  replace fQ1 := bf hb ltQ fQ1
  replace cQ2 := bc hb ltQ cQ2
  replace fQ2 := bf hb ltQ fQ2
  replace ltQ := bl hb ltQ
  replace ca0 := bc hb lta ca0
  replace ca1 := bc hb lta ca1
  replace ca2 := bc hb lta ca2
  replace lta := bl hb lta
  replace cb0 := bc hb ltb cb0
  replace cb1 := bc hb ltb cb1
  replace cb2 := bc hb ltb cb2
  replace ltb := bl hb ltb
  replace cs0 := bc hb lts cs0
  replace cs1 := bc hb lts cs1
  replace cs2 := bc hb lts cs2
  replace lts := bl hb lts
  replace HI := Lib.hid (HI.out.below hb)
  replace HX := Lib.hid (HX.out.below hb)
  replace HY := Lib.hid (HY.out.below hb)
  replace HP := Lib.hid (HP.out.below hb)
  replace HV4 := Lib.hid (HV4.out.below hb)
  replace HV5 := Lib.hid (HV5.out.below hb)
  replace HV6 := Lib.hid (HV6.out.below hb)
  replace hM := hM.trans (hb.mono hM.size)
  replace hB := hB.trans (hb.mono hB.size)
  have hq := HCab.out
  generalize rcmpI (rankR f x) (rankR f y) = cab at *
  have dcab : decide (0 < cab) = false := by simpa using hq
  clear hq HCab
  clear hb
  refine hK _ _ ⟨⟨w9, hM⟩, rfl⟩ ?_
  clear hK K
  repeat (refine wpSched_calm rfl (fun K hK => ?_); go_simp; refine hK _ ?_; clear hK K)
  refine wpSched_geff rfl ?_ (fun K hK => ?_)
  · go_simp
  go_simp
  refine (part_any 1 1 _ (by omega) (by omega) (by omega) (by omega) (by omega)).mono ?_
  rintro e wa ⟨va, rfl, hv, hsz, hb⟩
  replace cA0 := bc hb ltA cA0
  replace cA1 := bc hb ltA cA1
  replace cA2 := bc hb ltA cA2
  replace ltA := bl hb ltA
  replace cB0 := bc hb ltB cB0
  replace cB1 := bc hb ltB cB1
  replace cB2 := bc hb ltB cB2
  replace ltB := bl hb ltB
  replace cC0 := bc hb ltC cC0
  replace cC1 := bc hb ltC cC1
  replace cC2 := bc hb ltC cC2
  replace ltC := bl hb ltC
  replace cP0 := bc hb ltP cP0
  replace fP0 := bf hb ltP fP0
  replace cP1 := bc hb ltP cP1
  replace fP1 := bf hb ltP fP1
  replace cP2 := bc hb ltP cP2
  replace fP2 := bf hb ltP fP2
  replace ltP := bl hb ltP
  replace cQ0 := bc hb ltQ cQ0
  replace fQ0 := bf hb ltQ fQ0
  replace cQ1 := bc hb ltQ cQ1
  replace fQ1 := bf hb ltQ fQ1
  replace cQ2 := bc hb ltQ cQ2
  replace fQ2 := bf hb ltQ fQ2
  replace ltQ := bl hb ltQ
  replace ca0 := bc hb lta ca0
  replace ca1 := bc hb lta ca1
  replace ca2 := bc hb lta ca2
  replace lta := bl hb lta
  replace cb0 := bc hb ltb cb0
  replace cb1 := bc hb ltb cb1
  replace cb2 := bc hb ltb cb2
  replace ltb := bl hb ltb
  replace cs0 := bc hb lts cs0
  replace cs1 := bc hb lts cs1
  replace cs2 := bc hb lts cs2
  replace lts := bl hb lts
  replace HI := Lib.hid (HI.out.below hb)
  replace HX := Lib.hid (HX.out.below hb)
  replace HY := Lib.hid (HY.out.below hb)
  replace HP := Lib.hid (HP.out.below hb)
  replace HV4 := Lib.hid (HV4.out.below hb)
  replace HV5 := Lib.hid (HV5.out.below hb)
  replace HV6 := Lib.hid (HV6.out.below hb)
  replace hM := hM.trans (hb.mono hM.size)
  replace hB := hB.trans (hb.mono hB.size)
  rw [HD1.out] at hv hsz
  have HVa := Lib.hid (hv.raw hsz)
  clear hv hsz
  clear hb
  refine hK _ _ ⟨⟨wa, hM⟩, rfl⟩ ?_
  clear hK K
  refine wpSched_geff rfl ?_ (fun K hK => ?_)
  · go_simp
  go_simp
  refine (qcmp_any _ _ (rankR f y) 1 (L + 13) 2 _ (HV5.out.raw HZ5.out) HVa.out (by omega) (by omega) (by omega)).mono ?_
  rintro e wb ⟨rfl, hb⟩
  replace cA0 := bc hb ltA cA0
  replace cA1 := bc hb ltA cA1
  replace cA2 := bc hb ltA cA2
  replace ltA := bl hb ltA
  replace cB0 := bc hb ltB cB0
  replace cB1 := bc hb ltB cB1
  replace cB2 := bc hb ltB cB2
  replace ltB := bl hb ltB
  replace cC0 := bc hb ltC cC0
  replace cC1 := bc hb ltC cC1
  replace cC2 := bc hb ltC cC2
  replace ltC := bl hb ltC
  replace cP0 := bc hb ltP cP0
  replace fP0 := bf hb ltP fP0
  replace cP1 := bc hb ltP cP1
  replace fP1 := bf hb ltP fP1
  replace cP2 := bc hb ltP cP2
  replace fP2 := bf hb ltP fP2
  replace ltP := bl hb ltP
  replace cQ0 := bc hb ltQ cQ0
  replace fQ0 := bf hb ltQ fQ0
  replace cQ1 := bc hb ltQ cQ1
  replace fQ1 := bf hb ltQ fQ1
  replace cQ2 := bc hb ltQ cQ2
  replace fQ2 := bf hb ltQ fQ2
  replace ltQ := bl hb ltQ
  replace ca0 := bc hb lta ca0
  replace ca1 := bc hb lta ca1
  replace ca2 := bc hb lta ca2
  replace lta := bl hb lta
  replace cb0 := bc hb ltb cb0
  replace cb1 := bc hb ltb cb1
  replace cb2 := bc hb ltb cb2
  replace ltb := bl hb ltb
  replace cs0 := bc hb lts cs0
  replace cs1 := bc hb lts cs1
  replace cs2 := bc hb lts cs2
  replace lts := bl hb lts
  replace HI := Lib.hid (HI.out.below hb)
  replace HX := Lib.hid (HX.out.below hb)
  replace HY := Lib.hid (HY.out.below hb)
  replace HP := Lib.hid (HP.out.below hb)
  replace HV4 := Lib.hid (HV4.out.below hb)
  replace HV5 := Lib.hid (HV5.out.below hb)
  replace HV6 := Lib.hid (HV6.out.below hb)
  replace HVa := Lib.hid (HVa.out.below hb)
  replace hM := hM.trans (hb.mono hM.size)
  replace hB := hB.trans (hb.mono hB.size)
  have hq := HCb.out
  generalize rcmpI (rankR f y) 1 = cb at *
  have dcb : decide (0 < cb) = false := by simpa using hq
  clear hq HCb
  clear hb
  refine hK _ _ ⟨⟨wb, hM⟩, rfl⟩ ?_
  clear hK K
  clear HVa
  repeat (refine wpSched_calm rfl (fun K hK => ?_); go_simp; refine hK _ ?_; clear hK K)
  refine wpSched_nil ?_
  clear eA0 eA1 eA2 eB0 eB1 eB2 eC0 eC1 eC2 eP0 eP1 eP2 eQ0 eQ1 eQ2 ea0 ea1 ea2 eb0 eb1 eb2 es0 es1 es2
  go_wp2_with fail
  have eA0 := box_ext (B := wb.heap.size) cA0 ltA
  have eA1 := box_ext (B := wb.heap.size) cA1 ltA
  have eA2 := box_ext (B := wb.heap.size) cA2 ltA
  have eB0 := box_ext (B := wb.heap.size) cB0 ltB
  have eB1 := box_ext (B := wb.heap.size) cB1 ltB
  have eB2 := box_ext (B := wb.heap.size) cB2 ltB
  have eC0 := box_ext (B := wb.heap.size) cC0 ltC
  have eC1 := box_ext (B := wb.heap.size) cC1 ltC
  have eC2 := box_ext (B := wb.heap.size) cC2 ltC
  have eP0 := box_ext (B := wb.heap.size) cP0 ltP
  have eP1 := box_ext (B := wb.heap.size) cP1 ltP
  have eP2 := box_ext (B := wb.heap.size) cP2 ltP
  have eQ0 := box_ext (B := wb.heap.size) cQ0 ltQ
  have eQ1 := box_ext (B := wb.heap.size) cQ1 ltQ
  have eQ2 := box_ext (B := wb.heap.size) cQ2 ltQ
  have ea0 := box_ext (B := wb.heap.size) ca0 lta
  have ea1 := box_ext (B := wb.heap.size) ca1 lta
  have ea2 := box_ext (B := wb.heap.size) ca2 lta
  have eb0 := box_ext (B := wb.heap.size) cb0 ltb
  have eb1 := box_ext (B := wb.heap.size) cb1 ltb
  have eb2 := box_ext (B := wb.heap.size) cb2 ltb
  have es0 := box_ext (B := wb.heap.size) cs0 lts
  have es1 := box_ext (B := wb.heap.size) cs1 lts
  have es2 := box_ext (B := wb.heap.size) cs2 lts
  refine wp_region_sched [(0, false), (1, true), (2, false), (3, false), (4, false), (5, true), (6, true), (7, false), (8, false)] (fun w' => ∃ W : Ext wb.heap.size wb, w' = W.1) (by kernel_rfl) (by kernel_rfl) ⟨⟨wb.drew, (Below.refl _ _).drew⟩, rfl⟩ ?_
  repeat (refine wpSched_calm rfl (fun K hK => ?_); go_simp; refine hK _ ?_; clear hK K)
  have hbx : Below wb.heap.size wb wb.drew := (Below.refl _ _).drew
  have hM := hbx
  replace cA0 := bc hbx ltA cA0
  replace cA1 := bc hbx ltA cA1
  replace cA2 := bc hbx ltA cA2
  replace ltA := bl hbx ltA
  replace cB0 := bc hbx ltB cB0
  replace cB1 := bc hbx ltB cB1
  replace cB2 := bc hbx ltB cB2
  replace ltB := bl hbx ltB
  replace cC0 := bc hbx ltC cC0
  replace cC1 := bc hbx ltC cC1
  replace cC2 := bc hbx ltC cC2
  replace ltC := bl hbx ltC
  replace cP0 := bc hbx ltP cP0
  replace fP0 := bf hbx ltP fP0
  replace cP1 := bc hbx ltP cP1
  replace fP1 := bf hbx ltP fP1
  replace cP2 := bc hbx ltP cP2
  replace fP2 := bf hbx ltP fP2
  replace ltP := bl hbx ltP
  replace cQ0 := bc hbx ltQ cQ0
  replace fQ0 := bf hbx ltQ fQ0
  replace cQ1 := bc hbx ltQ cQ1
  replace fQ1 := bf hbx ltQ fQ1
  replace cQ2 := bc hbx ltQ cQ2
  replace fQ2 := bf hbx ltQ fQ2
  replace ltQ := bl hbx ltQ
  replace ca0 := bc hbx lta ca0
  replace ca1 := bc hbx lta ca1
  replace ca2 := bc hbx lta ca2
  replace lta := bl hbx lta
  replace cb0 := bc hbx ltb cb0
  replace cb1 := bc hbx ltb cb1
  replace cb2 := bc hbx ltb cb2
  replace ltb := bl hbx ltb
  replace cs0 := bc hbx lts cs0
  replace cs1 := bc hbx lts cs1
  replace cs2 := bc hbx lts cs2
  replace lts := bl hbx lts
  replace HI := Lib.hid (HI.out.below hbx)
  replace HX := Lib.hid (HX.out.below hbx)
  replace HY := Lib.hid (HY.out.below hbx)
  replace HP := Lib.hid (HP.out.below hbx)
  replace HV4 := Lib.hid (HV4.out.below hbx)
  replace HV5 := Lib.hid (HV5.out.below hbx)
  replace HV6 := Lib.hid (HV6.out.below hbx)
  replace hB := hB.trans (hbx.mono hB.size)
  clear hbx
  generalize wb.drew = wwbd at *
  refine wpSched_eff rfl rfl (fun K hK => ?_)
  go_simp
  refine (qsign_any _ p L _ HP.out hL).mono ?_
  rintro e wc ⟨rfl, hb⟩
  replace cA0 := bc hb ltA cA0
  replace cA1 := bc hb ltA cA1
  replace cA2 := bc hb ltA cA2
  replace ltA := bl hb ltA
  replace cB0 := bc hb ltB cB0
  replace cB1 := bc hb ltB cB1
  replace cB2 := bc hb ltB cB2
  replace ltB := bl hb ltB
  replace cC0 := bc hb ltC cC0
  replace cC1 := bc hb ltC cC1
  replace cC2 := bc hb ltC cC2
  replace ltC := bl hb ltC
  replace cP0 := bc hb ltP cP0
  replace fP0 := bf hb ltP fP0
  replace cP1 := bc hb ltP cP1
  replace fP1 := bf hb ltP fP1
  replace cP2 := bc hb ltP cP2
  replace fP2 := bf hb ltP fP2
  replace ltP := bl hb ltP
  replace cQ0 := bc hb ltQ cQ0
  replace fQ0 := bf hb ltQ fQ0
  replace cQ1 := bc hb ltQ cQ1
  replace fQ1 := bf hb ltQ fQ1
  replace cQ2 := bc hb ltQ cQ2
  replace fQ2 := bf hb ltQ fQ2
  replace ltQ := bl hb ltQ
  replace ca0 := bc hb lta ca0
  replace ca1 := bc hb lta ca1
  replace ca2 := bc hb lta ca2
  replace lta := bl hb lta
  replace cb0 := bc hb ltb cb0
  replace cb1 := bc hb ltb cb1
  replace cb2 := bc hb ltb cb2
  replace ltb := bl hb ltb
  replace cs0 := bc hb lts cs0
  replace cs1 := bc hb lts cs1
  replace cs2 := bc hb lts cs2
  replace lts := bl hb lts
  replace HI := Lib.hid (HI.out.below hb)
  replace HX := Lib.hid (HX.out.below hb)
  replace HY := Lib.hid (HY.out.below hb)
  replace HP := Lib.hid (HP.out.below hb)
  replace HV4 := Lib.hid (HV4.out.below hb)
  replace HV5 := Lib.hid (HV5.out.below hb)
  replace HV6 := Lib.hid (HV6.out.below hb)
  replace hM := hM.trans (hb.mono hM.size)
  replace hB := hB.trans (hb.mono hB.size)
  have hq := HSp.out
  generalize rsgI p = sp at *
  have dsp : decide (sp < 0) = true := by simpa using hq
  clear hq HSp
  clear hb
  refine hK _ _ ⟨⟨wc, hM⟩, rfl⟩ ?_
  clear hK K
  repeat (refine wpSched_calm rfl (fun K hK => ?_); go_simp; refine hK _ ?_; clear hK K)
  refine wpSched_skip rfl ?_ ⟨⟨wc, hM⟩, rfl⟩ ?_
  · go_simp
  go_simp
  refine wpSched_skip rfl ?_ ⟨⟨wc, hM⟩, rfl⟩ ?_
  · go_simp
  go_simp
  repeat (refine wpSched_calm rfl (fun K hK => ?_); go_simp; refine hK _ ?_; clear hK K)
  refine wpSched_nil ?_
  clear eA0 eA1 eA2 eB0 eB1 eB2 eC0 eC1 eC2 eP0 eP1 eP2 eQ0 eQ1 eQ2 ea0 ea1 ea2 eb0 eb1 eb2 es0 es1 es2
  go_wp2_with fail
  refine (awake_any _).mono ?_
  rintro e wi ⟨rfl, hb⟩
  replace cA0 := bc hb ltA cA0
  replace cA1 := bc hb ltA cA1
  replace cA2 := bc hb ltA cA2
  replace ltA := bl hb ltA
  replace cB0 := bc hb ltB cB0
  replace cB1 := bc hb ltB cB1
  replace cB2 := bc hb ltB cB2
  replace ltB := bl hb ltB
  replace cC0 := bc hb ltC cC0
  replace cC1 := bc hb ltC cC1
  replace cC2 := bc hb ltC cC2
  replace ltC := bl hb ltC
  replace cP0 := bc hb ltP cP0
  replace fP0 := bf hb ltP fP0
  replace cP1 := bc hb ltP cP1
  replace fP1 := bf hb ltP fP1
  replace cP2 := bc hb ltP cP2
  replace fP2 := bf hb ltP fP2
  replace ltP := bl hb ltP
  replace cQ0 := bc hb ltQ cQ0
  replace fQ0 := bf hb ltQ fQ0
  replace cQ1 := bc hb ltQ cQ1
  replace fQ1 := bf hb ltQ fQ1
  replace cQ2 := bc hb ltQ cQ2
  replace fQ2 := bf hb ltQ fQ2
  replace ltQ := bl hb ltQ
  replace ca0 := bc hb lta ca0
  replace ca1 := bc hb lta ca1
  replace ca2 := bc hb lta ca2
  replace lta := bl hb lta
  replace cb0 := bc hb ltb cb0
  replace cb1 := bc hb ltb cb1
  replace cb2 := bc hb ltb cb2
  replace ltb := bl hb ltb
  replace cs0 := bc hb lts cs0
  replace cs1 := bc hb lts cs1
  replace cs2 := bc hb lts cs2
  replace lts := bl hb lts
  replace HI := Lib.hid (HI.out.below hb)
  replace HX := Lib.hid (HX.out.below hb)
  replace HY := Lib.hid (HY.out.below hb)
  replace HP := Lib.hid (HP.out.below hb)
  replace HV4 := Lib.hid (HV4.out.below hb)
  replace HV5 := Lib.hid (HV5.out.below hb)
  replace HV6 := Lib.hid (HV6.out.below hb)
  replace hB := hB.trans (hb.mono hB.size)
  clear hb
  go_wp2_with fail
  go_ret
  exact ⟨rfl, hB⟩
set_option maxHeartbeats 8000000 in
theorem shares_kv (f : List Int) (a : Option Addr) (len cap : Nat) (vx vy vp : Value) (x y p : Rat) (L : Nat) (w : World) (hI : Ints w a len cap f) (hx : RatV w vx x L) (hy : RatV w vy y L) (hp : RatV w vp p L) (hL : 1 ≤ L) (hm : (2 * L + 200) * 4 ≤ 140737488355328) (hc : decide (0 < rcmpI x y) = false) (hlh : x ≤ y) (hO : OkF f) (hpo : ¬ p < 0) (hpv : 1 < p) :
    Calls Try.prog 4 #[.slice a len cap, vx, vy, vp] w fun e w' => e = .returned (.bool true) ∧ Below w.heap.size w w' := by
  have HI := Lib.hid hI
  have HX := Lib.hid hx
  have HY := Lib.hid hy
  have HP := Lib.hid hp
  obtain ⟨negx, ax', lenx', capx', ax, lenx, capx, rfl, -, -⟩ := hx.form
  obtain ⟨negy, ay', leny', capy', ay, leny, capy, rfl, -, -⟩ := hy.form
  obtain ⟨negp, ap', lenp', capp', ap, lenp, capp, rfl, -, -⟩ := hp.form
  clear hI hx hy hp
  have HO := Lib.hid (eqE_OkF.2 hO)
  have HF := Lib.hid hO
  have HSa := Lib.hid (show ¬ rsgI (rankR f x) < 0 from fun h => absurd (sgI_lt.1 h) (by have := (rank_in hO x).1; grind))
  have HCab := Lib.hid (show ¬ 0 < rcmpI (rankR f x) (rankR f y) from fun h => absurd (cmpI_gt0.1 h) (by have := rank_mono hO hlh; grind))
  have HCb := Lib.hid (show ¬ 0 < rcmpI (rankR f y) 1 from fun h => absurd (cmpI_gt0.1 h) (by have := (rank_in hO y).2; grind))
  have HD1 := Lib.hid (show Rat.divInt 1 1 = (1 : Rat) by kernel_rfl)
  have HPo := Lib.hid (show ¬ (0 ≤ p ∧ p ≤ 1) from fun h => by grind)
  have HSp := Lib.hid (show ¬ rsgI p < 0 from fun h => hpo (sgI_lt.1 h))
  have HCp := Lib.hid (cmpI_gt0.2 hpv)
  clear hO hpo hpv hlh
  go_enter Try.func4, Try.ntmps4
  go_wp2_with fail
  have hbx : Below w.heap.size w (((w.alloc (.cells #[.bool negx, .slice ax' lenx' capx', .slice ax lenx capx] 33)).alloc (.cells #[.bool negy, .slice ay' leny' capy', .slice ay leny capy] 33)).alloc (.cells #[.bool negp, .slice ap' lenp' capp', .slice ap lenp capp] 33)) := ((((Below.refl _ _).alloc (Nat.le_refl _) _).alloc (by simp) _).alloc (by simp <;> omega) _)
  generalize hWW : (((w.alloc (.cells #[.bool negx, .slice ax' lenx' capx', .slice ax lenx capx] 33)).alloc (.cells #[.bool negy, .slice ay' leny' capy', .slice ay leny capy] 33)).alloc (.cells #[.bool negp, .slice ap' lenp' capp', .slice ap lenp capp] 33)) = w0 at *
  replace HI := Lib.hid (HI.out.below hbx)
  replace HX := Lib.hid (HX.out.below hbx)
  replace HY := Lib.hid (HY.out.below hbx)
  replace HP := Lib.hid (HP.out.below hbx)
  have cA0 : w0.cell? ⟨w.heap.size, 0, none⟩ = some (.bool negx) := by subst hWW; go_simp
  have cA1 : w0.cell? ⟨w.heap.size, 1, none⟩ = some (.slice ax' lenx' capx') := by subst hWW; go_simp
  have cA2 : w0.cell? ⟨w.heap.size, 2, none⟩ = some (.slice ax lenx capx) := by subst hWW; go_simp
  have ltA : w.heap.size < w0.heap.size := by subst hWW; simp <;> omega
  have cB0 : w0.cell? ⟨w.heap.size + 1, 0, none⟩ = some (.bool negy) := by subst hWW; go_simp
  have cB1 : w0.cell? ⟨w.heap.size + 1, 1, none⟩ = some (.slice ay' leny' capy') := by subst hWW; go_simp
  have cB2 : w0.cell? ⟨w.heap.size + 1, 2, none⟩ = some (.slice ay leny capy) := by subst hWW; go_simp
  have ltB : w.heap.size + 1 < w0.heap.size := by subst hWW; simp <;> omega
  have cC0 : w0.cell? ⟨w.heap.size + 1 + 1, 0, none⟩ = some (.bool negp) := by subst hWW; go_simp
  have cC1 : w0.cell? ⟨w.heap.size + 1 + 1, 1, none⟩ = some (.slice ap' lenp' capp') := by subst hWW; go_simp
  have cC2 : w0.cell? ⟨w.heap.size + 1 + 1, 2, none⟩ = some (.slice ap lenp capp) := by subst hWW; go_simp
  have ltC : w.heap.size + 1 + 1 < w0.heap.size := by subst hWW; simp
  have hB := hbx
  clear hbx hWW
  have SCA0 := Lib.hid cA0
  have SCA1 := Lib.hid cA1
  have SCA2 := Lib.hid cA2
  have SLA := Lib.hid ltA
  have SCB0 := Lib.hid cB0
  have SCB1 := Lib.hid cB1
  have SCB2 := Lib.hid cB2
  have SLB := Lib.hid ltB
  have SCC0 := Lib.hid cC0
  have SCC1 := Lib.hid cC1
  have SCC2 := Lib.hid cC2
  have SLC := Lib.hid ltC
  have SHI := Lib.hid HI.out
  have SHX := Lib.hid HX.out
  have SHY := Lib.hid HY.out
  have SHP := Lib.hid HP.out
  have SB := Lib.hid hB
  have eA0 := box_ext (B := w0.heap.size) cA0 ltA
  have eA1 := box_ext (B := w0.heap.size) cA1 ltA
  have eA2 := box_ext (B := w0.heap.size) cA2 ltA
  have eB0 := box_ext (B := w0.heap.size) cB0 ltB
  have eB1 := box_ext (B := w0.heap.size) cB1 ltB
  have eB2 := box_ext (B := w0.heap.size) cB2 ltB
  have eC0 := box_ext (B := w0.heap.size) cC0 ltC
  have eC1 := box_ext (B := w0.heap.size) cC1 ltC
  have eC2 := box_ext (B := w0.heap.size) cC2 ltC
  refine wp_region_float2 2 3 [(0, false), (1, false)] [(4, true), (5, true)] (fun w' => ∃ W : Ext w0.heap.size w0, w' = W.1) _ _ 9 10 (.cells #[.bool false, .slice none 0 0, .slice none 0 0] 33) (.cells #[.bool false, .slice none 0 0, .slice none 0 0] 33) w0.heap.size (by kernel_rfl) rfl rfl rfl rfl rfl rfl (fun a w => by simp [execOp, go_sem, ptr]) (fun a w => by simp [execOp, go_sem, ptr]) (fun w ⟨W, e⟩ => e ▸ W.2.size) (fun w ⟨W, e⟩ => ⟨⟨_, (e ▸ W.2).alloc (e ▸ W.2.size) _⟩, rfl⟩) (fun w ⟨W, e⟩ => ⟨⟨_, (e ▸ W.2).alloc (e ▸ W.2.size) _⟩, rfl⟩) (by decide) (by kernel_rfl) ⟨⟨w0.drew, (Below.refl _ _).drew⟩, rfl⟩ ?_
  repeat (refine wpFl2_calm rfl (fun K hK => ?_); go_simp; refine hK _ ?_; clear hK K)
  clear eA0 eA1 eA2 eB0 eB1 eB2 eC0 eC1 eC2
  have hbx : Below w0.heap.size w0 w0.drew := (Below.refl _ _).drew
  have hM := hbx
  replace cA0 := bc hbx ltA cA0
  replace cA1 := bc hbx ltA cA1
  replace cA2 := bc hbx ltA cA2
  replace ltA := bl hbx ltA
  replace cB0 := bc hbx ltB cB0
  replace cB1 := bc hbx ltB cB1
  replace cB2 := bc hbx ltB cB2
  replace ltB := bl hbx ltB
  replace cC0 := bc hbx ltC cC0
  replace cC1 := bc hbx ltC cC1
  replace cC2 := bc hbx ltC cC2
  replace ltC := bl hbx ltC
  replace HI := Lib.hid (HI.out.below hbx)
  replace HX := Lib.hid (HX.out.below hbx)
  replace HY := Lib.hid (HY.out.below hbx)
  replace HP := Lib.hid (HP.out.below hbx)
  replace hB := hB.trans (hbx.mono hB.size)
  clear hbx
  generalize w0.drew = ww0d at *
  refine wpFl2_nil fun gP gQ wy hC hg hBk hBk2 hge hge2 hgn => ?_
  obtain ⟨⟨wz, hE⟩, hwe⟩ := hC
  change wy = wz at hwe
  subst hwe
  replace cA0 := bc hg ltA cA0
  replace cA1 := bc hg ltA cA1
  replace cA2 := bc hg ltA cA2
  replace ltA := bl hg ltA
  replace cB0 := bc hg ltB cB0
  replace cB1 := bc hg ltB cB1
  replace cB2 := bc hg ltB cB2
  replace ltB := bl hg ltB
  replace cC0 := bc hg ltC cC0
  replace cC1 := bc hg ltC cC1
  replace cC2 := bc hg ltC cC2
  replace ltC := bl hg ltC
  replace HI := Lib.hid (HI.out.below hg)
  replace HX := Lib.hid (HX.out.below hg)
  replace HY := Lib.hid (HY.out.below hg)
  replace HP := Lib.hid (HP.out.below hg)
  replace hB := hB.trans (hg.mono hB.size)
  replace hM := hE
  clear hE hg
  have z0 := blk_cell hBk 0
  have y0 := blk_free hBk 0
  have z1 := blk_cell hBk 1
  have y1 := blk_free hBk 1
  have z2 := blk_cell hBk 2
  have y2 := blk_free hBk 2
  have v0 := blk_cell hBk2 0
  have u0 := blk_free hBk2 0
  have v1 := blk_cell hBk2 1
  have u1 := blk_free hBk2 1
  have v2 := blk_cell hBk2 2
  have u2 := blk_free hBk2 2
  simp at z0 z1 z2 v0 v1 v2
  have hgl := blk_lt hBk
  have hgl2 := blk_lt hBk2
  have hgn2 := Ne.symm hgn
  refine wpSched_eff rfl rfl (fun K hK => ?_)
  go_simp
  refine hK _ _ ⟨⟨_, (((hM.setCell (p := ⟨gP, 0, none⟩) hge _).setCell (p := ⟨gP, 1, none⟩) hge _).setCell (p := ⟨gP, 2, none⟩) hge _)⟩, rfl⟩ ?_
  clear hK K
  refine wpSched_eff rfl rfl (fun K hK => ?_)
  go_simp
  refine hK _ _ ⟨⟨_, ((((((hM.setCell (p := ⟨gP, 0, none⟩) hge _).setCell (p := ⟨gP, 1, none⟩) hge _).setCell (p := ⟨gP, 2, none⟩) hge _).setCell (p := ⟨gQ, 0, none⟩) hge2 _).setCell (p := ⟨gQ, 1, none⟩) hge2 _).setCell (p := ⟨gQ, 2, none⟩) hge2 _)⟩, rfl⟩ ?_
  clear hK K
  refine wpSched_nil ?_
  have hMn := ((((((hM.setCell (p := ⟨gP, 0, none⟩) hge (.bool negx)).setCell (p := ⟨gP, 1, none⟩) hge (.slice ax' lenx' capx')).setCell (p := ⟨gP, 2, none⟩) hge (.slice ax lenx capx)).setCell (p := ⟨gQ, 0, none⟩) hge2 (.bool negy)).setCell (p := ⟨gQ, 1, none⟩) hge2 (.slice ay' leny' capy')).setCell (p := ⟨gQ, 2, none⟩) hge2 (.slice ay leny capy))
  replace cA0 := bc hMn SLA.out SCA0.out
  replace cA1 := bc hMn SLA.out SCA1.out
  replace cA2 := bc hMn SLA.out SCA2.out
  replace ltA := bl hMn SLA.out
  replace cB0 := bc hMn SLB.out SCB0.out
  replace cB1 := bc hMn SLB.out SCB1.out
  replace cB2 := bc hMn SLB.out SCB2.out
  replace ltB := bl hMn SLB.out
  replace cC0 := bc hMn SLC.out SCC0.out
  replace cC1 := bc hMn SLC.out SCC1.out
  replace cC2 := bc hMn SLC.out SCC2.out
  replace ltC := bl hMn SLC.out
  replace HI := Lib.hid (SHI.out.below hMn)
  replace HX := Lib.hid (SHX.out.below hMn)
  replace HY := Lib.hid (SHY.out.below hMn)
  replace HP := Lib.hid (SHP.out.below hMn)
  replace hB := SB.out.trans (hMn.mono SB.out.size)
  have cP0 : ((((((wy.setCell ⟨gP, 0, none⟩ (.bool negx)).setCell ⟨gP, 1, none⟩ (.slice ax' lenx' capx')).setCell ⟨gP, 2, none⟩ (.slice ax lenx capx)).setCell ⟨gQ, 0, none⟩ (.bool negy)).setCell ⟨gQ, 1, none⟩ (.slice ay' leny' capy')).setCell ⟨gQ, 2, none⟩ (.slice ay leny capy)).cell? ⟨gP, 0, none⟩ = some (.bool negx) := by go_simp
  have fP0 : ((((((wy.setCell ⟨gP, 0, none⟩ (.bool negx)).setCell ⟨gP, 1, none⟩ (.slice ax' lenx' capx')).setCell ⟨gP, 2, none⟩ (.slice ax lenx capx)).setCell ⟨gQ, 0, none⟩ (.bool negy)).setCell ⟨gQ, 1, none⟩ (.slice ay' leny' capy')).setCell ⟨gQ, 2, none⟩ (.slice ay leny capy)).frozen? ⟨gP, 0, none⟩ = false := by go_simp
  have cP1 : ((((((wy.setCell ⟨gP, 0, none⟩ (.bool negx)).setCell ⟨gP, 1, none⟩ (.slice ax' lenx' capx')).setCell ⟨gP, 2, none⟩ (.slice ax lenx capx)).setCell ⟨gQ, 0, none⟩ (.bool negy)).setCell ⟨gQ, 1, none⟩ (.slice ay' leny' capy')).setCell ⟨gQ, 2, none⟩ (.slice ay leny capy)).cell? ⟨gP, 1, none⟩ = some (.slice ax' lenx' capx') := by go_simp
  have fP1 : ((((((wy.setCell ⟨gP, 0, none⟩ (.bool negx)).setCell ⟨gP, 1, none⟩ (.slice ax' lenx' capx')).setCell ⟨gP, 2, none⟩ (.slice ax lenx capx)).setCell ⟨gQ, 0, none⟩ (.bool negy)).setCell ⟨gQ, 1, none⟩ (.slice ay' leny' capy')).setCell ⟨gQ, 2, none⟩ (.slice ay leny capy)).frozen? ⟨gP, 1, none⟩ = false := by go_simp
  have cP2 : ((((((wy.setCell ⟨gP, 0, none⟩ (.bool negx)).setCell ⟨gP, 1, none⟩ (.slice ax' lenx' capx')).setCell ⟨gP, 2, none⟩ (.slice ax lenx capx)).setCell ⟨gQ, 0, none⟩ (.bool negy)).setCell ⟨gQ, 1, none⟩ (.slice ay' leny' capy')).setCell ⟨gQ, 2, none⟩ (.slice ay leny capy)).cell? ⟨gP, 2, none⟩ = some (.slice ax lenx capx) := by go_simp
  have fP2 : ((((((wy.setCell ⟨gP, 0, none⟩ (.bool negx)).setCell ⟨gP, 1, none⟩ (.slice ax' lenx' capx')).setCell ⟨gP, 2, none⟩ (.slice ax lenx capx)).setCell ⟨gQ, 0, none⟩ (.bool negy)).setCell ⟨gQ, 1, none⟩ (.slice ay' leny' capy')).setCell ⟨gQ, 2, none⟩ (.slice ay leny capy)).frozen? ⟨gP, 2, none⟩ = false := by go_simp
  have ltP : gP < ((((((wy.setCell ⟨gP, 0, none⟩ (.bool negx)).setCell ⟨gP, 1, none⟩ (.slice ax' lenx' capx')).setCell ⟨gP, 2, none⟩ (.slice ax lenx capx)).setCell ⟨gQ, 0, none⟩ (.bool negy)).setCell ⟨gQ, 1, none⟩ (.slice ay' leny' capy')).setCell ⟨gQ, 2, none⟩ (.slice ay leny capy)).heap.size := by simpa using hgl
  have cQ0 : ((((((wy.setCell ⟨gP, 0, none⟩ (.bool negx)).setCell ⟨gP, 1, none⟩ (.slice ax' lenx' capx')).setCell ⟨gP, 2, none⟩ (.slice ax lenx capx)).setCell ⟨gQ, 0, none⟩ (.bool negy)).setCell ⟨gQ, 1, none⟩ (.slice ay' leny' capy')).setCell ⟨gQ, 2, none⟩ (.slice ay leny capy)).cell? ⟨gQ, 0, none⟩ = some (.bool negy) := by go_simp
  have fQ0 : ((((((wy.setCell ⟨gP, 0, none⟩ (.bool negx)).setCell ⟨gP, 1, none⟩ (.slice ax' lenx' capx')).setCell ⟨gP, 2, none⟩ (.slice ax lenx capx)).setCell ⟨gQ, 0, none⟩ (.bool negy)).setCell ⟨gQ, 1, none⟩ (.slice ay' leny' capy')).setCell ⟨gQ, 2, none⟩ (.slice ay leny capy)).frozen? ⟨gQ, 0, none⟩ = false := by go_simp
  have cQ1 : ((((((wy.setCell ⟨gP, 0, none⟩ (.bool negx)).setCell ⟨gP, 1, none⟩ (.slice ax' lenx' capx')).setCell ⟨gP, 2, none⟩ (.slice ax lenx capx)).setCell ⟨gQ, 0, none⟩ (.bool negy)).setCell ⟨gQ, 1, none⟩ (.slice ay' leny' capy')).setCell ⟨gQ, 2, none⟩ (.slice ay leny capy)).cell? ⟨gQ, 1, none⟩ = some (.slice ay' leny' capy') := by go_simp
  have fQ1 : ((((((wy.setCell ⟨gP, 0, none⟩ (.bool negx)).setCell ⟨gP, 1, none⟩ (.slice ax' lenx' capx')).setCell ⟨gP, 2, none⟩ (.slice ax lenx capx)).setCell ⟨gQ, 0, none⟩ (.bool negy)).setCell ⟨gQ, 1, none⟩ (.slice ay' leny' capy')).setCell ⟨gQ, 2, none⟩ (.slice ay leny capy)).frozen? ⟨gQ, 1, none⟩ = false := by go_simp
  have cQ2 : ((((((wy.setCell ⟨gP, 0, none⟩ (.bool negx)).setCell ⟨gP, 1, none⟩ (.slice ax' lenx' capx')).setCell ⟨gP, 2, none⟩ (.slice ax lenx capx)).setCell ⟨gQ, 0, none⟩ (.bool negy)).setCell ⟨gQ, 1, none⟩ (.slice ay' leny' capy')).setCell ⟨gQ, 2, none⟩ (.slice ay leny capy)).cell? ⟨gQ, 2, none⟩ = some (.slice ay leny capy) := by go_simp
  have fQ2 : ((((((wy.setCell ⟨gP, 0, none⟩ (.bool negx)).setCell ⟨gP, 1, none⟩ (.slice ax' lenx' capx')).setCell ⟨gP, 2, none⟩ (.slice ax lenx capx)).setCell ⟨gQ, 0, none⟩ (.bool negy)).setCell ⟨gQ, 1, none⟩ (.slice ay' leny' capy')).setCell ⟨gQ, 2, none⟩ (.slice ay leny capy)).frozen? ⟨gQ, 2, none⟩ = false := by go_simp
  have ltQ : gQ < ((((((wy.setCell ⟨gP, 0, none⟩ (.bool negx)).setCell ⟨gP, 1, none⟩ (.slice ax' lenx' capx')).setCell ⟨gP, 2, none⟩ (.slice ax lenx capx)).setCell ⟨gQ, 0, none⟩ (.bool negy)).setCell ⟨gQ, 1, none⟩ (.slice ay' leny' capy')).setCell ⟨gQ, 2, none⟩ (.slice ay leny capy)).heap.size := by simpa using hgl2
  have nePA : w.heap.size < gP := Nat.lt_of_lt_of_le SLA.out hge
  have neQA : w.heap.size < gQ := Nat.lt_of_lt_of_le SLA.out hge2
  have nePB : w.heap.size + 1 < gP := Nat.lt_of_lt_of_le SLB.out hge
  have neQB : w.heap.size + 1 < gQ := Nat.lt_of_lt_of_le SLB.out hge2
  have nePC : w.heap.size + 1 + 1 < gP := Nat.lt_of_lt_of_le SLC.out hge
  have neQC : w.heap.size + 1 + 1 < gQ := Nat.lt_of_lt_of_le SLC.out hge2
  have hP := hMn
  clear hMn hM hBk hBk2 hgl hgl2 z0 y0 z1 y1 z2 y2 v0 u0 v1 u1 v2 u2
  go_wp2_with fail
  generalize ((((((wy.setCell ⟨gP, 0, none⟩ (.bool negx)).setCell ⟨gP, 1, none⟩ (.slice ax' lenx' capx')).setCell ⟨gP, 2, none⟩ (.slice ax lenx capx)).setCell ⟨gQ, 0, none⟩ (.bool negy)).setCell ⟨gQ, 1, none⟩ (.slice ay' leny' capy')).setCell ⟨gQ, 2, none⟩ (.slice ay leny capy)) = w1 at *
  refine (qcmp_any _ _ x y L L _ HX.out HY.out hL hL (by omega)).mono ?_
  rintro e w2 ⟨rfl, hb⟩
  replace cA0 := bc hb ltA cA0
  replace cA1 := bc hb ltA cA1
  replace cA2 := bc hb ltA cA2
  replace ltA := bl hb ltA
  replace cB0 := bc hb ltB cB0
  replace cB1 := bc hb ltB cB1
  replace cB2 := bc hb ltB cB2
  replace ltB := bl hb ltB
  replace cC0 := bc hb ltC cC0
  replace cC1 := bc hb ltC cC1
  replace cC2 := bc hb ltC cC2
  replace ltC := bl hb ltC
  replace cP0 := bc hb ltP cP0
  replace fP0 := bf hb ltP fP0
  replace cP1 := bc hb ltP cP1
  replace fP1 := bf hb ltP fP1
  replace cP2 := bc hb ltP cP2
  replace fP2 := bf hb ltP fP2
  replace ltP := bl hb ltP
  replace cQ0 := bc hb ltQ cQ0
  replace fQ0 := bf hb ltQ fQ0
  replace cQ1 := bc hb ltQ cQ1
  replace fQ1 := bf hb ltQ fQ1
  replace cQ2 := bc hb ltQ cQ2
  replace fQ2 := bf hb ltQ fQ2
  replace ltQ := bl hb ltQ
  replace HI := Lib.hid (HI.out.below hb)
  replace HX := Lib.hid (HX.out.below hb)
  replace HY := Lib.hid (HY.out.below hb)
  replace HP := Lib.hid (HP.out.below hb)
  replace hB := hB.trans (hb.mono hB.size)
  replace hP := hP.trans (hb.mono hP.size)
  generalize rcmpI x y = cc at *
  clear hb
  go_wp2_with fail
  clear hP
  refine (erank_any f a len cap _ x (L) _ HI.out HX.out (by omega) (by omega) HF.out).mono ?_
  rintro e w4 ⟨v4, rfl, hv, hsz, hb⟩
  replace cA0 := bc hb ltA cA0
  replace cA1 := bc hb ltA cA1
  replace cA2 := bc hb ltA cA2
  replace ltA := bl hb ltA
  replace cB0 := bc hb ltB cB0
  replace cB1 := bc hb ltB cB1
  replace cB2 := bc hb ltB cB2
  replace ltB := bl hb ltB
  replace cC0 := bc hb ltC cC0
  replace cC1 := bc hb ltC cC1
  replace cC2 := bc hb ltC cC2
  replace ltC := bl hb ltC
  replace cP0 := bc hb ltP cP0
  replace fP0 := bf hb ltP fP0
  replace cP1 := bc hb ltP cP1
  replace fP1 := bf hb ltP fP1
  replace cP2 := bc hb ltP cP2
  replace fP2 := bf hb ltP fP2
  replace ltP := bl hb ltP
  replace cQ0 := bc hb ltQ cQ0
  replace fQ0 := bf hb ltQ fQ0
  replace cQ1 := bc hb ltQ cQ1
  replace fQ1 := bf hb ltQ fQ1
  replace cQ2 := bc hb ltQ cQ2
  replace fQ2 := bf hb ltQ fQ2
  replace ltQ := bl hb ltQ
  replace HI := Lib.hid (HI.out.below hb)
  replace HX := Lib.hid (HX.out.below hb)
  replace HY := Lib.hid (HY.out.below hb)
  replace HP := Lib.hid (HP.out.below hb)
  replace hB := hB.trans (hb.mono hB.size)
  have HZ4 := Lib.hid hsz
  have HV4 := Lib.hid (hv.mono (Nat.zero_le _))
  obtain ⟨p4', m4', q4', p4, m4, q4, rfl, -, -, -, -⟩ := hv
  generalize decide ((rankR f x : Rat).num < 0) = d4 at *
  clear hsz
  clear hb
  go_wp2_with fail
  have hbx : Below w4.heap.size w4 (w4.alloc (.cells #[.bool d4, .slice p4' m4' q4', .slice p4 m4 q4] 33)) := ((Below.refl _ _).alloc (Nat.le_refl _) _)
  generalize hWW : (w4.alloc (.cells #[.bool d4, .slice p4' m4' q4', .slice p4 m4 q4] 33)) = w4a at *
  replace cA0 := bc hbx ltA cA0
  replace cA1 := bc hbx ltA cA1
  replace cA2 := bc hbx ltA cA2
  replace ltA := bl hbx ltA
  replace cB0 := bc hbx ltB cB0
  replace cB1 := bc hbx ltB cB1
  replace cB2 := bc hbx ltB cB2
  replace ltB := bl hbx ltB
  replace cC0 := bc hbx ltC cC0
  replace cC1 := bc hbx ltC cC1
  replace cC2 := bc hbx ltC cC2
  replace ltC := bl hbx ltC
  replace cP0 := bc hbx ltP cP0
  replace fP0 := bf hbx ltP fP0
  replace cP1 := bc hbx ltP cP1
  replace fP1 := bf hbx ltP fP1
  replace cP2 := bc hbx ltP cP2
  replace fP2 := bf hbx ltP fP2
  replace ltP := bl hbx ltP
  replace cQ0 := bc hbx ltQ cQ0
  replace fQ0 := bf hbx ltQ fQ0
  replace cQ1 := bc hbx ltQ cQ1
  replace fQ1 := bf hbx ltQ fQ1
  replace cQ2 := bc hbx ltQ cQ2
  replace fQ2 := bf hbx ltQ fQ2
  replace ltQ := bl hbx ltQ
  replace HI := Lib.hid (HI.out.below hbx)
  replace HX := Lib.hid (HX.out.below hbx)
  replace HY := Lib.hid (HY.out.below hbx)
  replace HP := Lib.hid (HP.out.below hbx)
  replace HV4 := Lib.hid (HV4.out.below hbx)
  have ca0 : w4a.cell? ⟨w4.heap.size, 0, none⟩ = some (.bool d4) := by subst hWW; go_simp
  have ca1 : w4a.cell? ⟨w4.heap.size, 1, none⟩ = some (.slice p4' m4' q4') := by subst hWW; go_simp
  have ca2 : w4a.cell? ⟨w4.heap.size, 2, none⟩ = some (.slice p4 m4 q4) := by subst hWW; go_simp
  have lta : w4.heap.size < w4a.heap.size := by subst hWW; simp
  replace hB := hB.trans (hbx.mono hB.size)
  clear hbx hWW
  refine (erank_any f a len cap _ y (L) _ HI.out HY.out (by omega) (by omega) HF.out).mono ?_
  rintro e w5 ⟨v5, rfl, hv, hsz, hb⟩
  replace cA0 := bc hb ltA cA0
  replace cA1 := bc hb ltA cA1
  replace cA2 := bc hb ltA cA2
  replace ltA := bl hb ltA
  replace cB0 := bc hb ltB cB0
  replace cB1 := bc hb ltB cB1
  replace cB2 := bc hb ltB cB2
  replace ltB := bl hb ltB
  replace cC0 := bc hb ltC cC0
  replace cC1 := bc hb ltC cC1
  replace cC2 := bc hb ltC cC2
  replace ltC := bl hb ltC
  replace cP0 := bc hb ltP cP0
  replace fP0 := bf hb ltP fP0
  replace cP1 := bc hb ltP cP1
  replace fP1 := bf hb ltP fP1
  replace cP2 := bc hb ltP cP2
  replace fP2 := bf hb ltP fP2
  replace ltP := bl hb ltP
  replace cQ0 := bc hb ltQ cQ0
  replace fQ0 := bf hb ltQ fQ0
  replace cQ1 := bc hb ltQ cQ1
  replace fQ1 := bf hb ltQ fQ1
  replace cQ2 := bc hb ltQ cQ2
  replace fQ2 := bf hb ltQ fQ2
  replace ltQ := bl hb ltQ
  replace ca0 := bc hb lta ca0
  replace ca1 := bc hb lta ca1
  replace ca2 := bc hb lta ca2
  replace lta := bl hb lta
  replace HI := Lib.hid (HI.out.below hb)
  replace HX := Lib.hid (HX.out.below hb)
  replace HY := Lib.hid (HY.out.below hb)
  replace HP := Lib.hid (HP.out.below hb)
  replace HV4 := Lib.hid (HV4.out.below hb)
  replace hB := hB.trans (hb.mono hB.size)
  have HZ5 := Lib.hid hsz
  have HV5 := Lib.hid (hv.mono (Nat.zero_le _))
  obtain ⟨p5', m5', q5', p5, m5, q5, rfl, -, -, -, -⟩ := hv
  generalize decide ((rankR f y : Rat).num < 0) = d5 at *
  clear hsz
  clear hb
  go_wp2_with fail
  have hbx : Below w5.heap.size w5 (w5.alloc (.cells #[.bool d5, .slice p5' m5' q5', .slice p5 m5 q5] 33)) := ((Below.refl _ _).alloc (Nat.le_refl _) _)
  generalize hWW : (w5.alloc (.cells #[.bool d5, .slice p5' m5' q5', .slice p5 m5 q5] 33)) = w5a at *
  replace cA0 := bc hbx ltA cA0
  replace cA1 := bc hbx ltA cA1
  replace cA2 := bc hbx ltA cA2
  replace ltA := bl hbx ltA
  replace cB0 := bc hbx ltB cB0
  replace cB1 := bc hbx ltB cB1
  replace cB2 := bc hbx ltB cB2
  replace ltB := bl hbx ltB
  replace cC0 := bc hbx ltC cC0
  replace cC1 := bc hbx ltC cC1
  replace cC2 := bc hbx ltC cC2
  replace ltC := bl hbx ltC
  replace cP0 := bc hbx ltP cP0
  replace fP0 := bf hbx ltP fP0
  replace cP1 := bc hbx ltP cP1
  replace fP1 := bf hbx ltP fP1
  replace cP2 := bc hbx ltP cP2
  replace fP2 := bf hbx ltP fP2
  replace ltP := bl hbx ltP
  replace cQ0 := bc hbx ltQ cQ0
  replace fQ0 := bf hbx ltQ fQ0
  replace cQ1 := bc hbx ltQ cQ1
  replace fQ1 := bf hbx ltQ fQ1
  replace cQ2 := bc hbx ltQ cQ2
  replace fQ2 := bf hbx ltQ fQ2
  replace ltQ := bl hbx ltQ
  replace ca0 := bc hbx lta ca0
  replace ca1 := bc hbx lta ca1
  replace ca2 := bc hbx lta ca2
  replace lta := bl hbx lta
  replace HI := Lib.hid (HI.out.below hbx)
  replace HX := Lib.hid (HX.out.below hbx)
  replace HY := Lib.hid (HY.out.below hbx)
  replace HP := Lib.hid (HP.out.below hbx)
  replace HV4 := Lib.hid (HV4.out.below hbx)
  replace HV5 := Lib.hid (HV5.out.below hbx)
  have cb0 : w5a.cell? ⟨w5.heap.size, 0, none⟩ = some (.bool d5) := by subst hWW; go_simp
  have cb1 : w5a.cell? ⟨w5.heap.size, 1, none⟩ = some (.slice p5' m5' q5') := by subst hWW; go_simp
  have cb2 : w5a.cell? ⟨w5.heap.size, 2, none⟩ = some (.slice p5 m5 q5) := by subst hWW; go_simp
  have ltb : w5.heap.size < w5a.heap.size := by subst hWW; simp
  replace hB := hB.trans (hbx.mono hB.size)
  clear hbx hWW
  refine (einv_out f a len cap _ p L _ HI.out HP.out hL (by omega) HF.out HPo.out).mono ?_
  rintro e w6 ⟨v6, rfl, hv, hb⟩
  replace cA0 := bc hb ltA cA0
  replace cA1 := bc hb ltA cA1
  replace cA2 := bc hb ltA cA2
  replace ltA := bl hb ltA
  replace cB0 := bc hb ltB cB0
  replace cB1 := bc hb ltB cB1
  replace cB2 := bc hb ltB cB2
  replace ltB := bl hb ltB
  replace cC0 := bc hb ltC cC0
  replace cC1 := bc hb ltC cC1
  replace cC2 := bc hb ltC cC2
  replace ltC := bl hb ltC
  replace cP0 := bc hb ltP cP0
  replace fP0 := bf hb ltP fP0
  replace cP1 := bc hb ltP cP1
  replace fP1 := bf hb ltP fP1
  replace cP2 := bc hb ltP cP2
  replace fP2 := bf hb ltP fP2
  replace ltP := bl hb ltP
  replace cQ0 := bc hb ltQ cQ0
  replace fQ0 := bf hb ltQ fQ0
  replace cQ1 := bc hb ltQ cQ1
  replace fQ1 := bf hb ltQ fQ1
  replace cQ2 := bc hb ltQ cQ2
  replace fQ2 := bf hb ltQ fQ2
  replace ltQ := bl hb ltQ
  replace ca0 := bc hb lta ca0
  replace ca1 := bc hb lta ca1
  replace ca2 := bc hb lta ca2
  replace lta := bl hb lta
  replace cb0 := bc hb ltb cb0
  replace cb1 := bc hb ltb cb1
  replace cb2 := bc hb ltb cb2
  replace ltb := bl hb ltb
  replace HI := Lib.hid (HI.out.below hb)
  replace HX := Lib.hid (HX.out.below hb)
  replace HY := Lib.hid (HY.out.below hb)
  replace HP := Lib.hid (HP.out.below hb)
  replace HV4 := Lib.hid (HV4.out.below hb)
  replace HV5 := Lib.hid (HV5.out.below hb)
  replace hB := hB.trans (hb.mono hB.size)
  have HV6 := Lib.hid (hv.mono (Nat.zero_le _))
  obtain ⟨p6', m6', q6', p6, m6, q6, rfl, -, -, -, -⟩ := hv
  generalize decide ((0 : Rat).num < 0) = d6 at *
  clear hb
  go_wp2_with fail
  have hbx : Below w6.heap.size w6 (w6.alloc (.cells #[.bool d6, .slice p6' m6' q6', .slice p6 m6 q6] 33)) := ((Below.refl _ _).alloc (Nat.le_refl _) _)
  generalize hWW : (w6.alloc (.cells #[.bool d6, .slice p6' m6' q6', .slice p6 m6 q6] 33)) = w6a at *
  replace cA0 := bc hbx ltA cA0
  replace cA1 := bc hbx ltA cA1
  replace cA2 := bc hbx ltA cA2
  replace ltA := bl hbx ltA
  replace cB0 := bc hbx ltB cB0
  replace cB1 := bc hbx ltB cB1
  replace cB2 := bc hbx ltB cB2
  replace ltB := bl hbx ltB
  replace cC0 := bc hbx ltC cC0
  replace cC1 := bc hbx ltC cC1
  replace cC2 := bc hbx ltC cC2
  replace ltC := bl hbx ltC
  replace cP0 := bc hbx ltP cP0
  replace fP0 := bf hbx ltP fP0
  replace cP1 := bc hbx ltP cP1
  replace fP1 := bf hbx ltP fP1
  replace cP2 := bc hbx ltP cP2
  replace fP2 := bf hbx ltP fP2
  replace ltP := bl hbx ltP
  replace cQ0 := bc hbx ltQ cQ0
  replace fQ0 := bf hbx ltQ fQ0
  replace cQ1 := bc hbx ltQ cQ1
  replace fQ1 := bf hbx ltQ fQ1
  replace cQ2 := bc hbx ltQ cQ2
  replace fQ2 := bf hbx ltQ fQ2
  replace ltQ := bl hbx ltQ
  replace ca0 := bc hbx lta ca0
  replace ca1 := bc hbx lta ca1
  replace ca2 := bc hbx lta ca2
  replace lta := bl hbx lta
  replace cb0 := bc hbx ltb cb0
  replace cb1 := bc hbx ltb cb1
  replace cb2 := bc hbx ltb cb2
  replace ltb := bl hbx ltb
  replace HI := Lib.hid (HI.out.below hbx)
  replace HX := Lib.hid (HX.out.below hbx)
  replace HY := Lib.hid (HY.out.below hbx)
  replace HP := Lib.hid (HP.out.below hbx)
  replace HV4 := Lib.hid (HV4.out.below hbx)
  replace HV5 := Lib.hid (HV5.out.below hbx)
  replace HV6 := Lib.hid (HV6.out.below hbx)
  have cs0 : w6a.cell? ⟨w6.heap.size, 0, none⟩ = some (.bool d6) := by subst hWW; go_simp
  have cs1 : w6a.cell? ⟨w6.heap.size, 1, none⟩ = some (.slice p6' m6' q6') := by subst hWW; go_simp
  have cs2 : w6a.cell? ⟨w6.heap.size, 2, none⟩ = some (.slice p6 m6 q6) := by subst hWW; go_simp
  have lts : w6.heap.size < w6a.heap.size := by subst hWW; simp
  replace hB := hB.trans (hbx.mono hB.size)
  clear hbx hWW
  refine (evalid_b f a len cap _ HI.out).mono ?_
  rintro e w7 ⟨rfl, hb⟩
  replace cA0 := bc hb ltA cA0
  replace cA1 := bc hb ltA cA1
  replace cA2 := bc hb ltA cA2
  replace ltA := bl hb ltA
  replace cB0 := bc hb ltB cB0
  replace cB1 := bc hb ltB cB1
  replace cB2 := bc hb ltB cB2
  replace ltB := bl hb ltB
  replace cC0 := bc hb ltC cC0
  replace cC1 := bc hb ltC cC1
  replace cC2 := bc hb ltC cC2
  replace ltC := bl hb ltC
  replace cP0 := bc hb ltP cP0
  replace fP0 := bf hb ltP fP0
  replace cP1 := bc hb ltP cP1
  replace fP1 := bf hb ltP fP1
  replace cP2 := bc hb ltP cP2
  replace fP2 := bf hb ltP fP2
  replace ltP := bl hb ltP
  replace cQ0 := bc hb ltQ cQ0
  replace fQ0 := bf hb ltQ fQ0
  replace cQ1 := bc hb ltQ cQ1
  replace fQ1 := bf hb ltQ fQ1
  replace cQ2 := bc hb ltQ cQ2
  replace fQ2 := bf hb ltQ fQ2
  replace ltQ := bl hb ltQ
  replace ca0 := bc hb lta ca0
  replace ca1 := bc hb lta ca1
  replace ca2 := bc hb lta ca2
  replace lta := bl hb lta
  replace cb0 := bc hb ltb cb0
  replace cb1 := bc hb ltb cb1
  replace cb2 := bc hb ltb cb2
  replace ltb := bl hb ltb
  replace cs0 := bc hb lts cs0
  replace cs1 := bc hb lts cs1
  replace cs2 := bc hb lts cs2
  replace lts := bl hb lts
  replace HI := Lib.hid (HI.out.below hb)
  replace HX := Lib.hid (HX.out.below hb)
  replace HY := Lib.hid (HY.out.below hb)
  replace HP := Lib.hid (HP.out.below hb)
  replace HV4 := Lib.hid (HV4.out.below hb)
  replace HV5 := Lib.hid (HV5.out.below hb)
  replace HV6 := Lib.hid (HV6.out.below hb)
  replace hB := hB.trans (hb.mono hB.size)
  rw [HO.out]
  clear hb
  go_wp2_with fail
  have eA0 := box_ext (B := w7.heap.size) cA0 ltA
  have eA1 := box_ext (B := w7.heap.size) cA1 ltA
  have eA2 := box_ext (B := w7.heap.size) cA2 ltA
  have eB0 := box_ext (B := w7.heap.size) cB0 ltB
  have eB1 := box_ext (B := w7.heap.size) cB1 ltB
  have eB2 := box_ext (B := w7.heap.size) cB2 ltB
  have eC0 := box_ext (B := w7.heap.size) cC0 ltC
  have eC1 := box_ext (B := w7.heap.size) cC1 ltC
  have eC2 := box_ext (B := w7.heap.size) cC2 ltC
  have eP0 := box_ext (B := w7.heap.size) cP0 ltP
  have eP1 := box_ext (B := w7.heap.size) cP1 ltP
  have eP2 := box_ext (B := w7.heap.size) cP2 ltP
  have eQ0 := box_ext (B := w7.heap.size) cQ0 ltQ
  have eQ1 := box_ext (B := w7.heap.size) cQ1 ltQ
  have eQ2 := box_ext (B := w7.heap.size) cQ2 ltQ
  have ea0 := box_ext (B := w7.heap.size) ca0 lta
  have ea1 := box_ext (B := w7.heap.size) ca1 lta
  have ea2 := box_ext (B := w7.heap.size) ca2 lta
  have eb0 := box_ext (B := w7.heap.size) cb0 ltb
  have eb1 := box_ext (B := w7.heap.size) cb1 ltb
  have eb2 := box_ext (B := w7.heap.size) cb2 ltb
  have es0 := box_ext (B := w7.heap.size) cs0 lts
  have es1 := box_ext (B := w7.heap.size) cs1 lts
  have es2 := box_ext (B := w7.heap.size) cs2 lts
  refine wp_region_sched [(0, false), (1, true), (2, false), (3, false), (4, false), (5, false), (6, true), (7, false), (8, false), (9, false), (10, false), (11, true), (12, true), (13, false), (14, false)] (fun w' => ∃ W : Ext w7.heap.size w7, w' = W.1) (by kernel_rfl) (by kernel_rfl) ⟨⟨w7.drew, (Below.refl _ _).drew⟩, rfl⟩ ?_
  repeat (refine wpSched_calm rfl (fun K hK => ?_); go_simp; refine hK _ ?_; clear hK K)
  have hbx : Below w7.heap.size w7 w7.drew := (Below.refl _ _).drew
  have hM := hbx
  replace cA0 := bc hbx ltA cA0
  replace cA1 := bc hbx ltA cA1
  replace cA2 := bc hbx ltA cA2
  replace ltA := bl hbx ltA
  replace cB0 := bc hbx ltB cB0
  replace cB1 := bc hbx ltB cB1
  replace cB2 := bc hbx ltB cB2
  replace ltB := bl hbx ltB
  replace cC0 := bc hbx ltC cC0
  replace cC1 := bc hbx ltC cC1
  replace cC2 := bc hbx ltC cC2
  replace ltC := bl hbx ltC
  replace cP0 := bc hbx ltP cP0
  replace fP0 := bf hbx ltP fP0
  replace cP1 := bc hbx ltP cP1
  replace fP1 := bf hbx ltP fP1
  replace cP2 := bc hbx ltP cP2
  replace fP2 := bf hbx ltP fP2
  replace ltP := bl hbx ltP
  replace cQ0 := bc hbx ltQ cQ0
  replace fQ0 := bf hbx ltQ fQ0
  replace cQ1 := bc hbx ltQ cQ1
  replace fQ1 := bf hbx ltQ fQ1
  replace cQ2 := bc hbx ltQ cQ2
  replace fQ2 := bf hbx ltQ fQ2
  replace ltQ := bl hbx ltQ
  replace ca0 := bc hbx lta ca0
  replace ca1 := bc hbx lta ca1
  replace ca2 := bc hbx lta ca2
  replace lta := bl hbx lta
  replace cb0 := bc hbx ltb cb0
  replace cb1 := bc hbx ltb cb1
  replace cb2 := bc hbx ltb cb2
  replace ltb := bl hbx ltb
  replace cs0 := bc hbx lts cs0
  replace cs1 := bc hbx lts cs1
  replace cs2 := bc hbx lts cs2
  replace lts := bl hbx lts
  replace HI := Lib.hid (HI.out.below hbx)
  replace HX := Lib.hid (HX.out.below hbx)
  replace HY := Lib.hid (HY.out.below hbx)
  replace HP := Lib.hid (HP.out.below hbx)
  replace HV4 := Lib.hid (HV4.out.below hbx)
  replace HV5 := Lib.hid (HV5.out.below hbx)
  replace HV6 := Lib.hid (HV6.out.below hbx)
  replace hB := hB.trans (hbx.mono hB.size)
  clear hbx
  generalize w7.drew = ww7d at *
  refine wpSched_eff rfl rfl (fun K hK => ?_)
  go_simp
  refine (qsign_any _ (rankR f x) (L + 13) _ (HV4.out.raw HZ4.out) (by omega)).mono ?_
  rintro e w8 ⟨rfl, hb⟩
  replace cA0 := bc hb ltA cA0
  replace cA1 := bc hb ltA cA1
  replace cA2 := bc hb ltA cA2
  replace ltA := bl hb ltA
  replace cB0 := bc hb ltB cB0
  replace cB1 := bc hb ltB cB1
  replace cB2 := bc hb ltB cB2
  replace ltB := bl hb ltB
  replace cC0 := bc hb ltC cC0
  replace cC1 := bc hb ltC cC1
  replace cC2 := bc hb ltC cC2
  replace ltC := bl hb ltC
  replace cP0 := bc hb ltP cP0
  replace fP0 := bf hb ltP fP0
  replace cP1 := bc hb ltP cP1
  replace fP1 := bf hb ltP fP1
  replace cP2 := bc hb ltP cP2
  replace fP2 := bf hb ltP fP2
  replace ltP := bl hb ltP
  replace cQ0 := bc hb ltQ cQ0
  replace fQ0 := bf hb ltQ fQ0
  replace cQ1 := bc hb ltQ cQ1
  replace fQ1 := bf hb ltQ fQ1
  replace cQ2 := bc hb ltQ cQ2
  replace fQ2 := bf hb ltQ fQ2
  replace ltQ := bl hb ltQ
  replace ca0 := bc hb lta ca0
  replace ca1 := bc hb lta ca1
  replace ca2 := bc hb lta ca2
  replace lta := bl hb lta
  replace cb0 := bc hb ltb cb0
  replace cb1 := bc hb ltb cb1
  replace cb2 := bc hb ltb cb2
  replace ltb := bl hb ltb
  replace cs0 := bc hb lts cs0
  replace cs1 := bc hb lts cs1
  replace cs2 := bc hb lts cs2
  replace lts := bl hb lts
  replace HI := Lib.hid (HI.out.below hb)
  replace HX := Lib.hid (HX.out.below hb)
  replace HY := Lib.hid (HY.out.below hb)
  replace HP := Lib.hid (HP.out.below hb)
  replace HV4 := Lib.hid (HV4.out.below hb)
  replace HV5 := Lib.hid (HV5.out.below hb)
  replace HV6 := Lib.hid (HV6.out.below hb)
  replace hM := hM.trans (hb.mono hM.size)
  replace hB := hB.trans (hb.mono hB.size)
  have hq := HSa.out
  generalize rsgI (rankR f x) = sa at *
  have dsa : decide (sa < 0) = false := by simpa using hq
  clear hq HSa
  clear hb
  refine hK _ _ ⟨⟨w8, hM⟩, rfl⟩ ?_
  clear hK K
  repeat (refine wpSched_calm rfl (fun K hK => ?_); go_simp; refine hK _ ?_; clear hK K)
  refine wpSched_geff rfl ?_ (fun K hK => ?_)
  · go_simp
  go_simp
  refine (qcmp_any _ _ (rankR f x) (rankR f y) (L + 13) (L + 13) _ (HV4.out.raw HZ4.out) (HV5.out.raw HZ5.out) (by omega) (by omega) (by omega)).mono ?_
  rintro e w9 ⟨rfl, hb⟩
  replace cA0 := bc hb ltA cA0
  replace cA1 := bc hb ltA cA1
  replace cA2 := bc hb ltA cA2
  replace ltA := bl hb ltA
  replace cB0 := bc hb ltB cB0
  replace cB1 := bc hb ltB cB1
  replace cB2 := bc hb ltB cB2
  replace ltB := bl hb ltB
  replace cC0 := bc hb ltC cC0
  replace cC1 := bc hb ltC cC1
  replace cC2 := bc hb ltC cC2
  replace ltC := bl hb ltC
  replace cP0 := bc hb ltP cP0
  replace fP0 := bf hb ltP fP0
  replace cP1 := bc hb ltP cP1
  replace fP1 := bf hb ltP fP1
  replace cP2 := bc hb ltP cP2
  replace fP2 := bf hb ltP fP2
  replace ltP := bl hb ltP
  replace cQ0 := bc hb ltQ cQ0
  replace fQ0 := bf hb ltQ fQ0
  replace cQ1 := bc hb ltQ cQ1
  replace fQ1 := bf hb ltQ fQ1
  replace cQ2 := bc hb ltQ cQ2
  replace fQ2 := bf hb ltQ fQ2
  replace ltQ := bl hb ltQ
  replace ca0 := bc hb lta ca0
  replace ca1 := bc hb lta ca1
  replace ca2 := bc hb lta ca2
  replace lta := bl hb lta
  replace cb0 := bc hb ltb cb0
  replace cb1 := bc hb ltb cb1
  replace cb2 := bc hb ltb cb2
  replace ltb := bl hb ltb
  replace cs0 := bc hb lts cs0
  replace cs1 := bc hb lts cs1
  replace cs2 := bc hb lts cs2
  replace lts := bl hb lts
  replace HI := Lib.hid (HI.out.below hb)
  replace HX := Lib.hid (HX.out.below hb)
  replace HY := Lib.hid (HY.out.below hb)
  replace HP := Lib.hid (HP.out.below hb)
  replace HV4 := Lib.hid (HV4.out.below hb)
  replace HV5 := Lib.hid (HV5.out.below hb)
  replace HV6 := Lib.hid (HV6.out.below hb)
  replace hM := hM.trans (hb.mono hM.size)
  replace hB := hB.trans (hb.mono hB.size)
  have hq := HCab.out
  generalize rcmpI (rankR f x) (rankR f y) = cab at *
  have dcab : decide (0 < cab) = false := by simpa using hq
  clear hq HCab
  clear hb
  refine hK _ _ ⟨⟨w9, hM⟩, rfl⟩ ?_
  clear hK K
  repeat (refine wpSched_calm rfl (fun K hK => ?_); go_simp; refine hK _ ?_; clear hK K)
  refine wpSched_geff rfl ?_ (fun K hK => ?_)
  · go_simp
  go_simp
  refine (part_any 1 1 _ (by omega) (by omega) (by omega) (by omega) (by omega)).mono ?_
  rintro e wa ⟨va, rfl, hv, hsz, hb⟩
  replace cA0 := bc hb ltA cA0
  replace cA1 := bc hb ltA cA1
  replace cA2 := bc hb ltA cA2
  replace ltA := bl hb ltA
  replace cB0 := bc hb ltB cB0
  replace cB1 := bc hb ltB cB1
  replace cB2 := bc hb ltB cB2
  replace ltB := bl hb ltB
  replace cC0 := bc hb ltC cC0
  replace cC1 := bc hb ltC cC1
  replace cC2 := bc hb ltC cC2
  replace ltC := bl hb ltC
  replace cP0 := bc hb ltP cP0
  replace fP0 := bf hb ltP fP0
  replace cP1 := bc hb ltP cP1
  replace fP1 := bf hb ltP fP1
  replace cP2 := bc hb ltP cP2
  replace fP2 := bf hb ltP fP2
  replace ltP := bl hb ltP
  replace cQ0 := bc hb ltQ cQ0
  replace fQ0 := bf hb ltQ fQ0
  replace cQ1 := bc hb ltQ cQ1
  replace fQ1 := bf hb ltQ fQ1
  replace cQ2 := bc hb ltQ cQ2
  replace fQ2 := bf hb ltQ fQ2
  replace ltQ := bl hb ltQ
  replace ca0 := bc hb lta ca0
  replace ca1 := bc hb lta ca1
  replace ca2 := bc hb lta ca2
  replace lta := bl hb lta
  replace cb0 := bc hb ltb cb0
  replace cb1 := bc hb ltb cb1
  replace cb2 := bc hb ltb cb2
  replace ltb := bl hb ltb
  replace cs0 := bc hb lts cs0
  replace cs1 := bc hb lts cs1
  replace cs2 := bc hb lts cs2
  replace lts := bl hb lts
  replace HI := Lib.hid (HI.out.below hb)
  replace HX := Lib.hid (HX.out.below hb)
  replace HY := Lib.hid (HY.out.below hb)
  replace HP := Lib.hid (HP.out.below hb)
  replace HV4 := Lib.hid (HV4.out.below hb)
  replace HV5 := Lib.hid (HV5.out.below hb)
  replace HV6 := Lib.hid (HV6.out.below hb)
  replace hM := hM.trans (hb.mono hM.size)
  replace hB := hB.trans (hb.mono hB.size)
  rw [HD1.out] at hv hsz
  have HVa := Lib.hid (hv.raw hsz)
  clear hv hsz
  clear hb
  refine hK _ _ ⟨⟨wa, hM⟩, rfl⟩ ?_
  clear hK K
  refine wpSched_geff rfl ?_ (fun K hK => ?_)
  · go_simp
  go_simp
  refine (qcmp_any _ _ (rankR f y) 1 (L + 13) 2 _ (HV5.out.raw HZ5.out) HVa.out (by omega) (by omega) (by omega)).mono ?_
  rintro e wb ⟨rfl, hb⟩
  replace cA0 := bc hb ltA cA0
  replace cA1 := bc hb ltA cA1
  replace cA2 := bc hb ltA cA2
  replace ltA := bl hb ltA
  replace cB0 := bc hb ltB cB0
  replace cB1 := bc hb ltB cB1
  replace cB2 := bc hb ltB cB2
  replace ltB := bl hb ltB
  replace cC0 := bc hb ltC cC0
  replace cC1 := bc hb ltC cC1
  replace cC2 := bc hb ltC cC2
  replace ltC := bl hb ltC
  replace cP0 := bc hb ltP cP0
  replace fP0 := bf hb ltP fP0
  replace cP1 := bc hb ltP cP1
  replace fP1 := bf hb ltP fP1
  replace cP2 := bc hb ltP cP2
  replace fP2 := bf hb ltP fP2
  replace ltP := bl hb ltP
  replace cQ0 := bc hb ltQ cQ0
  replace fQ0 := bf hb ltQ fQ0
  replace cQ1 := bc hb ltQ cQ1
  replace fQ1 := bf hb ltQ fQ1
  replace cQ2 := bc hb ltQ cQ2
  replace fQ2 := bf hb ltQ fQ2
  replace ltQ := bl hb ltQ
  replace ca0 := bc hb lta ca0
  replace ca1 := bc hb lta ca1
  replace ca2 := bc hb lta ca2
  replace lta := bl hb lta
  replace cb0 := bc hb ltb cb0
  replace cb1 := bc hb ltb cb1
  replace cb2 := bc hb ltb cb2
  replace ltb := bl hb ltb
  replace cs0 := bc hb lts cs0
  replace cs1 := bc hb lts cs1
  replace cs2 := bc hb lts cs2
  replace lts := bl hb lts
  replace HI := Lib.hid (HI.out.below hb)
  replace HX := Lib.hid (HX.out.below hb)
  replace HY := Lib.hid (HY.out.below hb)
  replace HP := Lib.hid (HP.out.below hb)
  replace HV4 := Lib.hid (HV4.out.below hb)
  replace HV5 := Lib.hid (HV5.out.below hb)
  replace HV6 := Lib.hid (HV6.out.below hb)
  replace HVa := Lib.hid (HVa.out.below hb)
  replace hM := hM.trans (hb.mono hM.size)
  replace hB := hB.trans (hb.mono hB.size)
  have hq := HCb.out
  generalize rcmpI (rankR f y) 1 = cb at *
  have dcb : decide (0 < cb) = false := by simpa using hq
  clear hq HCb
  clear hb
  refine hK _ _ ⟨⟨wb, hM⟩, rfl⟩ ?_
  clear hK K
  clear HVa
  repeat (refine wpSched_calm rfl (fun K hK => ?_); go_simp; refine hK _ ?_; clear hK K)
  refine wpSched_nil ?_
  clear eA0 eA1 eA2 eB0 eB1 eB2 eC0 eC1 eC2 eP0 eP1 eP2 eQ0 eQ1 eQ2 ea0 ea1 ea2 eb0 eb1 eb2 es0 es1 es2
  go_wp2_with fail
  have eA0 := box_ext (B := wb.heap.size) cA0 ltA
  have eA1 := box_ext (B := wb.heap.size) cA1 ltA
  have eA2 := box_ext (B := wb.heap.size) cA2 ltA
  have eB0 := box_ext (B := wb.heap.size) cB0 ltB
  have eB1 := box_ext (B := wb.heap.size) cB1 ltB
  have eB2 := box_ext (B := wb.heap.size) cB2 ltB
  have eC0 := box_ext (B := wb.heap.size) cC0 ltC
  have eC1 := box_ext (B := wb.heap.size) cC1 ltC
  have eC2 := box_ext (B := wb.heap.size) cC2 ltC
  have eP0 := box_ext (B := wb.heap.size) cP0 ltP
  have eP1 := box_ext (B := wb.heap.size) cP1 ltP
  have eP2 := box_ext (B := wb.heap.size) cP2 ltP
  have eQ0 := box_ext (B := wb.heap.size) cQ0 ltQ
  have eQ1 := box_ext (B := wb.heap.size) cQ1 ltQ
  have eQ2 := box_ext (B := wb.heap.size) cQ2 ltQ
  have ea0 := box_ext (B := wb.heap.size) ca0 lta
  have ea1 := box_ext (B := wb.heap.size) ca1 lta
  have ea2 := box_ext (B := wb.heap.size) ca2 lta
  have eb0 := box_ext (B := wb.heap.size) cb0 ltb
  have eb1 := box_ext (B := wb.heap.size) cb1 ltb
  have eb2 := box_ext (B := wb.heap.size) cb2 ltb
  have es0 := box_ext (B := wb.heap.size) cs0 lts
  have es1 := box_ext (B := wb.heap.size) cs1 lts
  have es2 := box_ext (B := wb.heap.size) cs2 lts
  refine wp_region_sched [(0, false), (1, true), (2, false), (3, false), (4, false), (5, true), (6, true), (7, false), (8, false)] (fun w' => ∃ W : Ext wb.heap.size wb, w' = W.1) (by kernel_rfl) (by kernel_rfl) ⟨⟨wb.drew, (Below.refl _ _).drew⟩, rfl⟩ ?_
  repeat (refine wpSched_calm rfl (fun K hK => ?_); go_simp; refine hK _ ?_; clear hK K)
  have hbx : Below wb.heap.size wb wb.drew := (Below.refl _ _).drew
  have hM := hbx
  replace cA0 := bc hbx ltA cA0
  replace cA1 := bc hbx ltA cA1
  replace cA2 := bc hbx ltA cA2
  replace ltA := bl hbx ltA
  replace cB0 := bc hbx ltB cB0
  replace cB1 := bc hbx ltB cB1
  replace cB2 := bc hbx ltB cB2
  replace ltB := bl hbx ltB
  replace cC0 := bc hbx ltC cC0
  replace cC1 := bc hbx ltC cC1
  replace cC2 := bc hbx ltC cC2
  replace ltC := bl hbx ltC
  replace cP0 := bc hbx ltP cP0
  replace fP0 := bf hbx ltP fP0
  replace cP1 := bc hbx ltP cP1
  replace fP1 := bf hbx ltP fP1
  replace cP2 := bc hbx ltP cP2
  replace fP2 := bf hbx ltP fP2
  replace ltP := bl hbx ltP
  replace cQ0 := bc hbx ltQ cQ0
  replace fQ0 := bf hbx ltQ fQ0
  replace cQ1 := bc hbx ltQ cQ1
  replace fQ1 := bf hbx ltQ fQ1
  replace cQ2 := bc hbx ltQ cQ2
  replace fQ2 := bf hbx ltQ fQ2
  replace ltQ := bl hbx ltQ
  replace ca0 := bc hbx lta ca0
  replace ca1 := bc hbx lta ca1
  replace ca2 := bc hbx lta ca2
  replace lta := bl hbx lta
  replace cb0 := bc hbx ltb cb0
  replace cb1 := bc hbx ltb cb1
  replace cb2 := bc hbx ltb cb2
  replace ltb := bl hbx ltb
  replace cs0 := bc hbx lts cs0
  replace cs1 := bc hbx lts cs1
  replace cs2 := bc hbx lts cs2
  replace lts := bl hbx lts
  replace HI := Lib.hid (HI.out.below hbx)
  replace HX := Lib.hid (HX.out.below hbx)
  replace HY := Lib.hid (HY.out.below hbx)
  replace HP := Lib.hid (HP.out.below hbx)
  replace HV4 := Lib.hid (HV4.out.below hbx)
  replace HV5 := Lib.hid (HV5.out.below hbx)
  replace HV6 := Lib.hid (HV6.out.below hbx)
  replace hB := hB.trans (hbx.mono hB.size)
  clear hbx
  generalize wb.drew = wwbd at *
  refine wpSched_eff rfl rfl (fun K hK => ?_)
  go_simp
  refine (qsign_any _ p L _ HP.out hL).mono ?_
  rintro e wc ⟨rfl, hb⟩
  replace cA0 := bc hb ltA cA0
  replace cA1 := bc hb ltA cA1
  replace cA2 := bc hb ltA cA2
  replace ltA := bl hb ltA
  replace cB0 := bc hb ltB cB0
  replace cB1 := bc hb ltB cB1
  replace cB2 := bc hb ltB cB2
  replace ltB := bl hb ltB
  replace cC0 := bc hb ltC cC0
  replace cC1 := bc hb ltC cC1
  replace cC2 := bc hb ltC cC2
  replace ltC := bl hb ltC
  replace cP0 := bc hb ltP cP0
  replace fP0 := bf hb ltP fP0
  replace cP1 := bc hb ltP cP1
  replace fP1 := bf hb ltP fP1
  replace cP2 := bc hb ltP cP2
  replace fP2 := bf hb ltP fP2
  replace ltP := bl hb ltP
  replace cQ0 := bc hb ltQ cQ0
  replace fQ0 := bf hb ltQ fQ0
  replace cQ1 := bc hb ltQ cQ1
  replace fQ1 := bf hb ltQ fQ1
  replace cQ2 := bc hb ltQ cQ2
  replace fQ2 := bf hb ltQ fQ2
  replace ltQ := bl hb ltQ
  replace ca0 := bc hb lta ca0
  replace ca1 := bc hb lta ca1
  replace ca2 := bc hb lta ca2
  replace lta := bl hb lta
  replace cb0 := bc hb ltb cb0
  replace cb1 := bc hb ltb cb1
  replace cb2 := bc hb ltb cb2
  replace ltb := bl hb ltb
  replace cs0 := bc hb lts cs0
  replace cs1 := bc hb lts cs1
  replace cs2 := bc hb lts cs2
  replace lts := bl hb lts
  replace HI := Lib.hid (HI.out.below hb)
  replace HX := Lib.hid (HX.out.below hb)
  replace HY := Lib.hid (HY.out.below hb)
  replace HP := Lib.hid (HP.out.below hb)
  replace HV4 := Lib.hid (HV4.out.below hb)
  replace HV5 := Lib.hid (HV5.out.below hb)
  replace HV6 := Lib.hid (HV6.out.below hb)
  replace hM := hM.trans (hb.mono hM.size)
  replace hB := hB.trans (hb.mono hB.size)
  have hq := HSp.out
  generalize rsgI p = sp at *
  have dsp : decide (sp < 0) = false := by simpa using hq
  clear hq HSp
  clear hb
  refine hK _ _ ⟨⟨wc, hM⟩, rfl⟩ ?_
  clear hK K
  repeat (refine wpSched_calm rfl (fun K hK => ?_); go_simp; refine hK _ ?_; clear hK K)
  refine wpSched_geff rfl ?_ (fun K hK => ?_)
  · go_simp
  go_simp
  refine (part_any 1 1 _ (by omega) (by omega) (by omega) (by omega) (by omega)).mono ?_
  rintro e we ⟨ve, rfl, hv, hsz, hb⟩
  replace cA0 := bc hb ltA cA0
  replace cA1 := bc hb ltA cA1
  replace cA2 := bc hb ltA cA2
  replace ltA := bl hb ltA
  replace cB0 := bc hb ltB cB0
  replace cB1 := bc hb ltB cB1
  replace cB2 := bc hb ltB cB2
  replace ltB := bl hb ltB
  replace cC0 := bc hb ltC cC0
  replace cC1 := bc hb ltC cC1
  replace cC2 := bc hb ltC cC2
  replace ltC := bl hb ltC
  replace cP0 := bc hb ltP cP0
  replace fP0 := bf hb ltP fP0
  replace cP1 := bc hb ltP cP1
  replace fP1 := bf hb ltP fP1
  replace cP2 := bc hb ltP cP2
  replace fP2 := bf hb ltP fP2
  replace ltP := bl hb ltP
  replace cQ0 := bc hb ltQ cQ0
  replace fQ0 := bf hb ltQ fQ0
  replace cQ1 := bc hb ltQ cQ1
  replace fQ1 := bf hb ltQ fQ1
  replace cQ2 := bc hb ltQ cQ2
  replace fQ2 := bf hb ltQ fQ2
  replace ltQ := bl hb ltQ
  replace ca0 := bc hb lta ca0
  replace ca1 := bc hb lta ca1
  replace ca2 := bc hb lta ca2
  replace lta := bl hb lta
  replace cb0 := bc hb ltb cb0
  replace cb1 := bc hb ltb cb1
  replace cb2 := bc hb ltb cb2
  replace ltb := bl hb ltb
  replace cs0 := bc hb lts cs0
  replace cs1 := bc hb lts cs1
  replace cs2 := bc hb lts cs2
  replace lts := bl hb lts
  replace HI := Lib.hid (HI.out.below hb)
  replace HX := Lib.hid (HX.out.below hb)
  replace HY := Lib.hid (HY.out.below hb)
  replace HP := Lib.hid (HP.out.below hb)
  replace HV4 := Lib.hid (HV4.out.below hb)
  replace HV5 := Lib.hid (HV5.out.below hb)
  replace HV6 := Lib.hid (HV6.out.below hb)
  replace hM := hM.trans (hb.mono hM.size)
  replace hB := hB.trans (hb.mono hB.size)
  rw [HD1.out] at hv hsz
  have HVe := Lib.hid (hv.raw hsz)
  clear hv hsz
  clear hb
  refine hK _ _ ⟨⟨we, hM⟩, rfl⟩ ?_
  clear hK K
  refine wpSched_geff rfl ?_ (fun K hK => ?_)
  · go_simp
  go_simp
  refine (qcmp_any _ _ p 1 L 2 _ HP.out HVe.out hL (by omega) (by omega)).mono ?_
  rintro e wf ⟨rfl, hb⟩
  replace cA0 := bc hb ltA cA0
  replace cA1 := bc hb ltA cA1
  replace cA2 := bc hb ltA cA2
  replace ltA := bl hb ltA
  replace cB0 := bc hb ltB cB0
  replace cB1 := bc hb ltB cB1
  replace cB2 := bc hb ltB cB2
  replace ltB := bl hb ltB
  replace cC0 := bc hb ltC cC0
  replace cC1 := bc hb ltC cC1
  replace cC2 := bc hb ltC cC2
  replace ltC := bl hb ltC
  replace cP0 := bc hb ltP cP0
  replace fP0 := bf hb ltP fP0
  replace cP1 := bc hb ltP cP1
  replace fP1 := bf hb ltP fP1
  replace cP2 := bc hb ltP cP2
  replace fP2 := bf hb ltP fP2
  replace ltP := bl hb ltP
  replace cQ0 := bc hb ltQ cQ0
  replace fQ0 := bf hb ltQ fQ0
  replace cQ1 := bc hb ltQ cQ1
  replace fQ1 := bf hb ltQ fQ1
  replace cQ2 := bc hb ltQ cQ2
  replace fQ2 := bf hb ltQ fQ2
  replace ltQ := bl hb ltQ
  replace ca0 := bc hb lta ca0
  replace ca1 := bc hb lta ca1
  replace ca2 := bc hb lta ca2
  replace lta := bl hb lta
  replace cb0 := bc hb ltb cb0
  replace cb1 := bc hb ltb cb1
  replace cb2 := bc hb ltb cb2
  replace ltb := bl hb ltb
  replace cs0 := bc hb lts cs0
  replace cs1 := bc hb lts cs1
  replace cs2 := bc hb lts cs2
  replace lts := bl hb lts
  replace HI := Lib.hid (HI.out.below hb)
  replace HX := Lib.hid (HX.out.below hb)
  replace HY := Lib.hid (HY.out.below hb)
  replace HP := Lib.hid (HP.out.below hb)
  replace HV4 := Lib.hid (HV4.out.below hb)
  replace HV5 := Lib.hid (HV5.out.below hb)
  replace HV6 := Lib.hid (HV6.out.below hb)
  replace HVe := Lib.hid (HVe.out.below hb)
  replace hM := hM.trans (hb.mono hM.size)
  replace hB := hB.trans (hb.mono hB.size)
  have hq := HCp.out
  generalize rcmpI p 1 = cp at *
  have dcp : decide (0 < cp) = true := by simpa using hq
  clear hq HCp
  clear hb
  refine hK _ _ ⟨⟨wf, hM⟩, rfl⟩ ?_
  clear hK K
  clear HVe
  repeat (refine wpSched_calm rfl (fun K hK => ?_); go_simp; refine hK _ ?_; clear hK K)
  refine wpSched_nil ?_
  clear eA0 eA1 eA2 eB0 eB1 eB2 eC0 eC1 eC2 eP0 eP1 eP2 eQ0 eQ1 eQ2 ea0 ea1 ea2 eb0 eb1 eb2 es0 es1 es2
  go_wp2_with fail
  refine (awake_any _).mono ?_
  rintro e wi ⟨rfl, hb⟩
  replace cA0 := bc hb ltA cA0
  replace cA1 := bc hb ltA cA1
  replace cA2 := bc hb ltA cA2
  replace ltA := bl hb ltA
  replace cB0 := bc hb ltB cB0
  replace cB1 := bc hb ltB cB1
  replace cB2 := bc hb ltB cB2
  replace ltB := bl hb ltB
  replace cC0 := bc hb ltC cC0
  replace cC1 := bc hb ltC cC1
  replace cC2 := bc hb ltC cC2
  replace ltC := bl hb ltC
  replace cP0 := bc hb ltP cP0
  replace fP0 := bf hb ltP fP0
  replace cP1 := bc hb ltP cP1
  replace fP1 := bf hb ltP fP1
  replace cP2 := bc hb ltP cP2
  replace fP2 := bf hb ltP fP2
  replace ltP := bl hb ltP
  replace cQ0 := bc hb ltQ cQ0
  replace fQ0 := bf hb ltQ fQ0
  replace cQ1 := bc hb ltQ cQ1
  replace fQ1 := bf hb ltQ fQ1
  replace cQ2 := bc hb ltQ cQ2
  replace fQ2 := bf hb ltQ fQ2
  replace ltQ := bl hb ltQ
  replace ca0 := bc hb lta ca0
  replace ca1 := bc hb lta ca1
  replace ca2 := bc hb lta ca2
  replace lta := bl hb lta
  replace cb0 := bc hb ltb cb0
  replace cb1 := bc hb ltb cb1
  replace cb2 := bc hb ltb cb2
  replace ltb := bl hb ltb
  replace cs0 := bc hb lts cs0
  replace cs1 := bc hb lts cs1
  replace cs2 := bc hb lts cs2
  replace lts := bl hb lts
  replace HI := Lib.hid (HI.out.below hb)
  replace HX := Lib.hid (HX.out.below hb)
  replace HY := Lib.hid (HY.out.below hb)
  replace HP := Lib.hid (HP.out.below hb)
  replace HV4 := Lib.hid (HV4.out.below hb)
  replace HV5 := Lib.hid (HV5.out.below hb)
  replace HV6 := Lib.hid (HV6.out.below hb)
  replace hB := hB.trans (hb.mono hB.size)
  clear hb
  go_wp2_with fail
  go_ret
  exact ⟨rfl, hB⟩

end Go.Proofs.Ytahmndacoanfiaa
