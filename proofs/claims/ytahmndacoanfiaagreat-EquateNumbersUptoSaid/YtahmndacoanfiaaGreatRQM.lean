/- Equating: what the reference's Moments returns. No condition but the reach. -/
import Derived.Test.YtahmndacoanfiaaGreatRQB
import Derived.Test.YtahmndacoanfiaaGreatEqV
namespace Go.Proofs.YtahmndacoanfiaaGreat
set_option maxRecDepth 100000
open Go.RowKit
set_option maxHeartbeats 2000000 in
theorem rmom_no (f : List Int) (a : Option Addr) (len cap : Nat) (w : World) (hI : Ints w a len cap f) (hE : eqE f ≠ 0) :
   Calls Tryz.prog 22 #[.slice a len cap] w fun e w' => ∃ v u, e = .returned (.tuple #[v, u, .int .i64 (eqE f)]) ∧ RatN w.heap.size w' v 0 ∧ RatN w.heap.size w' u 0 ∧ Below w.heap.size w w' := by
 have HI := Lib.hid hI
 have hz : (eqE f == 0) = false := by simpa using hE
 clear hE hI
 generalize hef : eqE f = ef at *
 have HEF := Lib.hid hef
 clear hef
 go_enter Tryz.func22, Tryz.ntmps22
 go_wp2_with fail
 have hbx : Below w.heap.size w ((w.alloc (.cells #[.bool false, .slice none 0 0, .slice none 0 0] 28)).alloc (.cells #[.bool false, .slice none 0 0, .slice none 0 0] 28)) := (((Below.refl _ _).alloc (Nat.le_refl _) _).alloc (by simp) _)
 generalize hWW : ((w.alloc (.cells #[.bool false, .slice none 0 0, .slice none 0 0] 28)).alloc (.cells #[.bool false, .slice none 0 0, .slice none 0 0] 28)) = w0 at *
 replace HI := Lib.hid (HI.out.below hbx)
 have cR0 : w0.cell? ⟨w.heap.size, 0, none⟩ = some (.bool false) := by subst hWW; go_simp
 have fR0 : w0.frozen? ⟨w.heap.size, 0, none⟩ = false := by subst hWW; go_simp
 have cR1 : w0.cell? ⟨w.heap.size, 1, none⟩ = some (.slice none 0 0) := by subst hWW; go_simp
 have fR1 : w0.frozen? ⟨w.heap.size, 1, none⟩ = false := by subst hWW; go_simp
 have cR2 : w0.cell? ⟨w.heap.size, 2, none⟩ = some (.slice none 0 0) := by subst hWW; go_simp
 have fR2 : w0.frozen? ⟨w.heap.size, 2, none⟩ = false := by subst hWW; go_simp
 have ltR : w.heap.size < w0.heap.size := by subst hWW; simp <;> omega
 have cS0 : w0.cell? ⟨w.heap.size + 1, 0, none⟩ = some (.bool false) := by subst hWW; go_simp
 have fS0 : w0.frozen? ⟨w.heap.size + 1, 0, none⟩ = false := by subst hWW; go_simp
 have cS1 : w0.cell? ⟨w.heap.size + 1, 1, none⟩ = some (.slice none 0 0) := by subst hWW; go_simp
 have fS1 : w0.frozen? ⟨w.heap.size + 1, 1, none⟩ = false := by subst hWW; go_simp
 have cS2 : w0.cell? ⟨w.heap.size + 1, 2, none⟩ = some (.slice none 0 0) := by subst hWW; go_simp
 have fS2 : w0.frozen? ⟨w.heap.size + 1, 2, none⟩ = false := by subst hWW; go_simp
 have ltS : w.heap.size + 1 < w0.heap.size := by subst hWW; simp
 have hB := hbx
 clear hbx hWW
 refine (rvalid46_any f a len cap _ HI.out).mono ?_
 rintro e w1 ⟨rfl, hb⟩
 replace cR0 := bc hb ltR cR0
 replace fR0 := bf hb ltR fR0
 replace cR1 := bc hb ltR cR1
 replace fR1 := bf hb ltR fR1
 replace cR2 := bc hb ltR cR2
 replace fR2 := bf hb ltR fR2
 replace ltR := bl hb ltR
 replace cS0 := bc hb ltS cS0
 replace fS0 := bf hb ltS fS0
 replace cS1 := bc hb ltS cS1
 replace fS1 := bf hb ltS fS1
 replace cS2 := bc hb ltS cS2
 replace fS2 := bf hb ltS fS2
 replace ltS := bl hb ltS
 replace HI := Lib.hid (HI.out.below hb)
 replace hB := hB.trans (hb.mono hB.size)
 rw [HEF.out]
 clear hb
 go_wp2_with fail
 have hsB : w.heap.size + 2 ≤ w1.heap.size := ltS
 refine (rfrac_any 0 1 0 _ (by omega) (by omega) (by omega) (by omega) (by omega) (by kernel_rfl)).mono ?_
 rintro e w2 ⟨v2, rfl, hv, hsz, hb⟩
 replace cR0 := bc hb ltR cR0
 replace fR0 := bf hb ltR fR0
 replace cR1 := bc hb ltR cR1
 replace fR1 := bf hb ltR fR1
 replace cR2 := bc hb ltR cR2
 replace fR2 := bf hb ltR fR2
 replace ltR := bl hb ltR
 replace cS0 := bc hb ltS cS0
 replace fS0 := bf hb ltS fS0
 replace cS1 := bc hb ltS cS1
 replace fS1 := bf hb ltS fS1
 replace cS2 := bc hb ltS cS2
 replace fS2 := bf hb ltS fS2
 replace ltS := bl hb ltS
 replace HI := Lib.hid (HI.out.below hb)
 replace hB := hB.trans (hb.mono hB.size)
 have HV2 := Lib.hid (hv.mono hsB)
 obtain ⟨p2', m2', q2', p2, m2, q2, rfl, -, -, -, -⟩ := hv
 generalize decide ((0 : Rat).num < 0) = d2 at *
 clear hsz
 clear hb
 go_wp2_with fail
 have hsB : w.heap.size + 2 ≤ w2.heap.size := ltS
 refine (rfrac_any 0 1 0 _ (by omega) (by omega) (by omega) (by omega) (by omega) (by kernel_rfl)).mono ?_
 rintro e w3 ⟨v3, rfl, hv, hsz, hb⟩
 replace cR0 := bc hb ltR cR0
 replace fR0 := bf hb ltR fR0
 replace cR1 := bc hb ltR cR1
 replace fR1 := bf hb ltR fR1
 replace cR2 := bc hb ltR cR2
 replace fR2 := bf hb ltR fR2
 replace ltR := bl hb ltR
 replace cS0 := bc hb ltS cS0
 replace fS0 := bf hb ltS fS0
 replace cS1 := bc hb ltS cS1
 replace fS1 := bf hb ltS fS1
 replace cS2 := bc hb ltS cS2
 replace fS2 := bf hb ltS fS2
 replace ltS := bl hb ltS
 replace HI := Lib.hid (HI.out.below hb)
 replace HV2 := Lib.hid (HV2.out.below hb)
 replace hB := hB.trans (hb.mono hB.size)
 have HV3 := Lib.hid (hv.mono hsB)
 obtain ⟨p3', m3', q3', p3, m3, q3, rfl, -, -, -, -⟩ := hv
 generalize decide ((0 : Rat).num < 0) = d3 at *
 clear hsz
 clear hb
 go_wp2_with fail
 exact bodyPost_ret (v := .tuple #[.agg #[.bool d2, .slice p2' m2' q2', .slice p2 m2 q2], .agg #[.bool d3, .slice p3' m3' q3', .slice p3 m3 q3], .int .i64 ef]) (by simp [results, Tryz.results22, go_sem, cR0, cR1, cR2, cS0, cS1, cS2]) rfl ⟨_, _, rfl, HV2.out.set2 (by omega) (by omega) (by omega) _ _ _ _ _ _, HV3.out.set2 (by omega) (by omega) (by omega) _ _ _ _ _ _, ((((((hB.setCell (p := ⟨w.heap.size, 0, none⟩) (by simp) _).setCell (p := ⟨w.heap.size, 1, none⟩) (by simp) _).setCell (p := ⟨w.heap.size, 2, none⟩) (by simp) _).setCell (p := ⟨w.heap.size + 1, 0, none⟩) (by simp) _).setCell (p := ⟨w.heap.size + 1, 1, none⟩) (by simp) _).setCell (p := ⟨w.heap.size + 1, 2, none⟩) (by simp) _)⟩
set_option maxHeartbeats 4000000 in
theorem rmom_any (f : List Int) (a : Option Addr) (len cap : Nat) (w : World) (hI : Ints w a len cap f) (hO : OkF f) :
   Calls Tryz.prog 22 #[.slice a len cap] w fun e w' => ∃ v u, e = .returned (.tuple #[v, u, .int .i64 0]) ∧ RatN w.heap.size w' v (meanR f) ∧ RatN w.heap.size w' u (varR f) ∧ Rsz (meanR f) 20 ∧ Rsz (varR f) 20 ∧ Below w.heap.size w w' := by
 have HI := Lib.hid hI
 have HO := Lib.hid (eqE_OkF.2 hO)
 have HN := Lib.hid hI.1
 have HF0 := Lib.hid hO.2.1
 have hl61 : len ≤ 61 := by rw [← HN.out]; exact hO.1
 have b5 := hO.pos
 have b6 := hO.sum_le
 have HSn := Lib.hid (show (f.sum : Rat) ≠ 0 from fun h => by have := cast_lt b5; rw [h] at this; exact absurd this (by decide))
 have HSt := Lib.hid (fun (k : Nat) (hk : k ≤ 61) => And.intro (S1_bd hO.2.1 hO.1 k hk) (S_step hO.2.1 hO.1 k hk))
 have HPb := Lib.hid (preS_at hO.2.1 hO.1)
 have HMe : Hid (meanR f = (S1 f len : Rat) / (f.sum : Rat)) := Lib.hid (by unfold meanR; rw [HN.out])
 have HVa : Hid (varR f = (S2 f len : Rat) / (f.sum : Rat) - (S1 f len : Rat) / (f.sum : Rat) * ((S1 f len : Rat) / (f.sum : Rat))) := Lib.hid (by unfold varR meanR; rw [HN.out])
 have HPA : Hid (preS f len = f.sum) := Lib.hid (preS_all f (by rw [HN.out]; omega))
 have HPA2 := Lib.hid (show ∀ n : Int, Rat.divInt n f.sum = (n : Rat) / (f.sum : Rat) from fun n => Rat.divInt_eq_div ..)
 generalize hmf : meanR f = mf at *
 generalize hvf : varR f = vf at *
 generalize hsf : f.sum = sf at *
 have HSf := Lib.hid hsf
 clear hO hI hsf hmf hvf
 go_enter Tryz.func22, Tryz.ntmps22
 go_wp2_with fail
 have hbx : Below w.heap.size w ((w.alloc (.cells #[.bool false, .slice none 0 0, .slice none 0 0] 28)).alloc (.cells #[.bool false, .slice none 0 0, .slice none 0 0] 28)) := (((Below.refl _ _).alloc (Nat.le_refl _) _).alloc (by simp) _)
 generalize hWW : ((w.alloc (.cells #[.bool false, .slice none 0 0, .slice none 0 0] 28)).alloc (.cells #[.bool false, .slice none 0 0, .slice none 0 0] 28)) = w0 at *
 replace HI := Lib.hid (HI.out.below hbx)
 have cR0 : w0.cell? ⟨w.heap.size, 0, none⟩ = some (.bool false) := by subst hWW; go_simp
 have fR0 : w0.frozen? ⟨w.heap.size, 0, none⟩ = false := by subst hWW; go_simp
 have cR1 : w0.cell? ⟨w.heap.size, 1, none⟩ = some (.slice none 0 0) := by subst hWW; go_simp
 have fR1 : w0.frozen? ⟨w.heap.size, 1, none⟩ = false := by subst hWW; go_simp
 have cR2 : w0.cell? ⟨w.heap.size, 2, none⟩ = some (.slice none 0 0) := by subst hWW; go_simp
 have fR2 : w0.frozen? ⟨w.heap.size, 2, none⟩ = false := by subst hWW; go_simp
 have ltR : w.heap.size < w0.heap.size := by subst hWW; simp <;> omega
 have cS0 : w0.cell? ⟨w.heap.size + 1, 0, none⟩ = some (.bool false) := by subst hWW; go_simp
 have fS0 : w0.frozen? ⟨w.heap.size + 1, 0, none⟩ = false := by subst hWW; go_simp
 have cS1 : w0.cell? ⟨w.heap.size + 1, 1, none⟩ = some (.slice none 0 0) := by subst hWW; go_simp
 have fS1 : w0.frozen? ⟨w.heap.size + 1, 1, none⟩ = false := by subst hWW; go_simp
 have cS2 : w0.cell? ⟨w.heap.size + 1, 2, none⟩ = some (.slice none 0 0) := by subst hWW; go_simp
 have fS2 : w0.frozen? ⟨w.heap.size + 1, 2, none⟩ = false := by subst hWW; go_simp
 have ltS : w.heap.size + 1 < w0.heap.size := by subst hWW; simp
 have hB := hbx
 clear hbx hWW
 refine (rvalid46_any f a len cap _ HI.out).mono ?_
 rintro e w1 ⟨rfl, hb⟩
 replace cR0 := bc hb ltR cR0
 replace fR0 := bf hb ltR fR0
 replace cR1 := bc hb ltR cR1
 replace fR1 := bf hb ltR fR1
 replace cR2 := bc hb ltR cR2
 replace fR2 := bf hb ltR fR2
 replace ltR := bl hb ltR
 replace cS0 := bc hb ltS cS0
 replace fS0 := bf hb ltS fS0
 replace cS1 := bc hb ltS cS1
 replace fS1 := bf hb ltS fS1
 replace cS2 := bc hb ltS cS2
 replace fS2 := bf hb ltS fS2
 replace ltS := bl hb ltS
 replace HI := Lib.hid (HI.out.below hb)
 replace hB := hB.trans (hb.mono hB.size)
 rw [HO.out]
 clear hb
 go_wp2_with fail
 go_loop [6, 7, 21] (fun s1 s2 i => ∃ k : Nat, k ≤ len ∧ i = .int .i64 k ∧ s1 = .int .i64 (S1 f k) ∧ s2 = .int .i64 (S2 f k)) (fun _ _ i => len - (intOf i).toNat)
 case atStart => exact ⟨0, by omega, rfl, rfl, rfl⟩
 case round =>
   obtain ⟨k, hk, rfl, rfl, rfl⟩ := hrel
   by_cases hlt : k < len
   · obtain ⟨⟨t1, t2, t3, t4⟩, m1, m2, m3, m4, m5, m6⟩ := HSt.out k (by omega)
     obtain ⟨bb, off, rfl, hbs, hcc⟩ := HI.out.2.at hlt
     have ec := hcc k hlt _ (Below.refl _ _)
     have HE := Lib.hid (show S1 f (k + 1) = S1 f k + k * f.getD k 0 ∧ S2 f (k + 1) = S2 f k + k * k * f.getD k 0 from ⟨rfl, rfl⟩)
     obtain ⟨-, -, p1, p2⟩ := HPb.out k
     clear HSt HPb hcc
     generalize f.getD k 0 = fk at *
     generalize S1 f k = s1 at *
     generalize S2 f k = s2 at *
     have hq : (k : Int) * k * fk ≤ 3721000000 := m6
     go_wp2_with fail
     go_round
     case rel => exact ⟨k + 1, by omega, by go_num, by rw [HE.out.1], by rw [HE.out.2]⟩
     case measure => simp [intOf]; omega
   · obtain rfl : k = len := by omega
     obtain ⟨⟨t1, t2, t3, t4⟩, -⟩ := HSt.out k (by omega)
     have t2' : S1 f k ≤ 3721000000 := by omega
     have t4' : S2 f k ≤ 226981000000 := by omega
     clear HSt HPb
     generalize hs1v : S1 f k = s1 at *
     generalize hs2v : S2 f k = s2 at *
     clear hs1v hs2v t2 t4 hlt
     go_wp2_with fail
     refine (rbelow_any f _ _ cap k _ HI.out HF0.out hl61 (Nat.le_refl _)).mono ?_
     rintro e w2 ⟨rfl, hb⟩
     replace cR0 := bc hb ltR cR0
     replace fR0 := bf hb ltR fR0
     replace cR1 := bc hb ltR cR1
     replace fR1 := bf hb ltR fR1
     replace cR2 := bc hb ltR cR2
     replace fR2 := bf hb ltR fR2
     replace ltR := bl hb ltR
     replace cS0 := bc hb ltS cS0
     replace fS0 := bf hb ltS fS0
     replace cS1 := bc hb ltS cS1
     replace fS1 := bf hb ltS fS1
     replace cS2 := bc hb ltS cS2
     replace fS2 := bf hb ltS fS2
     replace ltS := bl hb ltS
     replace HI := Lib.hid (HI.out.below hb)
     replace hB := hB.trans (hb.mono hB.size)
     rw [HPA.out]
     clear hb
     go_wp2_with fail
     have hsB : w.heap.size + 2 ≤ w2.heap.size := ltS
     refine (rfrac_any s1 sf ((s1 : Rat) / (sf : Rat)) _ (by omega) (by omega) (by omega) (by omega) (by omega) (HPA2.out s1)).mono ?_
     rintro e w3 ⟨vm, rfl, hv, hsz, hb⟩
     replace cR0 := bc hb ltR cR0
     replace fR0 := bf hb ltR fR0
     replace cR1 := bc hb ltR cR1
     replace fR1 := bf hb ltR fR1
     replace cR2 := bc hb ltR cR2
     replace fR2 := bf hb ltR fR2
     replace ltR := bl hb ltR
     replace cS0 := bc hb ltS cS0
     replace fS0 := bf hb ltS fS0
     replace cS1 := bc hb ltS cS1
     replace fS1 := bf hb ltS fS1
     replace cS2 := bc hb ltS cS2
     replace fS2 := bf hb ltS fS2
     replace ltS := bl hb ltS
     replace HI := Lib.hid (HI.out.below hb)
     replace hB := hB.trans (hb.mono hB.size)
     have HZm := Lib.hid hsz
     have HVm := Lib.hid (hv.mono hsB)
     obtain ⟨pm', mm', qm', pm, mm, qm, rfl, -, -, -, -⟩ := hv
     clear hsz
     generalize decide ((((s1 : Rat) / (sf : Rat)) : Rat).num < 0) = dm at *
     clear hb
     go_wp2_with fail
     have hPS := ltS
     have hbx : Below w3.heap.size w3 (w3.alloc (.cells #[.bool dm, .slice pm' mm' qm', .slice pm mm qm] 28)) := ((Below.refl _ _).alloc (Nat.le_refl _) _)
     generalize hWW : (w3.alloc (.cells #[.bool dm, .slice pm' mm' qm', .slice pm mm qm] 28)) = w3a at *
     replace cR0 := bc hbx ltR cR0
     replace fR0 := bf hbx ltR fR0
     replace cR1 := bc hbx ltR cR1
     replace fR1 := bf hbx ltR fR1
     replace cR2 := bc hbx ltR cR2
     replace fR2 := bf hbx ltR fR2
     replace ltR := bl hbx ltR
     replace cS0 := bc hbx ltS cS0
     replace fS0 := bf hbx ltS fS0
     replace cS1 := bc hbx ltS cS1
     replace fS1 := bf hbx ltS fS1
     replace cS2 := bc hbx ltS cS2
     replace fS2 := bf hbx ltS fS2
     replace ltS := bl hbx ltS
     replace HI := Lib.hid (HI.out.below hbx)
     replace HVm := Lib.hid (HVm.out.below hbx)
     have cP0 : w3a.cell? ⟨w3.heap.size, 0, none⟩ = some (.bool dm) := by subst hWW; go_simp
     have cP1 : w3a.cell? ⟨w3.heap.size, 1, none⟩ = some (.slice pm' mm' qm') := by subst hWW; go_simp
     have cP2 : w3a.cell? ⟨w3.heap.size, 2, none⟩ = some (.slice pm mm qm) := by subst hWW; go_simp
     have ltP : w3.heap.size < w3a.heap.size := by subst hWW; simp
     replace hB := hB.trans (hbx.mono hB.size)
     clear hbx hWW
     have eP0 := Gr.cell (R := w.heap.size) (R2 := w.heap.size + 1) cP0 ltP (by omega) (by omega)
     have eP1 := Gr.cell (R := w.heap.size) (R2 := w.heap.size + 1) cP1 ltP (by omega) (by omega)
     have eP2 := Gr.cell (R := w.heap.size) (R2 := w.heap.size + 1) cP2 ltP (by omega) (by omega)
     refine wp_region_sched [(0, false), (1, false), (2, false), (4, false), (5, false), (3, true), (6, true), (7, true), (8, true), (9, true), (10, false)] (fun w' => ∃ W : Gr (w.heap.size) (w.heap.size + 1) w3a, w' = W.1) (by kernel_rfl) (by kernel_rfl) ⟨⟨w3a.drew, below_grown (Below.refl _ _).drew⟩, rfl⟩ ?_
     repeat (refine wpSched_calm rfl (fun K hK => ?_); go_simp; refine hK _ ?_; clear hK K)
     clear eP0 eP1 eP2
     have hbx : Below w3a.heap.size w3a w3a.drew := (Below.refl _ _).drew
     have hM := below_grown (R := w.heap.size) (R2 := w.heap.size + 1) hbx
     replace cR0 := bc hbx ltR cR0
     replace fR0 := bf hbx ltR fR0
     replace cR1 := bc hbx ltR cR1
     replace fR1 := bf hbx ltR fR1
     replace cR2 := bc hbx ltR cR2
     replace fR2 := bf hbx ltR fR2
     replace ltR := bl hbx ltR
     replace cS0 := bc hbx ltS cS0
     replace fS0 := bf hbx ltS fS0
     replace cS1 := bc hbx ltS cS1
     replace fS1 := bf hbx ltS fS1
     replace cS2 := bc hbx ltS cS2
     replace fS2 := bf hbx ltS fS2
     replace ltS := bl hbx ltS
     replace cP0 := bc hbx ltP cP0
     replace cP1 := bc hbx ltP cP1
     replace cP2 := bc hbx ltP cP2
     replace ltP := bl hbx ltP
     replace HI := Lib.hid (HI.out.below hbx)
     replace HVm := Lib.hid (HVm.out.below hbx)
     replace hB := hB.trans (hbx.mono hB.size)
     clear hbx
     generalize w3a.drew = ww3ad at *
     refine wpSched_eff rfl rfl (fun K hK => ?_)
     go_simp
     refine (rfrac_any s2 sf ((s2 : Rat) / (sf : Rat)) _ (by omega) (by omega) (by omega) (by omega) (by omega) (HPA2.out s2)).mono ?_
     rintro e w5 ⟨v5, rfl, hv, hsz, hb⟩
     replace cR0 := bc hb ltR cR0
     replace fR0 := bf hb ltR fR0
     replace cR1 := bc hb ltR cR1
     replace fR1 := bf hb ltR fR1
     replace cR2 := bc hb ltR cR2
     replace fR2 := bf hb ltR fR2
     replace ltR := bl hb ltR
     replace cS0 := bc hb ltS cS0
     replace fS0 := bf hb ltS fS0
     replace cS1 := bc hb ltS cS1
     replace fS1 := bf hb ltS fS1
     replace cS2 := bc hb ltS cS2
     replace fS2 := bf hb ltS fS2
     replace ltS := bl hb ltS
     replace cP0 := bc hb ltP cP0
     replace cP1 := bc hb ltP cP1
     replace cP2 := bc hb ltP cP2
     replace ltP := bl hb ltP
     replace HI := Lib.hid (HI.out.below hb)
     replace HVm := Lib.hid (HVm.out.below hb)
     replace hM := grown_below hM hb
     replace hB := hB.trans (hb.mono hB.size)
     have HV5 := Lib.hid (hv.raw hsz)
     clear hv hsz
     clear hb
     refine hK _ _ ⟨⟨w5, hM⟩, rfl⟩ ?_
     clear hK K
     refine wpSched_eff rfl rfl (fun K hK => ?_)
     go_simp
     refine (kmul_any _ _ ((s1 : Rat) / (sf : Rat)) ((s1 : Rat) / (sf : Rat)) 2 2 _ (HVm.out.raw HZm.out) (HVm.out.raw HZm.out) (by omega) (by omega) (by omega)).mono ?_
     rintro e w6 ⟨v6, rfl, hv, hsz, hb⟩
     replace cR0 := bc hb ltR cR0
     replace fR0 := bf hb ltR fR0
     replace cR1 := bc hb ltR cR1
     replace fR1 := bf hb ltR fR1
     replace cR2 := bc hb ltR cR2
     replace fR2 := bf hb ltR fR2
     replace ltR := bl hb ltR
     replace cS0 := bc hb ltS cS0
     replace fS0 := bf hb ltS fS0
     replace cS1 := bc hb ltS cS1
     replace fS1 := bf hb ltS fS1
     replace cS2 := bc hb ltS cS2
     replace fS2 := bf hb ltS fS2
     replace ltS := bl hb ltS
     replace cP0 := bc hb ltP cP0
     replace cP1 := bc hb ltP cP1
     replace cP2 := bc hb ltP cP2
     replace ltP := bl hb ltP
     replace HI := Lib.hid (HI.out.below hb)
     replace HVm := Lib.hid (HVm.out.below hb)
     replace HV5 := Lib.hid (HV5.out.below hb)
     replace hM := grown_below hM hb
     replace hB := hB.trans (hb.mono hB.size)
     have HV6 := Lib.hid (hv.raw hsz)
     clear hv hsz
     clear hb
     refine hK _ _ ⟨⟨w6, hM⟩, rfl⟩ ?_
     clear hK K
     have hsB : w.heap.size + 2 ≤ w6.heap.size := ltS
     refine wpSched_eff rfl rfl (fun K hK => ?_)
     go_simp
     refine (ksub_any _ _ ((s2 : Rat) / (sf : Rat)) (((s1 : Rat) / (sf : Rat)) * ((s1 : Rat) / (sf : Rat))) 2 (2 + 2) _ HV5.out HV6.out (by omega) (by omega) (by omega)).mono ?_
     rintro e w7 ⟨v7, rfl, hv, hsz, hb⟩
     replace cR0 := bc hb ltR cR0
     replace fR0 := bf hb ltR fR0
     replace cR1 := bc hb ltR cR1
     replace fR1 := bf hb ltR fR1
     replace cR2 := bc hb ltR cR2
     replace fR2 := bf hb ltR fR2
     replace ltR := bl hb ltR
     replace cS0 := bc hb ltS cS0
     replace fS0 := bf hb ltS fS0
     replace cS1 := bc hb ltS cS1
     replace fS1 := bf hb ltS fS1
     replace cS2 := bc hb ltS cS2
     replace fS2 := bf hb ltS fS2
     replace ltS := bl hb ltS
     replace cP0 := bc hb ltP cP0
     replace cP1 := bc hb ltP cP1
     replace cP2 := bc hb ltP cP2
     replace ltP := bl hb ltP
     replace HI := Lib.hid (HI.out.below hb)
     replace HVm := Lib.hid (HVm.out.below hb)
     replace HV5 := Lib.hid (HV5.out.below hb)
     replace HV6 := Lib.hid (HV6.out.below hb)
     replace hM := grown_below hM hb
     replace hB := hB.trans (hb.mono hB.size)
     have HZ7 := Lib.hid (hsz.mono (show 2 + (2 + 2) + 1 ≤ 20 by omega))
     have HV7 := Lib.hid (hv.mono hsB)
     obtain ⟨p7', m7', q7', p7, m7, q7, rfl, -, -, -, -⟩ := hv
     clear hsz
     generalize decide ((((s2 : Rat) / (sf : Rat)) - ((s1 : Rat) / (sf : Rat)) * ((s1 : Rat) / (sf : Rat))).num < 0) = d7 at *
     clear hb
     refine hK _ _ ⟨⟨w7, hM⟩, rfl⟩ ?_
     clear hK K
     refine wpSched_eff rfl rfl (fun K hK => ?_)
     go_simp
     refine hK _ _ ⟨⟨_, grown_set (grown_set (grown_set hM 0 _) 1 _) 2 _⟩, rfl⟩ ?_
     clear hK K
     refine wpSched_eff rfl rfl (fun K hK => ?_)
     go_simp
     refine hK _ _ ⟨⟨_, grown_set2 (grown_set2 (grown_set2 (grown_set (grown_set (grown_set hM 0 _) 1 _) 2 _) 0 _) 1 _) 2 _⟩, rfl⟩ ?_
     clear hK K
     repeat (refine wpSched_calm rfl (fun K hK => ?_); go_simp; refine hK _ ?_; clear hK K)
     refine wpSched_nil ?_
     go_wp2_with fail
     exact bodyPost_ret (v := .tuple #[.agg #[.bool dm, .slice pm' mm' qm', .slice pm mm qm], .agg #[.bool d7, .slice p7' m7' q7', .slice p7 m7 q7], .int .i64 0]) (by simp [results, Tryz.results22, go_sem, cR0, cR1, cR2, cS0, cS1, cS2]) rfl ⟨_, _, rfl, by rw [HMe.out]; exact HVm.out.set2 (by omega) (by omega) (by omega) _ _ _ _ _ _, by rw [HVa.out]; exact HV7.out.set2 (by omega) (by omega) (by omega) _ _ _ _ _ _, by rw [HMe.out]; exact HZm.out.mono (by omega), by rw [HVa.out]; exact HZ7.out, ((((((hB.setCell (p := ⟨w.heap.size, 0, none⟩) (by simp) _).setCell (p := ⟨w.heap.size, 1, none⟩) (by simp) _).setCell (p := ⟨w.heap.size, 2, none⟩) (by simp) _).setCell (p := ⟨w.heap.size + 1, 0, none⟩) (by simp) _).setCell (p := ⟨w.heap.size + 1, 1, none⟩) (by simp) _).setCell (p := ⟨w.heap.size + 1, 2, none⟩) (by simp) _)⟩
end Go.Proofs.YtahmndacoanfiaaGreat
