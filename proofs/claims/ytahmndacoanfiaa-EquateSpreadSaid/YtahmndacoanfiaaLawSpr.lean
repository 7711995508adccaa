/- The law EquateSpread: the mean is a possible score, and the variance is not negative, and 0 exactly if all persons have the same score. No condition. -/
import Derived.Test.YtahmndacoanfiaaEqV
import Derived.Test.YtahmndacoanfiaaFrame
namespace Go.Proofs.Ytahmndacoanfiaa
set_option maxRecDepth 100000
open Go.ChangeShapes Go.WideShapes Go.ChangeAt Go.RowKit

theorem sgI_ge {r : Rat} : 0 ≤ rsgI r ↔ 0 ≤ r := by
  have h := sgI_lt (r := r)
  constructor
  · intro h1; rw [← Rat.not_lt]; intro h2; have := h.2 h2; omega
  · intro h1
    rcases Int.lt_or_le (rsgI r) 0 with h2 | h2
    · have := h.1 h2; grind
    · exact h2
theorem cmpI_le0 {r s : Rat} : rcmpI r s ≤ 0 ↔ r ≤ s := by
  have h := cmpI_gt0 (r := r) (s := s)
  constructor
  · intro h1; rw [← Rat.not_lt]; intro h2; have := h.2 h2; omega
  · intro h1
    rcases Int.lt_or_le 0 (rcmpI r s) with h2 | h2
    · have := h.1 h2; grind
    · exact h2
theorem posN_le (f : List Int) (k : Nat) : posN f k ≤ k := by
  induction k with
  | zero => simp [posN]
  | succ k ih => simp only [posN]; split <;> omega
set_option maxHeartbeats 4000000 in
theorem spread_no (f : List Int) (a : Option Addr) (len cap : Nat) (w : World) (hI : Ints w a len cap f) (hE : eqE f ≠ 0) :
    Calls Try.prog 6 #[.slice a len cap] w fun e w' => e = .returned (.bool true) ∧ Below w.heap.size w w' := by
  have HI := Lib.hid hI
  have hz : (eqE f == 0) = false := by simpa using hE
  have HNE := Lib.hid hE
  clear hE hI
  have HS0 := Lib.hid (show rsgI 0 = 0 from rfl)
  have HZ0 : Hid (Rsz (0 : Rat) 1) := Lib.hid (by unfold Rsz; rw [show (0 : Rat).num.natAbs = 0 from rfl, show (0 : Rat).den = 1 from rfl, digs_zero, digs_one (by omega) (by omega)]; simp)
  go_enter Try.func6, Try.ntmps6
  go_wp2_with fail
  refine (emom_no f a len cap _ HI.out HNE.out).mono ?_
  rintro e w1 ⟨vm, vv, rfl, hv, hu, hb⟩
  replace HI := Lib.hid (HI.out.below hb)
  have hB := hb
  have HVm := Lib.hid (hv.mono (Nat.zero_le _))
  have HVv := Lib.hid (hu.mono (Nat.zero_le _))
  obtain ⟨pm', mm', qm', pm, mm, qm, rfl, -, -, -, -⟩ := hv
  obtain ⟨pv', mv', qv', pv, mv, qv, rfl, -, -, -, -⟩ := hu
  generalize decide ((0 : Rat).num < 0) = dm at *
  clear hb
  generalize hef : eqE f = ef at *
  have HEF := Lib.hid hef
  clear hef
  go_wp2_with fail
  have hbx : Below w1.heap.size w1 ((w1.alloc (.cells #[.bool dm, .slice pm' mm' qm', .slice pm mm qm] 33)).alloc (.cells #[.bool dm, .slice pv' mv' qv', .slice pv mv qv] 33)) := (((Below.refl _ _).alloc (Nat.le_refl _) _).alloc (by simp) _)
  generalize hWW : ((w1.alloc (.cells #[.bool dm, .slice pm' mm' qm', .slice pm mm qm] 33)).alloc (.cells #[.bool dm, .slice pv' mv' qv', .slice pv mv qv] 33)) = w1a at *
  replace HI := Lib.hid (HI.out.below hbx)
  replace HVm := Lib.hid (HVm.out.below hbx)
  replace HVv := Lib.hid (HVv.out.below hbx)
  have cM0 : w1a.cell? ⟨w1.heap.size, 0, none⟩ = some (.bool dm) := by subst hWW; go_simp
  have cM1 : w1a.cell? ⟨w1.heap.size, 1, none⟩ = some (.slice pm' mm' qm') := by subst hWW; go_simp
  have cM2 : w1a.cell? ⟨w1.heap.size, 2, none⟩ = some (.slice pm mm qm) := by subst hWW; go_simp
  have ltM : w1.heap.size < w1a.heap.size := by subst hWW; simp <;> omega
  have cV0 : w1a.cell? ⟨w1.heap.size + 1, 0, none⟩ = some (.bool dm) := by subst hWW; go_simp
  have cV1 : w1a.cell? ⟨w1.heap.size + 1, 1, none⟩ = some (.slice pv' mv' qv') := by subst hWW; go_simp
  have cV2 : w1a.cell? ⟨w1.heap.size + 1, 2, none⟩ = some (.slice pv mv qv) := by subst hWW; go_simp
  have ltV : w1.heap.size + 1 < w1a.heap.size := by subst hWW; simp
  replace hB := hB.trans (hbx.mono hB.size)
  clear hbx hWW
  refine (evalid_b f a len cap _ HI.out).mono ?_
  rintro e w2 ⟨rfl, hb⟩
  replace cM0 := bc hb ltM cM0
  replace cM1 := bc hb ltM cM1
  replace cM2 := bc hb ltM cM2
  replace ltM := bl hb ltM
  replace cV0 := bc hb ltV cV0
  replace cV1 := bc hb ltV cV1
  replace cV2 := bc hb ltV cV2
  replace ltV := bl hb ltV
  replace HI := Lib.hid (HI.out.below hb)
  replace HVm := Lib.hid (HVm.out.below hb)
  replace HVv := Lib.hid (HVv.out.below hb)
  replace hB := hB.trans (hb.mono hB.size)
  rw [HEF.out]
  clear hb
  go_wp2_with fail
  refine (qsign_any _ 0 1 _ (HVm.out.raw HZ0.out) (by omega)).mono ?_
  rintro e w3 ⟨rfl, hb⟩
  replace cM0 := bc hb ltM cM0
  replace cM1 := bc hb ltM cM1
  replace cM2 := bc hb ltM cM2
  replace ltM := bl hb ltM
  replace cV0 := bc hb ltV cV0
  replace cV1 := bc hb ltV cV1
  replace cV2 := bc hb ltV cV2
  replace ltV := bl hb ltV
  replace HI := Lib.hid (HI.out.below hb)
  replace HVm := Lib.hid (HVm.out.below hb)
  replace HVv := Lib.hid (HVv.out.below hb)
  replace hB := hB.trans (hb.mono hB.size)
  rw [HS0.out]
  clear hb
  go_wp2_with fail
  refine (qsign_any _ 0 1 _ (HVv.out.raw HZ0.out) (by omega)).mono ?_
  rintro e w4 ⟨rfl, hb⟩
  replace cM0 := bc hb ltM cM0
  replace cM1 := bc hb ltM cM1
  replace cM2 := bc hb ltM cM2
  replace ltM := bl hb ltM
  replace cV0 := bc hb ltV cV0
  replace cV1 := bc hb ltV cV1
  replace cV2 := bc hb ltV cV2
  replace ltV := bl hb ltV
  replace HI := Lib.hid (HI.out.below hb)
  replace HVm := Lib.hid (HVm.out.below hb)
  replace HVv := Lib.hid (HVv.out.below hb)
  replace hB := hB.trans (hb.mono hB.size)
  rw [HS0.out]
  clear hb
  go_wp2_with fail
  refine (awake_any _).mono ?_
  rintro e w5 ⟨rfl, hb⟩
  replace cM0 := bc hb ltM cM0
  replace cM1 := bc hb ltM cM1
  replace cM2 := bc hb ltM cM2
  replace ltM := bl hb ltM
  replace cV0 := bc hb ltV cV0
  replace cV1 := bc hb ltV cV1
  replace cV2 := bc hb ltV cV2
  replace ltV := bl hb ltV
  replace HI := Lib.hid (HI.out.below hb)
  replace HVm := Lib.hid (HVm.out.below hb)
  replace HVv := Lib.hid (HVv.out.below hb)
  replace hB := hB.trans (hb.mono hB.size)
  clear hb
  go_wp2_with fail
  go_ret
  exact ⟨rfl, hB⟩
set_option maxHeartbeats 4000000 in
theorem spread_ok (f : List Int) (a : Option Addr) (len cap : Nat) (w : World) (hI : Ints w a len cap f) (hO : OkF f) :
    Calls Try.prog 6 #[.slice a len cap] w fun e w' => e = .returned (.bool true) ∧ Below w.heap.size w w' := by
  have HI := Lib.hid hI
  have HO := Lib.hid (eqE_OkF.2 hO)
  have HF := Lib.hid hO
  have HN := Lib.hid hI.1
  have hl61 : len ≤ 61 := by rw [← HN.out]; exact hO.1
  have hl0 : 0 < len := by rw [← HN.out]; exact hO.len
  obtain ⟨k1, hk1⟩ : ∃ k1 : Nat, len = k1 + 1 := ⟨len - 1, by omega⟩
  obtain ⟨s1, s2⟩ := mean_bounds hO.nn hO.pos
  obtain ⟨s3, s4, s5⟩ := var_sign hO.nn hO.pos
  rw [show f.length - 1 = k1 by rw [hI.1]; omega] at s2
  have HSm := Lib.hid (sgI_ge.2 s1)
  have HCm := Lib.hid (cmpI_le0.2 s2)
  have HSv := Lib.hid (sgI_ge.2 s3)
  rw [hI.1] at s4 s5
  have hpl := posN_le f len
  have HBB : ∃ bb : Bool, Hid ((rsgI (varR f) == 0) = bb) ∧ Hid (((posN f len : Int) == 1) = bb) := by
    by_cases hp : posN f len ≤ 1
    · refine ⟨true, Lib.hid ?_, Lib.hid ?_⟩
      · simpa using rsgI_zero.2 (s4.2 hp)
      · simp; omega
    · refine ⟨false, Lib.hid ?_, Lib.hid ?_⟩
      · simpa using fun h => hp (s4.1 (rsgI_zero.1 h))
      · simp; omega
  obtain ⟨bb, HB1, HB2⟩ := HBB
  have HDv := Lib.hid (show Rat.divInt (k1 : Int) 1 = (k1 : Rat) by rw [rat_whole, Rat.intCast_natCast])
  generalize hsv : rsgI (varR f) = sv at *
  have HSV := Lib.hid hsv
  generalize hsm : rsgI (meanR f) = sm at *
  have HSM := Lib.hid hsm
  generalize hcm : rcmpI (meanR f) (k1 : Rat) = cm at *
  have HCM := Lib.hid hcm
  have hka : len ≤ k1 + 1 := by omega
  have hkb : k1 + 1 ≤ len := by omega
  clear hO hI hsv hsm hcm s1 s2 s3 s4 s5 hk1
  go_enter Try.func6, Try.ntmps6
  go_wp2_with fail
  refine (emom_any f a len cap _ HI.out HF.out).mono ?_
  rintro e w1 ⟨vm, vv, rfl, hv, hu, hsz, hsu, hb⟩
  replace HI := Lib.hid (HI.out.below hb)
  have hB := hb
  have HVm := Lib.hid (hv.mono (Nat.zero_le _))
  have HVv := Lib.hid (hu.mono (Nat.zero_le _))
  obtain ⟨pm', mm', qm', pm, mm, qm, rfl, -, -, -, -⟩ := hv
  obtain ⟨pv', mv', qv', pv, mv, qv, rfl, -, -, -, -⟩ := hu
  generalize decide ((meanR f).num < 0) = dm at *
  generalize decide ((varR f).num < 0) = dv at *
  have HZm := Lib.hid hsz
  have HZv := Lib.hid hsu
  clear hsz hsu
  clear hb
  go_wp2_with fail
  have hbx : Below w1.heap.size w1 ((w1.alloc (.cells #[.bool dm, .slice pm' mm' qm', .slice pm mm qm] 33)).alloc (.cells #[.bool dv, .slice pv' mv' qv', .slice pv mv qv] 33)) := (((Below.refl _ _).alloc (Nat.le_refl _) _).alloc (by simp) _)
  generalize hWW : ((w1.alloc (.cells #[.bool dm, .slice pm' mm' qm', .slice pm mm qm] 33)).alloc (.cells #[.bool dv, .slice pv' mv' qv', .slice pv mv qv] 33)) = w1a at *
  replace HI := Lib.hid (HI.out.below hbx)
  replace HVm := Lib.hid (HVm.out.below hbx)
  replace HVv := Lib.hid (HVv.out.below hbx)
  have cM0 : w1a.cell? ⟨w1.heap.size, 0, none⟩ = some (.bool dm) := by subst hWW; go_simp
  have cM1 : w1a.cell? ⟨w1.heap.size, 1, none⟩ = some (.slice pm' mm' qm') := by subst hWW; go_simp
  have cM2 : w1a.cell? ⟨w1.heap.size, 2, none⟩ = some (.slice pm mm qm) := by subst hWW; go_simp
  have ltM : w1.heap.size < w1a.heap.size := by subst hWW; simp <;> omega
  have cV0 : w1a.cell? ⟨w1.heap.size + 1, 0, none⟩ = some (.bool dv) := by subst hWW; go_simp
  have cV1 : w1a.cell? ⟨w1.heap.size + 1, 1, none⟩ = some (.slice pv' mv' qv') := by subst hWW; go_simp
  have cV2 : w1a.cell? ⟨w1.heap.size + 1, 2, none⟩ = some (.slice pv mv qv) := by subst hWW; go_simp
  have ltV : w1.heap.size + 1 < w1a.heap.size := by subst hWW; simp
  replace hB := hB.trans (hbx.mono hB.size)
  clear hbx hWW
  refine (evalid_b f a len cap _ HI.out).mono ?_
  rintro e w2 ⟨rfl, hb⟩
  replace cM0 := bc hb ltM cM0
  replace cM1 := bc hb ltM cM1
  replace cM2 := bc hb ltM cM2
  replace ltM := bl hb ltM
  replace cV0 := bc hb ltV cV0
  replace cV1 := bc hb ltV cV1
  replace cV2 := bc hb ltV cV2
  replace ltV := bl hb ltV
  replace HI := Lib.hid (HI.out.below hb)
  replace HVm := Lib.hid (HVm.out.below hb)
  replace HVv := Lib.hid (HVv.out.below hb)
  replace hB := hB.trans (hb.mono hB.size)
  rw [HO.out]
  clear hb
  go_wp2_with fail
  go_loop [6, 34] (fun s i => ∃ k : Nat, k ≤ len ∧ i = .int .i64 k ∧ s = .int .i64 (posN f k : Nat)) (fun _ i => len - (intOf i).toNat)
  case atStart => exact ⟨0, by omega, rfl, rfl⟩
  case round =>
    obtain ⟨k, hk, rfl, rfl⟩ := hrel
    by_cases hlt : k < len
    · obtain ⟨bk, off, rfl, hbs, hcc⟩ := HI.out.2.at hlt
      have ec := hcc k hlt _ (Below.refl _ _)
      have hpk := posN_le f k
      have HE := Lib.hid (show posN f (k + 1) = posN f k + (if 0 < f.getD k 0 then 1 else 0) from rfl)
      generalize f.getD k 0 = fk at *
      generalize posN f k = pk at *
      clear hcc
      by_cases h0 : 0 < fk
      · have d0 : decide (0 < fk) = true := by simpa using h0
        have HE2 := Lib.hid (show posN f (k + 1) = pk + 1 by rw [HE.out, if_pos h0])
        clear HE h0
        go_wp2_with fail
        go_round
        case rel => exact ⟨k + 1, by omega, by go_num, by rw [HE2.out]; go_num⟩
        case measure => simp [intOf]; omega
      · have d0 : decide (0 < fk) = false := by simpa using h0
        have HE2 := Lib.hid (show posN f (k + 1) = pk by rw [HE.out, if_neg h0]; rfl)
        clear HE h0
        go_wp2_with fail
        go_round
        case rel => exact ⟨k + 1, by omega, by go_num, by rw [HE2.out]⟩
        case measure => simp [intOf]; omega
    · obtain rfl : k = len := by omega
      have dsm : decide (0 ≤ sm) = true := by simpa using HSm.out
      have dcm : decide (cm ≤ 0) = true := by simpa using HCm.out
      have dsv : decide (0 ≤ sv) = true := by simpa using HSv.out
      have b1 := HB1.out
      have b2 := HB2.out
      have b3 : (bb == bb) = true := by simp
      have hw : IntKind.i64.wrap ((k : Int) - 1) = (k1 : Int) := by rw [IntWalk.i64_in _ (by omega)]; omega
      generalize posN f k = pn at *
      clear HSm HCm HSv HB1 HB2 hlt
      go_wp2_with fail
      have eM0 := box_ext (B := w2.heap.size) cM0 ltM
      have eM1 := box_ext (B := w2.heap.size) cM1 ltM
      have eM2 := box_ext (B := w2.heap.size) cM2 ltM
      have eV0 := box_ext (B := w2.heap.size) cV0 ltV
      have eV1 := box_ext (B := w2.heap.size) cV1 ltV
      have eV2 := box_ext (B := w2.heap.size) cV2 ltV
      refine wp_region_sched [(0, false), (1, true), (2, false), (3, false), (4, false), (5, false), (6, false), (7, false), (8, true), (9, true), (10, false), (11, false), (12, false), (13, false), (14, true), (15, false), (16, false), (17, false), (18, false), (21, false), (22, false), (19, true), (20, false), (23, false), (24, false), (25, false), (26, true), (27, false), (28, false)] (fun w' => ∃ W : Ext w2.heap.size w2, w' = W.1) (by kernel_rfl) (by kernel_rfl) ⟨⟨w2.drew, (Below.refl _ _).drew⟩, rfl⟩ ?_
      repeat (refine wpSched_calm rfl (fun K hK => ?_); go_simp; refine hK _ ?_; clear hK K)
      have hbx : Below w2.heap.size w2 w2.drew := (Below.refl _ _).drew
      have hM := hbx
      replace cM0 := bc hbx ltM cM0
      replace cM1 := bc hbx ltM cM1
      replace cM2 := bc hbx ltM cM2
      replace ltM := bl hbx ltM
      replace cV0 := bc hbx ltV cV0
      replace cV1 := bc hbx ltV cV1
      replace cV2 := bc hbx ltV cV2
      replace ltV := bl hbx ltV
      replace HI := Lib.hid (HI.out.below hbx)
      replace HVm := Lib.hid (HVm.out.below hbx)
      replace HVv := Lib.hid (HVv.out.below hbx)
      replace hB := hB.trans (hbx.mono hB.size)
      clear hbx
      generalize w2.drew = ww2d at *
      refine wpSched_eff rfl rfl (fun K hK => ?_)
      go_simp
      refine (qsign_any _ (meanR f) 20 _ (HVm.out.raw HZm.out) (by omega)).mono ?_
      rintro e w3 ⟨rfl, hb⟩
      replace cM0 := bc hb ltM cM0
      replace cM1 := bc hb ltM cM1
      replace cM2 := bc hb ltM cM2
      replace ltM := bl hb ltM
      replace cV0 := bc hb ltV cV0
      replace cV1 := bc hb ltV cV1
      replace cV2 := bc hb ltV cV2
      replace ltV := bl hb ltV
      replace HI := Lib.hid (HI.out.below hb)
      replace HVm := Lib.hid (HVm.out.below hb)
      replace HVv := Lib.hid (HVv.out.below hb)
      replace hM := hM.trans (hb.mono hM.size)
      replace hB := hB.trans (hb.mono hB.size)
      rw [HSM.out]
      clear hb
      refine hK _ _ ⟨⟨w3, hM⟩, rfl⟩ ?_
      clear hK K
      repeat (refine wpSched_calm rfl (fun K hK => ?_); go_simp; refine hK _ ?_; clear hK K)
      refine wpSched_geff rfl ?_ (fun K hK => ?_)
      · go_simp
      go_simp
      refine (part_any (k1 : Int) 1 _ (by omega) (by omega) (by omega) (by omega) (by omega)).mono ?_
      rintro e w4 ⟨v4, rfl, hv, hsz, hb⟩
      replace cM0 := bc hb ltM cM0
      replace cM1 := bc hb ltM cM1
      replace cM2 := bc hb ltM cM2
      replace ltM := bl hb ltM
      replace cV0 := bc hb ltV cV0
      replace cV1 := bc hb ltV cV1
      replace cV2 := bc hb ltV cV2
      replace ltV := bl hb ltV
      replace HI := Lib.hid (HI.out.below hb)
      replace HVm := Lib.hid (HVm.out.below hb)
      replace HVv := Lib.hid (HVv.out.below hb)
      replace hM := hM.trans (hb.mono hM.size)
      replace hB := hB.trans (hb.mono hB.size)
      rw [HDv.out] at hv hsz
      have HV4 := Lib.hid (hv.raw hsz)
      clear hv hsz
      clear hb
      refine hK _ _ ⟨⟨w4, hM⟩, rfl⟩ ?_
      clear hK K
      refine wpSched_geff rfl ?_ (fun K hK => ?_)
      · go_simp
      go_simp
      refine (qcmp_any _ _ (meanR f) (k1 : Rat) 20 2 _ (HVm.out.raw HZm.out) HV4.out (by omega) (by omega) (by omega)).mono ?_
      rintro e w5 ⟨rfl, hb⟩
      replace cM0 := bc hb ltM cM0
      replace cM1 := bc hb ltM cM1
      replace cM2 := bc hb ltM cM2
      replace ltM := bl hb ltM
      replace cV0 := bc hb ltV cV0
      replace cV1 := bc hb ltV cV1
      replace cV2 := bc hb ltV cV2
      replace ltV := bl hb ltV
      replace HI := Lib.hid (HI.out.below hb)
      replace HVm := Lib.hid (HVm.out.below hb)
      replace HVv := Lib.hid (HVv.out.below hb)
      replace HV4 := Lib.hid (HV4.out.below hb)
      replace hM := hM.trans (hb.mono hM.size)
      replace hB := hB.trans (hb.mono hB.size)
      rw [HCM.out]
      clear hb
      refine hK _ _ ⟨⟨w5, hM⟩, rfl⟩ ?_
      clear hK K
      clear HV4
      repeat (refine wpSched_calm rfl (fun K hK => ?_); go_simp; refine hK _ ?_; clear hK K)
      refine wpSched_geff rfl ?_ (fun K hK => ?_)
      · go_simp
      go_simp
      refine (qsign_any _ (varR f) 20 _ (HVv.out.raw HZv.out) (by omega)).mono ?_
      rintro e w6 ⟨rfl, hb⟩
      replace cM0 := bc hb ltM cM0
      replace cM1 := bc hb ltM cM1
      replace cM2 := bc hb ltM cM2
      replace ltM := bl hb ltM
      replace cV0 := bc hb ltV cV0
      replace cV1 := bc hb ltV cV1
      replace cV2 := bc hb ltV cV2
      replace ltV := bl hb ltV
      replace HI := Lib.hid (HI.out.below hb)
      replace HVm := Lib.hid (HVm.out.below hb)
      replace HVv := Lib.hid (HVv.out.below hb)
      replace hM := hM.trans (hb.mono hM.size)
      replace hB := hB.trans (hb.mono hB.size)
      rw [HSV.out]
      clear hb
      refine hK _ _ ⟨⟨w6, hM⟩, rfl⟩ ?_
      clear hK K
      repeat (refine wpSched_calm rfl (fun K hK => ?_); go_simp; refine hK _ ?_; clear hK K)
      refine wpSched_geff rfl ?_ (fun K hK => ?_)
      · go_simp
      go_simp
      refine (qsign_any _ (varR f) 20 _ (HVv.out.raw HZv.out) (by omega)).mono ?_
      rintro e w7 ⟨rfl, hb⟩
      replace cM0 := bc hb ltM cM0
      replace cM1 := bc hb ltM cM1
      replace cM2 := bc hb ltM cM2
      replace ltM := bl hb ltM
      replace cV0 := bc hb ltV cV0
      replace cV1 := bc hb ltV cV1
      replace cV2 := bc hb ltV cV2
      replace ltV := bl hb ltV
      replace HI := Lib.hid (HI.out.below hb)
      replace HVm := Lib.hid (HVm.out.below hb)
      replace HVv := Lib.hid (HVv.out.below hb)
      replace hM := hM.trans (hb.mono hM.size)
      replace hB := hB.trans (hb.mono hB.size)
      rw [HSV.out]
      clear hb
      refine hK _ _ ⟨⟨w7, hM⟩, rfl⟩ ?_
      clear hK K
      repeat (refine wpSched_calm rfl (fun K hK => ?_); go_simp; refine hK _ ?_; clear hK K)
      refine wpSched_geff rfl ?_ (fun K hK => ?_)
      · go_simp
      go_simp
      refine (awake_any _).mono ?_
      rintro e w8 ⟨rfl, hb⟩
      replace cM0 := bc hb ltM cM0
      replace cM1 := bc hb ltM cM1
      replace cM2 := bc hb ltM cM2
      replace ltM := bl hb ltM
      replace cV0 := bc hb ltV cV0
      replace cV1 := bc hb ltV cV1
      replace cV2 := bc hb ltV cV2
      replace ltV := bl hb ltV
      replace HI := Lib.hid (HI.out.below hb)
      replace HVm := Lib.hid (HVm.out.below hb)
      replace HVv := Lib.hid (HVv.out.below hb)
      replace hM := hM.trans (hb.mono hM.size)
      replace hB := hB.trans (hb.mono hB.size)
      clear hb
      refine hK _ _ ⟨⟨w8, hM⟩, rfl⟩ ?_
      clear hK K
      repeat (refine wpSched_calm rfl (fun K hK => ?_); go_simp; refine hK _ ?_; clear hK K)
      refine wpSched_nil ?_
      clear eM0 eM1 eM2 eV0 eV1 eV2
      go_wp2_with fail
      go_ret
      exact ⟨rfl, hB⟩

theorem spread_calls (f : List Int) (a : Option Addr) (len cap : Nat) (w : World) (hI : Ints w a len cap f) :
    Calls Try.prog 6 #[.slice a len cap] w fun e w' => e = .returned (.bool true) ∧ Below w.heap.size w w' := by
  by_cases hE : eqE f = 0
  · exact spread_ok f a len cap w hI (eqE_OkF.1 hE)
  · exact spread_no f a len cap w hI hE


theorem equateSpread_walk {H : Type} {enc : TypeId × Value → H} (W : World) (base : Nat) (args : Array Value) (ds gs : List (DataW H)) (before : List MemPlace)
    (hval : ∀ (j : Nat) t v, Try.f6.params[j]? = some t → args[j]? = some v → Value.okWide Try.prog W .any base t v)
    (hW : DataW.Whole enc Try.prog Try.f6.params.toList Rows.equateSpreadSpec.vars false W args.toList ds gs before)
    (_hsz : (DataW.weightsEach Try.prog (Try.f6.params.toList ++ Rows.equateSpreadSpec.plain.varTypes Try.prog) (ds ++ gs)).all (· ≤ reachBytes) = true) :
    Calls Try.prog 6 args W fun e w' => e = .returned (.bool true) ∧ Below W.heap.size W w' := by
  obtain ⟨p, q, hA, hV, -, -, -⟩ := hW
  obtain ⟨rfl, -⟩ := trodVars_none hV
  rw [Try.params6] at hA hval
  obtain ⟨v0, d0, rfl, rfl, h0⟩ := trodAll_one hA
  obtain ⟨a, len, cap, xs, rfl, hrow, -⟩ := open_row Try.underlying22 Try.underlying3 (by kernel_rfl) (hval 0 _ _ rfl rfl) h0
  exact spread_calls xs a len cap W hrow.ints

set_option maxRecDepth 100000 in
theorem equateSpread_lifted (os : Os) (started : os.Started) (H : Type) (enc : TypeId × Value → H) :
    ReturnsInHanded {} Try.checked os 6 .any (Rows.equateSpreadSpec.pre6 enc Try.prog Try.f6 Rows.equateSpreadRow.domain false) (Rows.equateSpreadSpec.post enc Try.prog Try.f6 false true false false) := by
  refine returnsInHanded_of_change_sized (C := Try.checked) own started (by kernel_rfl) Try.func6
    (ChangeSpec.witness6 (enc := enc) (C := Try.checked) false ⟨#[], #[.slice none 0 0], []⟩ 8 (by kernel_rfl) (by kernel_rfl) (by kernel_rfl) (by kernel_rfl)) ?_
  intro W base args ds gs before hval hW _ hsz _
  exact law_post rfl (by kernel_rfl) (by kernel_rfl) (fun ds h => match ds, h with | [d0], _ => ⟨rfl, rfl, rfl⟩) hW (equateSpread_walk W base args ds gs before hval hW hsz)

theorem equateSpread_over : Rows.equateSpreadRow.holds Try.pinned (OpenSpec.ofChange Rows.equateSpreadSpec) :=
  OpenClaim.holds_of_wide 6 Try.f6 rfl rfl rfl rfl rfl rfl rfl ⟨rfl, rfl, rfl, rfl, rfl⟩ rfl rfl rfl rfl rfl (by kernel_rfl) Try.func6 (by kernel_rfl)
    (of_decide_eq_true (by kernel_rfl)) (by unfold Func.isWrapper; first | (rw [if_pos (by decide +kernel)]; kernel_rfl) | (rw [if_neg (by decide +kernel)]; exact ⟨rfl, rfl⟩))
    (fun os started H enc _ => equateSpread_lifted os started H enc)

theorem equateSpread_proved : Rows.EquateSpreadSaid := equateSpread_over

end Go.Proofs.Ytahmndacoanfiaa
