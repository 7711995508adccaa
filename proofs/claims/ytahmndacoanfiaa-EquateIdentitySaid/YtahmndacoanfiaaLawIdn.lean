/- The law EquateIdentity: a form equated to itself keeps its scores, and equated scores never fall. No condition. -/
import Derived.Test.YtahmndacoanfiaaEqV
import Derived.Test.YtahmndacoanfiaaFrame
namespace Go.Proofs.Ytahmndacoanfiaa
set_option maxRecDepth 100000
open Go.ChangeShapes Go.WideShapes Go.ChangeAt Go.RowKit

theorem sgI_ge {r : Rat} : 0 ≤ rsgI r ↔ 0 ≤ r := by
  have h := sgI_lt (r := r)
  constructor
  · intro h1; rw [← Rat.not_lt]; intro h2; have := h.2 h2; omega
  · intro h1
    rcases Int.lt_or_le (rsgI r) 0 with h2 | h2
    · have := h.1 h2; grind
    · exact h2
theorem cmpI_le0 {r s : Rat} : rcmpI r s ≤ 0 ↔ r ≤ s := by
  have h := cmpI_gt0 (r := r) (s := s)
  constructor
  · intro h1; rw [← Rat.not_lt]; intro h2; have := h.2 h2; omega
  · intro h1
    rcases Int.lt_or_le 0 (rcmpI r s) with h2 | h2
    · have := h.1 h2; grind
    · exact h2
theorem self_score {f : List Int} (h : OkF f) {k : Nat} (hk : k < f.length) (h0 : 0 < f.getD k 0) : scoreR f f k = (k : Rat) := by
  have hs := cast_lt h.pos
  have e0 : ((0 : Int) : Rat) = 0 := rfl
  obtain ⟨a, b⟩ := inv_mid h.nn hk h0
  have e : rankR f (k : Rat) * (f.sum : Rat) = (preS f k : Rat) + (f.getD k 0 : Rat) * (1/2) := by
    unfold rankR; rw [rk_mid hk, Rat.div_mul_cancel]; grind
  unfold scoreR
  rw [e, invR_eq a, b]
theorem score_le {f g : List Int} (h : OkF f) (hg : OkF g) {j k : Nat} (hjk : j ≤ k) : scoreR f g j ≤ scoreR f g k := by
  have hs := cast_lt h.pos
  have hs2 := cast_lt hg.pos
  have e0 : ((0 : Int) : Rat) = 0 := rfl
  have hjk' : (j : Rat) ≤ (k : Rat) := Rat.natCast_le_natCast.2 hjk
  have h1 := rank_in h (j : Rat)
  have h2 := rank_in h (k : Rat)
  have h3 : rankR f (j : Rat) ≤ rankR f (k : Rat) := by
    have h4 := rkN_mono h.nn (show (j : Rat) + 1/2 ≤ (k : Rat) + 1/2 by grind)
    unfold rankR
    rw [Rat.div_def, Rat.div_def]
    exact Rat.mul_le_mul_of_nonneg_right h4 (Rat.le_of_lt (Rat.inv_pos.2 (by grind)))
  have up : ∀ x : Rat, x ≤ 1 → x * (g.sum : Rat) ≤ (g.sum : Rat) := fun x hx => by
    have := Rat.mul_le_mul_of_nonneg_right hx (show (0 : Rat) ≤ (g.sum : Rat) by grind)
    grind
  obtain ⟨m, hm⟩ := inv_ex hg.nn hg.2.2 (up _ h1.2)
  obtain ⟨n, hn⟩ := inv_ex hg.nn hg.2.2 (up _ h2.2)
  unfold scoreR
  rw [invR_eq hm, invR_eq hn]
  exact inv_mono hg.nn (Rat.mul_nonneg h1.1 (by grind)) (Rat.mul_le_mul_of_nonneg_right h3 (by grind)) hm hn

set_option maxHeartbeats 4000000 in
theorem ident_a (f g : List Int) (a : Option Addr) (len cap : Nat) (a2 : Option Addr) (len2 cap2 : Nat) (ts us : List Rat) (w : World) (hI : Ints w a len cap f) (hI2 : Ints w a2 len2 cap2 g) (ef : Int) (hz : (ef == 0) = false) (hVf : eqE f = ef)
    (hT1 : (∀ w', Below w.heap.size w w' → Calls Try.prog 7 #[.slice a len cap, .slice a len cap] w' fun e w'' => ∃ a' c', e = .returned (.tuple #[.slice a' 0 c', .int .i64 ef]) ∧ RatsN w'' a' 0 c' ts 28 ∧ Below w'.heap.size w' w''))
    (hT2 : (∀ w', Below w.heap.size w w' → Calls Try.prog 7 #[.slice a len cap, .slice a2 len2 cap2] w' fun e w'' => ∃ a' c', e = .returned (.tuple #[.slice a' 0 c', .int .i64 ef]) ∧ RatsN w'' a' 0 c' us 28 ∧ Below w'.heap.size w' w''))
    (hk0 : ∀ k, k < 0 → 0 < f.getD k 0 → ts.getD k 0 = (k : Rat)) (hMo : ∀ k, 1 ≤ k → k < 0 → us.getD (k - 1) 0 ≤ us.getD k 0) (_hlm : len ≤ 9223372036854775807) :
    Calls Try.prog 3 #[.slice a len cap, .slice a2 len2 cap2] w fun e w' => e = .returned (.bool true) ∧ Below w.heap.size w w' := by
  have HI := Lib.hid hI
  have HI2 := Lib.hid hI2
  have HT1 := Lib.hid hT1
  have HT2 := Lib.hid hT2
  have HK := Lib.hid hk0
  have HMo := Lib.hid hMo
  have HVf := Lib.hid hVf
  clear hI hI2 hT1 hT2 hk0 hMo hVf
  have hz2 : (ef != 0) = true := by rw [bne, hz]; rfl
  go_enter Try.func3, Try.ntmps3
  go_wp2_with fail
  refine (HT1.out _ (Below.refl _ _)).mono ?_
  rintro e w1 ⟨a1', c1', rfl, ht, hb⟩
  have HT := Lib.hid ht
  have HB1 := Lib.hid hb
  clear ht HT1
  go_wp2_with fail
  refine (evalid_any f a len cap _ (HI.out.below hb)).mono ?_
  rintro e w1x ⟨rfl, rfl⟩
  rw [HVf.out]
  clear hb
  go_wp2_with fail
  go_loopw [24] (fun i wr => ∃ k : Nat, k ≤ 0 ∧ i = .int .i64 k ∧ Hid (Below w.heap.size w wr) ∧ Hid (Below w1.heap.size w1 wr)) (fun i _ => 0 - (intOf i).toNat)
  case atStart => exact ⟨0, by omega, rfl, HB1, Lib.hid (Below.refl _ _)⟩
  case round =>
    obtain ⟨k, hk, rfl, HBk, HBq⟩ := hrel
    by_cases hlt : k < 0
    · exact absurd hlt (by omega)
    · have hkn : decide ((k : Int) < 0) = false := by simp
      go_wp2_with fail
      refine (HT2.out _ HBk.out).mono ?_
      rintro e w2 ⟨a2', c2', rfl, hu, hb⟩
      have HU := Lib.hid hu
      have HB2 := Lib.hid (HBk.out.trans (hb.mono HBk.out.size))
      clear hu hb HT2
      go_wp2_with fail
      go_loopw [11] (fun i wr => ∃ j : Nat, 1 ≤ j ∧ (j ≤ 0 ∨ j = 1) ∧ i = .int .i64 j ∧ Hid (Below w.heap.size w wr) ∧ Hid (Below w2.heap.size w2 wr)) (fun i _ => 0 - (intOf i).toNat)
      case atStart => exact ⟨1, by omega, by omega, rfl, HB2, Lib.hid (Below.refl _ _)⟩
      case round =>
        obtain ⟨k, hk1, hk2, rfl, HBw, HBr⟩ := hrel
        by_cases hlt2 : k < 0
        · exact absurd hlt2 (by omega)
        · have hkn2 : decide ((k : Int) < 0) = false := by simp
          go_wp2_with fail
          refine (awake_any wr).mono ?_
          rintro e w4 ⟨rfl, hb⟩
          have HB4 := Lib.hid (HBw.out.trans (hb.mono HBw.out.size))
          clear hb
          go_wp2_with fail
          go_ret
          exact ⟨rfl, HB4.out⟩

set_option maxHeartbeats 4000000 in
theorem ident_b (f g : List Int) (a : Option Addr) (len cap : Nat) (a2 : Option Addr) (len2 cap2 : Nat) (ts us : List Rat) (w : World) (hI : Ints w a len cap f) (hI2 : Ints w a2 len2 cap2 g) (eg : Int) (hz : (eg == 0) = false) (hVf : eqE f = 0) (hVg : eqE g = eg)
    (hT1 : (∀ w', Below w.heap.size w w' → Calls Try.prog 7 #[.slice a len cap, .slice a len cap] w' fun e w'' => ∃ a' c', e = .returned (.tuple #[.slice a' len c', .int .i64 0]) ∧ RatsN w'' a' len c' ts 28 ∧ Below w'.heap.size w' w''))
    (hT2 : (∀ w', Below w.heap.size w w' → Calls Try.prog 7 #[.slice a len cap, .slice a2 len2 cap2] w' fun e w'' => ∃ a' c', e = .returned (.tuple #[.slice a' 0 c', .int .i64 eg]) ∧ RatsN w'' a' 0 c' us 28 ∧ Below w'.heap.size w' w''))
    (hk0 : ∀ k, k < len → 0 < f.getD k 0 → ts.getD k 0 = (k : Rat)) (hMo : ∀ k, 1 ≤ k → k < 0 → us.getD (k - 1) 0 ≤ us.getD k 0) (hlm : len ≤ 9223372036854775807) :
    Calls Try.prog 3 #[.slice a len cap, .slice a2 len2 cap2] w fun e w' => e = .returned (.bool true) ∧ Below w.heap.size w w' := by
  have HI := Lib.hid hI
  have HI2 := Lib.hid hI2
  have HT1 := Lib.hid hT1
  have HT2 := Lib.hid hT2
  have HK := Lib.hid hk0
  have HMo := Lib.hid hMo
  have HVf := Lib.hid hVf
  have HVg := Lib.hid hVg
  clear hI hI2 hT1 hT2 hk0 hMo hVf hVg
  go_enter Try.func3, Try.ntmps3
  go_wp2_with fail
  refine (HT1.out _ (Below.refl _ _)).mono ?_
  rintro e w1 ⟨a1', c1', rfl, ht, hb⟩
  have HT := Lib.hid ht
  have HB1 := Lib.hid hb
  clear ht HT1
  go_wp2_with fail
  refine (evalid_any f a len cap _ (HI.out.below hb)).mono ?_
  rintro e w1x ⟨rfl, rfl⟩
  rw [HVf.out]
  clear hb
  go_wp2_with fail
  go_loopw [24] (fun i wr => ∃ k : Nat, k ≤ len ∧ i = .int .i64 k ∧ Hid (Below w.heap.size w wr) ∧ Hid (Below w1.heap.size w1 wr)) (fun i _ => len - (intOf i).toNat)
  case atStart => exact ⟨0, by omega, rfl, HB1, Lib.hid (Below.refl _ _)⟩
  case round =>
    obtain ⟨k, hk, rfl, HBk, HBq⟩ := hrel
    by_cases hlt : k < len
    · obtain ⟨b1, o1, rfl, hb1, hc1⟩ := HT.out.at hlt
      obtain ⟨d, x', l', p', x, l, p, e0, e1, e2, hX, -⟩ := (hc1 k hlt).below hb1 HBq.out
      have hkl : k < len := by omega
      have dkl : decide ((len : Int) ≤ (k : Int)) = false := by simp; omega
      obtain ⟨bf, of, rfl, hbf, hcf⟩ := HI.out.2.at hkl
      have ec := hcf k hkl _ HBk.out
      have hbx : Below wr.heap.size wr (wr.alloc (.cells #[.bool d, .slice x' l' p', .slice x l p] 33)) := (Below.refl _ _).alloc (Nat.le_refl _) _
      have HX := Lib.hid (hX.below hbx)
      have HK2 := Lib.hid (HK.out k hlt)
      have hfl : bf < wr.heap.size := Nat.lt_of_lt_of_le hbf HBk.out.size
      have hbl : b1 < wr.heap.size := Nat.lt_of_lt_of_le hb1 HBq.out.size
      generalize f.getD k 0 = fk at *
      generalize ts.getD k 0 = tk at *
      clear hc1 hcf hX
      go_wp2_with fail
      have ec2 := (hbx.cell (p := ⟨bf, of + k, none⟩) hfl).trans ec
      have x0 : (wr.alloc (.cells #[.bool d, .slice x' l' p', .slice x l p] 33)).cell? ⟨wr.heap.size, 0, none⟩ = some (.bool d) := by go_simp
      have x1 : (wr.alloc (.cells #[.bool d, .slice x' l' p', .slice x l p] 33)).cell? ⟨wr.heap.size, 1, none⟩ = some (.slice x' l' p') := by go_simp
      have x2 : (wr.alloc (.cells #[.bool d, .slice x' l' p', .slice x l p] 33)).cell? ⟨wr.heap.size, 2, none⟩ = some (.slice x l p) := by go_simp
      have hxl : wr.heap.size < (wr.alloc (.cells #[.bool d, .slice x' l' p', .slice x l p] 33)).heap.size := by simp
      have HBk2 := Lib.hid (HBk.out.trans (hbx.mono HBk.out.size))
      have HBq2 := Lib.hid (HBq.out.trans (hbx.mono HBq.out.size))
      generalize wr.alloc (.cells #[.bool d, .slice x' l' p', .slice x l p] 33) = wx at *
      have F0 := box_ext (B := wx.heap.size) ec2 (Nat.lt_of_lt_of_le hfl hbx.size)
      have X0 := box_ext (B := wx.heap.size) x0 hxl
      have X1 := box_ext (B := wx.heap.size) x1 hxl
      have X2 := box_ext (B := wx.heap.size) x2 hxl
      clear e0 e1 e2 ec ec2 x0 x1 x2 hbx hxl HBk HBq
      have hbd : Below wx.heap.size wx wx.drew := (Below.refl _ _).drew
      by_cases hf0 : 0 < fk
      · have d0 : decide (0 < fk) = true := by simpa using hf0
        have HTk := Lib.hid (HK2.out hf0)
        have HDv := Lib.hid (show Rat.divInt (k : Int) 1 = (k : Rat) by rw [rat_whole, Rat.intCast_natCast])
        refine wp_region_sched [(0, false), (1, false), (2, false), (3, false), (4, false), (5, false), (6, false), (7, false), (8, false), (9, false), (10, false), (11, false), (12, false), (13, true), (14, true), (15, false), (16, false), (17, false)] (fun w' => ∃ W : Ext wx.heap.size wx, w' = W.1) (by kernel_rfl) (by kernel_rfl) ⟨⟨wx.drew, (Below.refl _ _).drew⟩, rfl⟩ ?_
        repeat (refine wpSched_calm rfl (fun K hK => ?_); go_simp; refine hK _ ?_; clear hK K)
        clear F0 X0 X1 X2
        refine wpSched_geff rfl ?_ (fun K hK => ?_)
        · go_simp
        go_simp
        refine (part_any (k : Int) 1 _ (by omega) (by omega) (by omega) (by omega) (by omega)).mono ?_
        rintro e w5 ⟨v5, rfl, hv, hsz, hb⟩
        rw [HDv.out] at hv
        have hM := hbd.trans (hb.mono hbd.size)
        have HV := Lib.hid hv
        refine hK _ _ ⟨⟨w5, hM⟩, rfl⟩ ?_
        clear hK K hb hv hsz
        refine wpSched_geff rfl ?_ (fun K hK => ?_)
        · go_simp
        go_simp
        refine (equal_any _ _ tk _ _ _ (HX.out.below hM) (by rw [HTk.out]; exact HV.out)).mono ?_
        rintro e w6 ⟨rfl, hb⟩
        have hM6 := hM.trans (hb.mono hM.size)
        have HBk6 := Lib.hid (HBk2.out.trans (hM6.mono HBk2.out.size))
        have HBq6 := Lib.hid (HBq2.out.trans (hM6.mono HBq2.out.size))
        refine hK _ _ ⟨⟨w6, hM6⟩, rfl⟩ ?_
        clear hK K hb hM hbd
        repeat (refine wpSched_calm rfl (fun K hK => ?_); go_simp; refine hK _ ?_; clear hK K)
        refine wpSched_nil ?_
        go_wp2_with fail
        go_roundw
        case rel => exact ⟨k + 1, by omega, by go_num, HBk6, HBq6⟩
        case measure => simp [intOf]; omega
      · have d0 : decide (0 < fk) = false := by simpa using hf0
        refine wp_region_sched [(0, false), (1, false), (2, false), (3, false), (4, false), (5, false), (6, false), (7, false), (8, false), (9, false), (10, false), (11, false), (12, false), (13, true), (14, true), (15, false), (16, false), (17, false)] (fun w' => ∃ W : Ext wx.heap.size wx, w' = W.1) (by kernel_rfl) (by kernel_rfl) ⟨⟨wx.drew, (Below.refl _ _).drew⟩, rfl⟩ ?_
        repeat (refine wpSched_calm rfl (fun K hK => ?_); go_simp; refine hK _ ?_; clear hK K)
        clear F0 X0 X1 X2
        have HBk6 := Lib.hid (HBk2.out.trans (hbd.mono HBk2.out.size))
        have HBq6 := Lib.hid (HBq2.out.trans (hbd.mono HBq2.out.size))
        refine wpSched_skip rfl ?_ ⟨⟨_, hbd⟩, rfl⟩ ?_
        · go_simp
        go_simp
        refine wpSched_skip rfl ?_ ⟨⟨_, hbd⟩, rfl⟩ ?_
        · go_simp
        go_simp
        repeat (refine wpSched_calm rfl (fun K hK => ?_); go_simp; refine hK _ ?_; clear hK K)
        refine wpSched_nil ?_
        clear hbd
        go_wp2_with fail
        go_roundw
        case rel => exact ⟨k + 1, by omega, by go_num, HBk6, HBq6⟩
        case measure => simp [intOf]; omega
    · have hkn := hlt
      go_wp2_with fail
      refine (HT2.out _ HBk.out).mono ?_
      rintro e w2 ⟨a2', c2', rfl, hu, hb⟩
      have HU := Lib.hid hu
      have HB2 := Lib.hid (HBk.out.trans (hb.mono HBk.out.size))
      clear hu hb HT2
      go_wp2_with fail
      refine (evalid_any g a2 len2 cap2 _ (HI2.out.below HB2.out)).mono ?_
      rintro e w2x ⟨rfl, rfl⟩
      rw [HVg.out]
      go_wp2_with fail
      go_loopw [11] (fun i wr => ∃ j : Nat, 1 ≤ j ∧ (j ≤ 0 ∨ j = 1) ∧ i = .int .i64 j ∧ Hid (Below w.heap.size w wr) ∧ Hid (Below w2.heap.size w2 wr)) (fun i _ => 0 - (intOf i).toNat)
      case atStart => exact ⟨1, by omega, by omega, rfl, HB2, Lib.hid (Below.refl _ _)⟩
      case round =>
        obtain ⟨k, hk1, hk2, rfl, HBw, HBr⟩ := hrel
        by_cases hlt2 : k < 0
        · exact absurd hlt2 (by omega)
        · have hkn2 : decide ((k : Int) < 0) = false := by simp
          go_wp2_with fail
          refine (awake_any wr).mono ?_
          rintro e w4 ⟨rfl, hb⟩
          have HB4 := Lib.hid (HBw.out.trans (hb.mono HBw.out.size))
          clear hb
          go_wp2_with fail
          go_ret
          exact ⟨rfl, HB4.out⟩

set_option maxHeartbeats 4000000 in
theorem ident_c (f g : List Int) (a : Option Addr) (len cap : Nat) (a2 : Option Addr) (len2 cap2 : Nat) (ts us : List Rat) (w : World) (hI : Ints w a len cap f) (hI2 : Ints w a2 len2 cap2 g) (hVf : eqE f = 0) (hVg : eqE g = 0)
    (hT1 : (∀ w', Below w.heap.size w w' → Calls Try.prog 7 #[.slice a len cap, .slice a len cap] w' fun e w'' => ∃ a' c', e = .returned (.tuple #[.slice a' len c', .int .i64 0]) ∧ RatsN w'' a' len c' ts 28 ∧ Below w'.heap.size w' w''))
    (hT2 : (∀ w', Below w.heap.size w w' → Calls Try.prog 7 #[.slice a len cap, .slice a2 len2 cap2] w' fun e w'' => ∃ a' c', e = .returned (.tuple #[.slice a' len c', .int .i64 0]) ∧ RatsN w'' a' len c' us 28 ∧ Below w'.heap.size w' w''))
    (hk0 : ∀ k, k < len → 0 < f.getD k 0 → ts.getD k 0 = (k : Rat)) (hMo : ∀ k, 1 ≤ k → k < len → us.getD (k - 1) 0 ≤ us.getD k 0) (hlm : len ≤ 9223372036854775807) :
    Calls Try.prog 3 #[.slice a len cap, .slice a2 len2 cap2] w fun e w' => e = .returned (.bool true) ∧ Below w.heap.size w w' := by
  have HI := Lib.hid hI
  have HI2 := Lib.hid hI2
  have HT1 := Lib.hid hT1
  have HT2 := Lib.hid hT2
  have HK := Lib.hid hk0
  have HMo := Lib.hid hMo
  have HVf := Lib.hid hVf
  have HVg := Lib.hid hVg
  clear hI hI2 hT1 hT2 hk0 hMo hVf hVg
  go_enter Try.func3, Try.ntmps3
  go_wp2_with fail
  refine (HT1.out _ (Below.refl _ _)).mono ?_
  rintro e w1 ⟨a1', c1', rfl, ht, hb⟩
  have HT := Lib.hid ht
  have HB1 := Lib.hid hb
  clear ht HT1
  go_wp2_with fail
  refine (evalid_any f a len cap _ (HI.out.below hb)).mono ?_
  rintro e w1x ⟨rfl, rfl⟩
  rw [HVf.out]
  clear hb
  go_wp2_with fail
  go_loopw [24] (fun i wr => ∃ k : Nat, k ≤ len ∧ i = .int .i64 k ∧ Hid (Below w.heap.size w wr) ∧ Hid (Below w1.heap.size w1 wr)) (fun i _ => len - (intOf i).toNat)
  case atStart => exact ⟨0, by omega, rfl, HB1, Lib.hid (Below.refl _ _)⟩
  case round =>
    obtain ⟨k, hk, rfl, HBk, HBq⟩ := hrel
    by_cases hlt : k < len
    · obtain ⟨b1, o1, rfl, hb1, hc1⟩ := HT.out.at hlt
      obtain ⟨d, x', l', p', x, l, p, e0, e1, e2, hX, -⟩ := (hc1 k hlt).below hb1 HBq.out
      have hkl : k < len := by omega
      have dkl : decide ((len : Int) ≤ (k : Int)) = false := by simp; omega
      obtain ⟨bf, of, rfl, hbf, hcf⟩ := HI.out.2.at hkl
      have ec := hcf k hkl _ HBk.out
      have hbx : Below wr.heap.size wr (wr.alloc (.cells #[.bool d, .slice x' l' p', .slice x l p] 33)) := (Below.refl _ _).alloc (Nat.le_refl _) _
      have HX := Lib.hid (hX.below hbx)
      have HK2 := Lib.hid (HK.out k hlt)
      have hfl : bf < wr.heap.size := Nat.lt_of_lt_of_le hbf HBk.out.size
      have hbl : b1 < wr.heap.size := Nat.lt_of_lt_of_le hb1 HBq.out.size
      generalize f.getD k 0 = fk at *
      generalize ts.getD k 0 = tk at *
      clear hc1 hcf hX
      go_wp2_with fail
      have ec2 := (hbx.cell (p := ⟨bf, of + k, none⟩) hfl).trans ec
      have x0 : (wr.alloc (.cells #[.bool d, .slice x' l' p', .slice x l p] 33)).cell? ⟨wr.heap.size, 0, none⟩ = some (.bool d) := by go_simp
      have x1 : (wr.alloc (.cells #[.bool d, .slice x' l' p', .slice x l p] 33)).cell? ⟨wr.heap.size, 1, none⟩ = some (.slice x' l' p') := by go_simp
      have x2 : (wr.alloc (.cells #[.bool d, .slice x' l' p', .slice x l p] 33)).cell? ⟨wr.heap.size, 2, none⟩ = some (.slice x l p) := by go_simp
      have hxl : wr.heap.size < (wr.alloc (.cells #[.bool d, .slice x' l' p', .slice x l p] 33)).heap.size := by simp
      have HBk2 := Lib.hid (HBk.out.trans (hbx.mono HBk.out.size))
      have HBq2 := Lib.hid (HBq.out.trans (hbx.mono HBq.out.size))
      generalize wr.alloc (.cells #[.bool d, .slice x' l' p', .slice x l p] 33) = wx at *
      have F0 := box_ext (B := wx.heap.size) ec2 (Nat.lt_of_lt_of_le hfl hbx.size)
      have X0 := box_ext (B := wx.heap.size) x0 hxl
      have X1 := box_ext (B := wx.heap.size) x1 hxl
      have X2 := box_ext (B := wx.heap.size) x2 hxl
      clear e0 e1 e2 ec ec2 x0 x1 x2 hbx hxl HBk HBq
      have hbd : Below wx.heap.size wx wx.drew := (Below.refl _ _).drew
      by_cases hf0 : 0 < fk
      · have d0 : decide (0 < fk) = true := by simpa using hf0
        have HTk := Lib.hid (HK2.out hf0)
        have HDv := Lib.hid (show Rat.divInt (k : Int) 1 = (k : Rat) by rw [rat_whole, Rat.intCast_natCast])
        refine wp_region_sched [(0, false), (1, false), (2, false), (3, false), (4, false), (5, false), (6, false), (7, false), (8, false), (9, false), (10, false), (11, false), (12, false), (13, true), (14, true), (15, false), (16, false), (17, false)] (fun w' => ∃ W : Ext wx.heap.size wx, w' = W.1) (by kernel_rfl) (by kernel_rfl) ⟨⟨wx.drew, (Below.refl _ _).drew⟩, rfl⟩ ?_
        repeat (refine wpSched_calm rfl (fun K hK => ?_); go_simp; refine hK _ ?_; clear hK K)
        clear F0 X0 X1 X2
        refine wpSched_geff rfl ?_ (fun K hK => ?_)
        · go_simp
        go_simp
        refine (part_any (k : Int) 1 _ (by omega) (by omega) (by omega) (by omega) (by omega)).mono ?_
        rintro e w5 ⟨v5, rfl, hv, hsz, hb⟩
        rw [HDv.out] at hv
        have hM := hbd.trans (hb.mono hbd.size)
        have HV := Lib.hid hv
        refine hK _ _ ⟨⟨w5, hM⟩, rfl⟩ ?_
        clear hK K hb hv hsz
        refine wpSched_geff rfl ?_ (fun K hK => ?_)
        · go_simp
        go_simp
        refine (equal_any _ _ tk _ _ _ (HX.out.below hM) (by rw [HTk.out]; exact HV.out)).mono ?_
        rintro e w6 ⟨rfl, hb⟩
        have hM6 := hM.trans (hb.mono hM.size)
        have HBk6 := Lib.hid (HBk2.out.trans (hM6.mono HBk2.out.size))
        have HBq6 := Lib.hid (HBq2.out.trans (hM6.mono HBq2.out.size))
        refine hK _ _ ⟨⟨w6, hM6⟩, rfl⟩ ?_
        clear hK K hb hM hbd
        repeat (refine wpSched_calm rfl (fun K hK => ?_); go_simp; refine hK _ ?_; clear hK K)
        refine wpSched_nil ?_
        go_wp2_with fail
        go_roundw
        case rel => exact ⟨k + 1, by omega, by go_num, HBk6, HBq6⟩
        case measure => simp [intOf]; omega
      · have d0 : decide (0 < fk) = false := by simpa using hf0
        refine wp_region_sched [(0, false), (1, false), (2, false), (3, false), (4, false), (5, false), (6, false), (7, false), (8, false), (9, false), (10, false), (11, false), (12, false), (13, true), (14, true), (15, false), (16, false), (17, false)] (fun w' => ∃ W : Ext wx.heap.size wx, w' = W.1) (by kernel_rfl) (by kernel_rfl) ⟨⟨wx.drew, (Below.refl _ _).drew⟩, rfl⟩ ?_
        repeat (refine wpSched_calm rfl (fun K hK => ?_); go_simp; refine hK _ ?_; clear hK K)
        clear F0 X0 X1 X2
        have HBk6 := Lib.hid (HBk2.out.trans (hbd.mono HBk2.out.size))
        have HBq6 := Lib.hid (HBq2.out.trans (hbd.mono HBq2.out.size))
        refine wpSched_skip rfl ?_ ⟨⟨_, hbd⟩, rfl⟩ ?_
        · go_simp
        go_simp
        refine wpSched_skip rfl ?_ ⟨⟨_, hbd⟩, rfl⟩ ?_
        · go_simp
        go_simp
        repeat (refine wpSched_calm rfl (fun K hK => ?_); go_simp; refine hK _ ?_; clear hK K)
        refine wpSched_nil ?_
        clear hbd
        go_wp2_with fail
        go_roundw
        case rel => exact ⟨k + 1, by omega, by go_num, HBk6, HBq6⟩
        case measure => simp [intOf]; omega
    · have hkn := hlt
      go_wp2_with fail
      refine (HT2.out _ HBk.out).mono ?_
      rintro e w2 ⟨a2', c2', rfl, hu, hb⟩
      have HU := Lib.hid hu
      have HB2 := Lib.hid (HBk.out.trans (hb.mono HBk.out.size))
      clear hu hb HT2
      go_wp2_with fail
      refine (evalid_any g a2 len2 cap2 _ (HI2.out.below HB2.out)).mono ?_
      rintro e w2x ⟨rfl, rfl⟩
      rw [HVg.out]
      go_wp2_with fail
      go_loopw [11] (fun i wr => ∃ j : Nat, 1 ≤ j ∧ (j ≤ len ∨ j = 1) ∧ i = .int .i64 j ∧ Hid (Below w.heap.size w wr) ∧ Hid (Below w2.heap.size w2 wr)) (fun i _ => len - (intOf i).toNat)
      case atStart => exact ⟨1, by omega, by omega, rfl, HB2, Lib.hid (Below.refl _ _)⟩
      case round =>
        obtain ⟨k, hk1, hk2, rfl, HBw, HBr⟩ := hrel
        by_cases hlt2 : k < len
        · obtain ⟨bb, off, rfl, hbs, hcc⟩ := HU.out.at hlt2
          obtain ⟨d, x', l', p', x, l, p, e0, e1', e2', hX, sX⟩ := (hcc k hlt2).below hbs HBr.out
          obtain ⟨d2, y', m', q', y, m, q, g0, g1, g2, hY, sY⟩ := (hcc (k - 1) (by omega)).below hbs HBr.out
          have HX := Lib.hid (hX.raw sX)
          have HY := Lib.hid (hY.raw sY)
          have HC := Lib.hid (show ¬ 0 < rcmpI (us.getD (k - 1) 0) (us.getD k 0) from fun h => absurd (cmpI_le0.2 (HMo.out k hk1 hlt2)) (by omega))
          generalize us.getD k 0 = rk at *
          generalize us.getD (k - 1) 0 = rj at *
          obtain ⟨j, hkj⟩ : ∃ j, k - 1 = j := ⟨_, rfl⟩
          rw [hkj] at g0 g1 g2
          have hjl : j < len := by omega
          have hw : IntKind.i64.wrap ((k : Int) - 1) = (j : Int) := by rw [IntWalk.i64_in _ (by omega)]; omega
          clear hkj
          have hbe : bb < wr.heap.size := Nat.lt_of_lt_of_le hbs HBr.out.size
          have E0 := box_ext (B := wr.heap.size) e0 hbe
          have E1 := box_ext (B := wr.heap.size) e1' hbe
          have E2 := box_ext (B := wr.heap.size) e2' hbe
          have G0 := box_ext (B := wr.heap.size) g0 hbe
          have G1 := box_ext (B := wr.heap.size) g1 hbe
          have G2 := box_ext (B := wr.heap.size) g2 hbe
          clear hcc hX hY e0 e1' e2' g0 g1 g2 sX sY
          go_wp2_with fail
          refine wp_region_sched [(0, false), (1, false), (2, false), (3, false), (4, false), (5, false), (6, false), (7, false), (8, false), (9, true), (10, false)] (fun w' => ∃ W : Ext wr.heap.size wr, w' = W.1) (by kernel_rfl) (by kernel_rfl) ⟨⟨wr.drew, (Below.refl _ _).drew⟩, rfl⟩ ?_
          repeat (refine wpSched_calm rfl (fun K hK => ?_); go_simp; refine hK _ ?_; clear hK K)
          clear E0 E1 E2 G0 G1 G2 hw
          have hbd : Below wr.heap.size wr wr.drew := (Below.refl _ _).drew
          refine wpSched_eff rfl rfl (fun K hK => ?_)
          go_simp
          refine (qcmp_any _ _ rj rk 28 28 _ (HY.out.below hbd) (HX.out.below hbd) (by omega) (by omega) (by omega)).mono ?_
          rintro e w3 ⟨rfl, hb⟩
          have hM := hbd.trans (hb.mono hbd.size)
          have HBw2 := Lib.hid (HBw.out.trans (hM.mono HBw.out.size))
          have HBr2 := Lib.hid (HBr.out.trans (hM.mono HBr.out.size))
          have hcm := HC.out
          generalize rcmpI rj rk = cm at *
          have dcm : decide (0 < cm) = false := by simpa using hcm
          refine hK _ _ ⟨⟨w3, hM⟩, rfl⟩ ?_
          clear hK K hb hbd HC hcm
          repeat (refine wpSched_calm rfl (fun K hK => ?_); go_simp; refine hK _ ?_; clear hK K)
          refine wpSched_nil ?_
          go_wp2_with fail
          go_roundw
          case rel => exact ⟨k + 1, by omega, by omega, by go_num, HBw2, HBr2⟩
          case measure => simp [intOf]; omega
        · go_wp2_with fail
          refine (awake_any wr).mono ?_
          rintro e w4 ⟨rfl, hb⟩
          have HB4 := Lib.hid (HBw.out.trans (hb.mono HBw.out.size))
          clear hb
          go_wp2_with fail
          go_ret
          exact ⟨rfl, HB4.out⟩

theorem ident_calls (f g : List Int) (a : Option Addr) (len cap : Nat) (a2 : Option Addr) (len2 cap2 : Nat) (w : World) (hI : Ints w a len cap f) (hI2 : Ints w a2 len2 cap2 g) :
    Calls Try.prog 3 #[.slice a len cap, .slice a2 len2 cap2] w fun e w' => e = .returned (.bool true) ∧ Below w.heap.size w w' := by
  have hlm : len ≤ 9223372036854775807 := by have h1 := hI.2.1; have h2 := hI.2.2.1; unfold maxLen at h2; omega
  by_cases hE : eqE f = 0
  · have hO := eqE_OkF.1 hE
    have t1 : ∀ w', Below w.heap.size w w' → Calls Try.prog 7 #[.slice a len cap, .slice a len cap] w' fun e w'' => ∃ a' c', e = .returned (.tuple #[.slice a' len c', .int .i64 0]) ∧ RatsN w'' a' len c' (tableL f f) 28 ∧ Below w'.heap.size w' w'' := fun w' hb => (etable_any f f a len cap a len cap w' (hI.below hb) (hI.below hb) hO hO).mono fun _ _ ⟨b, h1, h2, h3⟩ => ⟨_, _, h1, h2, h3⟩
    have k0 : ∀ k, k < len → 0 < f.getD k 0 → (tableL f f).getD k 0 = (k : Rat) := fun k hk h0 => by
      rw [tableL_at f f (by rw [hI.1]; exact hk)]; exact self_score hO (by rw [hI.1]; exact hk) h0
    by_cases hG : eqE g = 0
    · have hO2 := eqE_OkF.1 hG
      exact ident_c f g a len cap a2 len2 cap2 (tableL f f) (tableL f g) w hI hI2 hE hG t1
        (fun w' hb => (etable_any f g a len cap a2 len2 cap2 w' (hI.below hb) (hI2.below hb) hO hO2).mono fun _ _ ⟨b, h1, h2, h3⟩ => ⟨_, _, h1, h2, h3⟩) k0
        (fun k h1 hk => by rw [tableL_at f g (by rw [hI.1]; omega), tableL_at f g (by rw [hI.1]; exact hk)]; exact score_le hO hO2 (by omega)) hlm
    · exact ident_b f g a len cap a2 len2 cap2 (tableL f f) [] w hI hI2 (eqE g) (by simpa using hG) hE rfl t1
        (fun w' hb => (etable_g f g a len cap a2 len2 cap2 w' (hI.below hb) (hI2.below hb) hO hG).mono fun _ _ ⟨h1, h3⟩ => ⟨_, _, h1, ratsN_nil _, h3⟩) k0 (fun k h1 hk => by omega) hlm
  · exact ident_a f g a len cap a2 len2 cap2 [] [] w hI hI2 (eqE f) (by simpa using hE) rfl
      (fun w' hb => (etable_f f a len cap a len cap w' (hI.below hb) hE).mono fun _ _ ⟨h1, h3⟩ => ⟨_, _, h1, ratsN_nil _, h3⟩)
      (fun w' hb => (etable_f f a len cap a2 len2 cap2 w' (hI.below hb) hE).mono fun _ _ ⟨h1, h3⟩ => ⟨_, _, h1, ratsN_nil _, h3⟩) (fun k hk => by omega) (fun k h1 hk => by omega) hlm


theorem equateIdentity_walk {H : Type} {enc : TypeId × Value → H} (W : World) (base : Nat) (args : Array Value) (ds gs : List (DataW H)) (before : List MemPlace)
    (hval : ∀ (j : Nat) t v, Try.f3.params[j]? = some t → args[j]? = some v → Value.okWide Try.prog W .any base t v)
    (hW : DataW.Whole enc Try.prog Try.f3.params.toList Rows.equateIdentitySpec.vars false W args.toList ds gs before)
    (_hsz : (DataW.weightsEach Try.prog (Try.f3.params.toList ++ Rows.equateIdentitySpec.plain.varTypes Try.prog) (ds ++ gs)).all (· ≤ reachBytes) = true) :
    Calls Try.prog 3 args W fun e w' => e = .returned (.bool true) ∧ Below W.heap.size W w' := by
  obtain ⟨p, q, hA, hV, -, -, -⟩ := hW
  obtain ⟨rfl, -⟩ := trodVars_none hV
  rw [Try.params3] at hA hval
  obtain ⟨v0, v1, d0, d1, p0, p1, rfl, rfl, rfl, h0, h1⟩ := trodAll_two hA
  obtain ⟨a, len, cap, xs, rfl, hrow, -⟩ := open_row Try.underlying22 Try.underlying3 (by kernel_rfl) (hval 0 _ _ rfl rfl) h0
  obtain ⟨a2, len2, cap2, ys, rfl, hrow2, -⟩ := open_row Try.underlying22 Try.underlying3 (by kernel_rfl) (hval 1 _ _ rfl rfl) h1
  exact ident_calls xs ys a len cap a2 len2 cap2 W hrow.ints hrow2.ints

set_option maxRecDepth 100000 in
theorem equateIdentity_lifted (os : Os) (started : os.Started) (H : Type) (enc : TypeId × Value → H) :
    ReturnsInHanded {} Try.checked os 3 .any (Rows.equateIdentitySpec.pre6 enc Try.prog Try.f3 Rows.equateIdentityRow.domain false) (Rows.equateIdentitySpec.post enc Try.prog Try.f3 false true false false) := by
  refine returnsInHanded_of_change_sized (C := Try.checked) own started (by kernel_rfl) Try.func3
    (ChangeSpec.witness6 (enc := enc) (C := Try.checked) false ⟨#[], #[.slice none 0 0, .slice none 0 0], []⟩ 8 (by kernel_rfl) (by kernel_rfl) (by kernel_rfl) (by kernel_rfl)) ?_
  intro W base args ds gs before hval hW _ hsz _
  exact law_post rfl (by kernel_rfl) (by kernel_rfl) (fun ds h => match ds, h with | [d0, d1], _ => ⟨rfl, rfl, rfl⟩) hW (equateIdentity_walk W base args ds gs before hval hW hsz)

theorem equateIdentity_over : Rows.equateIdentityRow.holds Try.pinned (OpenSpec.ofChange Rows.equateIdentitySpec) :=
  OpenClaim.holds_of_wide 3 Try.f3 rfl rfl rfl rfl rfl rfl rfl ⟨rfl, rfl, rfl, rfl, rfl⟩ rfl rfl rfl rfl rfl (by kernel_rfl) Try.func3 (by kernel_rfl)
    (of_decide_eq_true (by kernel_rfl)) (by unfold Func.isWrapper; first | (rw [if_pos (by decide +kernel)]; kernel_rfl) | (rw [if_neg (by decide +kernel)]; exact ⟨rfl, rfl⟩))
    (fun os started H enc _ => equateIdentity_lifted os started H enc)

theorem equateIdentity_proved : Rows.EquateIdentitySaid := equateIdentity_over

end Go.Proofs.Ytahmndacoanfiaa
