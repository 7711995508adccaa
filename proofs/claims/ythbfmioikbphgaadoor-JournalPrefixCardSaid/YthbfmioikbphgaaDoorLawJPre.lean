/- The law JournalPrefix (a tied card): a journal that is cut off anywhere yields a prefix of its entries, those that are complete in the rest. No condition. -/
import Derived.Test.YthbfmioikbphgaaDoorJoY
import Derived.Test.YthbfmioikbphgaaDoorJoZ
import Derived.Test.YthbfmioikbphgaaDoorLaid
import Derived.Test.YthbfmioikbphgaaDoorGuard
namespace Go.Proofs.YthbfmioikbphgaaDoor
set_option maxRecDepth 100000
open Go.ChangeShapes Go.WideShapes Go.ChangeAt Go.RowKit

set_option maxHeartbeats 16000000 in
theorem journalPrefix_calls (nodes : List NodeT) (a : Option Addr) (len cap : Nat) (x : Nat) (hx : x < 65536) (w : World) (hK : Kids w a len cap nodes) (hi : i64L nodes) (hg : ErrT w) :
    Calls Tryd.prog 7 #[.slice a len cap, .int .u16 (x : Int)] w fun e w' => e = .returned (.bool true) ∧ Below w.heap.size w w' := by
  obtain ⟨ts, hgd, h10, hw⟩ := written_fix nodes a len cap w hK hi hg
  have HW := Lib.hid hw
  have HGd := Lib.hid hgd
  have HG := Lib.hid hg
  have hlb := lenJ_le ts hgd
  have hcl : x % (lenJ ts + 1) ≤ lenJ ts := by have := Nat.mod_lt x (show 0 < lenJ ts + 1 by omega); omega
  obtain ⟨k, hk1, hk2, hk3, hk4⟩ := cnt_form ts 0 (x % (lenJ ts + 1)) (by omega)
  rw [Nat.zero_add] at hk3 hk4
  have hR := rd_cut hgd (by omega) hk2 hk3 hk4 hcl
  have HEb := Lib.hid (ends_le ts 0)
  have HEn := Lib.hid (show 0 < k → (endsJ 0 ts).getD (k - 1) 0 = lenJ (ts.take k) by
    intro h
    have h2 := ends_at ts 0 (k - 1) (by omega)
    rw [List.getD, h2, show k - 1 + 1 = k by omega]
    simp)
  have HZ := Lib.hid (show k = 0 → lenJ (ts.take k) = 0 by intro h; rw [h]; rfl)
  have HKk := Lib.hid (show (ts.take k).length = k by rw [List.length_take]; omega)
  have HCn := Lib.hid hk1
  have HCm := Lib.hid (show (encJ (digOf []) ts).take (lenJ (ts.take k)) = ((encJ (digOf []) ts).take (x % (lenJ ts + 1))).take (lenJ (ts.take k)) from (take_take_le _ hk3).symm)
  have hLe : lenJ (ts.take k) ≤ lenJ ts := by omega
  have hr1 : (x : Int) % ((lenJ ts : Int) + 1) = ((x % (lenJ ts + 1) : Nat) : Int) := by simp
  clear hK hi hgd hw hg hk1 hk4
  generalize hlog : encJ (digOf []) ts = log at *
  have hLl : log.length = lenJ ts := by rw [← hlog, encJ_len]
  clear hlog
  generalize dgJ (digOf []) (ts.take k) = D at *
  generalize hLL : lenJ ts = L at *
  have HLn := Lib.hid hLL
  generalize hEE : lenJ (ts.take k) = en at *
  generalize hcc : x % (L + 1) = cut at *
  have hL0 : L + 1 ≠ 0 := by omega
  generalize hnn : ts.length = n at *
  have HNn := Lib.hid hnn
  have HRh := Lib.hid hR
  clear hLL hEE hnn hcc hR
  by_cases hc : cut = en
  · subst hc
    have hR := HRh.out
    rw [if_pos rfl] at hR
    have HR := Lib.hid hR
    clear hR HRh
    by_cases hk0 : k = 0
    · have hz := HZ.out hk0
      subst hk0 hz
      clear HEn HZ
      go_enter Tryd.func7, Tryd.ntmps7
      go_wp2_with fail
      refine (HW.out).mono ?_
      rintro e w1 ⟨a1, c1, a2, c2, a3, c3, rfl, hB, hK, hN, hb⟩
      have HB1 := Lib.hid hB
      have HK1 := Lib.hid (hK.pre 0 hk2)
      have HN1 := Lib.hid hN
      have HG1 := Lib.hid (HG.out.below hb)
      have hlc := hB.2.1
      have hkc := hK.2.1
      clear hB hK hN
      go_wp2_with fail
      rw [hr1]
      refine (complete_any _ _ _ _ _ _ HN1.out (fun y hy => by have := HEb.out y hy; omega)).mono ?_
      rw [HCn.out]
      rintro e w2 ⟨rfl, rfl⟩
      have HC1 := Lib.hid (HB1.out.pre 0 (by omega))
      have HE1 := Lib.hid (HB1.out.pre 0 (by omega))
      go_wp2_with fail
      refine (read_fix HR.out HKk.out _ _ _ _ HC1.out HG1.out).mono ?_
      rintro e w2 ⟨b2, k2, rfl, hM, hb2⟩
      have hBB := hb.trans (hb2.mono hb.size)
      have HC2 := Lib.hid (HC1.out.below hb2)
      have HE2 := Lib.hid (HE1.out.below hb2)
      have HK2 := Lib.hid (HK1.out.below hb2)
      have HG2 := Lib.hid (HG1.out.below hb2)
      have HM2 := Lib.hid hM
      clear hM
      go_wp2_with fail
      refine (same_t _ _ _ _ _ _ _ HM2.out HK2.out).mono ?_
      rintro e w3 ⟨rfl, hb3⟩
      have hBC := hBB.trans (hb3.mono hBB.size)
      have HC3 := Lib.hid (HC2.out.below hb3)
      have HE3 := Lib.hid (HE2.out.below hb3)
      have HG3 := Lib.hid (HG2.out.below hb3)
      go_wp2_with fail
      have hs1 : 0 ≤ c1 := by omega
      have hs2 : 0 ≤ c1 := by omega
      refine wp_region_sched [(0, false), (1, false), (2, false), (4, false), (5, false), (6, false), (3, true), (7, true), (8, false), (9, false), (10, false), (11, false), (13, false), (12, true), (14, false), (15, false), (16, false), (17, true), (18, false), (19, false)] (fun w' => ∃ W : Ext w3.heap.size w3, w' = W.1) (by kernel_rfl) (by kernel_rfl) ⟨⟨w3.drew, (Below.refl _ _).drew⟩, rfl⟩ ?_
      repeat (refine wpSched_calm rfl (fun K hK => ?_); go_simp; (try (simp only [if_pos hs1, if_pos hs2]; go_simp)); refine hK _ ?_; clear hK K)
      have hM : Below w3.heap.size w3 w3.drew := (Below.refl _ _).drew
      have HC4 := Lib.hid (HC3.out.below hM)
      have HE4 := Lib.hid (HE3.out.below hM)
      have HG4 := Lib.hid (HG3.out.below hM)
      have hBD := hBC.trans (hM.mono hBC.size)
      generalize w3.drew = w4 at *
      refine wpSched_eff rfl rfl (fun K hK => ?_)
      go_simp
      refine (trim_fix HR.out _ _ _ _ HC4.out HG4.out).mono ?_
      rw [← HCm.out]
      rintro e w5 ⟨b5, c5, rfl, hT, hb5⟩
      have HT5 := Lib.hid hT
      have HC5 := Lib.hid (HC4.out.below hb5)
      have HE5 := Lib.hid (HE4.out.below hb5)
      have HG5 := Lib.hid (HG4.out.below hb5)
      have hM5 := hM.trans (hb5.mono hM.size)
      have hBE := hBD.trans (hb5.mono hBD.size)
      clear hT
      refine hK _ _ ⟨⟨w5, hM5⟩, rfl⟩ ?_
      clear hK K
      refine wpSched_eff rfl rfl (fun K hK => ?_)
      go_simp
      refine (leq_t _ _ _ _ _ _ _ HT5.out HE5.out).mono ?_
      rintro e w6 ⟨rfl, hb6⟩
      have HC6 := Lib.hid (HC5.out.below hb6)
      have HG6 := Lib.hid (HG5.out.below hb6)
      have hM6 := hM5.trans (hb6.mono hM5.size)
      have hBF := hBE.trans (hb6.mono hBE.size)
      refine hK _ _ ⟨⟨w6, hM6⟩, rfl⟩ ?_
      clear hK K
      repeat (refine wpSched_calm rfl (fun K hK => ?_); go_simp; (try (simp only [if_pos hs1, if_pos hs2]; go_simp)); refine hK _ ?_; clear hK K)
      refine wpSched_geff rfl ?_ (fun K hK => ?_)
      · go_simp
      go_simp
      refine (count_fix HR.out HKk.out _ _ _ _ HC6.out HG6.out).mono ?_
      rintro e w7 ⟨rfl, hb7⟩
      have HG7 := Lib.hid (HG6.out.below hb7)
      have hM7 := hM6.trans (hb7.mono hM6.size)
      have hBG := hBF.trans (hb7.mono hBF.size)
      refine hK _ _ ⟨⟨w7, hM7⟩, rfl⟩ ?_
      clear hK K
      repeat (refine wpSched_calm rfl (fun K hK => ?_); go_simp; (try (simp only [if_pos hs1, if_pos hs2]; go_simp)); refine hK _ ?_; clear hK K)
      refine wpSched_geff rfl ?_ (fun K hK => ?_)
      · go_simp
      go_simp
      refine (awake49_any _ HG7.out).mono ?_
      rintro e w8 ⟨rfl, hb8⟩
      have hM8 := hM7.trans (hb8.mono hM7.size)
      have hBH := hBG.trans (hb8.mono hBG.size)
      refine hK _ _ ⟨⟨w8, hM8⟩, rfl⟩ ?_
      clear hK K
      repeat (refine wpSched_calm rfl (fun K hK => ?_); go_simp; (try (simp only [if_pos hs1, if_pos hs2]; go_simp)); refine hK _ ?_; clear hK K)
      refine wpSched_nil ?_
      go_wp2_with fail
      go_ret
      exact ⟨rfl, hBH⟩
    · have dk : decide (0 < (k : Int)) = true := by simp; omega
      have dk' : decide (0 < k) = true := by simp; omega
      go_enter Tryd.func7, Tryd.ntmps7
      go_wp2_with fail
      refine (HW.out).mono ?_
      rintro e w1 ⟨a1, c1, a2, c2, a3, c3, rfl, hB, hK, hN, hb⟩
      have HB1 := Lib.hid hB
      have HK1 := Lib.hid (hK.pre k hk2)
      have HN1 := Lib.hid hN
      have HG1 := Lib.hid (HG.out.below hb)
      have hlc := hB.2.1
      have hkc := hK.2.1
      clear hB hK hN
      go_wp2_with fail
      rw [hr1]
      refine (complete_any _ _ _ _ _ _ HN1.out (fun y hy => by have := HEb.out y hy; omega)).mono ?_
      rw [HCn.out]
      rintro e w2 ⟨rfl, rfl⟩
      obtain ⟨b3, o3, rfl, hb3l, hc3⟩ := HN1.out.cell (k := k - 1) (by omega)
      rw [HEn.out (by omega)] at hc3
      have hki : ((k : Int) - 1) = ((k - 1 : Nat) : Int) := by omega
      have HC1 := Lib.hid (HB1.out.pre cut (by omega))
      have HE1 := Lib.hid (HB1.out.pre cut (by omega))
      go_wp2_with fail
      refine (read_fix HR.out HKk.out _ _ _ _ HC1.out HG1.out).mono ?_
      rintro e w2 ⟨b2, k2, rfl, hM, hb2⟩
      have hBB := hb.trans (hb2.mono hb.size)
      have HC2 := Lib.hid (HC1.out.below hb2)
      have HE2 := Lib.hid (HE1.out.below hb2)
      have HK2 := Lib.hid (HK1.out.below hb2)
      have HG2 := Lib.hid (HG1.out.below hb2)
      have HM2 := Lib.hid hM
      clear hM
      go_wp2_with fail
      refine (same_t _ _ _ _ _ _ _ HM2.out HK2.out).mono ?_
      rintro e w3 ⟨rfl, hb3⟩
      have hBC := hBB.trans (hb3.mono hBB.size)
      have HC3 := Lib.hid (HC2.out.below hb3)
      have HE3 := Lib.hid (HE2.out.below hb3)
      have HG3 := Lib.hid (HG2.out.below hb3)
      go_wp2_with fail
      have hs1 : cut ≤ c1 := by omega
      have hs2 : cut ≤ c1 := by omega
      refine wp_region_sched [(0, false), (1, false), (2, false), (4, false), (5, false), (6, false), (3, true), (7, true), (8, false), (9, false), (10, false), (11, false), (13, false), (12, true), (14, false), (15, false), (16, false), (17, true), (18, false), (19, false)] (fun w' => ∃ W : Ext w3.heap.size w3, w' = W.1) (by kernel_rfl) (by kernel_rfl) ⟨⟨w3.drew, (Below.refl _ _).drew⟩, rfl⟩ ?_
      repeat (refine wpSched_calm rfl (fun K hK => ?_); go_simp; (try (simp only [if_pos hs1, if_pos hs2]; go_simp)); refine hK _ ?_; clear hK K)
      have hM : Below w3.heap.size w3 w3.drew := (Below.refl _ _).drew
      have HC4 := Lib.hid (HC3.out.below hM)
      have HE4 := Lib.hid (HE3.out.below hM)
      have HG4 := Lib.hid (HG3.out.below hM)
      have hBD := hBC.trans (hM.mono hBC.size)
      generalize w3.drew = w4 at *
      refine wpSched_eff rfl rfl (fun K hK => ?_)
      go_simp
      refine (trim_fix HR.out _ _ _ _ HC4.out HG4.out).mono ?_
      rw [← HCm.out]
      rintro e w5 ⟨b5, c5, rfl, hT, hb5⟩
      have HT5 := Lib.hid hT
      have HC5 := Lib.hid (HC4.out.below hb5)
      have HE5 := Lib.hid (HE4.out.below hb5)
      have HG5 := Lib.hid (HG4.out.below hb5)
      have hM5 := hM.trans (hb5.mono hM.size)
      have hBE := hBD.trans (hb5.mono hBD.size)
      clear hT
      refine hK _ _ ⟨⟨w5, hM5⟩, rfl⟩ ?_
      clear hK K
      refine wpSched_eff rfl rfl (fun K hK => ?_)
      go_simp
      refine (leq_t _ _ _ _ _ _ _ HT5.out HE5.out).mono ?_
      rintro e w6 ⟨rfl, hb6⟩
      have HC6 := Lib.hid (HC5.out.below hb6)
      have HG6 := Lib.hid (HG5.out.below hb6)
      have hM6 := hM5.trans (hb6.mono hM5.size)
      have hBF := hBE.trans (hb6.mono hBE.size)
      refine hK _ _ ⟨⟨w6, hM6⟩, rfl⟩ ?_
      clear hK K
      repeat (refine wpSched_calm rfl (fun K hK => ?_); go_simp; (try (simp only [if_pos hs1, if_pos hs2]; go_simp)); refine hK _ ?_; clear hK K)
      refine wpSched_geff rfl ?_ (fun K hK => ?_)
      · go_simp
      go_simp
      refine (count_fix HR.out HKk.out _ _ _ _ HC6.out HG6.out).mono ?_
      rintro e w7 ⟨rfl, hb7⟩
      have HG7 := Lib.hid (HG6.out.below hb7)
      have hM7 := hM6.trans (hb7.mono hM6.size)
      have hBG := hBF.trans (hb7.mono hBF.size)
      refine hK _ _ ⟨⟨w7, hM7⟩, rfl⟩ ?_
      clear hK K
      repeat (refine wpSched_calm rfl (fun K hK => ?_); go_simp; (try (simp only [if_pos hs1, if_pos hs2]; go_simp)); refine hK _ ?_; clear hK K)
      refine wpSched_geff rfl ?_ (fun K hK => ?_)
      · go_simp
      go_simp
      refine (awake49_any _ HG7.out).mono ?_
      rintro e w8 ⟨rfl, hb8⟩
      have hM8 := hM7.trans (hb8.mono hM7.size)
      have hBH := hBG.trans (hb8.mono hBG.size)
      refine hK _ _ ⟨⟨w8, hM8⟩, rfl⟩ ?_
      clear hK K
      repeat (refine wpSched_calm rfl (fun K hK => ?_); go_simp; (try (simp only [if_pos hs1, if_pos hs2]; go_simp)); refine hK _ ?_; clear hK K)
      refine wpSched_nil ?_
      go_wp2_with fail
      go_ret
      exact ⟨rfl, hBH⟩
  · have hR := HRh.out
    rw [if_neg hc] at hR
    have HR := Lib.hid hR
    have dc : ((cut : Int) == (en : Int)) = false := by simp; omega
    have dc' : (cut == en) = false := by simpa using hc
    clear hR HRh
    by_cases hk0 : k = 0
    · have hz := HZ.out hk0
      subst hk0 hz
      clear HEn HZ
      go_enter Tryd.func7, Tryd.ntmps7
      go_wp2_with fail
      refine (HW.out).mono ?_
      rintro e w1 ⟨a1, c1, a2, c2, a3, c3, rfl, hB, hK, hN, hb⟩
      have HB1 := Lib.hid hB
      have HK1 := Lib.hid (hK.pre 0 hk2)
      have HN1 := Lib.hid hN
      have HG1 := Lib.hid (HG.out.below hb)
      have hlc := hB.2.1
      have hkc := hK.2.1
      clear hB hK hN
      go_wp2_with fail
      rw [hr1]
      refine (complete_any _ _ _ _ _ _ HN1.out (fun y hy => by have := HEb.out y hy; omega)).mono ?_
      rw [HCn.out]
      rintro e w2 ⟨rfl, rfl⟩
      have HC1 := Lib.hid (HB1.out.pre cut (by omega))
      have HE1 := Lib.hid (HB1.out.pre 0 (by omega))
      go_wp2_with fail
      refine (read_fix HR.out HKk.out _ _ _ _ HC1.out HG1.out).mono ?_
      rintro e w2 ⟨b2, k2, rfl, hM, hb2⟩
      have hBB := hb.trans (hb2.mono hb.size)
      have HC2 := Lib.hid (HC1.out.below hb2)
      have HE2 := Lib.hid (HE1.out.below hb2)
      have HK2 := Lib.hid (HK1.out.below hb2)
      have HG2 := Lib.hid (HG1.out.below hb2)
      have HM2 := Lib.hid hM
      clear hM
      go_wp2_with fail
      refine (same_t _ _ _ _ _ _ _ HM2.out HK2.out).mono ?_
      rintro e w3 ⟨rfl, hb3⟩
      have hBC := hBB.trans (hb3.mono hBB.size)
      have HC3 := Lib.hid (HC2.out.below hb3)
      have HE3 := Lib.hid (HE2.out.below hb3)
      have HG3 := Lib.hid (HG2.out.below hb3)
      go_wp2_with fail
      have hs1 : cut ≤ c1 := by omega
      have hs2 : 0 ≤ c1 := by omega
      refine wp_region_sched [(0, false), (1, false), (2, false), (4, false), (5, false), (6, false), (3, true), (7, true), (8, false), (9, false), (10, false), (11, false), (13, false), (12, true), (14, false), (15, false), (16, false), (17, true), (18, false), (19, false)] (fun w' => ∃ W : Ext w3.heap.size w3, w' = W.1) (by kernel_rfl) (by kernel_rfl) ⟨⟨w3.drew, (Below.refl _ _).drew⟩, rfl⟩ ?_
      repeat (refine wpSched_calm rfl (fun K hK => ?_); go_simp; (try (simp only [if_pos hs1, if_pos hs2]; go_simp)); refine hK _ ?_; clear hK K)
      have hM : Below w3.heap.size w3 w3.drew := (Below.refl _ _).drew
      have HC4 := Lib.hid (HC3.out.below hM)
      have HE4 := Lib.hid (HE3.out.below hM)
      have HG4 := Lib.hid (HG3.out.below hM)
      have hBD := hBC.trans (hM.mono hBC.size)
      generalize w3.drew = w4 at *
      refine wpSched_eff rfl rfl (fun K hK => ?_)
      go_simp
      refine (trim_fix HR.out _ _ _ _ HC4.out HG4.out).mono ?_
      rw [← HCm.out]
      rintro e w5 ⟨b5, c5, rfl, hT, hb5⟩
      have HT5 := Lib.hid hT
      have HC5 := Lib.hid (HC4.out.below hb5)
      have HE5 := Lib.hid (HE4.out.below hb5)
      have HG5 := Lib.hid (HG4.out.below hb5)
      have hM5 := hM.trans (hb5.mono hM.size)
      have hBE := hBD.trans (hb5.mono hBD.size)
      clear hT
      refine hK _ _ ⟨⟨w5, hM5⟩, rfl⟩ ?_
      clear hK K
      refine wpSched_eff rfl rfl (fun K hK => ?_)
      go_simp
      refine (leq_t _ _ _ _ _ _ _ HT5.out HE5.out).mono ?_
      rintro e w6 ⟨rfl, hb6⟩
      have HC6 := Lib.hid (HC5.out.below hb6)
      have HG6 := Lib.hid (HG5.out.below hb6)
      have hM6 := hM5.trans (hb6.mono hM5.size)
      have hBF := hBE.trans (hb6.mono hBE.size)
      refine hK _ _ ⟨⟨w6, hM6⟩, rfl⟩ ?_
      clear hK K
      repeat (refine wpSched_calm rfl (fun K hK => ?_); go_simp; (try (simp only [if_pos hs1, if_pos hs2]; go_simp)); refine hK _ ?_; clear hK K)
      refine wpSched_geff rfl ?_ (fun K hK => ?_)
      · go_simp
      go_simp
      refine (count_fix HR.out HKk.out _ _ _ _ HC6.out HG6.out).mono ?_
      rintro e w7 ⟨rfl, hb7⟩
      have HG7 := Lib.hid (HG6.out.below hb7)
      have hM7 := hM6.trans (hb7.mono hM6.size)
      have hBG := hBF.trans (hb7.mono hBF.size)
      refine hK _ _ ⟨⟨w7, hM7⟩, rfl⟩ ?_
      clear hK K
      repeat (refine wpSched_calm rfl (fun K hK => ?_); go_simp; (try (simp only [if_pos hs1, if_pos hs2]; go_simp)); refine hK _ ?_; clear hK K)
      refine wpSched_geff rfl ?_ (fun K hK => ?_)
      · go_simp
      go_simp
      refine (awake49_any _ HG7.out).mono ?_
      rintro e w8 ⟨rfl, hb8⟩
      have hM8 := hM7.trans (hb8.mono hM7.size)
      have hBH := hBG.trans (hb8.mono hBG.size)
      refine hK _ _ ⟨⟨w8, hM8⟩, rfl⟩ ?_
      clear hK K
      repeat (refine wpSched_calm rfl (fun K hK => ?_); go_simp; (try (simp only [if_pos hs1, if_pos hs2]; go_simp)); refine hK _ ?_; clear hK K)
      refine wpSched_nil ?_
      go_wp2_with fail
      go_ret
      exact ⟨rfl, hBH⟩
    · have dk : decide (0 < (k : Int)) = true := by simp; omega
      have dk' : decide (0 < k) = true := by simp; omega
      go_enter Tryd.func7, Tryd.ntmps7
      go_wp2_with fail
      refine (HW.out).mono ?_
      rintro e w1 ⟨a1, c1, a2, c2, a3, c3, rfl, hB, hK, hN, hb⟩
      have HB1 := Lib.hid hB
      have HK1 := Lib.hid (hK.pre k hk2)
      have HN1 := Lib.hid hN
      have HG1 := Lib.hid (HG.out.below hb)
      have hlc := hB.2.1
      have hkc := hK.2.1
      clear hB hK hN
      go_wp2_with fail
      rw [hr1]
      refine (complete_any _ _ _ _ _ _ HN1.out (fun y hy => by have := HEb.out y hy; omega)).mono ?_
      rw [HCn.out]
      rintro e w2 ⟨rfl, rfl⟩
      obtain ⟨b3, o3, rfl, hb3l, hc3⟩ := HN1.out.cell (k := k - 1) (by omega)
      rw [HEn.out (by omega)] at hc3
      have hki : ((k : Int) - 1) = ((k - 1 : Nat) : Int) := by omega
      have HC1 := Lib.hid (HB1.out.pre cut (by omega))
      have HE1 := Lib.hid (HB1.out.pre en (by omega))
      go_wp2_with fail
      refine (read_fix HR.out HKk.out _ _ _ _ HC1.out HG1.out).mono ?_
      rintro e w2 ⟨b2, k2, rfl, hM, hb2⟩
      have hBB := hb.trans (hb2.mono hb.size)
      have HC2 := Lib.hid (HC1.out.below hb2)
      have HE2 := Lib.hid (HE1.out.below hb2)
      have HK2 := Lib.hid (HK1.out.below hb2)
      have HG2 := Lib.hid (HG1.out.below hb2)
      have HM2 := Lib.hid hM
      clear hM
      go_wp2_with fail
      refine (same_t _ _ _ _ _ _ _ HM2.out HK2.out).mono ?_
      rintro e w3 ⟨rfl, hb3⟩
      have hBC := hBB.trans (hb3.mono hBB.size)
      have HC3 := Lib.hid (HC2.out.below hb3)
      have HE3 := Lib.hid (HE2.out.below hb3)
      have HG3 := Lib.hid (HG2.out.below hb3)
      go_wp2_with fail
      have hs1 : cut ≤ c1 := by omega
      have hs2 : en ≤ c1 := by omega
      refine wp_region_sched [(0, false), (1, false), (2, false), (4, false), (5, false), (6, false), (3, true), (7, true), (8, false), (9, false), (10, false), (11, false), (13, false), (12, true), (14, false), (15, false), (16, false), (17, true), (18, false), (19, false)] (fun w' => ∃ W : Ext w3.heap.size w3, w' = W.1) (by kernel_rfl) (by kernel_rfl) ⟨⟨w3.drew, (Below.refl _ _).drew⟩, rfl⟩ ?_
      repeat (refine wpSched_calm rfl (fun K hK => ?_); go_simp; (try (simp only [if_pos hs1, if_pos hs2]; go_simp)); refine hK _ ?_; clear hK K)
      have hM : Below w3.heap.size w3 w3.drew := (Below.refl _ _).drew
      have HC4 := Lib.hid (HC3.out.below hM)
      have HE4 := Lib.hid (HE3.out.below hM)
      have HG4 := Lib.hid (HG3.out.below hM)
      have hBD := hBC.trans (hM.mono hBC.size)
      generalize w3.drew = w4 at *
      refine wpSched_eff rfl rfl (fun K hK => ?_)
      go_simp
      refine (trim_fix HR.out _ _ _ _ HC4.out HG4.out).mono ?_
      rw [← HCm.out]
      rintro e w5 ⟨b5, c5, rfl, hT, hb5⟩
      have HT5 := Lib.hid hT
      have HC5 := Lib.hid (HC4.out.below hb5)
      have HE5 := Lib.hid (HE4.out.below hb5)
      have HG5 := Lib.hid (HG4.out.below hb5)
      have hM5 := hM.trans (hb5.mono hM.size)
      have hBE := hBD.trans (hb5.mono hBD.size)
      clear hT
      refine hK _ _ ⟨⟨w5, hM5⟩, rfl⟩ ?_
      clear hK K
      refine wpSched_eff rfl rfl (fun K hK => ?_)
      go_simp
      refine (leq_t _ _ _ _ _ _ _ HT5.out HE5.out).mono ?_
      rintro e w6 ⟨rfl, hb6⟩
      have HC6 := Lib.hid (HC5.out.below hb6)
      have HG6 := Lib.hid (HG5.out.below hb6)
      have hM6 := hM5.trans (hb6.mono hM5.size)
      have hBF := hBE.trans (hb6.mono hBE.size)
      refine hK _ _ ⟨⟨w6, hM6⟩, rfl⟩ ?_
      clear hK K
      repeat (refine wpSched_calm rfl (fun K hK => ?_); go_simp; (try (simp only [if_pos hs1, if_pos hs2]; go_simp)); refine hK _ ?_; clear hK K)
      refine wpSched_geff rfl ?_ (fun K hK => ?_)
      · go_simp
      go_simp
      refine (count_fix HR.out HKk.out _ _ _ _ HC6.out HG6.out).mono ?_
      rintro e w7 ⟨rfl, hb7⟩
      have HG7 := Lib.hid (HG6.out.below hb7)
      have hM7 := hM6.trans (hb7.mono hM6.size)
      have hBG := hBF.trans (hb7.mono hBF.size)
      refine hK _ _ ⟨⟨w7, hM7⟩, rfl⟩ ?_
      clear hK K
      repeat (refine wpSched_calm rfl (fun K hK => ?_); go_simp; (try (simp only [if_pos hs1, if_pos hs2]; go_simp)); refine hK _ ?_; clear hK K)
      refine wpSched_geff rfl ?_ (fun K hK => ?_)
      · go_simp
      go_simp
      refine (awake49_any _ HG7.out).mono ?_
      rintro e w8 ⟨rfl, hb8⟩
      have hM8 := hM7.trans (hb8.mono hM7.size)
      have hBH := hBG.trans (hb8.mono hBG.size)
      refine hK _ _ ⟨⟨w8, hM8⟩, rfl⟩ ?_
      clear hK K
      repeat (refine wpSched_calm rfl (fun K hK => ?_); go_simp; (try (simp only [if_pos hs1, if_pos hs2]; go_simp)); refine hK _ ?_; clear hK K)
      refine wpSched_nil ?_
      go_wp2_with fail
      go_ret
      exact ⟨rfl, hBH⟩

theorem journalPrefix_walk {H : Type} {enc : TypeId × Value → H} (W : World) (base : Nat) (args : Array Value) (ds gs : List (DataW H)) (before : List MemPlace)
    (hval : ∀ (j : Nat) t v, Tryd.f7.params[j]? = some t → args[j]? = some v → Value.okWide Tryd.prog W .any base t v)
    (hW : DataW.Whole enc Tryd.prog Tryd.f7.params.toList Rows.journalPrefixSpec.vars false W args.toList ds gs before)
    (_hsz : (DataW.weightsEach Tryd.prog (Tryd.f7.params.toList ++ Rows.journalPrefixSpec.plain.varTypes Tryd.prog) (ds ++ gs)).all (· ≤ reachBytes) = true) (hg : ErrT W) :
    Calls Tryd.prog 7 args W fun e w' => e = .returned (.bool true) ∧ Below W.heap.size W w' := by
  obtain ⟨p, q, hA, hV, -, -, -⟩ := hW
  obtain ⟨rfl, -⟩ := trodVars_none hV
  rw [Tryd.params7] at hA hval
  obtain ⟨v0, v1, d0, d1, p0, p1, rfl, rfl, rfl, h0, h1⟩ := trodAll_two hA
  obtain ⟨a, len, cap, kids, rfl, hk, hi⟩ := open_nodes (hval 0 _ _ rfl rfl) h0
  obtain ⟨n, rfl, rfl, hwn⟩ := open_num Tryd.underlying32 (hval 1 _ _ rfl rfl) h1
  obtain ⟨x, rfl, hx⟩ := nat_of_u16 n hwn
  exact journalPrefix_calls kids a len cap x hx W hk hi hg

set_option maxRecDepth 100000 in
theorem journalPrefix_lifted (os : Os) (started : os.Started) (H : Type) (enc : TypeId × Value → H) :
    ReturnsInHanded {} Tryd.checked os 7 .any (fun w args => (Rows.journalPrefixSpec.pre enc Tryd.prog Tryd.f7 [] false w args ∧ laidMetH Tryd.prog Rows.journalPrefixRow.laid w) ∧ sizedMet enc Tryd.prog Tryd.f7 (OpenSpec.ofChange Rows.journalPrefixSpec) false w args)
      (Rows.journalPrefixSpec.post enc Tryd.prog Tryd.f7 false true false false) := by
  refine returnsInHanded_of_change_and (C := Tryd.checked) (X := fun w _ => laidMetH Tryd.prog Rows.journalPrefixRow.laid w) (fun _ _ _ hh h => h.of_heap hh) own started (by kernel_rfl) Tryd.func7
    (ChangeSpec.witness_at (enc := enc) (C := Tryd.checked) (os := os) (X := fun w _ => laidMetH Tryd.prog Rows.journalPrefixRow.laid w) false (laidWorld os) #[.slice none 0 0, .int .u16 0] 8 rfl (by kernel_rfl) (by kernel_rfl) (by kernel_rfl) (by kernel_rfl) (by kernel_rfl) (laidWorld_met os _)) ?_
  intro W base args ds gs before hval hW _ hsz hL _
  exact law_post rfl (by kernel_rfl) (by kernel_rfl) (fun ds h => match ds, h with | [d0, d1], _ => ⟨rfl, rfl, rfl⟩) hW (journalPrefix_walk W base args ds gs before hval hW hsz (errT_of_laid hL))

theorem journalPrefix_over : Rows.journalPrefixRow.holds Tryd.pinned (OpenSpec.ofChange Rows.journalPrefixSpec) :=
  OpenClaim.holds_of_wide 7 Tryd.f7 rfl rfl rfl rfl rfl rfl rfl ⟨rfl, rfl, rfl, rfl, rfl⟩ rfl rfl rfl rfl rfl (by kernel_rfl) Tryd.func7 (by kernel_rfl)
    (of_decide_eq_true (by kernel_rfl)) (by unfold Func.isWrapper; first | (rw [if_pos (by decide +kernel)]; kernel_rfl) | (rw [if_neg (by decide +kernel)]; exact ⟨rfl, rfl⟩))
    (fun os started H enc _ => journalPrefix_lifted os started H enc)

theorem journalPrefix_proved : Rows.JournalPrefixCardSaid :=
  Claim7.holds_tied_plain_at .later [] [.handle] true Rows.journalPrefixCard.stood.harness true
    journalPrefix_over (fun _ h => by cases h) (by kernel_rfl) (fun _ h => by cases h) journalPrefix_row_tie rfl ⟨rfl, rfl⟩ (by kernel_rfl) (by kernel_rfl)
    (fun f fn hf hfn => by
      obtain rfl : f = 7 := Option.some.inj ((show Tryd.prog.funcNamed "examboard/examboardlaw49.JournalPrefix" = some 7 by kernel_rfl).symm.trans hf) |>.symm
      obtain rfl : fn = Tryd.f7 := (Option.some.inj (Tryd.func7.symm.trans hfn)).symm
      exact ⟨by kernel_rfl, fun j t ht => noStand (by kernel_rfl) j t ht⟩)
    (by kernel_rfl)

end Go.Proofs.YthbfmioikbphgaaDoor
