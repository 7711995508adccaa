/- The law JournalTrim (a tied card): the intact prefix of any bytes is an intact journal with as many entries, which they extend; trimming it again changes nothing. No condition. -/
import Derived.Test.YthbfmioikbphgaaDoorLaid
namespace Go.Proofs.YthbfmioikbphgaaDoor
set_option maxRecDepth 100000
open Go.ChangeShapes Go.WideShapes Go.ChangeAt Go.RowKit

set_option maxHeartbeats 8000000 in
theorem journalTrim_calls (log : List UInt8) (a : Option Addr) (len cap : Nat) (w : World) (hx : Bytes w a len cap log) (hg : ErrT w) :
    Calls Tryd.prog 8 #[.slice a len cap] w fun e w' => e = .returned (.bool true) ∧ Below w.heap.size w w' := by
  have HX := Lib.hid hx
  have HG := Lib.hid hg
  have hl := hx.1
  have hlm : len ≤ 9223372036854775807 := by have h1 := hx.2.1; have h2 := hx.2.2.1; unfold maxLen at h2; omega
  have hn : (rdJ log).n ≤ len := by rw [← hl]; exact rd_le log
  have hz := rd_zero log
  rw [hl] at hz
  have hRt := rd_take log
  generalize hr : rdJ log = R at *
  obtain ⟨ts, n, d, x⟩ := R
  simp only at hn hz hRt
  have HR := Lib.hid hr
  have HRt := Lib.hid hRt
  have HP := Lib.hid (show decide (log.take n <+: log) = true from decide_eq_true (List.take_prefix n log))
  have HTT := Lib.hid (show (log.take n).take n = log.take n by rw [List.take_take, Nat.min_self])
  obtain ⟨k, hk⟩ : ∃ k, ts.length = k := ⟨_, rfl⟩
  have HK := Lib.hid hk
  clear hx hg hr hRt hk
  by_cases h0 : x = 0
  · subst h0
    obtain rfl : n = len := hz.1 rfl
    clear hz
    go_enter Tryd.func8, Tryd.ntmps8
    go_wp2_with fail
    refine (trim_fix HR.out _ _ _ _ HX.out HG.out).mono ?_
    rintro e w1 ⟨bT, cT, rfl, hT, hb1⟩
    have HX1 := Lib.hid (HX.out.below hb1)
    have HT1 := Lib.hid hT
    have HG1 := Lib.hid (HG.out.below hb1)
    have hnc := hT.2.1
    clear hT
    go_wp2_with fail
    refine (read_fix HR.out HK.out _ _ _ _ HX1.out HG1.out).mono ?_
    rintro e w2 ⟨b2, c2, rfl, hK2, hb2⟩
    have hbB := hb1.trans (hb2.mono hb1.size)
    have HX2 := Lib.hid (HX1.out.below hb2)
    have HT2 := Lib.hid (HT1.out.below hb2)
    have HG2 := Lib.hid (HG1.out.below hb2)
    have HK2 := Lib.hid hK2
    clear hK2
    go_wp2_with fail
    refine (read_fix HRt.out HK.out _ _ _ _ HT2.out HG2.out).mono ?_
    rintro e w3 ⟨b3, c3, rfl, hK3, hb3⟩
    have hbC := hbB.trans (hb3.mono hbB.size)
    have HX3 := Lib.hid (HX2.out.below hb3)
    have HT3 := Lib.hid (HT2.out.below hb3)
    have HG3 := Lib.hid (HG2.out.below hb3)
    have HK3 := Lib.hid (HK2.out.below hb3)
    have HM3 := Lib.hid hK3
    clear hK3
    go_wp2_with fail
    refine (same_t ts _ _ _ _ _ _ HK3.out HM3.out).mono ?_
    rintro e w4 ⟨rfl, hb4⟩
    have hbD := hbC.trans (hb4.mono hbC.size)
    have HX4 := Lib.hid (HX3.out.below hb4)
    have HT4 := Lib.hid (HT3.out.below hb4)
    have HG4 := Lib.hid (HG3.out.below hb4)
    go_wp2_with fail
    refine (count_fix HR.out HK.out _ _ _ _ HX4.out HG4.out).mono ?_
    rintro e w5 ⟨rfl, hb5⟩
    have hbE := hbD.trans (hb5.mono hbD.size)
    have HX5 := Lib.hid (HX4.out.below hb5)
    have HT5 := Lib.hid (HT4.out.below hb5)
    have HG5 := Lib.hid (HG4.out.below hb5)
    go_wp2_with fail
    refine (count_fix HRt.out HK.out _ _ _ _ HT5.out HG5.out).mono ?_
    rintro e w6 ⟨rfl, hb6⟩
    have hbF := hbE.trans (hb6.mono hbE.size)
    have HX6 := Lib.hid (HX5.out.below hb6)
    have HT6 := Lib.hid (HT5.out.below hb6)
    have HG6 := Lib.hid (HG5.out.below hb6)
    go_wp2_with fail
    refine (extends_any log (log.take n) _ _ _ _ _ _ _ HX6.out HT6.out).mono ?_
    rw [HP.out]
    rintro e w7 ⟨rfl, rfl⟩
    go_wp2_with fail
    refine (trim_fix HRt.out _ _ _ _ HT6.out HG6.out).mono ?_
    rw [HTT.out]
    rintro e w7 ⟨b7, c7, rfl, hT7, hb7⟩
    have hbG := hbF.trans (hb7.mono hbF.size)
    have HX7 := Lib.hid (HX6.out.below hb7)
    have HT7 := Lib.hid (HT6.out.below hb7)
    have HG7 := Lib.hid (HG6.out.below hb7)
    have HU7 := Lib.hid hT7
    clear hT7
    go_wp2_with fail
    refine (leq_t (log.take n) _ _ _ _ _ _ HU7.out HT7.out).mono ?_
    rintro e w8 ⟨rfl, hb8⟩
    have hbH := hbG.trans (hb8.mono hbG.size)
    have HX8 := Lib.hid (HX7.out.below hb8)
    have HT8 := Lib.hid (HT7.out.below hb8)
    have HG8 := Lib.hid (HG7.out.below hb8)
    go_wp2_with fail
    refine (last_ok HR.out _ _ _ _ HX8.out HG8.out).mono ?_
    rintro e w9 ⟨rfl, hb9⟩
    have hbI := hbH.trans (hb9.mono hbH.size)
    have HT9 := Lib.hid (HT8.out.below hb9)
    have HG9 := Lib.hid (HG8.out.below hb9)
    go_wp2_with fail
    refine (last_ok HRt.out _ _ _ _ HT9.out HG9.out).mono ?_
    rintro e w10 ⟨rfl, hb10⟩
    have hbJ := hbI.trans (hb10.mono hbI.size)
    have HG10 := Lib.hid (HG9.out.below hb10)
    go_wp2_with fail
    refine (awake49_any _ HG10.out).mono ?_
    rintro e w11 ⟨rfl, hb11⟩
    have hbK := hbJ.trans (hb11.mono hbJ.size)
    go_wp2_with fail
    go_ret
    exact ⟨rfl, hbK⟩
  · have d0 : (x == 0) = false := by simpa using h0
    have d0' : (x != 0) = true := by simpa using h0
    have hne : n ≠ len := fun h => h0 (hz.2 h)
    have d1 : ((n : Int) == (len : Int)) = false := by simp; omega
    have d1' : (n == len) = false := by simpa using hne
    have HN0 := Lib.hid h0
    clear hz h0
    go_enter Tryd.func8, Tryd.ntmps8
    go_wp2_with fail
    refine (trim_fix HR.out _ _ _ _ HX.out HG.out).mono ?_
    rintro e w1 ⟨bT, cT, rfl, hT, hb1⟩
    have HX1 := Lib.hid (HX.out.below hb1)
    have HT1 := Lib.hid hT
    have HG1 := Lib.hid (HG.out.below hb1)
    have hnc := hT.2.1
    clear hT
    go_wp2_with fail
    refine (read_fix HR.out HK.out _ _ _ _ HX1.out HG1.out).mono ?_
    rintro e w2 ⟨b2, c2, rfl, hK2, hb2⟩
    have hbB := hb1.trans (hb2.mono hb1.size)
    have HX2 := Lib.hid (HX1.out.below hb2)
    have HT2 := Lib.hid (HT1.out.below hb2)
    have HG2 := Lib.hid (HG1.out.below hb2)
    have HK2 := Lib.hid hK2
    clear hK2
    go_wp2_with fail
    refine (read_fix HRt.out HK.out _ _ _ _ HT2.out HG2.out).mono ?_
    rintro e w3 ⟨b3, c3, rfl, hK3, hb3⟩
    have hbC := hbB.trans (hb3.mono hbB.size)
    have HX3 := Lib.hid (HX2.out.below hb3)
    have HT3 := Lib.hid (HT2.out.below hb3)
    have HG3 := Lib.hid (HG2.out.below hb3)
    have HK3 := Lib.hid (HK2.out.below hb3)
    have HM3 := Lib.hid hK3
    clear hK3
    go_wp2_with fail
    refine (same_t ts _ _ _ _ _ _ HK3.out HM3.out).mono ?_
    rintro e w4 ⟨rfl, hb4⟩
    have hbD := hbC.trans (hb4.mono hbC.size)
    have HX4 := Lib.hid (HX3.out.below hb4)
    have HT4 := Lib.hid (HT3.out.below hb4)
    have HG4 := Lib.hid (HG3.out.below hb4)
    go_wp2_with fail
    refine (count_fix HR.out HK.out _ _ _ _ HX4.out HG4.out).mono ?_
    rintro e w5 ⟨rfl, hb5⟩
    have hbE := hbD.trans (hb5.mono hbD.size)
    have HX5 := Lib.hid (HX4.out.below hb5)
    have HT5 := Lib.hid (HT4.out.below hb5)
    have HG5 := Lib.hid (HG4.out.below hb5)
    go_wp2_with fail
    refine (count_fix HRt.out HK.out _ _ _ _ HT5.out HG5.out).mono ?_
    rintro e w6 ⟨rfl, hb6⟩
    have hbF := hbE.trans (hb6.mono hbE.size)
    have HX6 := Lib.hid (HX5.out.below hb6)
    have HT6 := Lib.hid (HT5.out.below hb6)
    have HG6 := Lib.hid (HG5.out.below hb6)
    go_wp2_with fail
    refine (extends_any log (log.take n) _ _ _ _ _ _ _ HX6.out HT6.out).mono ?_
    rw [HP.out]
    rintro e w7 ⟨rfl, rfl⟩
    go_wp2_with fail
    refine (trim_fix HRt.out _ _ _ _ HT6.out HG6.out).mono ?_
    rw [HTT.out]
    rintro e w7 ⟨b7, c7, rfl, hT7, hb7⟩
    have hbG := hbF.trans (hb7.mono hbF.size)
    have HX7 := Lib.hid (HX6.out.below hb7)
    have HT7 := Lib.hid (HT6.out.below hb7)
    have HG7 := Lib.hid (HG6.out.below hb7)
    have HU7 := Lib.hid hT7
    clear hT7
    go_wp2_with fail
    refine (leq_t (log.take n) _ _ _ _ _ _ HU7.out HT7.out).mono ?_
    rintro e w8 ⟨rfl, hb8⟩
    have hbH := hbG.trans (hb8.mono hbG.size)
    have HX8 := Lib.hid (HX7.out.below hb8)
    have HT8 := Lib.hid (HT7.out.below hb8)
    have HG8 := Lib.hid (HG7.out.below hb8)
    go_wp2_with fail
    refine (last_no HR.out HN0.out _ _ _ _ HX8.out HG8.out).mono ?_
    rintro e w9 ⟨rfl, hb9⟩
    have hbI := hbH.trans (hb9.mono hbH.size)
    have HT9 := Lib.hid (HT8.out.below hb9)
    have HG9 := Lib.hid (HG8.out.below hb9)
    go_wp2_with fail
    refine (last_ok HRt.out _ _ _ _ HT9.out HG9.out).mono ?_
    rintro e w10 ⟨rfl, hb10⟩
    have hbJ := hbI.trans (hb10.mono hbI.size)
    have HG10 := Lib.hid (HG9.out.below hb10)
    go_wp2_with fail
    refine (awake49_any _ HG10.out).mono ?_
    rintro e w11 ⟨rfl, hb11⟩
    have hbK := hbJ.trans (hb11.mono hbJ.size)
    go_wp2_with fail
    go_ret
    exact ⟨rfl, hbK⟩


theorem journalTrim_walk {H : Type} {enc : TypeId × Value → H} (W : World) (base : Nat) (args : Array Value) (ds gs : List (DataW H)) (before : List MemPlace)
    (hval : ∀ (j : Nat) t v, Tryd.f8.params[j]? = some t → args[j]? = some v → Value.okWide Tryd.prog W .any base t v)
    (hW : DataW.Whole enc Tryd.prog Tryd.f8.params.toList Rows.journalTrimSpec.vars false W args.toList ds gs before)
    (_hsz : (DataW.weightsEach Tryd.prog (Tryd.f8.params.toList ++ Rows.journalTrimSpec.plain.varTypes Tryd.prog) (ds ++ gs)).all (· ≤ reachBytes) = true) (hg : ErrT W) :
    Calls Tryd.prog 8 args W fun e w' => e = .returned (.bool true) ∧ Below W.heap.size W w' := by
  obtain ⟨p, q, hA, hV, -, -, -⟩ := hW
  obtain ⟨rfl, -⟩ := trodVars_none hV
  rw [Tryd.params8] at hA hval
  obtain ⟨v0, d0, rfl, rfl, h0⟩ := trodAll_one hA
  obtain ⟨a, len, cap, zs, rfl, hr, hz⟩ := open_row Tryd.underlying22 Tryd.underlying5 (by kernel_rfl) (hval 0 _ _ rfl rfl) h0
  obtain ⟨ys, -, hy⟩ := bytes_of rfl hr
  exact journalTrim_calls ys a len cap W hy hg

set_option maxRecDepth 100000 in
theorem journalTrim_lifted (os : Os) (started : os.Started) (H : Type) (enc : TypeId × Value → H) :
    ReturnsInHanded {} Tryd.checked os 8 .any (fun w args => (Rows.journalTrimSpec.pre enc Tryd.prog Tryd.f8 [] false w args ∧ laidMetH Tryd.prog Rows.journalTrimRow.laid w) ∧ sizedMet enc Tryd.prog Tryd.f8 (OpenSpec.ofChange Rows.journalTrimSpec) false w args)
      (Rows.journalTrimSpec.post enc Tryd.prog Tryd.f8 false true false false) := by
  refine returnsInHanded_of_change_and (C := Tryd.checked) (X := fun w _ => laidMetH Tryd.prog Rows.journalTrimRow.laid w) (fun _ _ _ hh h => h.of_heap hh) own started (by kernel_rfl) Tryd.func8
    (ChangeSpec.witness_at (enc := enc) (C := Tryd.checked) (os := os) (X := fun w _ => laidMetH Tryd.prog Rows.journalTrimRow.laid w) false (laidWorld os) #[.slice none 0 0] 8 rfl (by kernel_rfl) (by kernel_rfl) (by kernel_rfl) (by kernel_rfl) (by kernel_rfl) (laidWorld_met os _)) ?_
  intro W base args ds gs before hval hW _ hsz hL _
  exact law_post rfl (by kernel_rfl) (by kernel_rfl) (fun ds h => match ds, h with | [d0], _ => ⟨rfl, rfl, rfl⟩) hW (journalTrim_walk W base args ds gs before hval hW hsz (errT_of_laid hL))

theorem journalTrim_over : Rows.journalTrimRow.holds Tryd.pinned (OpenSpec.ofChange Rows.journalTrimSpec) :=
  OpenClaim.holds_of_wide 8 Tryd.f8 rfl rfl rfl rfl rfl rfl rfl ⟨rfl, rfl, rfl, rfl, rfl⟩ rfl rfl rfl rfl rfl (by kernel_rfl) Tryd.func8 (by kernel_rfl)
    (of_decide_eq_true (by kernel_rfl)) (by unfold Func.isWrapper; first | (rw [if_pos (by decide +kernel)]; kernel_rfl) | (rw [if_neg (by decide +kernel)]; exact ⟨rfl, rfl⟩))
    (fun os started H enc _ => journalTrim_lifted os started H enc)

theorem journalTrim_proved : Rows.JournalTrimCardSaid :=
  Claim7.holds_tied_plain_at .later [] [.handle] true Rows.journalTrimCard.stood.harness true
    journalTrim_over (fun _ h => by cases h) (by kernel_rfl) (fun _ h => by cases h) journalTrim_row_tie rfl ⟨rfl, rfl⟩ (by kernel_rfl) (by kernel_rfl)
    (fun f fn hf hfn => by
      obtain rfl : f = 8 := Option.some.inj ((show Tryd.prog.funcNamed "examboard/examboardlaw49.JournalTrim" = some 8 by kernel_rfl).symm.trans hf) |>.symm
      obtain rfl : fn = Tryd.f8 := (Option.some.inj (Tryd.func8.symm.trans hfn)).symm
      exact ⟨by kernel_rfl, fun j t ht => noStand (by kernel_rfl) j t ht⟩)
    (by kernel_rfl)

end Go.Proofs.YthbfmioikbphgaaDoor
