/- The law JournalReads (a tied card): Read, Trim, Count and Last return what the document defines, for all bytes. No condition. -/
import Derived.Test.YthbfmioikbphgaaDoorLaid
import Derived.Test.YthbfmioikbphgaaDoorRJe
namespace Go.Proofs.YthbfmioikbphgaaDoor
set_option maxRecDepth 100000
open Go.ChangeShapes Go.WideShapes Go.ChangeAt Go.RowKit

set_option maxHeartbeats 8000000 in
theorem journalReads_calls (log : List UInt8) (a : Option Addr) (len cap : Nat) (w : World) (hx : Bytes w a len cap log) (hg : ErrT w) :
    Calls Tryd.prog 6 #[.slice a len cap] w fun e w' => e = .returned (.bool true) ∧ Below w.heap.size w w' := by
  have HX0 := Lib.hid hx
  have HG0 := Lib.hid hg
  have hB0 : Below w.heap.size w w := Below.refl _ _
  generalize hr : rdJ log = R at *
  obtain ⟨ts, n, d, x⟩ := R
  have HR := Lib.hid hr
  obtain ⟨k, hk⟩ : ∃ k, ts.length = k := ⟨_, rfl⟩
  have HK := Lib.hid hk
  clear hx hg hr hk
  by_cases h0 : x = 0
  · subst h0
    go_enter Tryd.func6, Tryd.ntmps6
    go_wp2_with fail
    refine (read_fix HR.out HK.out _ _ _ _ HX0.out HG0.out).mono ?_
    rintro e w1 ⟨ba, ca, rfl, hKa, hb1⟩
    have hB1 := hB0.trans (hb1.mono hB0.size)
    have HX1 := Lib.hid (HX0.out.below hb1)
    have HG1 := Lib.hid (HG0.out.below hb1)
    have HA1 := Lib.hid hKa
    clear hKa
    go_wp2_with fail
    refine (rRead_fix HR.out HK.out _ _ _ _ HX1.out).mono ?_
    rintro e w2 ⟨bb, cb, rfl, hKb, hb2⟩
    have hB2 := hB1.trans (hb2.mono hB1.size)
    have HX2 := Lib.hid (HX1.out.below hb2)
    have HG2 := Lib.hid (HG1.out.below hb2)
    have HA2 := Lib.hid (HA1.out.below hb2)
    have HB2 := Lib.hid hKb
    clear hKb
    go_wp2_with fail
    refine (last_ok HR.out _ _ _ _ HX2.out HG2.out).mono ?_
    rintro e w3 ⟨rfl, hb3⟩
    have hB3 := hB2.trans (hb3.mono hB2.size)
    have HX3 := Lib.hid (HX2.out.below hb3)
    have HG3 := Lib.hid (HG2.out.below hb3)
    have HA3 := Lib.hid (HA2.out.below hb3)
    have HB3 := Lib.hid (HB2.out.below hb3)
    go_wp2_with fail
    refine (rlast_ok HR.out _ _ _ _ HX3.out).mono ?_
    rintro e w4 ⟨rfl, hb4⟩
    have hB4 := hB3.trans (hb4.mono hB3.size)
    have HX4 := Lib.hid (HX3.out.below hb4)
    have HG4 := Lib.hid (HG3.out.below hb4)
    have HA4 := Lib.hid (HA3.out.below hb4)
    have HB4 := Lib.hid (HB3.out.below hb4)
    go_wp2_with fail
    refine (same_t _ _ _ _ _ _ _ HA4.out HB4.out).mono ?_
    rintro e w5 ⟨rfl, hb5⟩
    have hB5 := hB4.trans (hb5.mono hB4.size)
    have HX5 := Lib.hid (HX4.out.below hb5)
    have HG5 := Lib.hid (HG4.out.below hb5)
    have HA5 := Lib.hid (HA4.out.below hb5)
    have HB5 := Lib.hid (HB4.out.below hb5)
    go_wp2_with fail
    refine (trim_fix HR.out _ _ _ _ HX5.out HG5.out).mono ?_
    rintro e w6 ⟨bt, ct, rfl, hT, hb6⟩
    have hB6 := hB5.trans (hb6.mono hB5.size)
    have HX6 := Lib.hid (HX5.out.below hb6)
    have HG6 := Lib.hid (HG5.out.below hb6)
    have HT6 := Lib.hid hT
    clear hT
    go_wp2_with fail
    refine (rtrim_fix HR.out _ _ _ _ HX6.out).mono ?_
    rintro e w7 ⟨bu, cu, rfl, hU, hb7⟩
    have hB7 := hB6.trans (hb7.mono hB6.size)
    have HX7 := Lib.hid (HX6.out.below hb7)
    have HG7 := Lib.hid (HG6.out.below hb7)
    have HT7 := Lib.hid (HT6.out.below hb7)
    have HU7 := Lib.hid hU
    clear hU
    go_wp2_with fail
    refine (leq_t _ _ _ _ _ _ _ HT7.out HU7.out).mono ?_
    rintro e w8 ⟨rfl, hb8⟩
    have hB8 := hB7.trans (hb8.mono hB7.size)
    have HX8 := Lib.hid (HX7.out.below hb8)
    have HG8 := Lib.hid (HG7.out.below hb8)
    have HT8 := Lib.hid (HT7.out.below hb8)
    have HU8 := Lib.hid (HU7.out.below hb8)
    go_wp2_with fail
    refine (count_fix HR.out HK.out _ _ _ _ HX8.out HG8.out).mono ?_
    rintro e w9 ⟨rfl, hb9⟩
    have hB9 := hB8.trans (hb9.mono hB8.size)
    have HX9 := Lib.hid (HX8.out.below hb9)
    have HG9 := Lib.hid (HG8.out.below hb9)
    go_wp2_with fail
    refine (rcount_fix HR.out HK.out _ _ _ _ HX9.out).mono ?_
    rintro e w10 ⟨rfl, hb10⟩
    have hB10 := hB9.trans (hb10.mono hB9.size)
    have HX10 := Lib.hid (HX9.out.below hb10)
    have HG10 := Lib.hid (HG9.out.below hb10)
    go_wp2_with fail
    refine (awake49_any _ HG10.out).mono ?_
    rintro e w11 ⟨rfl, hb11⟩
    have hB11 := hB10.trans (hb11.mono hB10.size)
    have HX11 := Lib.hid (HX10.out.below hb11)
    have HG11 := Lib.hid (HG10.out.below hb11)
    go_wp2_with fail
    go_ret
    exact ⟨rfl, hB11⟩
  · have HN0 := Lib.hid h0
    clear h0
    go_enter Tryd.func6, Tryd.ntmps6
    go_wp2_with fail
    refine (read_fix HR.out HK.out _ _ _ _ HX0.out HG0.out).mono ?_
    rintro e w1 ⟨ba, ca, rfl, hKa, hb1⟩
    have hB1 := hB0.trans (hb1.mono hB0.size)
    have HX1 := Lib.hid (HX0.out.below hb1)
    have HG1 := Lib.hid (HG0.out.below hb1)
    have HA1 := Lib.hid hKa
    clear hKa
    go_wp2_with fail
    refine (rRead_fix HR.out HK.out _ _ _ _ HX1.out).mono ?_
    rintro e w2 ⟨bb, cb, rfl, hKb, hb2⟩
    have hB2 := hB1.trans (hb2.mono hB1.size)
    have HX2 := Lib.hid (HX1.out.below hb2)
    have HG2 := Lib.hid (HG1.out.below hb2)
    have HA2 := Lib.hid (HA1.out.below hb2)
    have HB2 := Lib.hid hKb
    clear hKb
    go_wp2_with fail
    refine (last_no HR.out HN0.out _ _ _ _ HX2.out HG2.out).mono ?_
    rintro e w3 ⟨rfl, hb3⟩
    have hB3 := hB2.trans (hb3.mono hB2.size)
    have HX3 := Lib.hid (HX2.out.below hb3)
    have HG3 := Lib.hid (HG2.out.below hb3)
    have HA3 := Lib.hid (HA2.out.below hb3)
    have HB3 := Lib.hid (HB2.out.below hb3)
    go_wp2_with fail
    refine (rlast_no HR.out HN0.out _ _ _ _ HX3.out).mono ?_
    rintro e w4 ⟨rfl, hb4⟩
    have hB4 := hB3.trans (hb4.mono hB3.size)
    have HX4 := Lib.hid (HX3.out.below hb4)
    have HG4 := Lib.hid (HG3.out.below hb4)
    have HA4 := Lib.hid (HA3.out.below hb4)
    have HB4 := Lib.hid (HB3.out.below hb4)
    go_wp2_with fail
    refine (same_t _ _ _ _ _ _ _ HA4.out HB4.out).mono ?_
    rintro e w5 ⟨rfl, hb5⟩
    have hB5 := hB4.trans (hb5.mono hB4.size)
    have HX5 := Lib.hid (HX4.out.below hb5)
    have HG5 := Lib.hid (HG4.out.below hb5)
    have HA5 := Lib.hid (HA4.out.below hb5)
    have HB5 := Lib.hid (HB4.out.below hb5)
    go_wp2_with fail
    refine (trim_fix HR.out _ _ _ _ HX5.out HG5.out).mono ?_
    rintro e w6 ⟨bt, ct, rfl, hT, hb6⟩
    have hB6 := hB5.trans (hb6.mono hB5.size)
    have HX6 := Lib.hid (HX5.out.below hb6)
    have HG6 := Lib.hid (HG5.out.below hb6)
    have HT6 := Lib.hid hT
    clear hT
    go_wp2_with fail
    refine (rtrim_fix HR.out _ _ _ _ HX6.out).mono ?_
    rintro e w7 ⟨bu, cu, rfl, hU, hb7⟩
    have hB7 := hB6.trans (hb7.mono hB6.size)
    have HX7 := Lib.hid (HX6.out.below hb7)
    have HG7 := Lib.hid (HG6.out.below hb7)
    have HT7 := Lib.hid (HT6.out.below hb7)
    have HU7 := Lib.hid hU
    clear hU
    go_wp2_with fail
    refine (leq_t _ _ _ _ _ _ _ HT7.out HU7.out).mono ?_
    rintro e w8 ⟨rfl, hb8⟩
    have hB8 := hB7.trans (hb8.mono hB7.size)
    have HX8 := Lib.hid (HX7.out.below hb8)
    have HG8 := Lib.hid (HG7.out.below hb8)
    have HT8 := Lib.hid (HT7.out.below hb8)
    have HU8 := Lib.hid (HU7.out.below hb8)
    go_wp2_with fail
    refine (count_fix HR.out HK.out _ _ _ _ HX8.out HG8.out).mono ?_
    rintro e w9 ⟨rfl, hb9⟩
    have hB9 := hB8.trans (hb9.mono hB8.size)
    have HX9 := Lib.hid (HX8.out.below hb9)
    have HG9 := Lib.hid (HG8.out.below hb9)
    go_wp2_with fail
    refine (rcount_fix HR.out HK.out _ _ _ _ HX9.out).mono ?_
    rintro e w10 ⟨rfl, hb10⟩
    have hB10 := hB9.trans (hb10.mono hB9.size)
    have HX10 := Lib.hid (HX9.out.below hb10)
    have HG10 := Lib.hid (HG9.out.below hb10)
    go_wp2_with fail
    refine (awake49_any _ HG10.out).mono ?_
    rintro e w11 ⟨rfl, hb11⟩
    have hB11 := hB10.trans (hb11.mono hB10.size)
    have HX11 := Lib.hid (HX10.out.below hb11)
    have HG11 := Lib.hid (HG10.out.below hb11)
    go_wp2_with fail
    go_ret
    exact ⟨rfl, hB11⟩

theorem journalReads_walk {H : Type} {enc : TypeId × Value → H} (W : World) (base : Nat) (args : Array Value) (ds gs : List (DataW H)) (before : List MemPlace)
    (hval : ∀ (j : Nat) t v, Tryd.f6.params[j]? = some t → args[j]? = some v → Value.okWide Tryd.prog W .any base t v)
    (hW : DataW.Whole enc Tryd.prog Tryd.f6.params.toList Rows.journalReadsSpec.vars false W args.toList ds gs before)
    (_hsz : (DataW.weightsEach Tryd.prog (Tryd.f6.params.toList ++ Rows.journalReadsSpec.plain.varTypes Tryd.prog) (ds ++ gs)).all (· ≤ reachBytes) = true) (hg : ErrT W) :
    Calls Tryd.prog 6 args W fun e w' => e = .returned (.bool true) ∧ Below W.heap.size W w' := by
  obtain ⟨p, q, hA, hV, -, -, -⟩ := hW
  obtain ⟨rfl, -⟩ := trodVars_none hV
  rw [Tryd.params6] at hA hval
  obtain ⟨v0, d0, rfl, rfl, h0⟩ := trodAll_one hA
  obtain ⟨a, len, cap, zs, rfl, hr, hz⟩ := open_row Tryd.underlying22 Tryd.underlying5 (by kernel_rfl) (hval 0 _ _ rfl rfl) h0
  obtain ⟨ys, -, hy⟩ := bytes_of rfl hr
  exact journalReads_calls ys a len cap W hy hg

set_option maxRecDepth 100000 in
theorem journalReads_lifted (os : Os) (started : os.Started) (H : Type) (enc : TypeId × Value → H) :
    ReturnsInHanded {} Tryd.checked os 6 .any (fun w args => (Rows.journalReadsSpec.pre enc Tryd.prog Tryd.f6 [] false w args ∧ laidMetH Tryd.prog Rows.journalReadsRow.laid w) ∧ sizedMet enc Tryd.prog Tryd.f6 (OpenSpec.ofChange Rows.journalReadsSpec) false w args)
      (Rows.journalReadsSpec.post enc Tryd.prog Tryd.f6 false true false false) := by
  refine returnsInHanded_of_change_and (C := Tryd.checked) (X := fun w _ => laidMetH Tryd.prog Rows.journalReadsRow.laid w) (fun _ _ _ hh h => h.of_heap hh) own started (by kernel_rfl) Tryd.func6
    (ChangeSpec.witness_at (enc := enc) (C := Tryd.checked) (os := os) (X := fun w _ => laidMetH Tryd.prog Rows.journalReadsRow.laid w) false (laidWorld os) #[.slice none 0 0] 8 rfl (by kernel_rfl) (by kernel_rfl) (by kernel_rfl) (by kernel_rfl) (by kernel_rfl) (laidWorld_met os _)) ?_
  intro W base args ds gs before hval hW _ hsz hL _
  exact law_post rfl (by kernel_rfl) (by kernel_rfl) (fun ds h => match ds, h with | [d0], _ => ⟨rfl, rfl, rfl⟩) hW (journalReads_walk W base args ds gs before hval hW hsz (errT_of_laid hL))

theorem journalReads_over : Rows.journalReadsRow.holds Tryd.pinned (OpenSpec.ofChange Rows.journalReadsSpec) :=
  OpenClaim.holds_of_wide 6 Tryd.f6 rfl rfl rfl rfl rfl rfl rfl ⟨rfl, rfl, rfl, rfl, rfl⟩ rfl rfl rfl rfl rfl (by kernel_rfl) Tryd.func6 (by kernel_rfl)
    (of_decide_eq_true (by kernel_rfl)) (by unfold Func.isWrapper; first | (rw [if_pos (by decide +kernel)]; kernel_rfl) | (rw [if_neg (by decide +kernel)]; exact ⟨rfl, rfl⟩))
    (fun os started H enc _ => journalReads_lifted os started H enc)

theorem journalReads_proved : Rows.JournalReadsCardSaid :=
  Claim7.holds_tied_plain_at .later [] [.handle] true Rows.journalReadsCard.stood.harness true
    journalReads_over (fun _ h => by cases h) (by kernel_rfl) (fun _ h => by cases h) journalReads_row_tie rfl ⟨rfl, rfl⟩ (by kernel_rfl) (by kernel_rfl)
    (fun f fn hf hfn => by
      obtain rfl : f = 6 := Option.some.inj ((show Tryd.prog.funcNamed "examboard/examboardlaw49.JournalReads" = some 6 by kernel_rfl).symm.trans hf) |>.symm
      obtain rfl : fn = Tryd.f6 := (Option.some.inj (Tryd.func6.symm.trans hfn)).symm
      exact ⟨by kernel_rfl, fun j t ht => noStand (by kernel_rfl) j t ht⟩)
    (by kernel_rfl)

end Go.Proofs.YthbfmioikbphgaaDoor
