/- The law JournalAppend (a tied card): reading gives all entries back, in order, and the last digest is the chain of the last entry. No condition. -/
import Derived.Test.YthbfmioikbphgaaDoorJoY
import Derived.Test.YthbfmioikbphgaaDoorLaid
namespace Go.Proofs.YthbfmioikbphgaaDoor
set_option maxRecDepth 100000
open Go.ChangeShapes Go.WideShapes Go.ChangeAt Go.RowKit

/-- the last entry -/
theorem last_form {ts : List NodeT} (h : ts ≠ []) : ∃ us t, ts = us ++ [t] := ⟨ts.dropLast, ts.getLast h, (List.dropLast_concat_getLast h).symm⟩

set_option maxHeartbeats 8000000 in
theorem journalAppend_calls (nodes : List NodeT) (a : Option Addr) (len cap : Nat) (w : World) (hK : Kids w a len cap nodes) (hi : i64L nodes) (hg : ErrT w) :
    Calls Tryd.prog 5 #[.slice a len cap] w fun e w' => e = .returned (.bool true) ∧ Below w.heap.size w w' := by
  obtain ⟨ts, hgd, h10, hw⟩ := written_fix nodes a len cap w hK hi hg
  have HW := Lib.hid hw
  have HGd := Lib.hid hgd
  have HG := Lib.hid hg
  have HR := Lib.hid (rdJ_enc hgd (by omega))
  have hlb := lenJ_le ts hgd
  clear hK hi hgd hw hg
  generalize hlog : encJ (digOf []) ts = log at *
  generalize hD : dgJ (digOf []) ts = D at *
  by_cases hne : ts = []
  · subst hne
    have hlog' : log = [] := by rw [← hlog]; rfl
    have hD' : D = digOf [] := by rw [← hD]; rfl
    subst hlog' hD'
    have HLn := Lib.hid (show lenJ [] = 0 from rfl)
    clear hlog hD hlb
    go_enter Tryd.func5, Tryd.ntmps5
    go_wp2_with fail
    refine (HW.out).mono ?_
    rw [HLn.out]
    rintro e w1 ⟨a1, c1, a2, c2, a3, c3, rfl, hB, hK, hN, hb⟩
    have HB1 := Lib.hid hB
    have HK1 := Lib.hid hK
    have HG1 := Lib.hid (HG.out.below hb)
    have hlc := hB.2.1
    clear hB hK
    go_wp2_with fail
    refine (read_fix HR.out (k := 0) rfl _ _ _ _ HB1.out HG1.out).mono ?_
    rintro e w2 ⟨b2, k2, rfl, hK2, hb2⟩
    have hBB := hb.trans (hb2.mono hb.size)
    have HB2 := Lib.hid (HB1.out.below hb2)
    have HK2 := Lib.hid (HK1.out.below hb2)
    have HG2 := Lib.hid (HG1.out.below hb2)
    have HM2 := Lib.hid hK2
    clear hK2
    go_wp2_with fail
    refine (last_ok HR.out _ _ _ _ HB2.out HG2.out).mono ?_
    rintro e w3 ⟨rfl, hb3⟩
    have hBC := hBB.trans (hb3.mono hBB.size)
    have HB3 := Lib.hid (HB2.out.below hb3)
    have HK3 := Lib.hid (HK2.out.below hb3)
    have HM3 := Lib.hid (HM2.out.below hb3)
    have HG3 := Lib.hid (HG2.out.below hb3)
    go_wp2_with fail
    refine (same_t _ _ _ _ _ _ _ HM3.out HK3.out).mono ?_
    rintro e w4 ⟨rfl, hb4⟩
    have hBD := hBC.trans (hb4.mono hBC.size)
    have HB4 := Lib.hid (HB3.out.below hb4)
    have HG4 := Lib.hid (HG3.out.below hb4)
    go_wp2_with fail
    refine (count_fix HR.out (k := 0) rfl _ _ _ _ HB4.out HG4.out).mono ?_
    rintro e w5 ⟨rfl, hb5⟩
    have hBE := hBD.trans (hb5.mono hBD.size)
    have HB5 := Lib.hid (HB4.out.below hb5)
    have HG5 := Lib.hid (HG4.out.below hb5)
    go_wp2_with fail
    refine (of_any [] none 0 0 _ ⟨rfl, Nat.le_refl _, by simp [maxLen], fun _ => rfl, .inl rfl⟩).mono ?_
    rintro e w6 ⟨rfl, rfl⟩
    go_wp2_with fail
    refine (awake49_any _ HG5.out).mono ?_
    rintro e w7 ⟨rfl, hb7⟩
    have hBG := hBE.trans (hb7.mono hBE.size)
    go_wp2_with fail
    go_ret
    exact ⟨rfl, hBG⟩
  · obtain ⟨us, t, rfl⟩ := last_form hne
    have hgu : ∀ u ∈ us, GoodJ u := fun u hu => HGd.out u (by simp [hu])
    have HRu := Lib.hid (rdJ_enc hgu (by rw [List.length_append] at h10; omega))
    have hl1 : (us ++ [t]).length = us.length + 1 := by simp
    have hlen : lenJ (us ++ [t]) = lenJ us + (encT t).length + 12 := by rw [lenJ_app]; simp only [lenJ, sizJ]; omega
    have hform : log = encJ (digOf []) us ++ (bodyE t ++ be8 D) := by
      rw [← hlog, encJ_snoc]
      unfold entE
      rw [← hD, dgJ_app]
      rfl
    have HTk := Lib.hid (show log.take (lenJ us) = encJ (digOf []) us by rw [hform, List.take_append_of_le_length (by rw [encJ_len]; exact Nat.le_refl _), List.take_of_length_le (by rw [encJ_len]; exact Nat.le_refl _)])
    have HBd := Lib.hid (show (log.drop (lenJ us)).take ((encT t).length + 4) = bodyE t by
      rw [hform, List.drop_append_of_le_length (by rw [encJ_len]; exact Nat.le_refl _), List.drop_of_length_le (by rw [encJ_len]; exact Nat.le_refl _), List.nil_append, List.take_append_of_le_length (by rw [bodyE_len]; exact Nat.le_refl _), List.take_of_length_le (by rw [bodyE_len]; exact Nat.le_refl _)])
    have HCh := Lib.hid (show digChain (dgJ (digOf []) us) (bodyE t) = D by rw [← hD, dgJ_app]; rfl)
    have HEn := Lib.hid (show 2 ≤ us.length + 1 → (endsJ 0 (us ++ [t])).getD (us.length + 1 - 2) 0 = lenJ us by
      intro h
      have h2 := ends_at (us ++ [t]) 0 (us.length - 1) (by simp; omega)
      rw [show us.length + 1 - 2 = us.length - 1 by omega, List.getD, h2, show us.length - 1 + 1 = us.length by omega]
      simp)
    have hz1 : us.length + 1 = 1 → lenJ us = 0 := fun h => by rw [List.eq_nil_of_length_eq_zero (show us.length = 0 by omega)]; rfl
    have HZ1 := Lib.hid hz1
    rw [hl1] at h10 hlb
    clear hne hform hlog hgu hz1
    have hes := (HGd.out t (by simp)).2.2
    generalize (encT t).length = et at *
    generalize hml : lenJ us = ml at *
    have HLn := Lib.hid hlen
    rw [hlen] at hlb
    have HL1 := Lib.hid hl1
    generalize us.length = m at *
    clear hlen hl1 hml hD
    obtain ⟨L, hL⟩ : ∃ L, L = ml + et + 12 := ⟨_, rfl⟩
    rw [← hL] at HLn hlb
    rw [HLn.out] at HR
    have hL12 : 12 ≤ L := by omega
    have hLml : ml + 12 ≤ L := by omega
    have HLe := Lib.hid hL
    obtain ⟨n1, hn1⟩ : ∃ n1, n1 = m + 1 := ⟨_, rfl⟩
    rw [← hn1] at HL1 HEn HZ1 h10 hlb
    have hn0 : 0 < n1 := by omega
    clear hL hn1
    by_cases hm : n1 = 1
    · have hml0 : ml = 0 := HZ1.out (by omega)
      subst hm hml0
      clear HEn HZ1
      go_enter Tryd.func5, Tryd.ntmps5
      go_wp2_with fail
      refine (HW.out).mono ?_
      rw [HLn.out, HL1.out]
      rintro e w1 ⟨a1, c1, a2, c2, a3, c3, rfl, hB, hK, hN, hb⟩
      have HN1 := Lib.hid hN
      clear hN
      have HB1 := Lib.hid hB
      have HK1 := Lib.hid hK
      have HG1 := Lib.hid (HG.out.below hb)
      have hlc := hB.2.1
      clear hB hK
      go_wp2_with fail
      refine (read_fix HR.out HL1.out _ _ _ _ HB1.out HG1.out).mono ?_
      rintro e w2 ⟨b2, k2, rfl, hK2, hb2⟩
      have hBB := hb.trans (hb2.mono hb.size)
      have HB2 := Lib.hid (HB1.out.below hb2)
      have HK2 := Lib.hid (HK1.out.below hb2)
      have HG2 := Lib.hid (HG1.out.below hb2)
      have HM2 := Lib.hid hK2
      clear hK2
      go_wp2_with fail
      refine (last_ok HR.out _ _ _ _ HB2.out HG2.out).mono ?_
      rintro e w3 ⟨rfl, hb3⟩
      have hBC := hBB.trans (hb3.mono hBB.size)
      have HB3 := Lib.hid (HB2.out.below hb3)
      have HK3 := Lib.hid (HK2.out.below hb3)
      have HM3 := Lib.hid (HM2.out.below hb3)
      have HG3 := Lib.hid (HG2.out.below hb3)
      go_wp2_with fail
      refine (same_t _ _ _ _ _ _ _ HM3.out HK3.out).mono ?_
      rintro e w4 ⟨rfl, hb4⟩
      have hBD := hBC.trans (hb4.mono hBC.size)
      have HB4 := Lib.hid (HB3.out.below hb4)
      have HG4 := Lib.hid (HG3.out.below hb4)
      go_wp2_with fail
      refine (count_fix HR.out HL1.out _ _ _ _ HB4.out HG4.out).mono ?_
      rintro e w5 ⟨rfl, hb5⟩
      have hBE := hBD.trans (hb5.mono hBD.size)
      have HB5 := Lib.hid (HB4.out.below hb5)
      have HG5 := Lib.hid (HG4.out.below hb5)
      obtain ⟨b1, o1, rfl, -, -⟩ := HB5.out.2.at (show 0 < L by omega)
      have hx0 := HB5.out.2.1
      have HS5 := Lib.hid (show Bytes w5 (some ⟨b1, o1, none⟩) 0 c1 (encJ (digOf []) us) by rw [← HTk.out]; exact HB5.out.pre 0 (by omega))
      generalize dgJ (digOf []) us = D1 at *
      go_wp2_with fail
      refine (last_ok HRu.out _ _ _ _ HS5.out HG5.out).mono ?_
      rintro e w6 ⟨rfl, hb6⟩
      have hBF := hBE.trans (hb6.mono hBE.size)
      have HB6 := Lib.hid (HB5.out.below hb6)
      have HG6 := Lib.hid (HG5.out.below hb6)
      have HX6 := Lib.hid (show Bytes w6 (some ⟨b1, o1, none⟩) (et + 4) (c1) (bodyE t) by rw [← HBd.out]; exact by simpa using HB6.out.pre (et + 4) (by rw [HLe.out]; omega))
      go_wp2_with fail
      rw [show L - 8 = et + 4 by have := HLe.out; omega]
      refine (chain_any D1 (bodyE t) _ _ _ _ HX6.out).mono ?_
      rw [HCh.out]
      rintro e w7 ⟨rfl, rfl⟩
      go_wp2_with fail
      refine (awake49_any _ HG6.out).mono ?_
      rintro e w7 ⟨rfl, hb7⟩
      have hBG := hBF.trans (hb7.mono hBF.size)
      go_wp2_with fail
      go_ret
      exact ⟨rfl, hBG⟩
    · have hn2 : 2 ≤ n1 := by omega
      clear hm HZ1
      go_enter Tryd.func5, Tryd.ntmps5
      go_wp2_with fail
      refine (HW.out).mono ?_
      rw [HLn.out, HL1.out]
      rintro e w1 ⟨a1, c1, a2, c2, a3, c3, rfl, hB, hK, hN, hb⟩
      have HN1 := Lib.hid hN
      clear hN
      have HB1 := Lib.hid hB
      have HK1 := Lib.hid hK
      have HG1 := Lib.hid (HG.out.below hb)
      have hlc := hB.2.1
      clear hB hK
      go_wp2_with fail
      refine (read_fix HR.out HL1.out _ _ _ _ HB1.out HG1.out).mono ?_
      rintro e w2 ⟨b2, k2, rfl, hK2, hb2⟩
      have hBB := hb.trans (hb2.mono hb.size)
      have HB2 := Lib.hid (HB1.out.below hb2)
      have HK2 := Lib.hid (HK1.out.below hb2)
      have HG2 := Lib.hid (HG1.out.below hb2)
      have HM2 := Lib.hid hK2
      clear hK2
      go_wp2_with fail
      refine (last_ok HR.out _ _ _ _ HB2.out HG2.out).mono ?_
      rintro e w3 ⟨rfl, hb3⟩
      have hBC := hBB.trans (hb3.mono hBB.size)
      have HB3 := Lib.hid (HB2.out.below hb3)
      have HK3 := Lib.hid (HK2.out.below hb3)
      have HM3 := Lib.hid (HM2.out.below hb3)
      have HG3 := Lib.hid (HG2.out.below hb3)
      go_wp2_with fail
      refine (same_t _ _ _ _ _ _ _ HM3.out HK3.out).mono ?_
      rintro e w4 ⟨rfl, hb4⟩
      have hBD := hBC.trans (hb4.mono hBC.size)
      have HB4 := Lib.hid (HB3.out.below hb4)
      have HG4 := Lib.hid (HG3.out.below hb4)
      go_wp2_with fail
      refine (count_fix HR.out HL1.out _ _ _ _ HB4.out HG4.out).mono ?_
      rintro e w5 ⟨rfl, hb5⟩
      have hBE := hBD.trans (hb5.mono hBD.size)
      have HB5 := Lib.hid (HB4.out.below hb5)
      have HG5 := Lib.hid (HG4.out.below hb5)
      obtain ⟨b1, o1, rfl, -, -⟩ := HB5.out.2.at (show 0 < L by omega)
      have hx0 := HB5.out.2.1
      have HN5 := Lib.hid ((((HN1.out.below hb2).below hb3).below hb4).below hb5)
      obtain ⟨b3, o3, rfl, hb3l, hc3⟩ := HN5.out.cell (k := n1 - 2) (by omega)
      rw [HEn.out hn2] at hc3
      have HS5 := Lib.hid (show Bytes w5 (some ⟨b1, o1, none⟩) ml c1 (encJ (digOf []) us) by rw [← HTk.out]; exact HB5.out.pre ml (by omega))
      generalize dgJ (digOf []) us = D1 at *
      go_wp2_with fail
      refine (last_ok HRu.out _ _ _ _ HS5.out HG5.out).mono ?_
      rintro e w6 ⟨rfl, hb6⟩
      have hBF := hBE.trans (hb6.mono hBE.size)
      have HB6 := Lib.hid (HB5.out.below hb6)
      have HG6 := Lib.hid (HG5.out.below hb6)
      have HX6 := Lib.hid (show Bytes w6 (some ⟨b1, o1 + ml, none⟩) (et + 4) (c1 - ml) (bodyE t) by rw [← HBd.out]; exact (HB6.out.suf ml (by omega)).pre (et + 4) (by rw [HLe.out]; omega))
      go_wp2_with fail
      rw [show L - 8 - ml = et + 4 by have := HLe.out; omega]
      refine (chain_any D1 (bodyE t) _ _ _ _ HX6.out).mono ?_
      rw [HCh.out]
      rintro e w7 ⟨rfl, rfl⟩
      go_wp2_with fail
      refine (awake49_any _ HG6.out).mono ?_
      rintro e w7 ⟨rfl, hb7⟩
      have hBG := hBF.trans (hb7.mono hBF.size)
      go_wp2_with fail
      go_ret
      exact ⟨rfl, hBG⟩

theorem journalAppend_walk {H : Type} {enc : TypeId × Value → H} (W : World) (base : Nat) (args : Array Value) (ds gs : List (DataW H)) (before : List MemPlace)
    (hval : ∀ (j : Nat) t v, Tryd.f5.params[j]? = some t → args[j]? = some v → Value.okWide Tryd.prog W .any base t v)
    (hW : DataW.Whole enc Tryd.prog Tryd.f5.params.toList Rows.journalAppendSpec.vars false W args.toList ds gs before)
    (_hsz : (DataW.weightsEach Tryd.prog (Tryd.f5.params.toList ++ Rows.journalAppendSpec.plain.varTypes Tryd.prog) (ds ++ gs)).all (· ≤ reachBytes) = true) (hg : ErrT W) :
    Calls Tryd.prog 5 args W fun e w' => e = .returned (.bool true) ∧ Below W.heap.size W w' := by
  obtain ⟨p, q, hA, hV, -, -, -⟩ := hW
  obtain ⟨rfl, -⟩ := trodVars_none hV
  rw [Tryd.params5] at hA hval
  obtain ⟨v0, d0, rfl, rfl, h0⟩ := trodAll_one hA
  obtain ⟨a, len, cap, kids, rfl, hk, hi⟩ := open_nodes (hval 0 _ _ rfl rfl) h0
  exact journalAppend_calls kids a len cap W hk hi hg

set_option maxRecDepth 100000 in
theorem journalAppend_lifted (os : Os) (started : os.Started) (H : Type) (enc : TypeId × Value → H) :
    ReturnsInHanded {} Tryd.checked os 5 .any (fun w args => (Rows.journalAppendSpec.pre enc Tryd.prog Tryd.f5 [] false w args ∧ laidMetH Tryd.prog Rows.journalAppendRow.laid w) ∧ sizedMet enc Tryd.prog Tryd.f5 (OpenSpec.ofChange Rows.journalAppendSpec) false w args)
      (Rows.journalAppendSpec.post enc Tryd.prog Tryd.f5 false true false false) := by
  refine returnsInHanded_of_change_and (C := Tryd.checked) (X := fun w _ => laidMetH Tryd.prog Rows.journalAppendRow.laid w) (fun _ _ _ hh h => h.of_heap hh) own started (by kernel_rfl) Tryd.func5
    (ChangeSpec.witness_at (enc := enc) (C := Tryd.checked) (os := os) (X := fun w _ => laidMetH Tryd.prog Rows.journalAppendRow.laid w) false (laidWorld os) #[.slice none 0 0] 8 rfl (by kernel_rfl) (by kernel_rfl) (by kernel_rfl) (by kernel_rfl) (by kernel_rfl) (laidWorld_met os _)) ?_
  intro W base args ds gs before hval hW _ hsz hL _
  exact law_post rfl (by kernel_rfl) (by kernel_rfl) (fun ds h => match ds, h with | [d0], _ => ⟨rfl, rfl, rfl⟩) hW (journalAppend_walk W base args ds gs before hval hW hsz (errT_of_laid hL))

theorem journalAppend_over : Rows.journalAppendRow.holds Tryd.pinned (OpenSpec.ofChange Rows.journalAppendSpec) :=
  OpenClaim.holds_of_wide 5 Tryd.f5 rfl rfl rfl rfl rfl rfl rfl ⟨rfl, rfl, rfl, rfl, rfl⟩ rfl rfl rfl rfl rfl (by kernel_rfl) Tryd.func5 (by kernel_rfl)
    (of_decide_eq_true (by kernel_rfl)) (by unfold Func.isWrapper; first | (rw [if_pos (by decide +kernel)]; kernel_rfl) | (rw [if_neg (by decide +kernel)]; exact ⟨rfl, rfl⟩))
    (fun os started H enc _ => journalAppend_lifted os started H enc)

theorem journalAppend_proved : Rows.JournalAppendCardSaid :=
  Claim7.holds_tied_plain_at .later [] [.handle] true Rows.journalAppendCard.stood.harness true
    journalAppend_over (fun _ h => by cases h) (by kernel_rfl) (fun _ h => by cases h) journalAppend_row_tie rfl ⟨rfl, rfl⟩ (by kernel_rfl) (by kernel_rfl)
    (fun f fn hf hfn => by
      obtain rfl : f = 5 := Option.some.inj ((show Tryd.prog.funcNamed "examboard/examboardlaw49.JournalAppend" = some 5 by kernel_rfl).symm.trans hf) |>.symm
      obtain rfl : fn = Tryd.f5 := (Option.some.inj (Tryd.func5.symm.trans hfn)).symm
      exact ⟨by kernel_rfl, fun j t ht => noStand (by kernel_rfl) j t ht⟩)
    (by kernel_rfl)

end Go.Proofs.YthbfmioikbphgaaDoor
