/- The law JournalAppends (a tied card): Append and Extends return what the document defines, or the first error, for all bytes and nodes. No condition. -/
import Derived.Test.YthbfmioikbphgaaDoorLaid
import Derived.Test.YthbfmioikbphgaaDoorRJe
namespace Go.Proofs.YthbfmioikbphgaaDoor
set_option maxRecDepth 100000
open Go.ChangeShapes Go.WideShapes Go.ChangeAt Go.RowKit

set_option maxHeartbeats 8000000 in
theorem journalAppends_calls (log pre : List UInt8) (t : NodeT) (v : Value) (a ap : Option Addr) (len cap pl pc : Nat) (w : World) (hx : Bytes w a len cap log) (hp : Bytes w ap pl pc pre) (hN : NodeIn w t v) (hi : i64T t) (hg : ErrT w) :
    Calls Tryd.prog 3 #[.slice a len cap, v, .slice ap pl pc] w fun e w' => e = .returned (.bool true) ∧ Below w.heap.size w w' := by
  obtain ⟨tag, kind, m, s, ka, kl, kc, kids, ht, rfl, hs, hk⟩ := hN.form
  have hB0 : Below w.heap.size w (w.alloc (.cells #[.int .i64 tag, .int .i64 kind, .int .i64 m, .string ⟨s.toArray⟩, .slice ka kl kc] 25)) := (Below.refl _ _).alloc (Nat.le_refl _) _
  have HA0 := Lib.hid (show (w.alloc (.cells #[.int .i64 tag, .int .i64 kind, .int .i64 m, .string ⟨s.toArray⟩, .slice ka kl kc] 25)).heap[w.heap.size]? = some (.cells #[.int .i64 tag, .int .i64 kind, .int .i64 m, .string ⟨s.toArray⟩, .slice ka kl kc] 25) from heap_alloc_new _ _)
  have HX0 := Lib.hid (hx.below hB0)
  have HP0 := Lib.hid (hp.below hB0)
  have HN0 := Lib.hid (hN.below hB0)
  have HG0 := Lib.hid (hg.below hB0)
  have HI := Lib.hid hi
  obtain ⟨q, hq⟩ : ∃ q, decide (pre <+: log) = q := ⟨_, rfl⟩
  have HQp := Lib.hid hq
  clear hx hp hN hi hg hk ht hs hq
  cases hap : appJ log t with
  | error x =>
    have HQ := Lib.hid hap
    clear hap
    cases q with
    | true =>
      go_enter Tryd.func3, Tryd.ntmps3
      go_wp2_with fail
      generalize w.alloc (.cells #[.int .i64 tag, .int .i64 kind, .int .i64 m, .string ⟨s.toArray⟩, .slice ka kl kc] 25) = w0 at *
      have h1 := append_any log t _ a len cap w0 HX0.out HN0.out HI.out HG0.out
      rw [HQ.out] at h1
      refine h1.mono ?_
      rintro e w1 ⟨rfl, hb1⟩
      clear h1
      have hB1 := hB0.trans (hb1.mono hB0.size)
      have HX1 := Lib.hid (HX0.out.below hb1)
      have HP1 := Lib.hid (HP0.out.below hb1)
      have HN1 := Lib.hid (HN0.out.below hb1)
      have HG1 := Lib.hid (HG0.out.below hb1)
      have HA1 := Lib.hid ((hb1.block _ (blk_lt HA0.out)).trans HA0.out)
      have hlw := blk_lt HA1.out
      have c0 := blk_cell HA1.out 0
      have c1 := blk_cell HA1.out 1
      have c2 := blk_cell HA1.out 2
      have c3 := blk_cell HA1.out 3
      have c4 := blk_cell HA1.out 4
      simp at c0 c1 c2 c3 c4
      go_wp2_with fail
      clear c0 c1 c2 c3 c4
      have h2 := rappend_any log t _ a len cap w1 HX1.out HN1.out HI.out
      rw [HQ.out] at h2
      refine h2.mono ?_
      rintro e w2 ⟨rfl, hb2⟩
      clear h2
      have hB2 := hB1.trans (hb2.mono hB1.size)
      have HX2 := Lib.hid (HX1.out.below hb2)
      have HP2 := Lib.hid (HP1.out.below hb2)
      have HG2 := Lib.hid (HG1.out.below hb2)
      go_wp2_with fail
      refine (leq_t [] none none 0 0 0 _ ⟨rfl, Nat.le_refl _, by simp [maxLen], fun _ => rfl, .inl rfl⟩ ⟨rfl, Nat.le_refl _, by simp [maxLen], fun _ => rfl, .inl rfl⟩).mono ?_
      rintro e w3 ⟨rfl, hb3⟩
      have hB3 := hB2.trans (hb3.mono hB2.size)
      have HX3 := Lib.hid (HX2.out.below hb3)
      have HP3 := Lib.hid (HP2.out.below hb3)
      have HG3 := Lib.hid (HG2.out.below hb3)
      go_wp2_with fail
      refine (extends_any log pre _ _ _ _ _ _ _ HX3.out HP3.out).mono ?_
      rw [HQp.out]
      rintro e w4 ⟨rfl, rfl⟩
      go_wp2_with fail
      refine (rextends_any log pre _ _ _ _ _ _ _ HX3.out HP3.out).mono ?_
      rw [HQp.out]
      rintro e w4 ⟨rfl, rfl⟩
      go_wp2_with fail
      refine (awake49_any _ HG3.out).mono ?_
      rintro e w4 ⟨rfl, hb4⟩
      have hB4 := hB3.trans (hb4.mono hB3.size)
      go_wp2_with fail
      go_ret
      exact ⟨rfl, hB4⟩
    | false =>
      go_enter Tryd.func3, Tryd.ntmps3
      go_wp2_with fail
      generalize w.alloc (.cells #[.int .i64 tag, .int .i64 kind, .int .i64 m, .string ⟨s.toArray⟩, .slice ka kl kc] 25) = w0 at *
      have h1 := append_any log t _ a len cap w0 HX0.out HN0.out HI.out HG0.out
      rw [HQ.out] at h1
      refine h1.mono ?_
      rintro e w1 ⟨rfl, hb1⟩
      clear h1
      have hB1 := hB0.trans (hb1.mono hB0.size)
      have HX1 := Lib.hid (HX0.out.below hb1)
      have HP1 := Lib.hid (HP0.out.below hb1)
      have HN1 := Lib.hid (HN0.out.below hb1)
      have HG1 := Lib.hid (HG0.out.below hb1)
      have HA1 := Lib.hid ((hb1.block _ (blk_lt HA0.out)).trans HA0.out)
      have hlw := blk_lt HA1.out
      have c0 := blk_cell HA1.out 0
      have c1 := blk_cell HA1.out 1
      have c2 := blk_cell HA1.out 2
      have c3 := blk_cell HA1.out 3
      have c4 := blk_cell HA1.out 4
      simp at c0 c1 c2 c3 c4
      go_wp2_with fail
      clear c0 c1 c2 c3 c4
      have h2 := rappend_any log t _ a len cap w1 HX1.out HN1.out HI.out
      rw [HQ.out] at h2
      refine h2.mono ?_
      rintro e w2 ⟨rfl, hb2⟩
      clear h2
      have hB2 := hB1.trans (hb2.mono hB1.size)
      have HX2 := Lib.hid (HX1.out.below hb2)
      have HP2 := Lib.hid (HP1.out.below hb2)
      have HG2 := Lib.hid (HG1.out.below hb2)
      go_wp2_with fail
      refine (leq_t [] none none 0 0 0 _ ⟨rfl, Nat.le_refl _, by simp [maxLen], fun _ => rfl, .inl rfl⟩ ⟨rfl, Nat.le_refl _, by simp [maxLen], fun _ => rfl, .inl rfl⟩).mono ?_
      rintro e w3 ⟨rfl, hb3⟩
      have hB3 := hB2.trans (hb3.mono hB2.size)
      have HX3 := Lib.hid (HX2.out.below hb3)
      have HP3 := Lib.hid (HP2.out.below hb3)
      have HG3 := Lib.hid (HG2.out.below hb3)
      go_wp2_with fail
      refine (extends_any log pre _ _ _ _ _ _ _ HX3.out HP3.out).mono ?_
      rw [HQp.out]
      rintro e w4 ⟨rfl, rfl⟩
      go_wp2_with fail
      refine (rextends_any log pre _ _ _ _ _ _ _ HX3.out HP3.out).mono ?_
      rw [HQp.out]
      rintro e w4 ⟨rfl, rfl⟩
      go_wp2_with fail
      refine (awake49_any _ HG3.out).mono ?_
      rintro e w4 ⟨rfl, hb4⟩
      have hB4 := hB3.trans (hb4.mono hB3.size)
      go_wp2_with fail
      go_ret
      exact ⟨rfl, hB4⟩
  | ok out =>
    have HQ := Lib.hid hap
    clear hap
    cases q with
    | true =>
      go_enter Tryd.func3, Tryd.ntmps3
      go_wp2_with fail
      generalize w.alloc (.cells #[.int .i64 tag, .int .i64 kind, .int .i64 m, .string ⟨s.toArray⟩, .slice ka kl kc] 25) = w0 at *
      have h1 := append_any log t _ a len cap w0 HX0.out HN0.out HI.out HG0.out
      rw [HQ.out] at h1
      refine h1.mono ?_
      rintro e w1 ⟨b1, n1, k1, rfl, hO, hb1⟩
      obtain ⟨_, _, _, he1, hO1⟩ := hO.bytes
      cases he1
      have HO1 := Lib.hid hO1
      clear hO hO1 h1
      have hB1 := hB0.trans (hb1.mono hB0.size)
      have HX1 := Lib.hid (HX0.out.below hb1)
      have HP1 := Lib.hid (HP0.out.below hb1)
      have HN1 := Lib.hid (HN0.out.below hb1)
      have HG1 := Lib.hid (HG0.out.below hb1)
      have HA1 := Lib.hid ((hb1.block _ (blk_lt HA0.out)).trans HA0.out)
      have hlw := blk_lt HA1.out
      have c0 := blk_cell HA1.out 0
      have c1 := blk_cell HA1.out 1
      have c2 := blk_cell HA1.out 2
      have c3 := blk_cell HA1.out 3
      have c4 := blk_cell HA1.out 4
      simp at c0 c1 c2 c3 c4
      go_wp2_with fail
      clear c0 c1 c2 c3 c4
      have h2 := rappend_any log t _ a len cap w1 HX1.out HN1.out HI.out
      rw [HQ.out] at h2
      refine h2.mono ?_
      rintro e w2 ⟨b2, n2, k2, rfl, hO, hb2⟩
      obtain rfl : n1 = n2 := by rw [← HO1.out.1, ← hO.1]
      have HO2 := Lib.hid (HO1.out.below hb2)
      have HU2 := Lib.hid hO
      clear hO h2
      have hB2 := hB1.trans (hb2.mono hB1.size)
      have HX2 := Lib.hid (HX1.out.below hb2)
      have HP2 := Lib.hid (HP1.out.below hb2)
      have HG2 := Lib.hid (HG1.out.below hb2)
      go_wp2_with fail
      refine (leq_t _ _ _ _ _ _ _ HO2.out HU2.out).mono ?_
      rintro e w3 ⟨rfl, hb3⟩
      have hB3 := hB2.trans (hb3.mono hB2.size)
      have HX3 := Lib.hid (HX2.out.below hb3)
      have HP3 := Lib.hid (HP2.out.below hb3)
      have HG3 := Lib.hid (HG2.out.below hb3)
      go_wp2_with fail
      refine (extends_any log pre _ _ _ _ _ _ _ HX3.out HP3.out).mono ?_
      rw [HQp.out]
      rintro e w4 ⟨rfl, rfl⟩
      go_wp2_with fail
      refine (rextends_any log pre _ _ _ _ _ _ _ HX3.out HP3.out).mono ?_
      rw [HQp.out]
      rintro e w4 ⟨rfl, rfl⟩
      go_wp2_with fail
      refine (awake49_any _ HG3.out).mono ?_
      rintro e w4 ⟨rfl, hb4⟩
      have hB4 := hB3.trans (hb4.mono hB3.size)
      go_wp2_with fail
      go_ret
      exact ⟨rfl, hB4⟩
    | false =>
      go_enter Tryd.func3, Tryd.ntmps3
      go_wp2_with fail
      generalize w.alloc (.cells #[.int .i64 tag, .int .i64 kind, .int .i64 m, .string ⟨s.toArray⟩, .slice ka kl kc] 25) = w0 at *
      have h1 := append_any log t _ a len cap w0 HX0.out HN0.out HI.out HG0.out
      rw [HQ.out] at h1
      refine h1.mono ?_
      rintro e w1 ⟨b1, n1, k1, rfl, hO, hb1⟩
      obtain ⟨_, _, _, he1, hO1⟩ := hO.bytes
      cases he1
      have HO1 := Lib.hid hO1
      clear hO hO1 h1
      have hB1 := hB0.trans (hb1.mono hB0.size)
      have HX1 := Lib.hid (HX0.out.below hb1)
      have HP1 := Lib.hid (HP0.out.below hb1)
      have HN1 := Lib.hid (HN0.out.below hb1)
      have HG1 := Lib.hid (HG0.out.below hb1)
      have HA1 := Lib.hid ((hb1.block _ (blk_lt HA0.out)).trans HA0.out)
      have hlw := blk_lt HA1.out
      have c0 := blk_cell HA1.out 0
      have c1 := blk_cell HA1.out 1
      have c2 := blk_cell HA1.out 2
      have c3 := blk_cell HA1.out 3
      have c4 := blk_cell HA1.out 4
      simp at c0 c1 c2 c3 c4
      go_wp2_with fail
      clear c0 c1 c2 c3 c4
      have h2 := rappend_any log t _ a len cap w1 HX1.out HN1.out HI.out
      rw [HQ.out] at h2
      refine h2.mono ?_
      rintro e w2 ⟨b2, n2, k2, rfl, hO, hb2⟩
      obtain rfl : n1 = n2 := by rw [← HO1.out.1, ← hO.1]
      have HO2 := Lib.hid (HO1.out.below hb2)
      have HU2 := Lib.hid hO
      clear hO h2
      have hB2 := hB1.trans (hb2.mono hB1.size)
      have HX2 := Lib.hid (HX1.out.below hb2)
      have HP2 := Lib.hid (HP1.out.below hb2)
      have HG2 := Lib.hid (HG1.out.below hb2)
      go_wp2_with fail
      refine (leq_t _ _ _ _ _ _ _ HO2.out HU2.out).mono ?_
      rintro e w3 ⟨rfl, hb3⟩
      have hB3 := hB2.trans (hb3.mono hB2.size)
      have HX3 := Lib.hid (HX2.out.below hb3)
      have HP3 := Lib.hid (HP2.out.below hb3)
      have HG3 := Lib.hid (HG2.out.below hb3)
      go_wp2_with fail
      refine (extends_any log pre _ _ _ _ _ _ _ HX3.out HP3.out).mono ?_
      rw [HQp.out]
      rintro e w4 ⟨rfl, rfl⟩
      go_wp2_with fail
      refine (rextends_any log pre _ _ _ _ _ _ _ HX3.out HP3.out).mono ?_
      rw [HQp.out]
      rintro e w4 ⟨rfl, rfl⟩
      go_wp2_with fail
      refine (awake49_any _ HG3.out).mono ?_
      rintro e w4 ⟨rfl, hb4⟩
      have hB4 := hB3.trans (hb4.mono hB3.size)
      go_wp2_with fail
      go_ret
      exact ⟨rfl, hB4⟩

theorem journalAppends_walk {H : Type} {enc : TypeId × Value → H} (W : World) (base : Nat) (args : Array Value) (ds gs : List (DataW H)) (before : List MemPlace)
    (hval : ∀ (j : Nat) t v, Tryd.f3.params[j]? = some t → args[j]? = some v → Value.okWide Tryd.prog W .any base t v)
    (hW : DataW.Whole enc Tryd.prog Tryd.f3.params.toList Rows.journalAppendsSpec.vars false W args.toList ds gs before)
    (_hsz : (DataW.weightsEach Tryd.prog (Tryd.f3.params.toList ++ Rows.journalAppendsSpec.plain.varTypes Tryd.prog) (ds ++ gs)).all (· ≤ reachBytes) = true) (hg : ErrT W) :
    Calls Tryd.prog 3 args W fun e w' => e = .returned (.bool true) ∧ Below W.heap.size W w' := by
  obtain ⟨p, q, hA, hV, -, -, -⟩ := hW
  obtain ⟨rfl, -⟩ := trodVars_none hV
  rw [Tryd.params3] at hA hval
  obtain ⟨v0, v1, v2, d0, d1, d2, p0, p1, p2, rfl, rfl, rfl, h0, h1, h2⟩ := trodAll_three hA
  obtain ⟨a, len, cap, zs, rfl, hr, hz⟩ := open_row Tryd.underlying22 Tryd.underlying5 (by kernel_rfl) (hval 0 _ _ rfl rfl) h0
  obtain ⟨ys, -, hy⟩ := bytes_of rfl hr
  obtain ⟨t, hN, hi⟩ := open_node (hval 1 _ _ rfl rfl) h1
  obtain ⟨a2, len2, cap2, zs2, rfl, hr2, hz2⟩ := open_row Tryd.underlying22 Tryd.underlying5 (by kernel_rfl) (hval 2 _ _ rfl rfl) h2
  obtain ⟨ys2, -, hy2⟩ := bytes_of rfl hr2
  exact journalAppends_calls ys ys2 t v1 a a2 len cap len2 cap2 W hy hy2 hN hi hg

set_option maxRecDepth 100000 in
theorem journalAppends_lifted (os : Os) (started : os.Started) (H : Type) (enc : TypeId × Value → H) :
    ReturnsInHanded {} Tryd.checked os 3 .any (fun w args => (Rows.journalAppendsSpec.pre enc Tryd.prog Tryd.f3 [] false w args ∧ laidMetH Tryd.prog Rows.journalAppendsRow.laid w) ∧ sizedMet enc Tryd.prog Tryd.f3 (OpenSpec.ofChange Rows.journalAppendsSpec) false w args)
      (Rows.journalAppendsSpec.post enc Tryd.prog Tryd.f3 false true false false) := by
  refine returnsInHanded_of_change_and (C := Tryd.checked) (X := fun w _ => laidMetH Tryd.prog Rows.journalAppendsRow.laid w) (fun _ _ _ hh h => h.of_heap hh) own started (by kernel_rfl) Tryd.func3
    (ChangeSpec.witness_at (enc := enc) (C := Tryd.checked) (os := os) (X := fun w _ => laidMetH Tryd.prog Rows.journalAppendsRow.laid w) false (laidWorld os) #[.slice none 0 0, .agg #[.int .i64 0, .int .i64 0, .int .i64 0, .string ⟨#[]⟩, .slice none 0 0], .slice none 0 0] 8 rfl (by kernel_rfl) (by kernel_rfl) (by kernel_rfl) (by kernel_rfl) (by kernel_rfl) (laidWorld_met os _)) ?_
  intro W base args ds gs before hval hW _ hsz hL _
  exact law_post rfl (by kernel_rfl) (by kernel_rfl) (fun ds h => match ds, h with | [d0, d1, d2], _ => ⟨rfl, rfl, rfl⟩) hW (journalAppends_walk W base args ds gs before hval hW hsz (errT_of_laid hL))

theorem journalAppends_over : Rows.journalAppendsRow.holds Tryd.pinned (OpenSpec.ofChange Rows.journalAppendsSpec) :=
  OpenClaim.holds_of_wide 3 Tryd.f3 rfl rfl rfl rfl rfl rfl rfl ⟨rfl, rfl, rfl, rfl, rfl⟩ rfl rfl rfl rfl rfl (by kernel_rfl) Tryd.func3 (by kernel_rfl)
    (of_decide_eq_true (by kernel_rfl)) (by unfold Func.isWrapper; first | (rw [if_pos (by decide +kernel)]; kernel_rfl) | (rw [if_neg (by decide +kernel)]; exact ⟨rfl, rfl⟩))
    (fun os started H enc _ => journalAppends_lifted os started H enc)

theorem journalAppends_proved : Rows.JournalAppendsCardSaid :=
  Claim7.holds_tied_plain_at .later [] [.handle] true Rows.journalAppendsCard.stood.harness true
    journalAppends_over (fun _ h => by cases h) (by kernel_rfl) (fun _ h => by cases h) journalAppends_row_tie rfl ⟨rfl, rfl⟩ (by kernel_rfl) (by kernel_rfl)
    (fun f fn hf hfn => by
      obtain rfl : f = 3 := Option.some.inj ((show Tryd.prog.funcNamed "examboard/examboardlaw49.JournalAppends" = some 3 by kernel_rfl).symm.trans hf) |>.symm
      obtain rfl : fn = Tryd.f3 := (Option.some.inj (Tryd.func3.symm.trans hfn)).symm
      exact ⟨by kernel_rfl, fun j t ht => noStand (by kernel_rfl) j t ht⟩)
    (by kernel_rfl)

end Go.Proofs.YthbfmioikbphgaaDoor
