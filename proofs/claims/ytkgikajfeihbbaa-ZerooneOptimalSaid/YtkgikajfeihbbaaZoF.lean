/- 0-1 programs: Feasible of zeroone and of the reference. No condition beyond 'program and numbers can be read'. -/
import Derived.Test.YtkgikajfeihbbaaZoV
namespace Go.Proofs.Ytkgikajfeihbbaa
set_option maxRecDepth 100000
open Go.RowKit

set_option maxHeartbeats 4000000 in
theorem feasible_any (v : Value) (p : ProbM) (xs : List Int) (a : Option Addr) (l c : Nat) (w : World) (hp : ProbIn w v p) (hx : Row .i64 w a l c xs) :
    Calls Try.prog 16 #[v, .slice a l c] w fun e w' => e = .returned (.bool (feasOf p xs)) ∧ Below w.heap.size w w' := by
  obtain ⟨a0, l0, c0, a1, l1, c1, a2, l2, c2, rfl, h0, h1, h2⟩ := hp
  have HP := Lib.hid (show ∀ w0, w0 = w.alloc (.cells #[.slice a0 l0 c0, .slice a1 l1 c1, .slice a2 l2 c2] 25) → ProbIn w0 (.agg #[.slice a0 l0 c0, .slice a1 l1 c1, .slice a2 l2 c2]) p from
    fun w0 h => ⟨_, _, _, _, _, _, _, _, _, rfl, (probBox h0 h1 h2 w0 h).2.1, (probBox h0 h1 h2 w0 h).2.2.1, (probBox h0 h1 h2 w0 h).2.2.2.1⟩)
  have HX := Lib.hid hx
  have e0 := Lib.hid h0.1
  have e1 := Lib.hid h1.1
  have e2 := Lib.hid h2.1
  have e3 := Lib.hid hx.1
  have HB := Lib.hid (probBox h0 h1 h2)
  clear h0 h1 h2 hx
  go_enter Try.func16, Try.ntmps16
  go_wp2_with fail
  refine (valid_any _ p _ (HP.out _ rfl)).mono ?_
  rintro e w1 ⟨rfl, hb1⟩
  obtain ⟨hb0, hv0, hr0, hf0, hbox⟩ := HB.out _ rfl
  clear HB HP
  generalize w.alloc (.cells #[.slice a0 l0 c0, .slice a1 l1 c1, .slice a2 l2 c2] 25) = w0 at *
  have hbw := hb0.trans (hb1.mono hb0.size)
  have HR := Lib.hid (hr0.below hb1)
  have HF := Lib.hid (hf0.below hb1)
  have HX1 := Lib.hid (HX.out.below hbw)
  have HBx := Lib.hid (fun w' (h : Below w1.heap.size w1 w') => hbox w' (hb1.trans (h.mono hb1.size)))
  obtain ⟨x0, x1, x2⟩ := HBx.out w1 (Below.refl _ _)
  clear hv0 hr0 hf0 hbox hb0 hb1 HX
  by_cases g : validOf p = 0
  rotate_left
  · have d0 : ((validOf p : Int) != 0) = true := by simp [g]
    have HZ := Lib.hid (show feasOf p xs = false by simp [feasOf, g])
    go_wp2_with fail
    go_ret
    exact ⟨by rw [HZ.out]; rfl, hbw⟩
  have V := Lib.hid (validM g)
  have HZ := Lib.hid (show feasOf p xs = (isBits xs p.val.length && fixL p.fix xs && p.rows.all (rowOk xs)) by simp [feasOf, g])
  rw [g]
  clear g
  rw [e0.out] at HZ
  have hn : l0 ≤ 24 := by rw [← e0.out]; exact V.out.n
  have hl2 : l2 = l0 := by rw [← e2.out, ← e0.out]; exact V.out.fixn
  have hm : l1 ≤ 60 := by rw [← e1.out]; exact V.out.m
  go_wp2_with fail
  refine (binary_any xs l0 _ _ _ _ HX1.out).mono ?_
  rintro e w2 ⟨rfl, rfl⟩
  cases hq : isBits xs l0 with
  | false =>
    rw [hq] at HZ
    go_wp2_with fail
    go_ret
    exact ⟨by rw [HZ.out]; rfl, hbw⟩
  | true =>
  rw [hq] at HZ
  have hll : l = l0 := by rw [← e3.out]; exact isBits_len hq
  have HB01 := Lib.hid (isBits_01 hq)
  subst hl2
  subst hll
  clear hq
  go_wp2_with fail
  go_loop [24] (fun i => ∃ (k : Nat), k ≤ l ∧ i = .int .i64 k ∧ Hid (fixL p.fix xs = fixL (p.fix.drop k) (xs.drop k))) (fun i => l - (intOf i).toNat)
  case atStart => exact ⟨0, by omega, rfl, by simp [Hid]⟩
  case round =>
    obtain ⟨k, hk, rfl, HD⟩ := hrel
    by_cases hlt : k < l
    · obtain ⟨b, off, rfl, _, hcc⟩ := HF.out.2.2.at hlt
      have y0 := hcc k hlt _ (Below.refl _ _)
      obtain ⟨b', off', rfl, _, hcc'⟩ := HX1.out.2.2.at hlt
      have y1 := hcc' k hlt _ (Below.refl _ _)
      have HS := Lib.hid (fixL_drop p.fix xs k (by rw [e2.out]; omega) (by rw [e3.out]; omega))
      have hf3 := V.out.fix k (by rw [e2.out]; omega)
      clear hcc hcc'
      generalize p.fix.getD k 0 = f at *
      generalize xs.getD k 0 = x at *
      by_cases f1 : f = -1
      · subst f1
        go_wp2_with fail
        go_round
        case rel => exact ⟨k + 1, by omega, by go_num, by unfold Hid; rw [HD.out, HS.out]; simp⟩
        case measure => simp [intOf]; omega
      have d1 : decide (0 ≤ f) = true := by simp; omega
      by_cases f2 : x = f
      · have HN := Lib.hid (show (f == -1 || x == f) = true by simp [f2])
        have d2 : (x != f) = false := by simp [f2]
        clear f1 f2
        go_wp2_with fail
        go_round
        case rel => exact ⟨k + 1, by omega, by go_num, by unfold Hid; rw [HD.out, HS.out, HN.out]; simp⟩
        case measure => simp [intOf]; omega
      have d2 : (x != f) = true := by simp [f2]
      have HN := Lib.hid (show feasOf p xs = false by rw [HZ.out, HD.out, HS.out]; simp [f1, f2])
      clear f1 f2
      go_wp2_with fail
      go_ret
      exact ⟨by rw [HN.out]; rfl, hbw⟩
    have HZ2 := Lib.hid (show feasOf p xs = p.rows.all (rowOk xs) by rw [HZ.out, HD.out, fixL_end _ _ _ (by rw [e2.out]; omega)]; simp)
    clear HZ HD
    go_wp2_with fail
    go_loopw [43] (fun i wr => Below w1.heap.size w1 wr ∧ ∃ (j : Nat), j ≤ l1 ∧ i = .int .i64 j ∧ Hid (p.rows.all (rowOk xs) = (p.rows.drop j).all (rowOk xs))) (fun i _ => l1 - (intOf i).toNat)
    case atStart => exact ⟨Below.refl _ _, 0, by omega, rfl, by simp [Hid]⟩
    case round =>
      clear x0 x1 x2
      obtain ⟨hb, j, hj, rfl, HD⟩ := hrel
      obtain ⟨x0, x1, x2⟩ := HBx.out _ hb
      by_cases hjl : j < l1
      · obtain ⟨b, off, rfl, _, ai, li, ci, hrow, hcc⟩ := HR.out.at hjl
        obtain ⟨y0, y1, y2⟩ := hcc _ hb
        have HS := Lib.hid (all_drop (rowOk xs) p.rows j default (by rw [e1.out]; omega))
        have hli : li = l := by rw [← hrow.1, V.out.coefn j (by rw [e1.out]; omega), e0.out]
        have HSm := Lib.hid (V.out.coef j (by rw [e1.out]; omega))
        subst hli
        have HRow := Lib.hid hrow
        clear hcc hrow
        generalize p.rows.getD j default = r at *
        have hb3 := hb.alloc hb.size (.cells #[.slice ai li ci, .int .i64 r.mn, .int .i64 r.mx] 44)
        have hb4 := hbw.trans (hb3.mono hbw.size)
        go_wp2_with fail
        refine (product_any r.coef xs _ _ _ _ _ _ (HRow.out.below hb3) (HX1.out.below hb3) hn HSm.out HB01.out).mono ?_
        rintro e w2 ⟨rfl, rfl⟩
        by_cases s1 : dotL r.coef xs < r.mn
        · have d1 : decide (dotL r.coef xs < r.mn) = true := by simp [s1]
          have HN := Lib.hid (show feasOf p xs = false by rw [HZ2.out, HD.out, HS.out, show rowOk xs r = false by simp [rowOk]; omega]; rfl)
          clear s1
          go_wp2_with fail
          go_ret
          exact ⟨by rw [HN.out]; rfl, hb4⟩
        have d1 : decide (dotL r.coef xs < r.mn) = false := by simp; omega
        by_cases s2 : r.mx < dotL r.coef xs
        · have d2 : decide (r.mx < dotL r.coef xs) = true := by simp [s2]
          have HN := Lib.hid (show feasOf p xs = false by rw [HZ2.out, HD.out, HS.out, show rowOk xs r = false by simp [rowOk]; omega]; rfl)
          clear s1 s2
          go_wp2_with fail
          go_ret
          exact ⟨by rw [HN.out]; rfl, hb4⟩
        have d2 : decide (r.mx < dotL r.coef xs) = false := by simp; omega
        have HN := Lib.hid (show rowOk xs r = true by simp [rowOk]; omega)
        clear s1 s2
        go_wp2_with fail
        go_round
        case rel => exact ⟨hb3, j + 1, by omega, by go_num, by unfold Hid; rw [HD.out, HS.out, HN.out]; simp⟩
        case measure => simp [intOf]; omega
      have HN := Lib.hid (show feasOf p xs = true by rw [HZ2.out, HD.out, List.drop_of_length_le (by rw [e1.out]; omega)]; rfl)
      go_wp2_with fail
      go_ret
      exact ⟨by rw [HN.out]; rfl, hbw.trans (hb.mono hbw.size)⟩

set_option maxHeartbeats 4000000 in
theorem ref_feasible_any (v : Value) (p : ProbM) (xs : List Int) (a : Option Addr) (l c : Nat) (w : World) (hp : ProbIn w v p) (hx : Row .i64 w a l c xs) :
    Calls Try.prog 17 #[v, .slice a l c] w fun e w' => e = .returned (.bool (feasOf p xs)) ∧ Below w.heap.size w w' := by
  obtain ⟨a0, l0, c0, a1, l1, c1, a2, l2, c2, rfl, h0, h1, h2⟩ := hp
  have HP := Lib.hid (show ∀ w0, w0 = w.alloc (.cells #[.slice a0 l0 c0, .slice a1 l1 c1, .slice a2 l2 c2] 25) → ProbIn w0 (.agg #[.slice a0 l0 c0, .slice a1 l1 c1, .slice a2 l2 c2]) p from
    fun w0 h => ⟨_, _, _, _, _, _, _, _, _, rfl, (probBox h0 h1 h2 w0 h).2.1, (probBox h0 h1 h2 w0 h).2.2.1, (probBox h0 h1 h2 w0 h).2.2.2.1⟩)
  have HX := Lib.hid hx
  have e0 := Lib.hid h0.1
  have e1 := Lib.hid h1.1
  have e2 := Lib.hid h2.1
  have e3 := Lib.hid hx.1
  have HB := Lib.hid (probBox h0 h1 h2)
  clear h0 h1 h2 hx
  go_enter Try.func17, Try.ntmps17
  go_wp2_with fail
  refine (ref_valid_any _ p _ (HP.out _ rfl)).mono ?_
  rintro e w1 ⟨rfl, hb1⟩
  obtain ⟨hb0, hv0, hr0, hf0, hbox⟩ := HB.out _ rfl
  clear HB HP
  generalize w.alloc (.cells #[.slice a0 l0 c0, .slice a1 l1 c1, .slice a2 l2 c2] 25) = w0 at *
  have hbw := hb0.trans (hb1.mono hb0.size)
  have HR := Lib.hid (hr0.below hb1)
  have HF := Lib.hid (hf0.below hb1)
  have HX1 := Lib.hid (HX.out.below hbw)
  have HBx := Lib.hid (fun w' (h : Below w1.heap.size w1 w') => hbox w' (hb1.trans (h.mono hb1.size)))
  obtain ⟨x0, x1, x2⟩ := HBx.out w1 (Below.refl _ _)
  clear hv0 hr0 hf0 hbox hb0 hb1 HX
  by_cases g : validOf p = 0
  rotate_left
  · have d0 : ((validOf p : Int) != 0) = true := by simp [g]
    have HZ := Lib.hid (show feasOf p xs = false by simp [feasOf, g])
    go_wp2_with fail
    go_ret
    exact ⟨by rw [HZ.out]; rfl, hbw⟩
  have V := Lib.hid (validM g)
  have HZ := Lib.hid (show feasOf p xs = (isBits xs p.val.length && fixL p.fix xs && p.rows.all (rowOk xs)) by simp [feasOf, g])
  rw [g]
  clear g
  rw [e0.out] at HZ
  have hn : l0 ≤ 24 := by rw [← e0.out]; exact V.out.n
  have hl2 : l2 = l0 := by rw [← e2.out, ← e0.out]; exact V.out.fixn
  have hm : l1 ≤ 60 := by rw [← e1.out]; exact V.out.m
  go_wp2_with fail
  refine (bits_any xs l0 _ _ _ _ HX1.out).mono ?_
  rintro e w2 ⟨rfl, rfl⟩
  cases hq : isBits xs l0 with
  | false =>
    rw [hq] at HZ
    go_wp2_with fail
    go_ret
    exact ⟨by rw [HZ.out]; rfl, hbw⟩
  | true =>
  rw [hq] at HZ
  have hll : l = l0 := by rw [← e3.out]; exact isBits_len hq
  have HB01 := Lib.hid (isBits_01 hq)
  subst hl2
  subst hll
  clear hq
  go_wp2_with fail
  go_loopw [5] (fun i wr => Below w1.heap.size w1 wr ∧ ∃ (k : Nat), k ≤ l ∧ i = .int .i64 k ∧ Hid (fixL p.fix xs = fixL (p.fix.drop k) (xs.drop k))) (fun i _ => l - (intOf i).toNat)
  case atStart => exact ⟨Below.refl _ _, 0, by omega, rfl, by simp [Hid]⟩
  case round =>
    clear x0 x1 x2
    obtain ⟨hb, k, hk, rfl, HD⟩ := hrel
    obtain ⟨x0, x1, x2⟩ := HBx.out _ hb
    by_cases hlt : k < l
    · obtain ⟨b, off, rfl, _, hcc⟩ := HF.out.2.2.at hlt
      have y0 := hcc k hlt _ hb
      obtain ⟨b', off', rfl, _, hcc'⟩ := HX1.out.2.2.at hlt
      have y1 := hcc' k hlt _ hb
      have HS := Lib.hid (fixL_drop p.fix xs k (by rw [e2.out]; omega) (by rw [e3.out]; omega))
      have hf3 := V.out.fix k (by rw [e2.out]; omega)
      clear hcc hcc'
      generalize p.fix.getD k 0 = f at *
      generalize xs.getD k 0 = x at *
      by_cases f1 : f = -1
      · subst f1
        go_wp2_with fail
        go_quiet (fail)
        go_wp2_with fail
        go_round
        case rel => exact ⟨below_drewN hb _, k + 1, by omega, by go_num, by unfold Hid; rw [HD.out, HS.out]; simp⟩
        case measure => simp [intOf]; omega
      have d1 : (f != -1) = true := by simp [f1]
      by_cases f2 : x = f
      · have HN := Lib.hid (show (f == -1 || x == f) = true by simp [f2])
        have d2 : (f != x) = false := by simp [f2]
        clear f1 f2
        go_wp2_with fail
        go_quiet (fail)
        go_wp2_with fail
        go_round
        case rel => exact ⟨below_drewN hb _, k + 1, by omega, by go_num, by unfold Hid; rw [HD.out, HS.out, HN.out]; simp⟩
        case measure => simp [intOf]; omega
      have d2 : (f != x) = true := by simp; exact fun h => f2 h.symm
      have HN := Lib.hid (show feasOf p xs = false by rw [HZ.out, HD.out, HS.out]; simp [f1, f2])
      clear f1 f2
      go_wp2_with fail
      go_quiet (fail)
      go_wp2_with fail
      go_ret
      exact ⟨by rw [HN.out]; rfl, hbw.trans (below_drewN (hb.mono hbw.size) _)⟩
    have HZ2 := Lib.hid (show feasOf p xs = p.rows.all (rowOk xs) by rw [HZ.out, HD.out, fixL_end _ _ _ (by rw [e2.out]; omega)]; simp)
    clear HZ HD
    go_wp2_with fail
    go_loopw [6] (fun i wr => Below w1.heap.size w1 wr ∧ ∃ (j : Nat), j ≤ l1 ∧ i = .int .i64 j ∧ Hid (p.rows.all (rowOk xs) = (p.rows.drop j).all (rowOk xs))) (fun i _ => l1 - (intOf i).toNat)
    case atStart => exact ⟨hb, 0, by omega, rfl, by simp [Hid]⟩
    case round =>
      clear hb
      clear x0 x1 x2
      obtain ⟨hb, j, hj, rfl, HD⟩ := hrel
      obtain ⟨x0, x1, x2⟩ := HBx.out _ hb
      by_cases hjl : j < l1
      · obtain ⟨b, off, rfl, _, ai, li, ci, hrow, hcc⟩ := HR.out.at hjl
        obtain ⟨y0, y1, y2⟩ := hcc _ hb
        have HS := Lib.hid (all_drop (rowOk xs) p.rows j default (by rw [e1.out]; omega))
        have hli : li = l := by rw [← hrow.1, V.out.coefn j (by rw [e1.out]; omega), e0.out]
        have HSm := Lib.hid (V.out.coef j (by rw [e1.out]; omega))
        subst hli
        have HRow := Lib.hid hrow
        have hcc2 := Lib.hid hcc
        clear hcc hrow
        generalize p.rows.getD j default = r at *
        go_wp2_with fail
        refine (dot_any r.coef xs _ _ _ _ _ _ (HRow.out.below hb) (HX1.out.below hb) hn HSm.out HB01.out).mono ?_
        rintro e w2 ⟨rfl, hb2⟩
        have hb3 := hb.trans (hb2.mono hb.size)
        have hb4 := hbw.trans (hb3.mono hbw.size)
        clear x0 x1 x2 y0 y1 y2
        obtain ⟨x0, x1, x2⟩ := HBx.out _ hb3
        obtain ⟨y0, y1, y2⟩ := hcc2.out _ hb3
        by_cases s1 : dotL r.coef xs < r.mn
        · have d1 : decide (dotL r.coef xs < r.mn) = true := by simp [s1]
          have HN := Lib.hid (show feasOf p xs = false by rw [HZ2.out, HD.out, HS.out, show rowOk xs r = false by simp [rowOk]; omega]; rfl)
          clear s1
          go_wp2_with fail
          go_ret
          exact ⟨by rw [HN.out]; rfl, hb4⟩
        have d1 : decide (dotL r.coef xs < r.mn) = false := by simp; omega
        by_cases s2 : r.mx < dotL r.coef xs
        · have d2 : decide (r.mx < dotL r.coef xs) = true := by simp [s2]
          have HN := Lib.hid (show feasOf p xs = false by rw [HZ2.out, HD.out, HS.out, show rowOk xs r = false by simp [rowOk]; omega]; rfl)
          clear s1 s2
          go_wp2_with fail
          go_ret
          exact ⟨by rw [HN.out]; rfl, hb4⟩
        have d2 : decide (r.mx < dotL r.coef xs) = false := by simp; omega
        have HN := Lib.hid (show rowOk xs r = true by simp [rowOk]; omega)
        clear s1 s2
        go_wp2_with fail
        go_round
        case rel => exact ⟨hb3, j + 1, by omega, by go_num, by unfold Hid; rw [HD.out, HS.out, HN.out]; simp⟩
        case measure => simp [intOf]; omega
      have HN := Lib.hid (show feasOf p xs = true by rw [HZ2.out, HD.out, List.drop_of_length_le (by rw [e1.out]; omega)]; rfl)
      go_wp2_with fail
      go_ret
      exact ⟨by rw [HN.out]; rfl, hbw.trans (hb.mono hbw.size)⟩

end Go.Proofs.Ytkgikajfeihbbaa
