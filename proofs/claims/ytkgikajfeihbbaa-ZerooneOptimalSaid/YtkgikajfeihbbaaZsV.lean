/- 0-1 programs: what zeroone.Solve returns. -/
import Derived.Test.YtkgikajfeihbbaaZsI
import Derived.Test.YtkgikajfeihbbaaZoO
namespace Go.Proofs.Ytkgikajfeihbbaa
set_option maxRecDepth 100000
open Go.RowKit

set_option maxHeartbeats 8000000 in
theorem solve_any (v : Value) (p : ProbM) (w : World) (hp : ProbIn w v p) (hn : validOf p = 0 → p.val.length ≤ 19) :
    Calls Try.prog 21 #[v] w fun e w' => ∃ vx, e = .returned (.tuple #[vx, .int .i64 (solN p), .int .i64 (solE p)]) ∧ OwnI w' w.heap.size vx (solX p) ∧ Below w.heap.size w w' := by
  have HP := Lib.hid hp
  have HN := Lib.hid hn
  obtain ⟨a0, l0, c0, a1, l1, c1, a2, l2, c2, rfl, h0, h1, h2⟩ := hp
  have hb0 : Below w.heap.size w (w.alloc (.cells #[.slice a0 l0 c0, .slice a1 l1 c1, .slice a2 l2 c2] 25)) := (Below.refl _ _).alloc (Nat.le_refl _) _
  have HB := Lib.hid (box3 w 25 (.slice a0 l0 c0) (.slice a1 l1 c1) (.slice a2 l2 c2))
  by_cases ho : validOf p = 0
  · have hv := validM ho
    have hl0 : l0 ≤ 19 := by rw [← h0.1]; exact hn ho
    obtain rfl : l2 = l0 := by rw [← h0.1, ← h2.1]; exact hv.fixn
    have hm : l1 ≤ 60 := by rw [← h1.1]; exact hv.m
    have HV := Lib.hid hv
    have HO := Lib.hid ho
    have HL1 := Lib.hid h1.1
    have HAw := Lib.hid (show ∀ w', Below w.heap.size w w' → Row .i64 w' a0 l2 c0 p.val ∧ RowsIn w' a1 l1 c1 p.rows ∧ Row .i64 w' a2 l2 c2 p.fix from fun w' hb => ⟨h0.below hb, h1.below hb, h2.below hb⟩)
    have HSN := Lib.hid (fun h => sol_none (p := p) ho h)
    have HSS := Lib.hid (fun z m h => sol_some (p := p) (z := z) (m := m) ho h)
    clear h0 h1 h2 hv hn
    generalize solX p = sx at *
    generalize solN p = sn at *
    generalize solE p = se at *
    go_enter Try.func21, Try.ntmps21
    go_wp2_with fail
    generalize w.alloc (.cells #[.slice a0 l2 c0, .slice a1 l1 c1, .slice a2 l2 c2] 25) = w0 at *
    have hvc := valid_any _ p _ (HP.out.below hb0)
    rw [ho] at hvc
    clear ho
    refine hvc.mono ?_
    clear hvc
    rintro e w1 ⟨rfl, hb1⟩
    obtain ⟨x0, x1, x2⟩ := HB.out _ hb1
    go_wp2_with fail
    clear x0 x1 x2
    go_loopw [18] (fun i wr => ∃ k : Nat, k ≤ l1 ∧ i = .int .i64 k ∧ Below w0.heap.size w0 wr) (fun i _ => l1 - (intOf i).toNat)
    case atStart => exact ⟨0, by omega, rfl, hb1⟩
    case round =>
      clear hb1
      obtain ⟨k, hk, rfl, hb⟩ := hrel
      obtain ⟨x0, x1, x2⟩ := HB.out _ hb
      have hbw := hb0.trans (hb.mono hb0.size)
      have HR := Lib.hid (HAw.out wr hbw)
      by_cases hlt : k < l1
      · obtain ⟨b, off, rfl, hbs, ai, li, ci, hrow, hcc⟩ := HR.out.2.1.at hlt
        obtain ⟨y0, y1, y2⟩ := hcc wr (Below.refl _ _)
        have HNo := Lib.hid (row_none (p := p) (i := k) (by rw [HL1.out]; exact hlt))
        generalize hrk : p.rows.getD k default = r at *
        have hbx : Below wr.heap.size wr (wr.alloc (.cells #[.slice ai li ci, .int .i64 r.mn, .int .i64 r.mx] 44)) := (Below.refl _ _).alloc (Nat.le_refl _) _
        have hbn := hb.trans (hbx.mono hb.size)
        obtain ⟨z0, z1, z2⟩ := box3 wr 44 (.slice ai li ci) (.int .i64 r.mn) (.int .i64 r.mx) _ (Below.refl _ _)
        clear hcc hrow hrk HR
        by_cases hmm : r.mx < r.mn
        · obtain ⟨e1, e2, e3⟩ := HSN.out (HNo.out hmm)
          subst e1; subst e2; subst e3
          have hd : decide (r.mx < r.mn) = true := by simp [hmm]
          clear HNo HSN HSS
          go_wp2_with fail
          go_ret3
          exact ⟨_, rfl, Owns.nil _ _ _, hb0.trans (hbn.mono hb0.size)⟩
        · have hd : decide (r.mx < r.mn) = false := by simp; omega
          clear HNo
          go_wp2_with fail
          go_roundw
          case rel => exact ⟨k + 1, by omega, by go_num, hbn⟩
          case measure => simp [intOf]; omega
      · go_wp2_with fail
        refine (greatest_any p a0 a1 a2 l2 l1 c0 c1 c2 wr HR.out.1 HR.out.2.1 HR.out.2.2 HV.out hl0).mono ?_
        rintro e w2 ⟨mo, fd, rfl, hG, hb2⟩
        have HG := Lib.hid hG
        have hb3 := hb.trans (hb2.mono hb.size)
        have hbw3 := hb0.trans (hb3.mono hb0.size)
        clear hG x0 x1 x2 hb2
        obtain ⟨x0, x1, x2⟩ := HB.out _ hb3
        cases fd
        · obtain ⟨e1, e2, e3⟩ := HSN.out (HG.out.1 rfl)
          subst e1; subst e2; subst e3
          clear HSN HSS HG
          go_wp2_with fail
          go_ret3
          exact ⟨_, rfl, Owns.nil _ _ _, hbw3⟩
        · obtain ⟨z, hz⟩ := HG.out.2 rfl
          obtain ⟨e1, e2, e3⟩ := HSS.out z mo hz
          subst e1; subst e2; subst e3
          have HZ := Lib.hid hz
          have HR3 := Lib.hid (HAw.out w2 hbw3)
          clear HSN HSS HG hz
          go_wp2_with fail
          refine (first_any p sx sn a0 a1 a2 l2 l1 c0 c1 c2 w2 HR3.out.1 HR3.out.2.1 HR3.out.2.2 HV.out hl0 HZ.out).mono ?_
          rintro e w4 ⟨vx, rfl, hO, hb4⟩
          have HOx := Lib.hid (hO.mono hbw3.size)
          obtain ⟨an, ln, cn, rfl, -⟩ := Owns.ints (show Owns w4 w2.heap.size 3 vx (ivs sx) from hO)
          have hbw4 := hbw3.trans (hb4.mono hbw3.size)
          clear hO hb4
          go_wp2_with fail
          go_ret3
          exact ⟨_, rfl, HOx.out, hbw4⟩
  · obtain ⟨e1, e2, e3⟩ := sol_bad ho
    rw [e1, e2, e3]
    have hz : (validOf p == 0) = false := by simpa using ho
    have hz2 : (validOf p != 0) = true := by simpa using ho
    clear e1 e2 e3 ho h0 h1 h2 hn
    go_enter Try.func21, Try.ntmps21
    go_wp2_with fail
    generalize w.alloc (.cells #[.slice a0 l0 c0, .slice a1 l1 c1, .slice a2 l2 c2] 25) = w0 at *
    refine (valid_any _ p _ (HP.out.below hb0)).mono ?_
    rintro e w1 ⟨rfl, hb1⟩
    have hb01 := hb0.trans (hb1.mono hb0.size)
    generalize hev : validOf p = ev at *
    have HEv := Lib.hid hev
    clear hev HN
    go_wp2_with fail
    go_ret3
    exact ⟨_, by rw [HEv.out]; rfl, Owns.nil _ _ _, hb01⟩

end Go.Proofs.Ytkgikajfeihbbaa
