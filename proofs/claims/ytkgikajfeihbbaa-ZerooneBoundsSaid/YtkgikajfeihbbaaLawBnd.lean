/- The law ZerooneBounds: no solution exceeds the bound, and without constraints the solution reaches it. No condition. -/
import Derived.Test.YtkgikajfeihbbaaZsX
import Derived.Test.YtkgikajfeihbbaaZoO
namespace Go.Proofs.Ytkgikajfeihbbaa
set_option maxRecDepth 100000
open Go.ChangeShapes Go.WideShapes Go.ChangeAt Go.RowKit

set_option maxHeartbeats 8000000 in
theorem zbounds_calls (p : ProbM) (a0 a1 a2 : Option Addr) (l0 c0 l1 c1 l2 c2 : Nat) (w : World) (h0 : Row .i64 w a0 l0 c0 p.val) (h1 : RowsIn w a1 l1 c1 p.rows) (h2 : Row .i64 w a2 l2 c2 p.fix) :
    Calls Try.prog 8 #[.agg #[.slice a0 l0 c0, .slice a1 l1 c1, .slice a2 l2 c2]] w fun e w' => e = .returned (.bool true) ∧ Below w.heap.size w w' := by
  have HP := Lib.hid (show ProbIn w (.agg #[.slice a0 l0 c0, .slice a1 l1 c1, .slice a2 l2 c2]) p from ⟨_, _, _, _, _, _, _, _, _, rfl, h0, h1, h2⟩)
  have hb0 : Below w.heap.size w (w.alloc (.cells #[.slice a0 l0 c0, .slice a1 l1 c1, .slice a2 l2 c2] 25)) := (Below.refl _ _).alloc (Nat.le_refl _) _
  have HB := Lib.hid (box3 w 25 (.slice a0 l0 c0) (.slice a1 l1 c1) (.slice a2 l2 c2))
  have HL := Lib.hid h0.1
  have HA := Lib.hid (And.intro h0 h2)
  clear h0 h1 h2
  obtain ⟨x0, x1, x2⟩ := HB.out _ (Below.refl _ _)
  by_cases hl : 10 < l0
  · have hd2 : decide (10 < (l0 : Int)) = true := by simp; omega
    go_enter Try.func8, Try.ntmps8
    go_wp2_with fail
    go_ret
    exact ⟨rfl, hb0⟩
  have hd2 : decide (10 < (l0 : Int)) = false := by simp; omega
  have HN := Lib.hid (show validOf p = 0 → p.val.length ≤ 19 from fun _ => by rw [HL.out]; omega)
  have HN2 := Lib.hid (show validOf ⟨p.val, [], p.fix⟩ = 0 → p.val.length ≤ 19 from fun _ => by rw [HL.out]; omega)
  by_cases ho : validOf p = 0
  · have HF := Lib.hid (sol_free ho)
    have HS := Lib.hid (sol_le ho)
    have HBd := Lib.hid (show boundVal p = hiOf p.val p.fix by unfold boundVal; rw [if_pos ho])
    have HO := Lib.hid ho
    generalize hbd : hiOf p.val p.fix = bd at *
    clear ho hbd
    go_enter Try.func8, Try.ntmps8
    go_wp2_with fail
    generalize w.alloc (.cells #[.slice a0 l0 c0, .slice a1 l1 c1, .slice a2 l2 c2] 25) = w0 at *
    refine (bound_any _ p _ (HP.out.below hb0)).mono ?_
    rw [HO.out, HBd.out]
    rintro e w2 ⟨rfl, hB2⟩
    clear x0 x1 x2
    obtain ⟨x0, x1, x2⟩ := HB.out _ hB2
    go_wp2_with fail
    refine (solve_any _ p w2 (HP.out.below (hb0.trans (hB2.mono hb0.size))) HN.out).mono ?_
    rintro e w3 ⟨vx, rfl, hO, hb⟩
    obtain ⟨ax, cx, rfl, -⟩ := sol_row hO
    have hB3 := hB2.trans (hb.mono hB2.size)
    clear x0 x1 x2 hO hb hB2
    obtain ⟨x0, x1, x2⟩ := HB.out _ hB3
    rcases HS.out with ⟨e1, e2, e3, -, -⟩ | ⟨e1, -⟩
    · rw [e1]
      have hdl : decide (bd < solN p) = false := by simp; omega
      rw [e3, HL.out]
      generalize solN p = sn at *
      clear e1 e2 e3
      go_wp2_with fail
      have hbx : Below w3.heap.size w3 (w3.alloc (.cells #[.slice a0 l0 c0, .slice none 0 0, .slice a2 l2 c2] 25)) := (Below.refl _ _).alloc (Nat.le_refl _) _
      have HB2 := Lib.hid (box3 w3 25 (.slice a0 l0 c0) (.slice none 0 0) (.slice a2 l2 c2))
      have hB4 := hB3.trans (hbx.mono hB3.size)
      have HQ := Lib.hid (show ProbIn (w3.alloc (.cells #[.slice a0 l0 c0, .slice none 0 0, .slice a2 l2 c2] 25)) (.agg #[.slice a0 l0 c0, .slice none 0 0, .slice a2 l2 c2]) ⟨p.val, [], p.fix⟩ from ⟨_, _, _, _, _, _, _, _, _, rfl, HA.out.1.below (hb0.trans (hB4.mono hb0.size)), rows_nil _, HA.out.2.below (hb0.trans (hB4.mono hb0.size))⟩)
      generalize hWW : (w3.alloc (.cells #[.slice a0 l0 c0, .slice none 0 0, .slice a2 l2 c2] 25)) = w4 at *
      clear x0 x1 x2 hWW hbx
      obtain ⟨x0, x1, x2⟩ := HB.out _ hB4
      obtain ⟨y0, y1, y2⟩ := HB2.out _ (Below.refl _ _)
      refine (solve_any _ ⟨p.val, [], p.fix⟩ w4 HQ.out HN2.out).mono ?_
      rintro e w5 ⟨vy, rfl, hO, hb⟩
      obtain ⟨ay, cy, rfl, hY⟩ := sol_row hO
      have HY := Lib.hid hY
      have hB5 := hB4.trans (hb.mono hB4.size)
      have HQ5 := Lib.hid (HQ.out.below hb)
      clear x0 x1 x2 y0 y1 y2 hO hY
      obtain ⟨x0, x1, x2⟩ := HB.out _ hB5
      obtain ⟨y0, y1, y2⟩ := HB2.out _ hb
      clear hb HQ
      obtain ⟨e1, e2, e3, e4⟩ := HF.out
      rw [e1, e2]
      have HFe := Lib.hid e4
      generalize hys : solX ⟨p.val, [], p.fix⟩ = ys at *
      generalize hyl : ys.length = yl at *
      have hyl2 : yl = l0 := by rw [e3]; exact HL.out
      subst hyl2
      clear e1 e2 e3 e4 hys hyl
      go_wp2_with fail
      refine (feasible_any _ ⟨p.val, [], p.fix⟩ ys _ _ _ w5 HQ5.out HY.out).mono ?_
      rw [HFe.out]
      rintro e w6 ⟨rfl, hb⟩
      have hB6 := hB5.trans (hb.mono hB5.size)
      clear x0 x1 x2 y0 y1 y2 hb
      go_wp2_with fail
      go_ret
      exact ⟨rfl, hb0.trans (hB6.mono hb0.size)⟩
    · rw [e1]
      generalize solN p = sn at *
      generalize (solX p).length = sl at *
      clear e1
      go_wp2_with fail
      have hbx : Below w3.heap.size w3 (w3.alloc (.cells #[.slice a0 l0 c0, .slice none 0 0, .slice a2 l2 c2] 25)) := (Below.refl _ _).alloc (Nat.le_refl _) _
      have HB2 := Lib.hid (box3 w3 25 (.slice a0 l0 c0) (.slice none 0 0) (.slice a2 l2 c2))
      have hB4 := hB3.trans (hbx.mono hB3.size)
      have HQ := Lib.hid (show ProbIn (w3.alloc (.cells #[.slice a0 l0 c0, .slice none 0 0, .slice a2 l2 c2] 25)) (.agg #[.slice a0 l0 c0, .slice none 0 0, .slice a2 l2 c2]) ⟨p.val, [], p.fix⟩ from ⟨_, _, _, _, _, _, _, _, _, rfl, HA.out.1.below (hb0.trans (hB4.mono hb0.size)), rows_nil _, HA.out.2.below (hb0.trans (hB4.mono hb0.size))⟩)
      generalize hWW : (w3.alloc (.cells #[.slice a0 l0 c0, .slice none 0 0, .slice a2 l2 c2] 25)) = w4 at *
      clear x0 x1 x2 hWW hbx
      obtain ⟨x0, x1, x2⟩ := HB.out _ hB4
      obtain ⟨y0, y1, y2⟩ := HB2.out _ (Below.refl _ _)
      refine (solve_any _ ⟨p.val, [], p.fix⟩ w4 HQ.out HN2.out).mono ?_
      rintro e w5 ⟨vy, rfl, hO, hb⟩
      obtain ⟨ay, cy, rfl, hY⟩ := sol_row hO
      have HY := Lib.hid hY
      have hB5 := hB4.trans (hb.mono hB4.size)
      have HQ5 := Lib.hid (HQ.out.below hb)
      clear x0 x1 x2 y0 y1 y2 hO hY
      obtain ⟨x0, x1, x2⟩ := HB.out _ hB5
      obtain ⟨y0, y1, y2⟩ := HB2.out _ hb
      clear hb HQ
      obtain ⟨e1, e2, e3, e4⟩ := HF.out
      rw [e1, e2]
      have HFe := Lib.hid e4
      generalize hys : solX ⟨p.val, [], p.fix⟩ = ys at *
      generalize hyl : ys.length = yl at *
      have hyl2 : yl = l0 := by rw [e3]; exact HL.out
      subst hyl2
      clear e1 e2 e3 e4 hys hyl
      go_wp2_with fail
      refine (feasible_any _ ⟨p.val, [], p.fix⟩ ys _ _ _ w5 HQ5.out HY.out).mono ?_
      rw [HFe.out]
      rintro e w6 ⟨rfl, hb⟩
      have hB6 := hB5.trans (hb.mono hB5.size)
      clear x0 x1 x2 y0 y1 y2 hb
      go_wp2_with fail
      go_ret
      exact ⟨rfl, hb0.trans (hB6.mono hb0.size)⟩
  · obtain ⟨-, e2, e3⟩ := sol_bad ho
    have HBd := Lib.hid (show boundVal p = 0 by unfold boundVal; rw [if_neg ho])
    have hz : (validOf p == 0) = false := by simpa using ho
    have hz2 : (validOf p != 0) = true := by simpa using ho
    have HE := Lib.hid (And.intro e2 e3)
    clear ho e2 e3
    go_enter Try.func8, Try.ntmps8
    go_wp2_with fail
    generalize w.alloc (.cells #[.slice a0 l0 c0, .slice a1 l1 c1, .slice a2 l2 c2] 25) = w0 at *
    refine (bound_any _ p _ (HP.out.below hb0)).mono ?_
    rw [HBd.out]
    rintro e w2 ⟨rfl, hB2⟩
    clear x0 x1 x2
    obtain ⟨x0, x1, x2⟩ := HB.out _ hB2
    go_wp2_with fail
    refine (solve_any _ p w2 (HP.out.below (hb0.trans (hB2.mono hb0.size))) HN.out).mono ?_
    rintro e w3 ⟨vx, rfl, hO, hb⟩
    obtain ⟨ax, cx, rfl, -⟩ := sol_row hO
    have hB3 := hB2.trans (hb.mono hB2.size)
    rw [HE.out.1, HE.out.2]
    generalize (solX p).length = sl at *
    clear x0 x1 x2 hO hb hB2 HE HN HN2 HBd
    generalize validOf p = ev at *
    go_wp2_with fail
    go_ret
    exact ⟨rfl, hb0.trans (hB3.mono hb0.size)⟩


theorem zerooneBounds_walk {H : Type} {enc : TypeId × Value → H} (W : World) (base : Nat) (args : Array Value) (ds gs : List (DataW H)) (before : List MemPlace)
    (hval : ∀ (j : Nat) t v, Try.f8.params[j]? = some t → args[j]? = some v → Value.okWide Try.prog W .any base t v)
    (hW : DataW.Whole enc Try.prog Try.f8.params.toList Rows.zerooneBoundsSpec.vars false W args.toList ds gs before)
    (_hsz : (DataW.weightsEach Try.prog (Try.f8.params.toList ++ Rows.zerooneBoundsSpec.plain.varTypes Try.prog) (ds ++ gs)).all (· ≤ reachBytes) = true) :
    Calls Try.prog 8 args W fun e w' => e = .returned (.bool true) ∧ Below W.heap.size W w' := by
  obtain ⟨p, q, hA, hV, -, -, -⟩ := hW
  obtain ⟨rfl, -⟩ := trodVars_none hV
  rw [Try.params8] at hA hval
  obtain ⟨v0, d0, rfl, rfl, h0⟩ := trodAll_one hA
  obtain ⟨p, hp⟩ := open_prob (hval 0 _ _ rfl rfl) h0
  obtain ⟨a0, l0, c0, a1, l1, c1, a2, l2, c2, rfl, h0, h1, h2⟩ := hp
  exact zbounds_calls p a0 a1 a2 l0 c0 l1 c1 l2 c2 W h0 h1 h2

set_option maxRecDepth 100000 in
theorem zerooneBounds_lifted (os : Os) (started : os.Started) (H : Type) (enc : TypeId × Value → H) :
    ReturnsInHanded {} Try.checked os 8 .any (Rows.zerooneBoundsSpec.pre6 enc Try.prog Try.f8 Rows.zerooneBoundsRow.domain false) (Rows.zerooneBoundsSpec.post enc Try.prog Try.f8 false true false false) := by
  refine returnsInHanded_of_change_sized (C := Try.checked) own started (by kernel_rfl) Try.func8
    (ChangeSpec.witness6 (enc := enc) (C := Try.checked) false ⟨#[], #[.agg #[.slice none 0 0, .slice none 0 0, .slice none 0 0]], []⟩ 8 (by kernel_rfl) (by kernel_rfl) (by kernel_rfl) (by kernel_rfl)) ?_
  intro W base args ds gs before hval hW _ hsz _
  exact law_post rfl (by kernel_rfl) (by kernel_rfl) (fun ds h => match ds, h with | [d0], _ => ⟨rfl, rfl, rfl⟩) hW (zerooneBounds_walk W base args ds gs before hval hW hsz)

theorem zerooneBounds_over : Rows.zerooneBoundsRow.holds Try.pinned (OpenSpec.ofChange Rows.zerooneBoundsSpec) :=
  OpenClaim.holds_of_wide 8 Try.f8 rfl rfl rfl rfl rfl rfl rfl ⟨rfl, rfl, rfl, rfl, rfl⟩ rfl rfl rfl rfl rfl (by kernel_rfl) Try.func8 (by kernel_rfl)
    (of_decide_eq_true (by kernel_rfl)) (by unfold Func.isWrapper; first | (rw [if_pos (by decide +kernel)]; kernel_rfl) | (rw [if_neg (by decide +kernel)]; exact ⟨rfl, rfl⟩))
    (fun os started H enc _ => zerooneBounds_lifted os started H enc)

theorem zerooneBounds_proved : Rows.ZerooneBoundsSaid := zerooneBounds_over

end Go.Proofs.Ytkgikajfeihbbaa
