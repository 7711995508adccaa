/- The law ZerooneSolves: the best assignment, its value, or the error, are those of the reference. No condition. -/
import Derived.Test.YtkgikajfeihbbaaZsW
import Derived.Test.YtkgikajfeihbbaaZoO
namespace Go.Proofs.Ytkgikajfeihbbaa
set_option maxRecDepth 100000
open Go.ChangeShapes Go.WideShapes Go.ChangeAt Go.RowKit

set_option maxHeartbeats 4000000 in
theorem zsolves_calls (p : ProbM) (a0 a1 a2 : Option Addr) (l0 c0 l1 c1 l2 c2 : Nat) (w : World) (h0 : Row .i64 w a0 l0 c0 p.val) (h1 : RowsIn w a1 l1 c1 p.rows) (h2 : Row .i64 w a2 l2 c2 p.fix) :
    Calls Try.prog 6 #[.agg #[.slice a0 l0 c0, .slice a1 l1 c1, .slice a2 l2 c2]] w fun e w' => e = .returned (.bool true) ∧ Below w.heap.size w w' := by
  have HP := Lib.hid (show ProbIn w (.agg #[.slice a0 l0 c0, .slice a1 l1 c1, .slice a2 l2 c2]) p from ⟨_, _, _, _, _, _, _, _, _, rfl, h0, h1, h2⟩)
  have hb0 : Below w.heap.size w (w.alloc (.cells #[.slice a0 l0 c0, .slice a1 l1 c1, .slice a2 l2 c2] 25)) := (Below.refl _ _).alloc (Nat.le_refl _) _
  have HB := Lib.hid (box3 w 25 (.slice a0 l0 c0) (.slice a1 l1 c1) (.slice a2 l2 c2))
  have HL := Lib.hid h0.1
  clear h0 h1 h2
  obtain ⟨x0, x1, x2⟩ := HB.out _ (Below.refl _ _)
  have hB := Below.refl (w.alloc (.cells #[.slice a0 l0 c0, .slice a1 l1 c1, .slice a2 l2 c2] 25)).heap.size (w.alloc (.cells #[.slice a0 l0 c0, .slice a1 l1 c1, .slice a2 l2 c2] 25))
  by_cases hl : 10 < l0
  · have hd : decide (10 < l0) = true := by simp [hl]
    have hd2 : decide (10 < (l0 : Int)) = true := by simp; omega
    go_enter Try.func6, Try.ntmps6
    go_wp2_with fail
    generalize w.alloc (.cells #[.slice a0 l0 c0, .slice a1 l1 c1, .slice a2 l2 c2] 25) = w0 at *
    refine (ref_valid_any _ p _ (HP.out.below hb0)).mono ?_
    rintro e wc ⟨rfl, hb⟩
    replace hB := hB.trans hb
    clear x0 x1 x2 hb
    by_cases ho : validOf p = 0
    · rw [ho]
      go_wp2_with fail
      go_ret
      exact ⟨rfl, hb0.trans (hB.mono hb0.size)⟩
    · have HN := Lib.hid (show validOf p = 0 → p.val.length ≤ 19 from fun h => absurd h ho)
      have hz : (validOf p == 0) = false := by simpa using ho
      clear ho
      generalize hev : validOf p = ev at *
      have HEv := Lib.hid hev
      rw [← hev] at HN
      clear hev
      obtain ⟨x0, x1, x2⟩ := HB.out _ hB
      go_wp2_with fail
      refine (solve_any _ p wc (HP.out.below (hb0.trans (hB.mono hb0.size))) HN.out).mono ?_
      rintro e w2 ⟨vx, rfl, hO, hb⟩
      obtain ⟨ax, cx, rfl, hX⟩ := sol_row hO
      have hB2 := hB.trans (hb.mono hB.size)
      have HX := Lib.hid hX
      clear x0 x1 x2 hO hX hb
      obtain ⟨x0, x1, x2⟩ := HB.out _ hB2
      go_wp2_with fail
      refine (rsolve_any _ p w2 (HP.out.below (hb0.trans (hB2.mono hb0.size)))).mono ?_
      rintro e w3 ⟨vy, rfl, hO, hb⟩
      obtain ⟨ay, cy, rfl, hY⟩ := sol_row hO
      have hB3 := hB2.trans (hb.mono hB2.size)
      have HX3 := Lib.hid (HX.out.below hb)
      have HY := Lib.hid hY
      clear x0 x1 x2 hO hY hb HX
      generalize solX p = sx at *
      generalize solN p = sn at *
      generalize solE p = se at *
      generalize sx.length = sl at *
      go_wp2_with fail
      refine (ints_same sx _ _ _ _ _ _ HX3.out HY.out).mono ?_
      rintro e w4 ⟨rfl, hb⟩
      have hB4 := hB3.trans (hb.mono hB3.size)
      clear hb HX3 HY
      go_wp2_with fail
      go_ret
      exact ⟨rfl, hb0.trans (hB4.mono hb0.size)⟩
  · have hd : decide (10 < l0) = false := by simp; omega
    have hd2 : decide (10 < (l0 : Int)) = false := by simp; omega
    have HN := Lib.hid (show validOf p = 0 → p.val.length ≤ 19 from fun _ => by rw [HL.out]; omega)
    go_enter Try.func6, Try.ntmps6
    go_wp2_with fail
    generalize w.alloc (.cells #[.slice a0 l0 c0, .slice a1 l1 c1, .slice a2 l2 c2] 25) = wc at *
    refine (solve_any _ p wc (HP.out.below (hb0)) HN.out).mono ?_
    rintro e w2 ⟨vx, rfl, hO, hb⟩
    obtain ⟨ax, cx, rfl, hX⟩ := sol_row hO
    have hB2 := hB.trans (hb.mono hB.size)
    have HX := Lib.hid hX
    clear x0 x1 x2 hO hX hb
    obtain ⟨x0, x1, x2⟩ := HB.out _ hB2
    go_wp2_with fail
    refine (rsolve_any _ p w2 (HP.out.below (hb0.trans (hB2.mono hb0.size)))).mono ?_
    rintro e w3 ⟨vy, rfl, hO, hb⟩
    obtain ⟨ay, cy, rfl, hY⟩ := sol_row hO
    have hB3 := hB2.trans (hb.mono hB2.size)
    have HX3 := Lib.hid (HX.out.below hb)
    have HY := Lib.hid hY
    clear x0 x1 x2 hO hY hb HX
    generalize solX p = sx at *
    generalize solN p = sn at *
    generalize solE p = se at *
    generalize sx.length = sl at *
    go_wp2_with fail
    refine (ints_same sx _ _ _ _ _ _ HX3.out HY.out).mono ?_
    rintro e w4 ⟨rfl, hb⟩
    have hB4 := hB3.trans (hb.mono hB3.size)
    clear hb HX3 HY
    go_wp2_with fail
    go_ret
    exact ⟨rfl, hb0.trans (hB4.mono hb0.size)⟩


theorem zerooneSolves_walk {H : Type} {enc : TypeId × Value → H} (W : World) (base : Nat) (args : Array Value) (ds gs : List (DataW H)) (before : List MemPlace)
    (hval : ∀ (j : Nat) t v, Try.f6.params[j]? = some t → args[j]? = some v → Value.okWide Try.prog W .any base t v)
    (hW : DataW.Whole enc Try.prog Try.f6.params.toList Rows.zerooneSolvesSpec.vars false W args.toList ds gs before)
    (_hsz : (DataW.weightsEach Try.prog (Try.f6.params.toList ++ Rows.zerooneSolvesSpec.plain.varTypes Try.prog) (ds ++ gs)).all (· ≤ reachBytes) = true) :
    Calls Try.prog 6 args W fun e w' => e = .returned (.bool true) ∧ Below W.heap.size W w' := by
  obtain ⟨p, q, hA, hV, -, -, -⟩ := hW
  obtain ⟨rfl, -⟩ := trodVars_none hV
  rw [Try.params6] at hA hval
  obtain ⟨v0, d0, rfl, rfl, h0⟩ := trodAll_one hA
  obtain ⟨p, hp⟩ := open_prob (hval 0 _ _ rfl rfl) h0
  obtain ⟨a0, l0, c0, a1, l1, c1, a2, l2, c2, rfl, h0, h1, h2⟩ := hp
  exact zsolves_calls p a0 a1 a2 l0 c0 l1 c1 l2 c2 W h0 h1 h2

set_option maxRecDepth 100000 in
theorem zerooneSolves_lifted (os : Os) (started : os.Started) (H : Type) (enc : TypeId × Value → H) :
    ReturnsInHanded {} Try.checked os 6 .any (Rows.zerooneSolvesSpec.pre6 enc Try.prog Try.f6 Rows.zerooneSolvesRow.domain false) (Rows.zerooneSolvesSpec.post enc Try.prog Try.f6 false true false false) := by
  refine returnsInHanded_of_change_sized (C := Try.checked) own started (by kernel_rfl) Try.func6
    (ChangeSpec.witness6 (enc := enc) (C := Try.checked) false ⟨#[], #[.agg #[.slice none 0 0, .slice none 0 0, .slice none 0 0]], []⟩ 8 (by kernel_rfl) (by kernel_rfl) (by kernel_rfl) (by kernel_rfl)) ?_
  intro W base args ds gs before hval hW _ hsz _
  exact law_post rfl (by kernel_rfl) (by kernel_rfl) (fun ds h => match ds, h with | [d0], _ => ⟨rfl, rfl, rfl⟩) hW (zerooneSolves_walk W base args ds gs before hval hW hsz)

theorem zerooneSolves_over : Rows.zerooneSolvesRow.holds Try.pinned (OpenSpec.ofChange Rows.zerooneSolvesSpec) :=
  OpenClaim.holds_of_wide 6 Try.f6 rfl rfl rfl rfl rfl rfl rfl ⟨rfl, rfl, rfl, rfl, rfl⟩ rfl rfl rfl rfl rfl (by kernel_rfl) Try.func6 (by kernel_rfl)
    (of_decide_eq_true (by kernel_rfl)) (by unfold Func.isWrapper; first | (rw [if_pos (by decide +kernel)]; kernel_rfl) | (rw [if_neg (by decide +kernel)]; exact ⟨rfl, rfl⟩))
    (fun os started H enc _ => zerooneSolves_lifted os started H enc)

theorem zerooneSolves_proved : Rows.ZerooneSolvesSaid := zerooneSolves_over

end Go.Proofs.Ytkgikajfeihbbaa
