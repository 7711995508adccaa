/- The law ZerooneOptimal: the solution is feasible, the best, and of equally good ones the lexicographically greatest. No condition. -/
import Derived.Test.YtkgikajfeihbbaaZsY
import Derived.Test.YtkgikajfeihbbaaZoO
namespace Go.Proofs.Ytkgikajfeihbbaa
set_option maxRecDepth 100000
open Go.ChangeShapes Go.WideShapes Go.ChangeAt Go.RowKit

/-- what the loop knows: the best assignment so far, its value, whether there is one -/
def SolB (w : World) (bv tv fv : Value) (β : Option (List Int) × Int) : Prop :=
  (β = (none, 0) ∧ bv = .slice none 0 0 ∧ tv = .int .i64 0 ∧ fv = .bool false) ∨ ∃ z a c, β.1 = some z ∧ bv = .slice a z.length c ∧ Row .i64 w a z.length c z ∧ tv = .int .i64 β.2 ∧ fv = .bool true
theorem SolB.below {w w' : World} {bv tv fv : Value} {β : Option (List Int) × Int} (h : SolB w bv tv fv β) (hb : Below w.heap.size w w') : SolB w' bv tv fv β := by
  rcases h with h | ⟨z, a, c, h1, h2, h3, h4⟩
  · exact .inl h
  · exact .inr ⟨z, a, c, h1, h2, h3.below hb, h4⟩
theorem step_no {F : List Int → Bool} {V : List Int → Int} {β : Option (List Int) × Int} {y : List Int} (h : F y = false) : stepR F V β y = β := by unfold stepR; rw [h]; rfl
theorem step_old {F : List Int → Bool} {V : List Int → Int} {β : Option (List Int) × Int} {y z : List Int} (hz : β.1 = some z) (h : ¬ β.2 < V y) : stepR F V β y = β := by
  unfold stepR; rw [hz]; simp [h]
theorem step_yes {F : List Int → Bool} {V : List Int → Int} {β : Option (List Int) × Int} {y : List Int} (h : F y = true) (h2 : β.1 = none ∨ β.2 < V y) : stepR F V β y = (some y, V y) := by
  unfold stepR; rw [h]
  rcases h2 with e | e
  · rw [e]; simp
  · simp [e]
theorem pow_wrap {n : Nat} (h : n ≤ 8) : IntKind.i64.wrap (2 ^ n) = ((2 ^ n : Nat) : Int) ∧ 2 ^ n ≤ 256 ∧ 1 ≤ 2 ^ n := by
  have : n = 0 ∨ n = 1 ∨ n = 2 ∨ n = 3 ∨ n = 4 ∨ n = 5 ∨ n = 6 ∨ n = 7 ∨ n = 8 := by omega
  rcases this with rfl | rfl | rfl | rfl | rfl | rfl | rfl | rfl | rfl <;> decide

set_option maxHeartbeats 8000000 in
theorem zoptimal_calls (p : ProbM) (a0 a1 a2 : Option Addr) (l0 c0 l1 c1 l2 c2 : Nat) (w : World) (h0 : Row .i64 w a0 l0 c0 p.val) (h1 : RowsIn w a1 l1 c1 p.rows) (h2 : Row .i64 w a2 l2 c2 p.fix) :
    Calls Try.prog 7 #[.agg #[.slice a0 l0 c0, .slice a1 l1 c1, .slice a2 l2 c2]] w fun e w' => e = .returned (.bool true) ∧ Below w.heap.size w w' := by
  have HP := Lib.hid (show ProbIn w (.agg #[.slice a0 l0 c0, .slice a1 l1 c1, .slice a2 l2 c2]) p from ⟨_, _, _, _, _, _, _, _, _, rfl, h0, h1, h2⟩)
  have hb0 : Below w.heap.size w (w.alloc (.cells #[.slice a0 l0 c0, .slice a1 l1 c1, .slice a2 l2 c2] 25)) := (Below.refl _ _).alloc (Nat.le_refl _) _
  have HB := Lib.hid (box3 w 25 (.slice a0 l0 c0) (.slice a1 l1 c1) (.slice a2 l2 c2))
  have HL := Lib.hid h0.1
  clear h0 h1 h2
  obtain ⟨x0, x1, x2⟩ := HB.out _ (Below.refl _ _)
  by_cases hl : 8 < l0
  · have hd2 : decide (8 < (l0 : Int)) = true := by simp; omega
    go_enter Try.func7, Try.ntmps7
    go_wp2_with fail
    go_ret
    exact ⟨rfl, hb0⟩
  have hd2 : decide (8 < (l0 : Int)) = false := by simp; omega
  have HN := Lib.hid (show validOf p = 0 → p.val.length ≤ 19 from fun _ => by rw [HL.out]; omega)
  by_cases ho : validOf p = 0
  · have HO := Lib.hid ho
    have HSe := Lib.hid (best_down ho)
    rw [HL.out] at HSe
    obtain ⟨hpw, hN1, hN2⟩ := pow_wrap (n := l0) (by omega)
    have hw1 : IntKind.u64.wrap (l0 : Int) = l0 := by rw [IntKind.wrap_u64]; omega
    generalize hNN : 2 ^ l0 = N at *
    clear ho hNN
    go_enter Try.func7, Try.ntmps7
    go_wp2_with fail
    generalize w.alloc (.cells #[.slice a0 l0 c0, .slice a1 l1 c1, .slice a2 l2 c2] 25) = w0 at *
    refine (solve_any _ p w0 (HP.out.below hb0) HN.out).mono ?_
    rintro e w2 ⟨vx, rfl, hO, hB2⟩
    obtain ⟨ax, cx, rfl, hX⟩ := sol_row hO
    have HX := Lib.hid hX
    clear x0 x1 x2 hO hX
    obtain ⟨x0, x1, x2⟩ := HB.out _ hB2
    go_wp2_with fail
    refine (valid_any _ p w2 (HP.out.below (hb0.trans (hB2.mono hb0.size)))).mono ?_
    rw [HO.out]
    rintro e w3 ⟨rfl, hb⟩
    have hB3 := hB2.trans (hb.mono hB2.size)
    have HX3 := Lib.hid (HX.out.below hb)
    clear x0 x1 x2 hb HX hB2
    obtain ⟨x0, x1, x2⟩ := HB.out _ hB3
    have HSN := Lib.hid (fun h => sol_none (p := p) HO.out h)
    have HSS := Lib.hid (fun z m h => sol_some (p := p) (z := z) (m := m) HO.out h)
    generalize solX p = sx at *
    generalize solN p = sn at *
    generalize solE p = se at *
    generalize hsl : sx.length = sl at *
    have HSl := Lib.hid hsl
    have HX0 := Lib.hid (show ∀ wr, Below w0.heap.size w0 wr → Below w3.heap.size w3 wr → Row .i64 wr ax sl cx sx from fun wr _ h => HX3.out.below h)
    clear hsl
    go_wp2_with fail
    clear x0 x1 x2
    go_loopw [8, 9, 10, 11] (fun bv tv fv iv wr => ∃ (t : Nat) (β : Option (List Int) × Int), t ≤ N ∧ iv = .int .i64 ((t : Int) - 1) ∧ Hid (SolB wr bv tv fv β) ∧ Hid ((downK l0 t).foldl (stepR (feasOf p) (dotL p.val)) β = bestOf p.rows p.val p.fix) ∧ Below w3.heap.size w3 wr) (fun _ _ _ iv _ => (intOf iv + 1).toNat)
    case atStart => exact ⟨N, (none, 0), by omega, by first | rfl | go_num, Lib.hid (.inl ⟨rfl, rfl, rfl, rfl⟩), HSe, Below.refl _ _⟩
    case round =>
      obtain ⟨t, β, ht, rfl, HS, HF, hb⟩ := hrel
      have hbk := hB3.trans (hb.mono hB3.size)
      have hbw := hb0.trans (hbk.mono hb0.size)
      cases t with
      | zero =>
        have HE := Lib.hid (show β = bestOf p.rows p.val p.fix from HF.out)
        rcases HS.out with ⟨e1, rfl, rfl, rfl⟩ | ⟨z, a, c, e1, rfl, hz, rfl, rfl⟩
        · obtain ⟨f1, f2, f3⟩ := HSN.out (by rw [← HE.out, e1])
          have hsl0 : sl = 0 := by rw [← HSl.out, f1]; rfl
          subst f2; subst f3; subst hsl0
          clear f1 e1 HS HF HE HSN HSS
          go_wp2_with fail
          go_ret
          exact ⟨rfl, hbw⟩
        · obtain ⟨f1, f2, f3⟩ := HSS.out z β.2 (by rw [← HE.out, ← e1])
          subst f1; subst f2; subst f3
          have HXr := Lib.hid (HX3.out.below hb)
          have HZ := Lib.hid hz
          rw [HSl.out] at HZ ⊢
          clear e1 HS HF HE HSN HSS hz
          go_wp2_with fail
          refine (ints_same sx _ _ _ _ _ _ HXr.out HZ.out).mono ?_
          rintro e w4 ⟨rfl, hb4⟩
          have hbw4 := hbw.trans (hb4.mono hbw.size)
          go_wp2_with fail
          go_ret
          exact ⟨rfl, hbw4⟩
      | succ t =>
        have hti : ((t + 1 : Nat) : Int) - 1 = (t : Int) := by omega
        rw [hti]
        clear hti
        rw [downK_succ, List.foldl_cons] at HF
        go_wp2_with fail
        refine (assignment_any t l0 wr (by omega) (by omega)).mono ?_
        rintro e w4 ⟨vy, rfl, hOy, hb4⟩
        have h01 : Bits01 (bitsK t l0) := fun k hk => bitsK_01 t l0 _ (by simp [List.getD, hk])
        obtain ⟨ay, cy, rfl, hY⟩ := OwnI.row hOy (wf_bits h01)
        have hyl : (bitsK t l0).length = l0 := bitsK_len t l0
        have HY := Lib.hid hY
        have HVv := Lib.hid (show valVal p (bitsK t l0) = dotL p.val (bitsK t l0) ∧ valErr p (bitsK t l0) = 0 by
          unfold valVal valErr
          rw [HO.out, isBits_of h01 (by rw [hyl, HL.out])]
          simp)
        have HS4 := Lib.hid (HS.out.below hb4)
        have hb5 := hb.trans (hb4.mono hb.size)
        have hbk5 := hB3.trans (hb5.mono hB3.size)
        have hbw5 := hb0.trans (hbk5.mono hb0.size)
        obtain ⟨x0, x1, x2⟩ := HB.out _ hbk5
        generalize hy : bitsK t l0 = y at *
        rw [hyl] at HY ⊢
        clear hOy hY h01 hb4 hb hbk hbw HS hy
        go_wp2_with fail
        refine (feasible_any _ p y _ _ _ w4 (HP.out.below hbw5) HY.out).mono ?_
        rintro e w6 ⟨rfl, hb6⟩
        have HS6 := Lib.hid (HS4.out.below hb6)
        have hb7 := hb5.trans (hb6.mono hb5.size)
        have hbk7 := hB3.trans (hb7.mono hB3.size)
        have hbw7 := hb0.trans (hbk7.mono hb0.size)
        have HY6 := Lib.hid (HY.out.below hb6)
        clear x0 x1 x2 hb5 hbk5 hbw5 hb6 HS4 HY
        obtain ⟨x0, x1, x2⟩ := HB.out _ hbk7
        cases hf : feasOf p y
        · have HF2 := Lib.hid (show (downK l0 t).foldl (stepR (feasOf p) (dotL p.val)) β = bestOf p.rows p.val p.fix by have h := HF.out; rwa [step_no hf] at h)
          clear HF hf
          go_wp2_with fail
          go_roundw
          case rel => exact ⟨t, β, by omega, by go_num, HS6, HF2, hb7⟩
          case measure => simp [intOf]
        · have HFe := Lib.hid hf
          clear hf
          go_wp2_with fail
          refine (value_any _ p y _ _ _ w6 (HP.out.below hbw7) HY6.out).mono ?_
          rw [HVv.out.1, HVv.out.2]
          rintro e w8 ⟨rfl, hb8⟩
          have HS8 := Lib.hid (HS6.out.below hb8)
          have hb9 := hb7.trans (hb8.mono hb7.size)
          have HY8 := Lib.hid (HY6.out.below hb8)
          have HT := Lib.hid (fun h => step_yes (F := feasOf p) (V := dotL p.val) (β := β) (y := y) HFe.out h)
          have HU := Lib.hid (fun z (h : β.1 = some z) h2 => step_old (F := feasOf p) (V := dotL p.val) (β := β) (y := y) h h2)
          have HY9 := Lib.hid hyl
          generalize dotL p.val y = vy at *
          clear x0 x1 x2 hb7 hbk7 hbw7 hb8 HS6 HY6 HVv
          rcases HS8.out with ⟨e1, rfl, rfl, rfl⟩ | ⟨z, a, c, e1, rfl, hz, rfl, rfl⟩
          · have HF2 := Lib.hid (show (downK l0 t).foldl (stepR (feasOf p) (dotL p.val)) (some y, vy) = bestOf p.rows p.val p.fix by have h := HF.out; rwa [HT.out (.inl (by rw [e1]))] at h)
            clear HF HT HU e1 HS8
            go_wp2_with fail
            go_roundw
            case rel => exact ⟨t, (some y, vy), by omega, by go_num, Lib.hid (.inr ⟨y, ay, cy, rfl, by rw [HY9.out], by rw [HY9.out]; exact HY8.out, rfl, rfl⟩), HF2, hb9⟩
            case measure => simp [intOf]
          · by_cases hlt : β.2 < vy
            · have HF2 := Lib.hid (show (downK l0 t).foldl (stepR (feasOf p) (dotL p.val)) (some y, vy) = bestOf p.rows p.val p.fix by have h := HF.out; rwa [HT.out (.inr hlt)] at h)
              have hd : decide (β.2 < vy) = true := by simp [hlt]
              clear HF HT HU e1 HS8
              go_wp2_with fail
              go_roundw
              case rel => exact ⟨t, (some y, vy), by omega, by go_num, Lib.hid (.inr ⟨y, ay, cy, rfl, by rw [HY9.out], by rw [HY9.out]; exact HY8.out, rfl, rfl⟩), HF2, hb9⟩
              case measure => simp [intOf]
            · have HF2 := Lib.hid (show (downK l0 t).foldl (stepR (feasOf p) (dotL p.val)) β = bestOf p.rows p.val p.fix by have h := HF.out; rwa [HU.out z e1 hlt] at h)
              have hd : decide (β.2 < vy) = false := by simp; omega
              clear HF HT HU e1
              go_wp2_with fail
              go_roundw
              case rel => exact ⟨t, β, by omega, by go_num, HS8, HF2, hb9⟩
              case measure => simp [intOf]
  · obtain ⟨e1, e2, e3⟩ := sol_bad ho
    have HE := Lib.hid (And.intro e1 (And.intro e2 e3))
    have hz : (validOf p == 0) = false := by simpa using ho
    have hz2 : (validOf p != 0) = true := by simpa using ho
    clear ho e1 e2 e3
    go_enter Try.func7, Try.ntmps7
    go_wp2_with fail
    generalize w.alloc (.cells #[.slice a0 l0 c0, .slice a1 l1 c1, .slice a2 l2 c2] 25) = w0 at *
    refine (solve_any _ p w0 (HP.out.below hb0) HN.out).mono ?_
    rintro e w2 ⟨vx, rfl, hO, hB2⟩
    obtain ⟨ax, cx, rfl, -⟩ := sol_row hO
    rw [HE.out.1, HE.out.2.1, HE.out.2.2]
    clear x0 x1 x2 hO HE HN
    obtain ⟨x0, x1, x2⟩ := HB.out _ hB2
    go_wp2_with fail
    refine (valid_any _ p w2 (HP.out.below (hb0.trans (hB2.mono hb0.size)))).mono ?_
    rintro e w3 ⟨rfl, hb⟩
    have hB3 := hB2.trans (hb.mono hB2.size)
    clear x0 x1 x2 hb
    generalize validOf p = ev at *
    go_wp2_with fail
    go_ret
    exact ⟨rfl, hb0.trans (hB3.mono hb0.size)⟩


theorem zerooneOptimal_walk {H : Type} {enc : TypeId × Value → H} (W : World) (base : Nat) (args : Array Value) (ds gs : List (DataW H)) (before : List MemPlace)
    (hval : ∀ (j : Nat) t v, Try.f7.params[j]? = some t → args[j]? = some v → Value.okWide Try.prog W .any base t v)
    (hW : DataW.Whole enc Try.prog Try.f7.params.toList Rows.zerooneOptimalSpec.vars false W args.toList ds gs before)
    (_hsz : (DataW.weightsEach Try.prog (Try.f7.params.toList ++ Rows.zerooneOptimalSpec.plain.varTypes Try.prog) (ds ++ gs)).all (· ≤ reachBytes) = true) :
    Calls Try.prog 7 args W fun e w' => e = .returned (.bool true) ∧ Below W.heap.size W w' := by
  obtain ⟨p, q, hA, hV, -, -, -⟩ := hW
  obtain ⟨rfl, -⟩ := trodVars_none hV
  rw [Try.params7] at hA hval
  obtain ⟨v0, d0, rfl, rfl, h0⟩ := trodAll_one hA
  obtain ⟨p, hp⟩ := open_prob (hval 0 _ _ rfl rfl) h0
  obtain ⟨a0, l0, c0, a1, l1, c1, a2, l2, c2, rfl, h0, h1, h2⟩ := hp
  exact zoptimal_calls p a0 a1 a2 l0 c0 l1 c1 l2 c2 W h0 h1 h2

set_option maxRecDepth 100000 in
theorem zerooneOptimal_lifted (os : Os) (started : os.Started) (H : Type) (enc : TypeId × Value → H) :
    ReturnsInHanded {} Try.checked os 7 .any (Rows.zerooneOptimalSpec.pre6 enc Try.prog Try.f7 Rows.zerooneOptimalRow.domain false) (Rows.zerooneOptimalSpec.post enc Try.prog Try.f7 false true false false) := by
  refine returnsInHanded_of_change_sized (C := Try.checked) own started (by kernel_rfl) Try.func7
    (ChangeSpec.witness6 (enc := enc) (C := Try.checked) false ⟨#[], #[.agg #[.slice none 0 0, .slice none 0 0, .slice none 0 0]], []⟩ 8 (by kernel_rfl) (by kernel_rfl) (by kernel_rfl) (by kernel_rfl)) ?_
  intro W base args ds gs before hval hW _ hsz _
  exact law_post rfl (by kernel_rfl) (by kernel_rfl) (fun ds h => match ds, h with | [d0], _ => ⟨rfl, rfl, rfl⟩) hW (zerooneOptimal_walk W base args ds gs before hval hW hsz)

theorem zerooneOptimal_over : Rows.zerooneOptimalRow.holds Try.pinned (OpenSpec.ofChange Rows.zerooneOptimalSpec) :=
  OpenClaim.holds_of_wide 7 Try.f7 rfl rfl rfl rfl rfl rfl rfl ⟨rfl, rfl, rfl, rfl, rfl⟩ rfl rfl rfl rfl rfl (by kernel_rfl) Try.func7 (by kernel_rfl)
    (of_decide_eq_true (by kernel_rfl)) (by unfold Func.isWrapper; first | (rw [if_pos (by decide +kernel)]; kernel_rfl) | (rw [if_neg (by decide +kernel)]; exact ⟨rfl, rfl⟩))
    (fun os started H enc _ => zerooneOptimal_lifted os started H enc)

theorem zerooneOptimal_proved : Rows.ZerooneOptimalSaid := zerooneOptimal_over

end Go.Proofs.Ytkgikajfeihbbaa
