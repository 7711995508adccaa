/- ScalingGrades: a higher score never gets a lower band, a cut score lies in its own band, bands are from 0 to the number of cut scores: the law returns true for every slice of cut scores and all scores. No condition. -/
import Derived.Test.YtfedalipoknilaaFrame
import Derived.Test.YtfedalipoknilaaScalB
namespace Go.Proofs.Ytfedalipoknilaa
open Go.ChangeShapes Go.WideShapes Go.ChangeAt Go.RowKit

theorem count_mono (xs : List Int) (s t : Int) (h : s ≤ t) : count xs s ≤ count xs t := by
  induction xs with
  | nil => simp [count]
  | cons x xs ih =>
    simp only [count] at *
    by_cases h1 : x ≤ s
    · have h2 : x ≤ t := by omega
      simp [h1, h2]; exact ih
    · by_cases h2 : x ≤ t
      · simp [h1, h2]; omega
      · simp [h1, h2]; exact ih
theorem rising_lt : ∀ (xs : List Int), rising xs = true → ∀ k, k + 1 < xs.length → xs.getD k 0 < xs.getD (k + 1) 0
  | [], _, k, h => by simp at h
  | [x], _, k, h => by simp at h
  | x :: y :: r, hr, k, h => by
    simp only [rising, Bool.and_eq_true, decide_eq_true_eq] at hr
    cases k with
    | zero => simpa using hr.1
    | succ k => have := rising_lt (y :: r) hr.2 k (by simpa using h); simpa using this
theorem rising_all : ∀ (xs : List Int) (x : Int), rising (x :: xs) = true → ∀ y ∈ xs, x < y
  | [], _, _, _, h => by simp at h
  | z :: r, x, hr, y, hy => by
    simp only [rising, Bool.and_eq_true, decide_eq_true_eq] at hr
    rcases List.mem_cons.1 hy with rfl | hy
    · exact hr.1
    · have := rising_all r z hr.2 y hy; omega
theorem count_none (xs : List Int) (s : Int) (h : ∀ y ∈ xs, s < y) : count xs s = 0 := by
  simp only [count, List.length_eq_zero_iff, List.filter_eq_nil_iff, decide_eq_true_eq]
  intro a ha; have := h a ha; omega
theorem count_own : ∀ (xs : List Int), rising xs = true → ∀ k, k < xs.length → count xs (xs.getD k 0) = k + 1
  | [], _, k, h => by simp at h
  | x :: r, hr, k, h => by
    have hr' : rising r = true := by
      cases r with
      | nil => rfl
      | cons y r => simp only [rising, Bool.and_eq_true] at hr; exact hr.2
    have hall := rising_all r x hr
    cases k with
    | zero =>
      have := count_none r x hall
      simp only [count] at *
      simp [this]
    | succ k =>
      have hk : k < r.length := by simpa using h
      have ih := count_own r hr' k hk
      have hx : x ≤ r.getD k 0 := by
        have : r.getD k 0 ∈ r := by simp [List.getD, hk]
        have := hall _ this; omega
      rw [List.getD_cons_succ]
      generalize r.getD k 0 = y at *
      simp only [count] at *
      simp [hx, ih]

set_option maxHeartbeats 1000000 in
set_option maxRecDepth 100000 in
theorem grades_calls (zs : List Int) (a : Option Addr) (len cap : Nat) (s t : Int) (w : World) (h : Row .i64 w a len cap zs) :
    Calls Try.prog 4 #[.slice a len cap, .int .i64 s, .int .i64 t] w fun e w' => e = .returned (.bool true) ∧ Below w.heap.size w w' := by
  have hm : len ≤ 9223372036854775807 := by have h1 := h.2.2.1; have h2 := h.2.2.2.1; unfold maxLen at h2; omega
  have HL := Lib.hid h.1
  have H := Lib.hid h; clear h
  by_cases h60 : 60 < len
  · have HF := Lib.hid (fun x => show bandOf zs x = (0, 5) by simp [bandOf, HL.out, h60])
    go_enter Try.func4, Try.ntmps4
    go_wp2_with fail
    refine (band_any zs a len cap s _ H.out).mono ?_
    rintro e w1 ⟨rfl, hb1⟩
    have H1 := Lib.hid (H.out.below hb1)
    rw [HF.out s]
    go_wp2_with fail
    refine (band_any zs a len cap t _ H1.out).mono ?_
    rintro e w2 ⟨rfl, hb2⟩
    rw [HF.out t]
    go_wp2
    go_ret
    exact ⟨by simp; omega, hb1.trans (hb2.mono hb1.size)⟩
  by_cases hr : rising zs = true
  rotate_left
  · have HF := Lib.hid (fun x => show bandOf zs x = (0, 23) by simp [bandOf, HL.out, h60, hr])
    clear hr
    go_enter Try.func4, Try.ntmps4
    go_wp2_with fail
    refine (band_any zs a len cap s _ H.out).mono ?_
    rintro e w1 ⟨rfl, hb1⟩
    have H1 := Lib.hid (H.out.below hb1)
    rw [HF.out s]
    go_wp2_with fail
    refine (band_any zs a len cap t _ H1.out).mono ?_
    rintro e w2 ⟨rfl, hb2⟩
    rw [HF.out t]
    go_wp2
    go_ret
    exact ⟨by simp; omega, hb1.trans (hb2.mono hb1.size)⟩
  have HF := Lib.hid (fun x => show bandOf zs x = (((count zs x : Nat) : Int), 0) by simp [bandOf, HL.out, h60, hr])
  have HR := Lib.hid hr; clear hr
  have hcs := count_le zs s
  have hct := count_le zs t
  have hcm := count_mono zs s t
  rw [HL.out] at hcs hct
  go_enter Try.func4, Try.ntmps4
  go_wp2_with fail
  refine (band_any zs a len cap s _ H.out).mono ?_
  rintro e w1 ⟨rfl, hb1⟩
  have H1 := Lib.hid (H.out.below hb1)
  rw [HF.out s]
  go_wp2_with fail
  refine (band_any zs a len cap t _ H1.out).mono ?_
  rintro e w2 ⟨rfl, hb2⟩
  have hb : Below w.heap.size w w2 := hb1.trans (hb2.mono hb1.size)
  have H2 := Lib.hid (H1.out.below hb2)
  rw [HF.out t]
  generalize count zs s = c at *
  generalize count zs t = d at *
  have d1 : decide (len < c) = false := by simp; omega
  have d2 : decide (len < d) = false := by simp; omega
  by_cases hst : s ≤ t
  all_goals
    try (have d3 : decide (d < c) = false := by simp; exact hcm hst)
    clear hcm hb1 hb2 H1
    go_wp2
    go_loopw [11] (fun i wr => ∃ k : Nat, k ≤ len ∧ i = .int .i64 k ∧ Below w2.heap.size w2 wr) (fun i _ => len - (intOf i).toNat)
    case atStart => exact ⟨0, by omega, rfl, Below.refl _ _⟩
    case round =>
      obtain ⟨k, hk, rfl, hbr⟩ := hrel
      by_cases hlt : k < len
      · obtain ⟨b, off, rfl, hbs, hcc⟩ := H2.out.2.2.at hlt
        have c1 := hcc k hlt wr hbr
        have HO := Lib.hid (count_own zs HR.out k (by rw [HL.out]; omega))
        have HB := Lib.hid (fun w' => band_any zs (some ⟨b, off, none⟩) len cap (zs.getD k 0) w')
        have HF' := Lib.hid (show bandOf zs (zs.getD k 0) = ((k : Int) + 1, 0) by rw [HF.out, HO.out]; simp)
        by_cases hk0 : 0 < k
        · obtain ⟨j, rfl⟩ : ∃ j, k = j + 1 := ⟨k - 1, by omega⟩
          have HC2 := Lib.hid (hcc j (by omega))
          have HC1 := Lib.hid (hcc (j + 1) (by omega))
          have hlt' := rising_lt zs HR.out j (by rw [HL.out]; omega)
          clear hcc
          generalize zs.getD (j + 1) 0 = x at *
          generalize zs.getD j 0 = y at *
          go_wp2_with fail
          refine (HB.out _ (H2.out.below hbr)).mono ?_
          rintro e w3 ⟨rfl, hb3⟩
          have hb4 : Below w2.heap.size w2 w3 := hbr.trans (hb3.mono hbr.size)
          have c3 := HC2.out w3 hb4
          have c4 := HC1.out w3 hb4
          rw [HF'.out]
          clear c1
          go_wp2
          go_quiet (fail)
          go_wp2
          go_roundw
          case rel => exact ⟨j + 1 + 1, by omega, by go_num, below_drewN hb4 _⟩
          case measure => simp [intOf]; omega
        · have hd : decide (0 < (k : Int)) = false := by simpa using hk0
          clear hcc
          generalize zs.getD k 0 = x at *
          go_wp2_with fail
          refine (HB.out _ (H2.out.below hbr)).mono ?_
          rintro e w3 ⟨rfl, hb3⟩
          have hb4 : Below w2.heap.size w2 w3 := hbr.trans (hb3.mono hbr.size)
          rw [HF'.out]
          clear c1
          go_wp2
          go_quiet (fail)
          go_wp2
          go_roundw
          case rel => exact ⟨k + 1, by omega, by go_num, below_drewN hb4 _⟩
          case measure => simp [intOf]; omega
      · go_wp2
        go_ret
        exact ⟨rfl, hb.trans (hbr.mono hb.size)⟩

theorem scalingGrades_walk {H : Type} {enc : TypeId × Value → H} (W : World) (base : Nat) (args : Array Value) (ds gs : List (DataW H)) (before : List MemPlace)
    (hval : ∀ (j : Nat) t v, Try.f4.params[j]? = some t → args[j]? = some v → Value.okWide Try.prog W .any base t v)
    (hW : DataW.Whole enc Try.prog Try.f4.params.toList Rows.scalingGradesSpec.vars false W args.toList ds gs before)
    (_hsz : (DataW.weightsEach Try.prog (Try.f4.params.toList ++ Rows.scalingGradesSpec.plain.varTypes Try.prog) (ds ++ gs)).all (· ≤ reachBytes) = true) :
    Calls Try.prog 4 args W fun e w' => e = .returned (.bool true) ∧ Below W.heap.size W w' := by
  obtain ⟨p, q, hA, hV, -, -, -⟩ := hW
  obtain ⟨rfl, -⟩ := trodVars_none hV
  rw [Try.params4] at hA hval
  obtain ⟨v0, v1, v2, d0, d1, d2, p0, p1, p2, rfl, rfl, rfl, h0, h1, h2⟩ := trodAll_three hA
  obtain ⟨a, len, cap, xs, rfl, hr, -⟩ := open_row Try.underlying22 Try.underlying3 (by kernel_rfl) (hval 0 _ _ rfl rfl) h0
  obtain ⟨s, rfl, -, -⟩ := open_num Try.underlying3 (hval 1 _ _ rfl rfl) h1
  obtain ⟨t, rfl, -, -⟩ := open_num Try.underlying3 (hval 2 _ _ rfl rfl) h2
  exact grades_calls xs a len cap s t W hr

set_option maxRecDepth 100000 in
theorem scalingGrades_lifted (os : Os) (started : os.Started) (H : Type) (enc : TypeId × Value → H) :
    ReturnsInHanded {} Try.checked os 4 .any (Rows.scalingGradesSpec.pre6 enc Try.prog Try.f4 Rows.scalingGradesRow.domain false) (Rows.scalingGradesSpec.post enc Try.prog Try.f4 false true false false) := by
  refine returnsInHanded_of_change_sized (C := Try.checked) own started (by kernel_rfl) Try.func4
    (ChangeSpec.witness6 (enc := enc) (C := Try.checked) false ⟨#[], #[.slice none 0 0, .int .i64 0, .int .i64 0], []⟩ 8 (by kernel_rfl) (by kernel_rfl) (by kernel_rfl) (by kernel_rfl)) ?_
  intro W base args ds gs before hval hW _ hsz _
  exact law_post rfl (by kernel_rfl) (by kernel_rfl) (fun ds h => match ds, h with | [d0, d1, d2], _ => ⟨rfl, rfl, rfl⟩) hW (scalingGrades_walk W base args ds gs before hval hW hsz)

theorem scalingGrades_over : Rows.scalingGradesRow.holds Try.pinned (OpenSpec.ofChange Rows.scalingGradesSpec) :=
  OpenClaim.holds_of_wide 4 Try.f4 rfl rfl rfl rfl rfl rfl rfl ⟨rfl, rfl, rfl, rfl, rfl⟩ rfl rfl rfl rfl rfl (by kernel_rfl) Try.func4 (by kernel_rfl)
    (of_decide_eq_true (by kernel_rfl)) (by unfold Func.isWrapper; first | (rw [if_pos (by decide +kernel)]; kernel_rfl) | (rw [if_neg (by decide +kernel)]; exact ⟨rfl, rfl⟩))
    (fun os started H enc _ => scalingGrades_lifted os started H enc)

theorem scalingGrades_proved : Rows.ScalingGradesSaid := scalingGrades_over

end Go.Proofs.Ytfedalipoknilaa
