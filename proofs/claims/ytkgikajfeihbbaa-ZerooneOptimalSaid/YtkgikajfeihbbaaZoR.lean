/- 0-1 programs: what the reference's check returns. No condition beyond 'the program can be read'. -/
import Derived.Test.YtkgikajfeihbbaaZo
namespace Go.Proofs.Ytkgikajfeihbbaa
set_option maxRecDepth 100000
open Go.RowKit

theorem ref_within_any (n lim : Int) (hl : 0 ≤ lim) (hl' : lim ≤ 1000000000) (w : World) :
    Calls Try.prog 29 #[.int .i64 n, .int .i64 lim] w fun e w' => e = .returned (.bool (near n lim)) ∧ w = w' := by
  have hw : wrap64 (-lim) = -lim := by simp only [wrap64]; omega
  by_cases h1 : -lim ≤ n
  · by_cases h2 : n ≤ lim
    · have HF := Lib.hid (show near n lim = true by simp [near, h1, h2])
      go_enter Try.func29, Try.ntmps29
      go_wp2
      go_ret
      exact ⟨by rw [HF.out]; rfl, rfl⟩
    · have HF := Lib.hid (show near n lim = false by simp [near, h2])
      go_enter Try.func29, Try.ntmps29
      go_wp2
      go_ret
      exact ⟨by rw [HF.out]; rfl, rfl⟩
  · have HF := Lib.hid (show near n lim = false by simp [near, h1])
    go_enter Try.func29, Try.ntmps29
    go_wp2
    go_ret
    exact ⟨by rw [HF.out]; rfl, rfl⟩

theorem three_of (a b c : Bool) : (if a = true then (3 : Int) else if b = true then 3 else if c = true then 3 else 0) = if (a || b || c) = true then 3 else 0 := by
  cases a <;> cases b <;> cases c <;> rfl
theorem rows_len {n : Nat} {rs : List RowM} (h : rs.any (fun r => decide (r.coef.length ≠ n)) = false) (i : Nat) (hi : i < rs.length) : (rs.getD i default).coef.length = n := by
  rw [List.any_eq_false] at h
  have := h (rs.getD i default) (by simp [List.getD, hi])
  simpa using this

set_option maxHeartbeats 2000000 in
theorem ref_valid_any (v : Value) (p : ProbM) (w : World) (hp : ProbIn w v p) :
    Calls Try.prog 13 #[v] w fun e w' => e = .returned (.int .i64 (validOf p)) ∧ Below w.heap.size w w' := by
  obtain ⟨a0, l0, c0, a1, l1, c1, a2, l2, c2, rfl, h0, h1, h2⟩ := hp
  have HV := Lib.hid h0
  have HR := Lib.hid h1
  have HF := Lib.hid h2
  have e0 := Lib.hid h0.1
  have e1 := Lib.hid h1.1
  have e2 := Lib.hid h2.1
  clear h0 h1 h2
  have HB := Lib.hid (probBox HV.out HR.out HF.out)
  by_cases g1 : 24 < l0 ∨ 60 < l1
  · have HE := Lib.hid (show validOf p = 5 by unfold validOf; rw [e0.out, e1.out, if_pos g1])
    by_cases g0 : 24 < l0
    · have d0 : decide (24 < (l0 : Int)) = true := by simp; omega
      clear g1 g0
      go_enter Try.func13, Try.ntmps13
      go_wp2_with fail
      go_ret
      exact ⟨ret_int HE.out.symm, (HB.out _ rfl).1⟩
    · have d0 : decide (24 < (l0 : Int)) = false := by simp; omega
      have d1 : decide (60 < (l1 : Int)) = true := by simp; omega
      clear g1 g0
      go_enter Try.func13, Try.ntmps13
      go_wp2_with fail
      go_ret
      exact ⟨ret_int HE.out.symm, (HB.out _ rfl).1⟩
  have d0 : decide (24 < (l0 : Int)) = false := by simp; omega
  have d1 : decide (60 < (l1 : Int)) = false := by simp; omega
  by_cases g2 : l2 = l0
  rotate_left
  · have HE := Lib.hid (show validOf p = 1 by unfold validOf; rw [e0.out, e1.out, e2.out, if_neg g1, if_pos g2])
    have d2 : ((l2 : Int) == (l0 : Int)) = false := by simp; omega
    clear g2
    go_enter Try.func13, Try.ntmps13
    go_wp2_with fail
    go_ret
    exact ⟨ret_int HE.out.symm, (HB.out _ rfl).1⟩
  have HE1 := Lib.hid (show validOf p = if p.rows.any (fun r => decide (r.coef.length ≠ p.val.length)) then 1 else if (p.val.any (fun c => !near c 1000000) || p.rows.any rowFar || p.fix.any fixFar) = true then 3 else 0 by
    rw [← three_of]; unfold validOf; rw [e0.out, e1.out, e2.out, if_neg g1, if_neg (by simpa using g2)])
  subst g2
  clear g1
  have hl1 : l1 ≤ 60 := by simp at d1; omega
  have hl2 : l2 ≤ 24 := by simp at d0; omega
  go_enter Try.func13, Try.ntmps13
  go_wp2_with fail
  obtain ⟨hb0, hv0, hr0, hf0, hbox⟩ := HB.out _ rfl
  clear HB HV HR HF
  generalize w.alloc (.cells #[.slice a0 l2 c0, .slice a1 l1 c1, .slice a2 l2 c2] 25) = w0 at *
  have HV := Lib.hid hv0
  have HR := Lib.hid hr0
  have HF := Lib.hid hf0
  obtain ⟨x0, x1, x2⟩ := hbox w0 (Below.refl _ _)
  clear hv0 hr0 hf0 hbox
  go_loop [4] (fun i => ∃ (k : Nat), k ≤ l1 ∧ i = .int .i64 k ∧ Hid (p.rows.any (fun r => decide (r.coef.length ≠ p.val.length)) = (p.rows.drop k).any (fun r => decide (r.coef.length ≠ p.val.length)))) (fun i => l1 - (intOf i).toNat)
  case atStart => exact ⟨0, by omega, rfl, by simp [Hid]⟩
  case round =>
    obtain ⟨k, hk, rfl, HD⟩ := hrel
    by_cases hlt : k < l1
    · obtain ⟨b, off, rfl, _, ai, li, ci, hrow, hcc⟩ := HR.out.at hlt
      obtain ⟨y0, y1, y2⟩ := hcc _ (Below.refl _ _)
      have HS := Lib.hid (any_drop (fun r => decide (r.coef.length ≠ p.val.length)) p.rows k default (by rw [e1.out]; omega))
      have el := Lib.hid hrow.1
      clear hcc hrow
      generalize p.rows.getD k default = r at *
      by_cases hlen : li = l2
      · have d3 : ((li : Int) == (l2 : Int)) = true := by simp [hlen]
        go_wp2_with fail
        go_round
        case rel => exact ⟨k + 1, by omega, by go_num, by unfold Hid; rw [HD.out, HS.out, el.out, e0.out, hlen]; simp⟩
        case measure => simp [intOf]; omega
      · have d3 : ((li : Int) == (l2 : Int)) = false := by simp; omega
        have HE := Lib.hid (show validOf p = 1 by rw [HE1.out, HD.out, HS.out, el.out, e0.out]; simp [hlen])
        go_wp2_with fail
        go_ret
        exact ⟨ret_int HE.out.symm, hb0⟩
    have HNL := Lib.hid (show p.rows.any (fun r => decide (r.coef.length ≠ p.val.length)) = false by rw [HD.out, List.drop_of_length_le (by rw [e1.out]; omega)]; rfl)
    have HE2 := Lib.hid (show validOf p = if (p.val.any (fun c => !near c 1000000) || p.rows.any rowFar || p.fix.any fixFar) = true then 3 else 0 by
      rw [HE1.out, HNL.out]; rfl)
    clear HE1 HD
    go_wp2_with fail
    go_loop [5] (fun i => ∃ (j : Nat), j ≤ l2 ∧ i = .int .i64 j ∧ Hid (p.val.any (fun c => !near c 1000000) = (p.val.drop j).any (fun c => !near c 1000000) ∧ p.fix.any fixFar = (p.fix.drop j).any fixFar)) (fun i => l2 - (intOf i).toNat)
    case atStart => exact ⟨0, by omega, rfl, by simp [Hid]⟩
    case round =>
      obtain ⟨j, hj, rfl, HD⟩ := hrel
      by_cases hjl : j < l2
      · obtain ⟨b, off, rfl, _, hcc⟩ := HV.out.2.2.at hjl
        have y0 := hcc j hjl _ (Below.refl _ _)
        obtain ⟨b', off', rfl, _, hcc'⟩ := HF.out.2.2.at hjl
        have y1 := hcc' j hjl _ (Below.refl _ _)
        have HS := Lib.hid (any_drop (fun c => !near c 1000000) p.val j 0 (by rw [e0.out]; omega))
        have HT := Lib.hid (any_drop fixFar p.fix j 0 (by rw [e2.out]; omega))
        clear hcc hcc'
        generalize p.val.getD j 0 = x at *
        generalize p.fix.getD j 0 = y at *
        go_wp2_with fail
        refine (ref_within_any x 1000000 (by omega) (by omega) _).mono ?_
        rintro e w1 ⟨rfl, rfl⟩
        cases hq1 : near x 1000000 with
        | false =>
          have HE := Lib.hid (show validOf p = 3 by rw [HE2.out, HD.out.1, HS.out, hq1]; rfl)
          go_wp2_with fail
          go_ret
          exact ⟨ret_int HE.out.symm, hb0⟩
        | true =>
        go_wp2_with fail
        refine (ref_within_any y 1 (by omega) (by omega) _).mono ?_
        rintro e w1 ⟨rfl, rfl⟩
        cases hq2 : near y 1 with
        | false =>
          have HE := Lib.hid (show validOf p = 3 by rw [HE2.out, HD.out.2, HT.out, fixFar, hq2]; simp)
          go_wp2_with fail
          go_ret
          exact ⟨ret_int HE.out.symm, hb0⟩
        | true =>
        go_wp2_with fail
        go_round
        case rel => exact ⟨j + 1, by omega, by go_num, by unfold Hid; rw [HD.out.1, HD.out.2, HS.out, HT.out, fixFar, hq1, hq2]; simp⟩
        case measure => simp [intOf]; omega
      have HE3 := Lib.hid (show validOf p = if p.rows.any rowFar = true then 3 else 0 by
        rw [HE2.out, HD.out.1, HD.out.2, List.drop_of_length_le (by rw [e0.out]; omega), List.drop_of_length_le (by rw [e2.out]; omega)]; simp)
      clear HE2 HD
      go_wp2_with fail
      go_loop [6] (fun i => ∃ (m : Nat), m ≤ l1 ∧ i = .int .i64 m ∧ Hid (p.rows.any rowFar = (p.rows.drop m).any rowFar)) (fun i => l1 - (intOf i).toNat)
      case atStart => exact ⟨0, by omega, rfl, by simp [Hid]⟩
      case round =>
        obtain ⟨m, hm, rfl, HD⟩ := hrel
        by_cases hml : m < l1
        · obtain ⟨b, off, rfl, _, ai, li, ci, hrow, hcc⟩ := HR.out.at hml
          obtain ⟨y0, y1, y2⟩ := hcc _ (Below.refl _ _)
          have HS := Lib.hid (any_drop rowFar p.rows m default (by rw [e1.out]; omega))
          have HRow := Lib.hid hrow
          have el := Lib.hid hrow.1
          have hli : li = l2 := by rw [← el.out, rows_len HNL.out m (by rw [e1.out]; omega), e0.out]
          subst hli
          clear hcc hrow
          generalize p.rows.getD m default = r at *
          go_wp2_with fail
          go_loop [7] (fun i => ∃ (n : Nat), n ≤ li ∧ i = .int .i64 n ∧ Hid (r.coef.any (fun c => !near c 1000000) = (r.coef.drop n).any (fun c => !near c 1000000))) (fun i => li - (intOf i).toNat)
          case atStart => exact ⟨0, by omega, rfl, by simp [Hid]⟩
          case round =>
            obtain ⟨n, hn, rfl, HDn⟩ := hrel
            by_cases hnl : n < li
            · obtain ⟨b', off', rfl, _, hcc⟩ := HRow.out.2.2.at hnl
              have z0 := hcc n hnl _ (Below.refl _ _)
              have HSn := Lib.hid (any_drop (fun c => !near c 1000000) r.coef n 0 (by rw [el.out]; omega))
              clear hcc
              generalize r.coef.getD n 0 = x at *
              go_wp2_with fail
              refine (ref_within_any x 1000000 (by omega) (by omega) _).mono ?_
              rintro e w1 ⟨rfl, rfl⟩
              cases hq1 : near x 1000000 with
              | false =>
                have HE := Lib.hid (show validOf p = 3 by rw [HE3.out, HD.out, HS.out, rowFar, HDn.out, HSn.out, hq1]; simp)
                go_wp2_with fail
                go_ret
                exact ⟨ret_int HE.out.symm, hb0⟩
              | true =>
              go_wp2_with fail
              go_round
              case rel => exact ⟨n + 1, by omega, by go_num, by unfold Hid; rw [HDn.out, HSn.out, hq1]; simp⟩
              case measure => simp [intOf]; omega
            have HA := Lib.hid (show r.coef.any (fun c => !near c 1000000) = false by rw [HDn.out, List.drop_of_length_le (by rw [el.out]; omega)]; rfl)
            clear HDn
            go_wp2_with fail
            refine (ref_within_any r.mn 24000000 (by omega) (by omega) _).mono ?_
            rintro e w1 ⟨rfl, rfl⟩
            cases hq1 : near r.mn 24000000 with
            | false =>
              have HE := Lib.hid (show validOf p = 3 by rw [HE3.out, HD.out, HS.out, rowFar, hq1]; simp)
              go_wp2_with fail
              go_ret
              exact ⟨ret_int HE.out.symm, hb0⟩
            | true =>
            go_wp2_with fail
            refine (ref_within_any r.mx 24000000 (by omega) (by omega) _).mono ?_
            rintro e w1 ⟨rfl, rfl⟩
            cases hq2 : near r.mx 24000000 with
            | false =>
              have HE := Lib.hid (show validOf p = 3 by rw [HE3.out, HD.out, HS.out, rowFar, hq2]; simp)
              go_wp2_with fail
              go_ret
              exact ⟨ret_int HE.out.symm, hb0⟩
            | true =>
            have HN := Lib.hid (show rowFar r = false by unfold rowFar; rw [HA.out, hq1, hq2]; rfl)
            go_wp2_with fail
            go_round
            case rel => exact ⟨m + 1, by omega, by go_num, by unfold Hid; rw [HD.out, HS.out, HN.out]; simp⟩
            case measure => simp [intOf]; omega
        have HE := Lib.hid (show validOf p = 0 by rw [HE3.out, HD.out, List.drop_of_length_le (by rw [e1.out]; omega)]; rfl)
        go_wp2_with fail
        go_ret
        exact ⟨ret_int HE.out.symm, hb0⟩

end Go.Proofs.Ytkgikajfeihbbaa
