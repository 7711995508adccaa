/- The law ZerooneKeeps: fixing variables by single constraints does not change the solution. No condition. -/
import Derived.Test.YtkgikajfeihbbaaZsX
import Derived.Test.YtkgikajfeihbbaaZoO
namespace Go.Proofs.Ytkgikajfeihbbaa
set_option maxRecDepth 100000
open Go.ChangeShapes Go.WideShapes Go.ChangeAt Go.RowKit

set_option maxHeartbeats 8000000 in
theorem zkeeps_calls (p : ProbM) (a0 a1 a2 : Option Addr) (l0 c0 l1 c1 l2 c2 : Nat) (w : World) (h0 : Row .i64 w a0 l0 c0 p.val) (h1 : RowsIn w a1 l1 c1 p.rows) (h2 : Row .i64 w a2 l2 c2 p.fix) :
    Calls Try.prog 9 #[.agg #[.slice a0 l0 c0, .slice a1 l1 c1, .slice a2 l2 c2]] w fun e w' => e = .returned (.bool true) ∧ Below w.heap.size w w' := by
  have HP := Lib.hid (show ProbIn w (.agg #[.slice a0 l0 c0, .slice a1 l1 c1, .slice a2 l2 c2]) p from ⟨_, _, _, _, _, _, _, _, _, rfl, h0, h1, h2⟩)
  have hb0 : Below w.heap.size w (w.alloc (.cells #[.slice a0 l0 c0, .slice a1 l1 c1, .slice a2 l2 c2] 25)) := (Below.refl _ _).alloc (Nat.le_refl _) _
  have HB := Lib.hid (box3 w 25 (.slice a0 l0 c0) (.slice a1 l1 c1) (.slice a2 l2 c2))
  have HL := Lib.hid (And.intro h0.1 h2.1)
  have HL1 := Lib.hid h1.1
  have HA := Lib.hid (And.intro h0 h2)
  have HR1 := Lib.hid h1
  clear h0 h1 h2
  obtain ⟨x0, x1, x2⟩ := HB.out _ (Below.refl _ _)
  by_cases hl : 10 < l0
  · have hd2 : decide (10 < (l0 : Int)) = true := by simp; omega
    go_enter Try.func9, Try.ntmps9
    go_wp2_with fail
    go_ret
    exact ⟨rfl, hb0⟩
  have hd2 : decide (10 < (l0 : Int)) = false := by simp; omega
  have HN := Lib.hid (show validOf p = 0 → p.val.length ≤ 19 from fun _ => by rw [HL.out.1]; omega)
  by_cases ho : validOf p = 0
  · obtain rfl : l2 = l0 := by rw [← HL.out.1, ← HL.out.2]; exact (validM ho).fixn
    have hl1 : l1 ≤ 60 := by rw [← HL1.out]; exact (validM ho).m
    have HO := Lib.hid ho
    clear ho
    go_enter Try.func9, Try.ntmps9
    go_wp2_with fail
    generalize w.alloc (.cells #[.slice a0 l2 c0, .slice a1 l1 c1, .slice a2 l2 c2] 25) = w0 at *
    refine (solve_any _ p w0 (HP.out.below hb0) HN.out).mono ?_
    rintro e w2 ⟨vx, rfl, hO, hB2⟩
    obtain ⟨ax, cx, rfl, hX⟩ := sol_row hO
    have HX := Lib.hid hX
    clear x0 x1 x2 hO hX
    obtain ⟨x0, x1, x2⟩ := HB.out _ hB2
    have hbw2 := hb0.trans (hB2.mono hb0.size)
    go_wp2_with fail
    refine (tighten_any p a0 a1 a2 l2 c0 l1 c1 l2 c2 w2 (HA.out.1.below hbw2) (HR1.out.below hbw2) (HA.out.2.below hbw2) HO.out).mono ?_
    rintro e w3 ⟨o, vq, rfl, hT, hQ, hb⟩
    have hB3 := hB2.trans (hb.mono hB2.size)
    have HX3 := Lib.hid (HX.out.below hb)
    clear x0 x1 x2 hB2 hbw2 HX
    cases o with
    | none =>
      have hE := keeps_none HO.out hT
      obtain ⟨b0, m0, d0, b1, m1, d1, b2, m2, d2, rfl, -, -, -⟩ := hQ
      have hbx : Below w3.heap.size w3 (w3.alloc (.cells #[.slice b0 m0 d0, .slice b1 m1 d1, .slice b2 m2 d2] 25)) := (Below.refl _ _).alloc (Nat.le_refl _) _
      rw [hE, show resE none = 14 from rfl]
      have hB4 := hB3.trans (hbx.mono hB3.size)
      generalize solN p = sn at *
      generalize (solX p).length = sl at *
      go_wp2_with fail
      go_ret
      exact ⟨rfl, hb0.trans (hB4.mono hb0.size)⟩
    | some g =>
      have HK := Lib.hid (keeps_of HO.out hT)
      have HQ := Lib.hid hQ
      obtain ⟨b0, m0, d0, b1, m1, d1, b2, m2, d2, rfl, hq0, hq1, hq2⟩ := hQ
      obtain rfl : l2 = m0 := by rw [← hq0.1, ← HL.out.1]; rfl
      obtain rfl : l1 = m1 := by rw [← hq1.1, ← HL1.out]; rfl
      obtain rfl : l2 = m2 := by rw [← hq2.1, ← HL.out.2]; exact HK.out.len.symm
      have hbx : Below w3.heap.size w3 (w3.alloc (.cells #[.slice b0 l2 d0, .slice b1 l1 d1, .slice b2 l2 d2] 25)) := (Below.refl _ _).alloc (Nat.le_refl _) _
      have HB2 := Lib.hid (box3 w3 25 (.slice b0 l2 d0) (.slice b1 l1 d1) (.slice b2 l2 d2))
      have HN2 := Lib.hid (show validOf ⟨p.val, p.rows, g⟩ = 0 → p.val.length ≤ 19 from fun _ => by rw [HL.out.1]; omega)
      have HG3 := Lib.hid (show Row .i64 w3 b2 l2 d2 g from hq2)
      have HV3 := Lib.hid (show Row .i64 w3 b0 l2 d0 p.val from hq0)
      have HWf := Lib.hid (sol_wf p)
      have HEi := HK.out.either
      clear hT hq0 hq1 hq2
      rw [show resE (some g) = 0 from rfl]
      have hB4 := hB3.trans (hbx.mono hB3.size)
      obtain ⟨x0, x1, x2⟩ := HB.out _ hB4
      rcases HEi with hE | hE
      · have hsl : (solX p).length = l2 := by rw [(HK.out.sol hE).1]; exact HL.out.1
        rw [hE]
        rw [hsl] at HX3 ⊢
        generalize hsx : solX p = sx at *
        generalize hsn : solN p = sn at *
        have HE := Lib.hid hE
        have HSx := Lib.hid hsx
        have HSn := Lib.hid hsn
        have HSl := Lib.hid hsl
        clear hE hsx hsn hsl
        go_wp2_with fail
        have HX4 := Lib.hid (HX3.out.below hbx)
        have HG4 := Lib.hid (HG3.out.below hbx)
        have HV4 := Lib.hid (HV3.out.below hbx)
        have HQ4 := Lib.hid (HQ.out.below hbx)
        generalize hWW : (w3.alloc (.cells #[.slice b0 l2 d0, .slice b1 l1 d1, .slice b2 l2 d2] 25)) = w4 at *
        obtain ⟨y0, y1, y2⟩ := HB2.out _ (Below.refl _ _)
        clear hWW hbx HX3 HG3 HV3 HQ hb
        refine (ints_same p.val _ _ _ _ _ w4 HV4.out (HA.out.1.below (hb0.trans (hB4.mono hb0.size)))).mono ?_
        rintro e w5 ⟨rfl, hbq5⟩
        have hB5 := hB4.trans (hbq5.mono hB4.size)
        clear x0 x1 x2 y0 y1 y2 hB3 hB4 HV4
        obtain ⟨x0, x1, x2⟩ := HB.out _ hB5
        obtain ⟨y0, y1, y2⟩ := HB2.out _ hbq5
        go_wp2_with fail
        clear x0 x1 x2 y0 y1 y2
        go_loopw [8] (fun iv wr => ∃ i : Nat, i ≤ l2 ∧ iv = .int .i64 i ∧ Below w4.heap.size w4 wr ∧ Below w0.heap.size w0 wr) (fun iv _ => l2 - (intOf iv).toNat)
        case atStart => exact ⟨0, by omega, rfl, hbq5, hB5⟩
        case round =>
          clear hbq5 hB5
          obtain ⟨i, hi, rfl, hbq, hbk⟩ := hrel
          have hbw := hb0.trans (hbk.mono hb0.size)
          obtain ⟨x0, x1, x2⟩ := HB.out wr hbk
          obtain ⟨y0, y1, y2⟩ := HB2.out wr hbq
          by_cases hlt : i < l2
          · have HR := Lib.hid (And.intro (HA.out.2.below hbw) (HG4.out.below hbq))
            obtain ⟨bf, of0, rfl, -, hcf⟩ := HR.out.1.2.2.at hlt
            have ef : ∀ W : Ext wr.heap.size wr, W.1.cell? ⟨bf, of0 + i, none⟩ = some (.int .i64 (p.fix.getD i 0)) := fun W => hcf i hlt W.1 W.2
            obtain ⟨bg, og, rfl, -, hcg⟩ := HR.out.2.2.2.at hlt
            have eg : ∀ W : Ext wr.heap.size wr, W.1.cell? ⟨bg, og + i, none⟩ = some (.int .i64 (g.getD i 0)) := fun W => hcg i hlt W.1 W.2
            have ek : ∀ W : Ext wr.heap.size wr, W.1.cell? ⟨w.heap.size, 2, none⟩ = some (.slice (some ⟨bf, of0, none⟩) l2 c2) := fun W => (HB.out W.1 (hbk.trans (W.2.mono hbk.size))).2.2
            have eq : ∀ W : Ext wr.heap.size wr, W.1.cell? ⟨w3.heap.size, 2, none⟩ = some (.slice (some ⟨bg, og, none⟩) l2 d2) := fun W => (HB2.out W.1 (hbq.trans (W.2.mono hbq.size))).2.2
            have hk1 := HK.out.fix i (by rw [HL.out.2]; exact hlt)
            have hk2 := (HK.out.sol HE.out).2 i (by rw [HL.out.2]; exact hlt)
            obtain ⟨bx, ox, hxe, -, hcx⟩ := (HX4.out.below hbq).2.2.at hlt
            have ex : ∀ W : Ext wr.heap.size wr, W.1.cell? ⟨bx, ox + i, none⟩ = some (.int .i64 (sx.getD i 0)) := fun W => hcx i hlt W.1 W.2
            rw [HSx.out] at hk2
            subst hxe
            clear hcx
            generalize sx.getD i 0 = xi at *
            generalize p.fix.getD i 0 = fi at *
            generalize g.getD i 0 = gi at *
            clear hcf hcg HR
            have hdi : decide ((l2 : Int) ≤ (i : Int)) = false := by simp; omega
            have hdn : decide (l2 ≤ i) = false := by simp; omega
            by_cases hf1 : fi = -1
            · by_cases hg1 : gi = -1
              · have qd1 : (fi != -1) = false := by simp [hf1]
                have qd3 : (gi != -1) = false := by simp [hg1]
                clear hf1 hg1 hk1 hk2
                go_wp2_with fail
                refine wp_region_ext wr.heap.size wr (by kernel_rfl) (by kernel_rfl) (Below.refl _ _) ?_
                repeat (first | go_big_quiet_step (fail))
                refine wpQuiet_nil ?_
                intro W
                have hbW := W.2
                generalize W.1 = w9 at *
                go_wp2_with fail
                go_roundw
                case rel => exact ⟨i + 1, by omega, by go_num, hbq.trans (hbW.mono hbq.size), hbk.trans (hbW.mono hbk.size)⟩
                case measure => simp [intOf]; omega
              · have qd1 : (fi != -1) = false := by simp [hf1]
                have qd3 : (gi != -1) = true := by simp [hg1]
                have qd4 : (xi != gi) = false := by simp; omega
                clear hf1 hg1 hk1 hk2
                go_wp2_with fail
                refine wp_region_ext wr.heap.size wr (by kernel_rfl) (by kernel_rfl) (Below.refl _ _) ?_
                repeat (first | go_big_quiet_step (fail))
                refine wpQuiet_nil ?_
                intro W
                have hbW := W.2
                generalize W.1 = w9 at *
                go_wp2_with fail
                go_roundw
                case rel => exact ⟨i + 1, by omega, by go_num, hbq.trans (hbW.mono hbq.size), hbk.trans (hbW.mono hbk.size)⟩
                case measure => simp [intOf]; omega
            · have hg1 : ¬ gi = -1 := by omega
              have qd1 : (fi != -1) = true := by simp [hf1]
              have qd2 : (gi != fi) = false := by simp; omega
              have qd3 : (gi != -1) = true := by simp [hg1]
              have qd4 : (xi != gi) = false := by simp; omega
              clear hf1 hg1 hk1 hk2
              go_wp2_with fail
              refine wp_region_ext wr.heap.size wr (by kernel_rfl) (by kernel_rfl) (Below.refl _ _) ?_
              repeat (first | go_big_quiet_step (fail))
              refine wpQuiet_nil ?_
              intro W
              have hbW := W.2
              generalize W.1 = w9 at *
              go_wp2_with fail
              go_roundw
              case rel => exact ⟨i + 1, by omega, by go_num, hbq.trans (hbW.mono hbq.size), hbk.trans (hbW.mono hbk.size)⟩
              case measure => simp [intOf]; omega
          · have HQr := Lib.hid (HQ4.out.below hbq)
            go_wp2_with fail
            refine (solve_any _ ⟨p.val, p.rows, g⟩ wr HQr.out HN2.out).mono ?_
            rw [HK.out.x, HK.out.n, HK.out.e, HSx.out, HSn.out, HE.out]
            rintro e w6 ⟨vy, rfl, hO, hb⟩
            obtain ⟨ay, cy, rfl, hY⟩ := hO.row HWf.out
            rw [HSl.out] at hY
            rw [HSl.out]
            have HY := Lib.hid hY
            have hB6 := hbk.trans (hb.mono hbk.size)
            have HX6 := Lib.hid ((HX4.out.below hbq).below hb)
            clear x0 x1 x2 y0 y1 y2 hO hY
            obtain ⟨x0, x1, x2⟩ := HB.out _ hB6
            clear hb
            go_wp2_with fail
            refine (feasible_any _ p sx _ _ _ w6 (HP.out.below (hb0.trans (hB6.mono hb0.size))) HX6.out).mono ?_
            rw [show feasOf p sx = true by rw [← HSx.out]; exact HK.out.feas HE.out]
            rintro e w7 ⟨rfl, hb⟩
            have hB7 := hB6.trans (hb.mono hB6.size)
            have HX7 := Lib.hid (HX6.out.below hb)
            have HY7 := Lib.hid (HY.out.below hb)
            clear x0 x1 x2 hb
            go_wp2_with fail
            refine (ints_same sx _ _ _ _ _ _ HX7.out HY7.out).mono ?_
            rintro e w8 ⟨rfl, hb⟩
            have hB8 := hB7.trans (hb.mono hB7.size)
            go_wp2_with fail
            go_ret
            exact ⟨rfl, hb0.trans (hB8.mono hb0.size)⟩
      · have hE0 : solE p = 14 := hE
        rw [hE]
        generalize hsx : solX p = sx at *
        generalize hsn : solN p = sn at *
        generalize hsl : sx.length = sl at *
        have HE := Lib.hid hE
        have HSx := Lib.hid hsx
        have HSn := Lib.hid hsn
        have HSl := Lib.hid hsl
        clear hE hE0 hsx hsn hsl
        go_wp2_with fail
        have HX4 := Lib.hid (HX3.out.below hbx)
        have HG4 := Lib.hid (HG3.out.below hbx)
        have HV4 := Lib.hid (HV3.out.below hbx)
        have HQ4 := Lib.hid (HQ.out.below hbx)
        generalize hWW : (w3.alloc (.cells #[.slice b0 l2 d0, .slice b1 l1 d1, .slice b2 l2 d2] 25)) = w4 at *
        obtain ⟨y0, y1, y2⟩ := HB2.out _ (Below.refl _ _)
        clear hWW hbx HX3 HG3 HV3 HQ hb
        refine (ints_same p.val _ _ _ _ _ w4 HV4.out (HA.out.1.below (hb0.trans (hB4.mono hb0.size)))).mono ?_
        rintro e w5 ⟨rfl, hbq5⟩
        have hB5 := hB4.trans (hbq5.mono hB4.size)
        clear x0 x1 x2 y0 y1 y2 hB3 hB4 HV4
        obtain ⟨x0, x1, x2⟩ := HB.out _ hB5
        obtain ⟨y0, y1, y2⟩ := HB2.out _ hbq5
        go_wp2_with fail
        clear x0 x1 x2 y0 y1 y2
        go_loopw [8] (fun iv wr => ∃ i : Nat, i ≤ l2 ∧ iv = .int .i64 i ∧ Below w4.heap.size w4 wr ∧ Below w0.heap.size w0 wr) (fun iv _ => l2 - (intOf iv).toNat)
        case atStart => exact ⟨0, by omega, rfl, hbq5, hB5⟩
        case round =>
          clear hbq5 hB5
          obtain ⟨i, hi, rfl, hbq, hbk⟩ := hrel
          have hbw := hb0.trans (hbk.mono hb0.size)
          obtain ⟨x0, x1, x2⟩ := HB.out wr hbk
          obtain ⟨y0, y1, y2⟩ := HB2.out wr hbq
          by_cases hlt : i < l2
          · have HR := Lib.hid (And.intro (HA.out.2.below hbw) (HG4.out.below hbq))
            obtain ⟨bf, of0, rfl, -, hcf⟩ := HR.out.1.2.2.at hlt
            have ef : ∀ W : Ext wr.heap.size wr, W.1.cell? ⟨bf, of0 + i, none⟩ = some (.int .i64 (p.fix.getD i 0)) := fun W => hcf i hlt W.1 W.2
            obtain ⟨bg, og, rfl, -, hcg⟩ := HR.out.2.2.2.at hlt
            have eg : ∀ W : Ext wr.heap.size wr, W.1.cell? ⟨bg, og + i, none⟩ = some (.int .i64 (g.getD i 0)) := fun W => hcg i hlt W.1 W.2
            have ek : ∀ W : Ext wr.heap.size wr, W.1.cell? ⟨w.heap.size, 2, none⟩ = some (.slice (some ⟨bf, of0, none⟩) l2 c2) := fun W => (HB.out W.1 (hbk.trans (W.2.mono hbk.size))).2.2
            have eq : ∀ W : Ext wr.heap.size wr, W.1.cell? ⟨w3.heap.size, 2, none⟩ = some (.slice (some ⟨bg, og, none⟩) l2 d2) := fun W => (HB2.out W.1 (hbq.trans (W.2.mono hbq.size))).2.2
            have hk1 := HK.out.fix i (by rw [HL.out.2]; exact hlt)
            generalize p.fix.getD i 0 = fi at *
            generalize g.getD i 0 = gi at *
            clear hcf hcg HR
            have hdi : decide ((l2 : Int) ≤ (i : Int)) = false := by simp; omega
            have hdn : decide (l2 ≤ i) = false := by simp; omega
            by_cases hf1 : fi = -1
            · have qd1 : (fi != -1) = false := by simp [hf1]
              clear hf1 hk1
              go_wp2_with fail
              refine wp_region_ext wr.heap.size wr (by kernel_rfl) (by kernel_rfl) (Below.refl _ _) ?_
              repeat (first | go_big_quiet_step (fail))
              refine wpQuiet_nil ?_
              intro W
              have hbW := W.2
              generalize W.1 = w9 at *
              go_wp2_with fail
              go_roundw
              case rel => exact ⟨i + 1, by omega, by go_num, hbq.trans (hbW.mono hbq.size), hbk.trans (hbW.mono hbk.size)⟩
              case measure => simp [intOf]; omega
            · have qd1 : (fi != -1) = true := by simp [hf1]
              have qd2 : (gi != fi) = false := by simp; omega
              clear hf1 hk1
              go_wp2_with fail
              refine wp_region_ext wr.heap.size wr (by kernel_rfl) (by kernel_rfl) (Below.refl _ _) ?_
              repeat (first | go_big_quiet_step (fail))
              refine wpQuiet_nil ?_
              intro W
              have hbW := W.2
              generalize W.1 = w9 at *
              go_wp2_with fail
              go_roundw
              case rel => exact ⟨i + 1, by omega, by go_num, hbq.trans (hbW.mono hbq.size), hbk.trans (hbW.mono hbk.size)⟩
              case measure => simp [intOf]; omega
          · have HQr := Lib.hid (HQ4.out.below hbq)
            go_wp2_with fail
            refine (solve_any _ ⟨p.val, p.rows, g⟩ wr HQr.out HN2.out).mono ?_
            rw [HK.out.x, HK.out.n, HK.out.e, HSx.out, HSn.out, HE.out]
            rintro e w6 ⟨vy, rfl, hO, hb⟩
            obtain ⟨ay, cy, rfl, hY⟩ := hO.row HWf.out
            rw [HSl.out] at hY
            rw [HSl.out]
            have HY := Lib.hid hY
            have hB6 := hbk.trans (hb.mono hbk.size)
            have HX6 := Lib.hid ((HX4.out.below hbq).below hb)
            clear x0 x1 x2 y0 y1 y2 hO hY
            obtain ⟨x0, x1, x2⟩ := HB.out _ hB6
            clear hb
            go_wp2_with fail
            refine (ints_same sx _ _ _ _ _ _ HX6.out HY.out).mono ?_
            rintro e w8 ⟨rfl, hb⟩
            have hB8 := hB6.trans (hb.mono hB6.size)
            go_wp2_with fail
            go_ret
            exact ⟨rfl, hb0.trans (hB8.mono hb0.size)⟩
  · obtain ⟨-, -, e3⟩ := sol_bad ho
    have HT := Lib.hid (fun w' (h : Below w.heap.size w w') => tighten_no _ p w' (HP.out.below h) ho)
    have hz : (validOf p == 0) = false := by simpa using ho
    have hz2 : (validOf p != 0) = true := by simpa using ho
    have HE := Lib.hid e3
    clear ho e3
    go_enter Try.func9, Try.ntmps9
    go_wp2_with fail
    generalize w.alloc (.cells #[.slice a0 l0 c0, .slice a1 l1 c1, .slice a2 l2 c2] 25) = w0 at *
    refine (solve_any _ p w0 (HP.out.below hb0) HN.out).mono ?_
    rintro e w2 ⟨vx, rfl, hO, hB2⟩
    obtain ⟨ax, cx, rfl, -⟩ := sol_row hO
    rw [HE.out]
    generalize (solX p).length = sl at *
    generalize solN p = sn at *
    clear x0 x1 x2 hO HE HN
    obtain ⟨x0, x1, x2⟩ := HB.out _ hB2
    go_wp2_with fail
    refine (HT.out w2 (hb0.trans (hB2.mono hb0.size))).mono ?_
    rintro e w3 ⟨rfl, hb⟩
    have hB3 := hB2.trans (hb.mono hB2.size)
    have hbx : Below w3.heap.size w3 (w3.alloc (.cells #[.slice none 0 0, .slice none 0 0, .slice none 0 0] 25)) := (Below.refl _ _).alloc (Nat.le_refl _) _
    have hB4 := hB3.trans (hbx.mono hB3.size)
    clear x0 x1 x2 hb HT
    generalize validOf p = ev at *
    go_wp2_with fail
    go_ret
    exact ⟨rfl, hb0.trans (hB4.mono hb0.size)⟩


theorem zerooneKeeps_walk {H : Type} {enc : TypeId × Value → H} (W : World) (base : Nat) (args : Array Value) (ds gs : List (DataW H)) (before : List MemPlace)
    (hval : ∀ (j : Nat) t v, Try.f9.params[j]? = some t → args[j]? = some v → Value.okWide Try.prog W .any base t v)
    (hW : DataW.Whole enc Try.prog Try.f9.params.toList Rows.zerooneKeepsSpec.vars false W args.toList ds gs before)
    (_hsz : (DataW.weightsEach Try.prog (Try.f9.params.toList ++ Rows.zerooneKeepsSpec.plain.varTypes Try.prog) (ds ++ gs)).all (· ≤ reachBytes) = true) :
    Calls Try.prog 9 args W fun e w' => e = .returned (.bool true) ∧ Below W.heap.size W w' := by
  obtain ⟨p, q, hA, hV, -, -, -⟩ := hW
  obtain ⟨rfl, -⟩ := trodVars_none hV
  rw [Try.params9] at hA hval
  obtain ⟨v0, d0, rfl, rfl, h0⟩ := trodAll_one hA
  obtain ⟨p, hp⟩ := open_prob (hval 0 _ _ rfl rfl) h0
  obtain ⟨a0, l0, c0, a1, l1, c1, a2, l2, c2, rfl, h0, h1, h2⟩ := hp
  exact zkeeps_calls p a0 a1 a2 l0 c0 l1 c1 l2 c2 W h0 h1 h2

set_option maxRecDepth 100000 in
theorem zerooneKeeps_lifted (os : Os) (started : os.Started) (H : Type) (enc : TypeId × Value → H) :
    ReturnsInHanded {} Try.checked os 9 .any (Rows.zerooneKeepsSpec.pre6 enc Try.prog Try.f9 Rows.zerooneKeepsRow.domain false) (Rows.zerooneKeepsSpec.post enc Try.prog Try.f9 false true false false) := by
  refine returnsInHanded_of_change_sized (C := Try.checked) own started (by kernel_rfl) Try.func9
    (ChangeSpec.witness6 (enc := enc) (C := Try.checked) false ⟨#[], #[.agg #[.slice none 0 0, .slice none 0 0, .slice none 0 0]], []⟩ 8 (by kernel_rfl) (by kernel_rfl) (by kernel_rfl) (by kernel_rfl)) ?_
  intro W base args ds gs before hval hW _ hsz _
  exact law_post rfl (by kernel_rfl) (by kernel_rfl) (fun ds h => match ds, h with | [d0], _ => ⟨rfl, rfl, rfl⟩) hW (zerooneKeeps_walk W base args ds gs before hval hW hsz)

theorem zerooneKeeps_over : Rows.zerooneKeepsRow.holds Try.pinned (OpenSpec.ofChange Rows.zerooneKeepsSpec) :=
  OpenClaim.holds_of_wide 9 Try.f9 rfl rfl rfl rfl rfl rfl rfl ⟨rfl, rfl, rfl, rfl, rfl⟩ rfl rfl rfl rfl rfl (by kernel_rfl) Try.func9 (by kernel_rfl)
    (of_decide_eq_true (by kernel_rfl)) (by unfold Func.isWrapper; first | (rw [if_pos (by decide +kernel)]; kernel_rfl) | (rw [if_neg (by decide +kernel)]; exact ⟨rfl, rfl⟩))
    (fun os started H enc _ => zerooneKeeps_lifted os started H enc)

theorem zerooneKeeps_proved : Rows.ZerooneKeepsSaid := zerooneKeeps_over

end Go.Proofs.Ytkgikajfeihbbaa
