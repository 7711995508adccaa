/- The law ZerooneTightens: the program with more variables fixed, or the error, is that of the reference. No condition. -/
import Derived.Test.YtkgikajfeihbbaaTgF
import Derived.Test.YtkgikajfeihbbaaZoO
namespace Go.Proofs.Ytkgikajfeihbbaa
set_option maxRecDepth 100000
open Go.ChangeShapes Go.WideShapes Go.ChangeAt Go.RowKit

set_option maxHeartbeats 2000000 in
theorem tighten_no (v : Value) (p : ProbM) (w : World) (hp : ProbIn w v p) (ho : validOf p ≠ 0) :
    Calls Try.prog 18 #[v] w fun e w' => e = .returned (.tuple #[.agg #[.slice none 0 0, .slice none 0 0, .slice none 0 0], .int .i64 (validOf p)]) ∧ Below w.heap.size w w' := by
  have HP := Lib.hid hp
  have hz : (validOf p == 0) = false := by simpa using ho
  obtain ⟨a0, l0, c0, a1, l1, c1, a2, l2, c2, rfl, -, -, -⟩ := hp
  have hb0 : Below w.heap.size w ((w.alloc (.cells #[.slice a0 l0 c0, .slice a1 l1 c1, .slice a2 l2 c2] 25)).alloc (.cells #[.slice none 0 0, .slice none 0 0, .slice none 0 0] 25)) := ((Below.refl _ _).alloc (Nat.le_refl _) _).alloc (by simp) _
  clear ho
  go_enter Try.func18, Try.ntmps18
  go_wp2_with fail
  have r0 : ((w.alloc (.cells #[.slice a0 l0 c0, .slice a1 l1 c1, .slice a2 l2 c2] 25)).alloc (.cells #[.slice none 0 0, .slice none 0 0, .slice none 0 0] 25)).cell? ⟨w.heap.size + 1, 0, none⟩ = some (.slice none 0 0) := by go_simp
  have r1 : ((w.alloc (.cells #[.slice a0 l0 c0, .slice a1 l1 c1, .slice a2 l2 c2] 25)).alloc (.cells #[.slice none 0 0, .slice none 0 0, .slice none 0 0] 25)).cell? ⟨w.heap.size + 1, 1, none⟩ = some (.slice none 0 0) := by go_simp
  have r2 : ((w.alloc (.cells #[.slice a0 l0 c0, .slice a1 l1 c1, .slice a2 l2 c2] 25)).alloc (.cells #[.slice none 0 0, .slice none 0 0, .slice none 0 0] 25)).cell? ⟨w.heap.size + 1, 2, none⟩ = some (.slice none 0 0) := by go_simp
  have f0 : ((w.alloc (.cells #[.slice a0 l0 c0, .slice a1 l1 c1, .slice a2 l2 c2] 25)).alloc (.cells #[.slice none 0 0, .slice none 0 0, .slice none 0 0] 25)).frozen? ⟨w.heap.size + 1, 0, none⟩ = false := by go_simp
  have f1 : ((w.alloc (.cells #[.slice a0 l0 c0, .slice a1 l1 c1, .slice a2 l2 c2] 25)).alloc (.cells #[.slice none 0 0, .slice none 0 0, .slice none 0 0] 25)).frozen? ⟨w.heap.size + 1, 1, none⟩ = false := by go_simp
  have f2 : ((w.alloc (.cells #[.slice a0 l0 c0, .slice a1 l1 c1, .slice a2 l2 c2] 25)).alloc (.cells #[.slice none 0 0, .slice none 0 0, .slice none 0 0] 25)).frozen? ⟨w.heap.size + 1, 2, none⟩ = false := by go_simp
  have lt : w.heap.size + 1 < ((w.alloc (.cells #[.slice a0 l0 c0, .slice a1 l1 c1, .slice a2 l2 c2] 25)).alloc (.cells #[.slice none 0 0, .slice none 0 0, .slice none 0 0] 25)).heap.size := by simp
  generalize (w.alloc (.cells #[.slice a0 l0 c0, .slice a1 l1 c1, .slice a2 l2 c2] 25)).alloc (.cells #[.slice none 0 0, .slice none 0 0, .slice none 0 0] 25) = w0 at *
  refine (valid_any _ p _ (HP.out.below hb0)).mono ?_
  rintro e w1 ⟨rfl, hb1⟩
  have hb01 := hb0.trans (hb1.mono hb0.size)
  replace r0 := bc hb1 lt r0
  replace r1 := bc hb1 lt r1
  replace r2 := bc hb1 lt r2
  replace f0 := bf hb1 lt f0
  replace f1 := bf hb1 lt f1
  replace f2 := bf hb1 lt f2
  replace lt := bl hb1 lt
  generalize hev : validOf p = ev at *
  have HEv := Lib.hid hev
  clear hev hb1
  go_wp2_with fail
  exact bodyPost_ret (v := .tuple #[.agg #[.slice none 0 0, .slice none 0 0, .slice none 0 0], .int .i64 ev]) (by simp [results, Try.results18, go_sem, r0, r1, r2]) rfl ⟨by first | rfl | rw [HEv.out], ((hb01.setCell (p := ⟨w.heap.size + 1, 0, none⟩) (by simp) _).setCell (p := ⟨w.heap.size + 1, 1, none⟩) (by simp) _).setCell (p := ⟨w.heap.size + 1, 2, none⟩) (by simp) _⟩

set_option maxHeartbeats 2000000 in
theorem rtighten_no (v : Value) (p : ProbM) (w : World) (hp : ProbIn w v p) (ho : validOf p ≠ 0) :
    Calls Try.prog 19 #[v] w fun e w' => e = .returned (.tuple #[.agg #[.slice none 0 0, .slice none 0 0, .slice none 0 0], .int .i64 (validOf p)]) ∧ Below w.heap.size w w' := by
  have HP := Lib.hid hp
  have hz : (validOf p == 0) = false := by simpa using ho
  obtain ⟨a0, l0, c0, a1, l1, c1, a2, l2, c2, rfl, -, -, -⟩ := hp
  have hb0 : Below w.heap.size w ((w.alloc (.cells #[.slice a0 l0 c0, .slice a1 l1 c1, .slice a2 l2 c2] 25)).alloc (.cells #[.slice none 0 0, .slice none 0 0, .slice none 0 0] 25)) := ((Below.refl _ _).alloc (Nat.le_refl _) _).alloc (by simp) _
  clear ho
  go_enter Try.func19, Try.ntmps19
  go_wp2_with fail
  have r0 : ((w.alloc (.cells #[.slice a0 l0 c0, .slice a1 l1 c1, .slice a2 l2 c2] 25)).alloc (.cells #[.slice none 0 0, .slice none 0 0, .slice none 0 0] 25)).cell? ⟨w.heap.size + 1, 0, none⟩ = some (.slice none 0 0) := by go_simp
  have r1 : ((w.alloc (.cells #[.slice a0 l0 c0, .slice a1 l1 c1, .slice a2 l2 c2] 25)).alloc (.cells #[.slice none 0 0, .slice none 0 0, .slice none 0 0] 25)).cell? ⟨w.heap.size + 1, 1, none⟩ = some (.slice none 0 0) := by go_simp
  have r2 : ((w.alloc (.cells #[.slice a0 l0 c0, .slice a1 l1 c1, .slice a2 l2 c2] 25)).alloc (.cells #[.slice none 0 0, .slice none 0 0, .slice none 0 0] 25)).cell? ⟨w.heap.size + 1, 2, none⟩ = some (.slice none 0 0) := by go_simp
  have f0 : ((w.alloc (.cells #[.slice a0 l0 c0, .slice a1 l1 c1, .slice a2 l2 c2] 25)).alloc (.cells #[.slice none 0 0, .slice none 0 0, .slice none 0 0] 25)).frozen? ⟨w.heap.size + 1, 0, none⟩ = false := by go_simp
  have f1 : ((w.alloc (.cells #[.slice a0 l0 c0, .slice a1 l1 c1, .slice a2 l2 c2] 25)).alloc (.cells #[.slice none 0 0, .slice none 0 0, .slice none 0 0] 25)).frozen? ⟨w.heap.size + 1, 1, none⟩ = false := by go_simp
  have f2 : ((w.alloc (.cells #[.slice a0 l0 c0, .slice a1 l1 c1, .slice a2 l2 c2] 25)).alloc (.cells #[.slice none 0 0, .slice none 0 0, .slice none 0 0] 25)).frozen? ⟨w.heap.size + 1, 2, none⟩ = false := by go_simp
  have lt : w.heap.size + 1 < ((w.alloc (.cells #[.slice a0 l0 c0, .slice a1 l1 c1, .slice a2 l2 c2] 25)).alloc (.cells #[.slice none 0 0, .slice none 0 0, .slice none 0 0] 25)).heap.size := by simp
  generalize (w.alloc (.cells #[.slice a0 l0 c0, .slice a1 l1 c1, .slice a2 l2 c2] 25)).alloc (.cells #[.slice none 0 0, .slice none 0 0, .slice none 0 0] 25) = w0 at *
  refine (ref_valid_any _ p _ (HP.out.below hb0)).mono ?_
  rintro e w1 ⟨rfl, hb1⟩
  have hb01 := hb0.trans (hb1.mono hb0.size)
  replace r0 := bc hb1 lt r0
  replace r1 := bc hb1 lt r1
  replace r2 := bc hb1 lt r2
  replace f0 := bf hb1 lt f0
  replace f1 := bf hb1 lt f1
  replace f2 := bf hb1 lt f2
  replace lt := bl hb1 lt
  generalize hev : validOf p = ev at *
  have HEv := Lib.hid hev
  clear hev hb1
  go_wp2_with fail
  exact bodyPost_ret (v := .tuple #[.agg #[.slice none 0 0, .slice none 0 0, .slice none 0 0], .int .i64 ev]) (by simp [results, Try.results19, go_sem, r0, r1, r2]) rfl ⟨by first | rfl | rw [HEv.out], ((hb01.setCell (p := ⟨w.heap.size + 1, 0, none⟩) (by simp) _).setCell (p := ⟨w.heap.size + 1, 1, none⟩) (by simp) _).setCell (p := ⟨w.heap.size + 1, 2, none⟩) (by simp) _⟩

set_option maxHeartbeats 1000000 in
theorem ints_same (xs : List Int) (a a' : Option Addr) (l c c' : Nat) (w : World) (h : Row .i64 w a l c xs) (h' : Row .i64 w a' l c' xs) :
    Calls Try.prog 23 #[.slice a l c, .slice a' l c'] w fun e w' => e = .returned (.bool true) ∧ Below w.heap.size w w' := by
  have HX := Lib.hid h
  have HY := Lib.hid h'
  have hlm : l ≤ 9223372036854775807 := by have h1 := h.2.2.1; have h2 := h.2.2.2.1; unfold maxLen at h2; omega
  clear h h'
  go_enter Try.func23, Try.ntmps23
  go_wp2_with fail
  go_loopw [5] (fun i wr => ∃ k : Nat, k ≤ l ∧ i = .int .i64 k ∧ Below w.heap.size w wr) (fun i _ => l - (intOf i).toNat)
  case atStart => exact ⟨0, by omega, rfl, Below.refl _ _⟩
  case round =>
    obtain ⟨k, hk, rfl, hb⟩ := hrel
    by_cases hlt : k < l
    · obtain ⟨b, off, rfl, -, hcc⟩ := HX.out.2.2.at hlt
      have y0 := hcc k hlt _ hb
      obtain ⟨b', off', rfl, -, hcc'⟩ := HY.out.2.2.at hlt
      have y1 := hcc' k hlt _ hb
      generalize xs.getD k 0 = x at *
      clear hcc hcc'
      go_wp2_with fail
      go_quiet (fail)
      go_wp2_with fail
      go_roundw
      case rel => exact ⟨k + 1, by omega, by go_num, below_drewN hb _⟩
      case measure => simp [intOf]; omega
    · go_wp2_with fail
      go_ret
      exact ⟨rfl, hb⟩

set_option maxHeartbeats 4000000 in
theorem same_any (v u : Value) (p : ProbM) (w : World) (hp : ProbIn w v p) (hq : ProbIn w u p) :
    Calls Try.prog 20 #[v, u] w fun e w' => e = .returned (.bool true) ∧ Below w.heap.size w w' := by
  obtain ⟨a0, l0, c0, a1, l1, c1, a2, l2, c2, rfl, h0, h1, h2⟩ := hp
  obtain ⟨b0, m0, d0, b1, m1, d1, b2, m2, d2, rfl, k0, k1, k2⟩ := hq
  obtain rfl : l0 = m0 := by rw [← h0.1]; exact k0.1
  obtain rfl : l1 = m1 := by rw [← h1.1]; exact k1.1
  obtain rfl : l2 = m2 := by rw [← h2.1]; exact k2.1
  have hb0 : Below w.heap.size w ((w.alloc (.cells #[.slice a0 l0 c0, .slice a1 l1 c1, .slice a2 l2 c2] 25)).alloc (.cells #[.slice b0 l0 d0, .slice b1 l1 d1, .slice b2 l2 d2] 25)) := ((Below.refl _ _).alloc (Nat.le_refl _) _).alloc (by simp) _
  have HL1 := Lib.hid h1.1
  have hlm : l1 ≤ 9223372036854775807 := by have q1 := h1.2.1; have q2 := h1.2.2.1; unfold maxLen at q2; omega
  have H0 := Lib.hid (And.intro h0 k0)
  have H1 := Lib.hid (And.intro h1 k1)
  have H2 := Lib.hid (And.intro h2 k2)
  clear h0 h1 h2 k0 k1 k2
  have HC := Lib.hid (show ∀ w', Below ((w.alloc (.cells #[.slice a0 l0 c0, .slice a1 l1 c1, .slice a2 l2 c2] 25)).alloc (.cells #[.slice b0 l0 d0, .slice b1 l1 d1, .slice b2 l2 d2] 25)).heap.size ((w.alloc (.cells #[.slice a0 l0 c0, .slice a1 l1 c1, .slice a2 l2 c2] 25)).alloc (.cells #[.slice b0 l0 d0, .slice b1 l1 d1, .slice b2 l2 d2] 25)) w' →
      w'.cell? ⟨w.heap.size, 0, none⟩ = some (.slice a0 l0 c0) ∧ w'.cell? ⟨w.heap.size, 1, none⟩ = some (.slice a1 l1 c1) ∧ w'.cell? ⟨w.heap.size, 2, none⟩ = some (.slice a2 l2 c2) ∧ w'.cell? ⟨w.heap.size + 1, 0, none⟩ = some (.slice b0 l0 d0) ∧ w'.cell? ⟨w.heap.size + 1, 1, none⟩ = some (.slice b1 l1 d1) ∧ w'.cell? ⟨w.heap.size + 1, 2, none⟩ = some (.slice b2 l2 d2) from fun w' hb =>
    ⟨bc hb (by simp; omega) (by go_simp), bc hb (by simp; omega) (by go_simp), bc hb (by simp; omega) (by go_simp), bc hb (by simp) (by go_simp), bc hb (by simp) (by go_simp), bc hb (by simp) (by go_simp)⟩)
  have hsz0 : w.heap.size + 2 = ((w.alloc (.cells #[.slice a0 l0 c0, .slice a1 l1 c1, .slice a2 l2 c2] 25)).alloc (.cells #[.slice b0 l0 d0, .slice b1 l1 d1, .slice b2 l2 d2] 25)).heap.size := by simp
  go_enter Try.func20, Try.ntmps20
  go_wp2_with fail
  generalize (w.alloc (.cells #[.slice a0 l0 c0, .slice a1 l1 c1, .slice a2 l2 c2] 25)).alloc (.cells #[.slice b0 l0 d0, .slice b1 l1 d1, .slice b2 l2 d2] 25) = w0 at *
  refine (ints_same p.val _ _ _ _ _ _ (H0.out.1.below hb0) (H0.out.2.below hb0)).mono ?_
  rintro e w1 ⟨rfl, hb1⟩
  obtain ⟨x0, x1, x2, z0, z1, z2⟩ := HC.out w1 hb1
  have hb01 := hb0.trans (hb1.mono hb0.size)
  go_wp2_with fail
  refine (ints_same p.fix _ _ _ _ _ _ (H2.out.1.below hb01) (H2.out.2.below hb01)).mono ?_
  rintro e w2 ⟨rfl, hb2⟩
  clear x0 x1 x2 z0 z1 z2
  have hb12 := hb1.trans (hb2.mono hb1.size)
  obtain ⟨x0, x1, x2, z0, z1, z2⟩ := HC.out w2 hb12
  clear hb1 hb2 hb01
  go_wp2_with fail
  clear x0 x1 x2 z0 z1 z2
  go_loopw [5] (fun i wr => ∃ k : Nat, k ≤ l1 ∧ i = .int .i64 k ∧ Below w0.heap.size w0 wr) (fun i _ => l1 - (intOf i).toNat)
  case atStart => exact ⟨0, by omega, rfl, hb12⟩
  case round =>
    clear hb12
    obtain ⟨k, hk, rfl, hb⟩ := hrel
    have hbw := hb0.trans (hb.mono hb0.size)
    obtain ⟨x0, x1, x2, z0, z1, z2⟩ := HC.out wr hb
    have hws := hb.size
    by_cases hlt : k < l1
    · obtain ⟨b, off, rfl, hbl, ai, li, ci, hrow, hcc⟩ := H1.out.1.at hlt
      obtain ⟨y0, y1, y2⟩ := hcc _ hbw
      obtain ⟨b', off', rfl, hbl', ai', li', ci', hrow', hcc'⟩ := H1.out.2.at hlt
      obtain ⟨y0', y1', y2'⟩ := hcc' _ hbw
      obtain rfl : li = li' := by rw [← hrow.1]; exact hrow'.1
      have HA := Lib.hid (hrow.below hbw)
      have HB := Lib.hid (hrow'.below hbw)
      generalize p.rows.getD k default = r at *
      have hww := hbw.size
      have ex1 := box_ext (B := wr.heap.size) x1 (by omega)
      have ez1 := box_ext (B := wr.heap.size) z1 (by omega)
      have e0 := box_ext (B := wr.heap.size) y0 (by omega)
      have e1 := box_ext (B := wr.heap.size) y1 (by omega)
      have e2 := box_ext (B := wr.heap.size) y2 (by omega)
      have e0' := box_ext (B := wr.heap.size) y0' (by omega)
      have e1' := box_ext (B := wr.heap.size) y1' (by omega)
      have e2' := box_ext (B := wr.heap.size) y2' (by omega)
      clear hcc hcc' hrow hrow'
      go_wp2_with fail
      clear x0 x1 x2 z0 z1 z2 y0 y1 y2 y0' y1' y2'
      refine wp_region_sched [(0, false), (1, false), (2, false), (3, false), (4, false), (5, false), (6, false), (7, false), (8, false), (9, false), (10, false), (11, false), (12, true), (13, false), (14, false), (15, false), (16, false), (17, false), (18, false), (19, false), (20, false), (21, false), (22, false), (23, false), (24, false), (25, false), (26, false), (27, false), (28, false), (29, false), (30, false), (31, false), (32, false), (33, false), (34, false), (35, false), (36, false), (37, false), (38, false), (39, false), (40, false), (41, false), (42, false), (43, false)] (fun w' => ∃ W : Ext wr.heap.size wr, w' = W.1) (by kernel_rfl) (by kernel_rfl) ⟨⟨wr.drew, (Below.refl _ _).drew⟩, rfl⟩ ?_
      repeat (refine wpSched_calm rfl (fun K hK => ?_); go_simp; refine hK _ ?_; clear hK K)
      refine wpSched_eff rfl rfl (fun K hK => ?_)
      go_simp
      refine (ints_same r.coef _ _ _ _ _ _ (HA.out.below (Below.refl _ _).drew) (HB.out.below (Below.refl _ _).drew)).mono ?_
      rintro e w3 ⟨rfl, hb3⟩
      have hM := ((Below.refl wr.heap.size wr).drew).trans (hb3.mono (by simp))
      have hbn := hb.trans (hM.mono hb.size)
      refine hK _ _ ⟨⟨w3, hM⟩, rfl⟩ ?_
      clear hK K hb3
      repeat (refine wpSched_calm rfl (fun K hK => ?_); go_simp; refine hK _ ?_; clear hK K)
      refine wpSched_nil ?_
      go_wp2_with fail
      go_roundw
      case rel => exact ⟨k + 1, by omega, by go_num, hbn⟩
      case measure => simp [intOf]; omega
    · go_wp2_with fail
      go_ret
      exact ⟨rfl, hbw⟩

set_option maxHeartbeats 4000000 in
theorem tightens_calls (p : ProbM) (a0 a1 a2 : Option Addr) (l0 c0 l1 c1 l2 c2 : Nat) (w : World) (h0 : Row .i64 w a0 l0 c0 p.val) (h1 : RowsIn w a1 l1 c1 p.rows) (h2 : Row .i64 w a2 l2 c2 p.fix) :
    Calls Try.prog 5 #[.agg #[.slice a0 l0 c0, .slice a1 l1 c1, .slice a2 l2 c2]] w fun e w' => e = .returned (.bool true) ∧ Below w.heap.size w w' := by
  have HS : ∃ (er : Int) (P : ProbM), Hid (∀ w', Below w.heap.size w w' → (Calls Try.prog 18 #[.agg #[.slice a0 l0 c0, .slice a1 l1 c1, .slice a2 l2 c2]] w' fun e w'' => ∃ v, e = .returned (.tuple #[v, .int .i64 er]) ∧ ProbIn w'' v P ∧ Below w'.heap.size w' w'') ∧ (Calls Try.prog 19 #[.agg #[.slice a0 l0 c0, .slice a1 l1 c1, .slice a2 l2 c2]] w' fun e w'' => ∃ v, e = .returned (.tuple #[v, .int .i64 er]) ∧ ProbIn w'' v P ∧ Below w'.heap.size w' w'')) := by
    by_cases ho : validOf p = 0
    · have key : ∃ o, TightTo p.rows p.fix o ∨ ∀ o, ¬ TightTo p.rows p.fix o := by
        by_cases h : ∃ o, TightTo p.rows p.fix o
        · obtain ⟨o, h⟩ := h; exact ⟨o, .inl h⟩
        · exact ⟨none, .inr fun o ho => h ⟨o, ho⟩⟩
      obtain ⟨o, ho'⟩ := key
      refine ⟨resE o, resP p o, Lib.hid fun w' hb => ⟨?_, ?_⟩⟩
      · refine (tighten_any p a0 a1 a2 l0 c0 l1 c1 l2 c2 w' (h0.below hb) (h1.below hb) (h2.below hb) ho).mono ?_
        rintro e w'' ⟨o', v, rfl, hT, hP, hb'⟩
        rcases ho' with h | h
        · obtain rfl := tight_one h hT
          exact ⟨v, rfl, hP, hb'⟩
        · exact absurd hT (h _)
      · refine (rtighten_any p a0 a1 a2 l0 c0 l1 c1 l2 c2 w' (h0.below hb) (h1.below hb) (h2.below hb) ho).mono ?_
        rintro e w'' ⟨o', v, rfl, hT, hP, hb'⟩
        rcases ho' with h | h
        · obtain rfl := tight_one h hT
          exact ⟨v, rfl, hP, hb'⟩
        · exact absurd hT (h _)
    · have hp : ∀ w', Below w.heap.size w w' → ProbIn w' (.agg #[.slice a0 l0 c0, .slice a1 l1 c1, .slice a2 l2 c2]) p := fun w' hb => ⟨_, _, _, _, _, _, _, _, _, rfl, h0.below hb, h1.below hb, h2.below hb⟩
      refine ⟨validOf p, ⟨[], [], []⟩, Lib.hid fun w' hb => ⟨?_, ?_⟩⟩
      · refine (tighten_no _ p w' (hp w' hb) ho).mono ?_
        rintro e w'' ⟨rfl, hb'⟩
        exact ⟨_, rfl, prob_zero _, hb'⟩
      · refine (rtighten_no _ p w' (hp w' hb) ho).mono ?_
        rintro e w'' ⟨rfl, hb'⟩
        exact ⟨_, rfl, prob_zero _, hb'⟩
  obtain ⟨er, P, HS⟩ := HS
  clear h0 h1 h2
  go_enter Try.func5, Try.ntmps5
  go_wp2_with fail
  have hbx : Below w.heap.size w (w.alloc (.cells #[.slice a0 l0 c0, .slice a1 l1 c1, .slice a2 l2 c2] 25)) := ((Below.refl _ _).alloc (Nat.le_refl _) _)
  generalize hWW : (w.alloc (.cells #[.slice a0 l0 c0, .slice a1 l1 c1, .slice a2 l2 c2] 25)) = w0 at *
  have cK0 : w0.cell? ⟨w.heap.size, 0, none⟩ = some (.slice a0 l0 c0) := by subst hWW; go_simp
  have cK1 : w0.cell? ⟨w.heap.size, 1, none⟩ = some (.slice a1 l1 c1) := by subst hWW; go_simp
  have cK2 : w0.cell? ⟨w.heap.size, 2, none⟩ = some (.slice a2 l2 c2) := by subst hWW; go_simp
  have ltK : w.heap.size < w0.heap.size := by subst hWW; simp
  have hB := hbx
  clear hbx hWW
  refine ((HS.out _ hB).1).mono ?_
  rintro e w1 ⟨v1, rfl, hp1, hb⟩
  replace cK0 := bc hb ltK cK0
  replace cK1 := bc hb ltK cK1
  replace cK2 := bc hb ltK cK2
  replace ltK := bl hb ltK
  replace hB := hB.trans (hb.mono hB.size)
  have HP1 := Lib.hid hp1
  obtain ⟨x0, m0, y0, x1, m1, y1, x2, m2, y2, rfl, -, -, -⟩ := hp1
  clear hb
  go_wp2_with fail
  have hbx : Below w1.heap.size w1 (w1.alloc (.cells #[.slice x0 m0 y0, .slice x1 m1 y1, .slice x2 m2 y2] 25)) := ((Below.refl _ _).alloc (Nat.le_refl _) _)
  generalize hWW : (w1.alloc (.cells #[.slice x0 m0 y0, .slice x1 m1 y1, .slice x2 m2 y2] 25)) = w2 at *
  replace cK0 := bc hbx ltK cK0
  replace cK1 := bc hbx ltK cK1
  replace cK2 := bc hbx ltK cK2
  replace ltK := bl hbx ltK
  replace HP1 := Lib.hid (HP1.out.below hbx)
  have cQ0 : w2.cell? ⟨w1.heap.size, 0, none⟩ = some (.slice x0 m0 y0) := by subst hWW; go_simp
  have cQ1 : w2.cell? ⟨w1.heap.size, 1, none⟩ = some (.slice x1 m1 y1) := by subst hWW; go_simp
  have cQ2 : w2.cell? ⟨w1.heap.size, 2, none⟩ = some (.slice x2 m2 y2) := by subst hWW; go_simp
  have ltQ : w1.heap.size < w2.heap.size := by subst hWW; simp
  replace hB := hB.trans (hbx.mono hB.size)
  clear hbx hWW
  refine ((HS.out _ hB).2).mono ?_
  rintro e w3 ⟨v2, rfl, hp2, hb⟩
  replace cK0 := bc hb ltK cK0
  replace cK1 := bc hb ltK cK1
  replace cK2 := bc hb ltK cK2
  replace ltK := bl hb ltK
  replace cQ0 := bc hb ltQ cQ0
  replace cQ1 := bc hb ltQ cQ1
  replace cQ2 := bc hb ltQ cQ2
  replace ltQ := bl hb ltQ
  replace HP1 := Lib.hid (HP1.out.below hb)
  replace hB := hB.trans (hb.mono hB.size)
  have HP2 := Lib.hid hp2
  obtain ⟨u0, n0, z0, u1, n1, z1, u2, n2, z2, rfl, -, -, -⟩ := hp2
  clear hb
  go_wp2_with fail
  have hbx : Below w3.heap.size w3 (w3.alloc (.cells #[.slice u0 n0 z0, .slice u1 n1 z1, .slice u2 n2 z2] 25)) := ((Below.refl _ _).alloc (Nat.le_refl _) _)
  generalize hWW : (w3.alloc (.cells #[.slice u0 n0 z0, .slice u1 n1 z1, .slice u2 n2 z2] 25)) = w4 at *
  replace cK0 := bc hbx ltK cK0
  replace cK1 := bc hbx ltK cK1
  replace cK2 := bc hbx ltK cK2
  replace ltK := bl hbx ltK
  replace cQ0 := bc hbx ltQ cQ0
  replace cQ1 := bc hbx ltQ cQ1
  replace cQ2 := bc hbx ltQ cQ2
  replace ltQ := bl hbx ltQ
  replace HP1 := Lib.hid (HP1.out.below hbx)
  replace HP2 := Lib.hid (HP2.out.below hbx)
  have cS0 : w4.cell? ⟨w3.heap.size, 0, none⟩ = some (.slice u0 n0 z0) := by subst hWW; go_simp
  have cS1 : w4.cell? ⟨w3.heap.size, 1, none⟩ = some (.slice u1 n1 z1) := by subst hWW; go_simp
  have cS2 : w4.cell? ⟨w3.heap.size, 2, none⟩ = some (.slice u2 n2 z2) := by subst hWW; go_simp
  have ltS : w3.heap.size < w4.heap.size := by subst hWW; simp
  replace hB := hB.trans (hbx.mono hB.size)
  clear hbx hWW
  refine (same_any _ _ P _ HP1.out HP2.out).mono ?_
  rintro e w5 ⟨rfl, hb⟩
  replace cK0 := bc hb ltK cK0
  replace cK1 := bc hb ltK cK1
  replace cK2 := bc hb ltK cK2
  replace ltK := bl hb ltK
  replace cQ0 := bc hb ltQ cQ0
  replace cQ1 := bc hb ltQ cQ1
  replace cQ2 := bc hb ltQ cQ2
  replace ltQ := bl hb ltQ
  replace cS0 := bc hb ltS cS0
  replace cS1 := bc hb ltS cS1
  replace cS2 := bc hb ltS cS2
  replace ltS := bl hb ltS
  replace HP1 := Lib.hid (HP1.out.below hb)
  replace HP2 := Lib.hid (HP2.out.below hb)
  replace hB := hB.trans (hb.mono hB.size)
  clear hb
  go_wp2_with fail
  go_ret
  exact ⟨rfl, hB⟩

theorem zerooneTightens_walk {H : Type} {enc : TypeId × Value → H} (W : World) (base : Nat) (args : Array Value) (ds gs : List (DataW H)) (before : List MemPlace)
    (hval : ∀ (j : Nat) t v, Try.f5.params[j]? = some t → args[j]? = some v → Value.okWide Try.prog W .any base t v)
    (hW : DataW.Whole enc Try.prog Try.f5.params.toList Rows.zerooneTightensSpec.vars false W args.toList ds gs before)
    (_hsz : (DataW.weightsEach Try.prog (Try.f5.params.toList ++ Rows.zerooneTightensSpec.plain.varTypes Try.prog) (ds ++ gs)).all (· ≤ reachBytes) = true) :
    Calls Try.prog 5 args W fun e w' => e = .returned (.bool true) ∧ Below W.heap.size W w' := by
  obtain ⟨p, q, hA, hV, -, -, -⟩ := hW
  obtain ⟨rfl, -⟩ := trodVars_none hV
  rw [Try.params5] at hA hval
  obtain ⟨v0, d0, rfl, rfl, h0⟩ := trodAll_one hA
  obtain ⟨p, hp⟩ := open_prob (hval 0 _ _ rfl rfl) h0
  obtain ⟨a0, l0, c0, a1, l1, c1, a2, l2, c2, rfl, h0, h1, h2⟩ := hp
  exact tightens_calls p a0 a1 a2 l0 c0 l1 c1 l2 c2 W h0 h1 h2

set_option maxRecDepth 100000 in
theorem zerooneTightens_lifted (os : Os) (started : os.Started) (H : Type) (enc : TypeId × Value → H) :
    ReturnsInHanded {} Try.checked os 5 .any (Rows.zerooneTightensSpec.pre6 enc Try.prog Try.f5 Rows.zerooneTightensRow.domain false) (Rows.zerooneTightensSpec.post enc Try.prog Try.f5 false true false false) := by
  refine returnsInHanded_of_change_sized (C := Try.checked) own started (by kernel_rfl) Try.func5
    (ChangeSpec.witness6 (enc := enc) (C := Try.checked) false ⟨#[], #[.agg #[.slice none 0 0, .slice none 0 0, .slice none 0 0]], []⟩ 8 (by kernel_rfl) (by kernel_rfl) (by kernel_rfl) (by kernel_rfl)) ?_
  intro W base args ds gs before hval hW _ hsz _
  exact law_post rfl (by kernel_rfl) (by kernel_rfl) (fun ds h => match ds, h with | [d0], _ => ⟨rfl, rfl, rfl⟩) hW (zerooneTightens_walk W base args ds gs before hval hW hsz)

theorem zerooneTightens_over : Rows.zerooneTightensRow.holds Try.pinned (OpenSpec.ofChange Rows.zerooneTightensSpec) :=
  OpenClaim.holds_of_wide 5 Try.f5 rfl rfl rfl rfl rfl rfl rfl ⟨rfl, rfl, rfl, rfl, rfl⟩ rfl rfl rfl rfl rfl (by kernel_rfl) Try.func5 (by kernel_rfl)
    (of_decide_eq_true (by kernel_rfl)) (by unfold Func.isWrapper; first | (rw [if_pos (by decide +kernel)]; kernel_rfl) | (rw [if_neg (by decide +kernel)]; exact ⟨rfl, rfl⟩))
    (fun os started H enc _ => zerooneTightens_lifted os started H enc)

theorem zerooneTightens_proved : Rows.ZerooneTightensSaid := zerooneTightens_over

end Go.Proofs.Ytkgikajfeihbbaa
