/- 0-1 programs: what the reference's Solve returns. -/
import Derived.Test.YtkgikajfeihbbaaZsT
import Derived.Test.YtkgikajfeihbbaaZoR
namespace Go.Proofs.Ytkgikajfeihbbaa
set_option maxRecDepth 100000
open Go.RowKit

theorem from_best {p : ProbM} (hv : ValidM p) : fromM p.rows p.val p.fix [] 0 (none, 0) = bestOf p.rows p.val p.fix := by
  rw [from_fold p.fix [] 0 (none, 0) (by simp [hv.fixn]) (by simp [dotL]) (fix_tri hv) (by simp)]
  simp [bestOf]

set_option maxHeartbeats 8000000 in
theorem rsolve_any (v : Value) (p : ProbM) (w : World) (hp : ProbIn w v p) :
    Calls Try.prog 22 #[v] w fun e w' => ∃ vx, e = .returned (.tuple #[vx, .int .i64 (solN p), .int .i64 (solE p)]) ∧ OwnI w' w.heap.size vx (solX p) ∧ Below w.heap.size w w' := by
  have HP := Lib.hid hp
  obtain ⟨a0, l0, c0, a1, l1, c1, a2, l2, c2, rfl, h0, h1, h2⟩ := hp
  have hb0 : Below w.heap.size w (w.alloc (.cells #[.slice a0 l0 c0, .slice a1 l1 c1, .slice a2 l2 c2] 25)) := (Below.refl _ _).alloc (Nat.le_refl _) _
  have HB := Lib.hid (box3 w 25 (.slice a0 l0 c0) (.slice a1 l1 c1) (.slice a2 l2 c2))
  by_cases ho : validOf p = 0
  · have hv := validM ho
    obtain rfl : l2 = l0 := by rw [← h0.1, ← h2.1]; exact hv.fixn
    have hn : l2 ≤ 24 := by rw [← h0.1]; exact hv.n
    have HV := Lib.hid hv
    have HL := Lib.hid (And.intro h0.1 h2.1)
    have HAw := Lib.hid (show ∀ w', Below w.heap.size w w' → Row .i64 w' a0 l2 c0 p.val ∧ RowsIn w' a1 l1 c1 p.rows ∧ Row .i64 w' a2 l2 c2 p.fix from fun w' hb => ⟨h0.below hb, h1.below hb, h2.below hb⟩)
    have HSN := Lib.hid (fun h => sol_none (p := p) ho h)
    have HSS := Lib.hid (fun z m h => sol_some (p := p) (z := z) (m := m) ho h)
    clear h0 h1 h2 hv
    generalize solX p = sx at *
    generalize solN p = sn at *
    generalize solE p = se at *
    go_enter Try.func22, Try.ntmps22
    go_wp2_with fail
    have hws : w.heap.size < (w.alloc (.cells #[.slice a0 l2 c0, .slice a1 l1 c1, .slice a2 l2 c2] 25)).heap.size := by simp
    generalize w.alloc (.cells #[.slice a0 l2 c0, .slice a1 l1 c1, .slice a2 l2 c2] 25) = w0 at *
    have hvc := ref_valid_any _ p _ (HP.out.below hb0)
    rw [ho] at hvc
    clear ho
    refine hvc.mono ?_
    clear hvc
    rintro e w1 ⟨rfl, hb1⟩
    have HB1 := Lib.hid (show ∀ w', Below w1.heap.size w1 w' → w'.cell? ⟨w.heap.size, 0, none⟩ = some (.slice a0 l2 c0) ∧ w'.cell? ⟨w.heap.size, 1, none⟩ = some (.slice a1 l1 c1) ∧ w'.cell? ⟨w.heap.size, 2, none⟩ = some (.slice a2 l2 c2) from fun w' h => HB.out w' (hb1.trans (h.mono hb1.size)))
    have hb01 := hb0.trans (hb1.mono hb0.size)
    clear hb1 hws
    go_wp2_with fail
    have q0 : ∀ W : Ext w1.heap.size w1, W.1.cell? ⟨w.heap.size, 0, none⟩ = some (.slice a0 l2 c0) := fun W => (HB1.out W.1 W.2).1
    have q1 : ∀ W : Ext w1.heap.size w1, W.1.cell? ⟨w.heap.size, 1, none⟩ = some (.slice a1 l1 c1) := fun W => (HB1.out W.1 W.2).2.1
    have q2 : ∀ W : Ext w1.heap.size w1, W.1.cell? ⟨w.heap.size, 2, none⟩ = some (.slice a2 l2 c2) := fun W => (HB1.out W.1 W.2).2.2
    refine wp_region_sched [(0, false), (2, false), (3, false), (1, true), (4, true), (5, false), (6, true), (7, false)] (fun w' => ∃ W : Ext w1.heap.size w1, w' = W.1) (by kernel_rfl) (by kernel_rfl) ⟨⟨w1.drew, (Below.refl _ _).drew⟩, rfl⟩ ?_
    repeat (refine wpSched_calm rfl (fun K hK => ?_); go_simp; refine hK _ ?_; clear hK K)
    clear q0 q1 q2
    have hbd : Below w1.heap.size w1 w1.drew := (Below.refl _ _).drew
    have hsd : w1.heap.size = w1.drew.heap.size := rfl
    generalize w1.drew = w2 at *
    refine wpSched_eff rfl rfl (fun K hK => ?_)
    go_simp
    have hbx : Below w2.heap.size w2 (w2.alloc (.cells #[] 3)) := (Below.refl _ _).alloc (Nat.le_refl _) _
    have HO := Lib.hid (owns_lit w2 w2.heap.size 3 [] (by simp) (Nat.le_refl _))
    have hb3 := hbd.trans (hbx.mono (Nat.le_of_eq hsd))
    have HX := Lib.hid (HAw.out _ (hb01.trans (hb3.mono hb01.size))).2.2
    refine hK _ _ ⟨⟨_, hb3⟩, rfl⟩ ?_
    clear hK K
    refine wpSched_eff rfl rfl (fun K hK => ?_)
    refine wp_appP _ _ 22 rfl w2.heap.size 3 (.int .i64 0) 8 Try.underlying22 infoInt rfl w2.heap.size rfl HO.out a2 l2 c2 (ivs p.fix) rfl (by rw [ivs_len]; exact HL.out.2) HX.out.vals (ivs_cells _) (by omega) (by unfold maxLen; omega) (by simp) fun gx cx w4 g1 g2 => ?_
    have hb24 : Below w2.heap.size w2 w4 := hbx.trans (g2.below (B := w2.heap.size) (by simp) (by simp [Value.ownBlock]))
    have hb4 := hbd.trans (hb24.mono (Nat.le_of_eq hsd))
    have HO4 := Lib.hid g1
    clear g1 g2 hb3 hbx HO HX
    refine hK _ _ ⟨⟨w4, hb4⟩, rfl⟩ ?_
    clear hK K
    repeat (refine wpSched_calm rfl (fun K hK => ?_); go_simp; refine hK _ ?_; clear hK K)
    refine wpSched_eff rfl rfl (fun K hK => ?_)
    go_simp
    have hb5 := hb4.alloc hb4.size (.cells #[.slice a0 l2 c0, .slice a1 l1 c1, .slice a2 l2 c2, .slice (some ⟨gx, 0, none⟩) l2 cx, .slice none 0 0, .int .i64 0] 60)
    have hbx5 : Below w4.heap.size w4 (w4.alloc (.cells #[.slice a0 l2 c0, .slice a1 l1 c1, .slice a2 l2 c2, .slice (some ⟨gx, 0, none⟩) l2 cx, .slice none 0 0, .int .i64 0] 60)) := (Below.refl _ _).alloc (Nat.le_refl _) _
    refine hK _ _ ⟨⟨_, hb5⟩, rfl⟩ ?_
    clear hK K
    repeat (refine wpSched_calm rfl (fun K hK => ?_); go_simp; refine hK _ ?_; clear hK K)
    refine wpSched_nil ?_
    have hgx := Owns.lt HO4.out gx rfl
    have hgxl := Owns.in HO4.out gx rfl
    have hw1 := hb01.size
    have hbw5 : Below w.heap.size w _ := hb01.trans (hb5.mono hw1)
    have HRD := Lib.hid (show RD (w4.alloc (.cells #[.slice a0 l2 c0, .slice a1 l1 c1, .slice a2 l2 c2, .slice (some ⟨gx, 0, none⟩) l2 cx, .slice none 0 0, .int .i64 0] 60)) w.heap.size ⟨w4.heap.size, gx, l2, l1, cx, a0, c0, a1, c1, a2, c2⟩ ([] ++ p.fix.drop 0) (none, 0) (.slice none 0 0) from
      ⟨heap_alloc_new w4 _, (OwnI.mono (show OwnI w4 w2.heap.size _ p.fix from HO4.out) (by omega)).below hbx5, rfl, fun j hj => (by cases hj), (by show w4.heap.size ≠ gx; omega)⟩)
    have HRS := Lib.hid (show ∀ w', But (Rh.F ⟨w4.heap.size, gx, l2, l1, cx, a0, c0, a1, c1, a2, c2⟩) (w4.alloc (.cells #[.slice a0 l2 c0, .slice a1 l1 c1, .slice a2 l2 c2, .slice (some ⟨gx, 0, none⟩) l2 cx, .slice none 0 0, .int .i64 0] 60)) w' → Below w.heap.size w w' from fun w' h => hbw5.trans (h.below hbw5.size fun i hi => by
        have h4 := hb4.size
        rcases hi with hi | hi
        · rw [hi]; show w.heap.size ≤ w4.heap.size; omega
        · rw [hi]; show w.heap.size ≤ gx; omega))
    clear hbx5 hb5 hb4 hb24 hbd HO4 HB1
    generalize hgg : w4.heap.size = g at *
    generalize (w4.alloc (.cells #[.slice a0 l2 c0, .slice a1 l1 c1, .slice a2 l2 c2, .slice (some ⟨gx, 0, none⟩) l2 cx, .slice none 0 0, .int .i64 0] 60)) = w5 at *
    clear hgg
    go_wp2_with fail
    have hfr : Calls Try.prog 41 #[.pointer (some ⟨g, 0, none⟩), .int .i64 0, .int .i64 0] w5 fun e w' => e = .returned (.tuple #[]) ∧ (∃ vb', RD w' w.heap.size ⟨g, gx, l2, l1, cx, a0, c0, a1, c1, a2, c2⟩ ([] ++ p.fix.drop 0) (fromM p.rows p.val (p.fix.drop 0) [] 0 (none, 0)) vb') ∧ But (Rh.F ⟨g, gx, l2, l1, cx, a0, c0, a1, c1, a2, c2⟩) w5 w' :=
      from_any ⟨g, gx, l2, l1, cx, a0, c0, a1, c1, a2, c2⟩ p w.heap.size ⟨HV.out, HL.out.1⟩ l2 0 (by show 0 + l2 = l2; omega) [] 0 (none, 0) (.slice none 0 0) w5 rfl (fun k hk => by simp at hk) (by omega) (fun w' h => by obtain ⟨r0, r1, r2⟩ := HAw.out w' (HRS.out w' h); exact ⟨r0, r1, r2⟩) HRD.out hbw5.size
    rw [List.drop_zero, from_best HV.out] at hfr
    refine hfr.mono ?_
    clear hfr
    rintro e w6 ⟨rfl, ⟨vb, hD⟩, hbb⟩
    have hbw6 := HRS.out w6 hbb
    have k4 : w6.cell? ⟨g, 4, none⟩ = some vb := (blk_cell hD.blk 4).trans rfl
    have k5 : w6.cell? ⟨g, 5, none⟩ = some (.int .i64 (bestOf p.rows p.val p.fix).2) := (blk_cell hD.blk 5).trans rfl
    have HOb := Lib.hid hD.ob
    clear hD hbb HRD HRS
    generalize hbe : bestOf p.rows p.val p.fix = be at *
    obtain ⟨bz, bm⟩ := be
    simp only at HOb k5
    cases bz with
    | none =>
      obtain ⟨e1, e2, e3⟩ := HSN.out rfl
      subst e1; subst e2; subst e3
      have hvb : vb = .slice none 0 0 := HOb.out
      subst hvb
      have hq := eql_nil (P := Try.prog) w6 none 0 0 Try.underlying22
      simp only [Option.isNone_none] at hq
      clear HSN HSS HOb hbe
      go_wp2_with fail
      go_ret3
      exact ⟨_, rfl, Owns.nil _ _ _, hbw6⟩
    | some z =>
      obtain ⟨e1, e2, e3⟩ := HSS.out z bm rfl
      subst e1; subst e2; subst e3
      obtain ⟨hOz, g3, n3, c3, rfl⟩ := HOb.out
      have HOz := Lib.hid hOz
      have hq := eql_nil (P := Try.prog) w6 (some ⟨g3, 0, none⟩) n3 c3 Try.underlying22
      simp only [Option.isNone_some] at hq
      clear HSN HSS HOb hbe hOz
      go_wp2_with fail
      go_quiet (fail)
      go_wp2_with fail
      go_ret3
      exact ⟨_, rfl, HOz.out.below (below_drewN (Below.refl _ _) _), below_drewN hbw6 _⟩
  · obtain ⟨e1, e2, e3⟩ := sol_bad ho
    rw [e1, e2, e3]
    have hz : (validOf p == 0) = false := by simpa using ho
    have hz2 : (validOf p != 0) = true := by simpa using ho
    clear e1 e2 e3 ho h0 h1 h2
    go_enter Try.func22, Try.ntmps22
    go_wp2_with fail
    generalize w.alloc (.cells #[.slice a0 l0 c0, .slice a1 l1 c1, .slice a2 l2 c2] 25) = w0 at *
    refine (ref_valid_any _ p _ (HP.out.below hb0)).mono ?_
    rintro e w1 ⟨rfl, hb1⟩
    have hb01 := hb0.trans (hb1.mono hb0.size)
    generalize hev : validOf p = ev at *
    have HEv := Lib.hid hev
    clear hev
    go_wp2_with fail
    go_ret3
    exact ⟨_, by rw [HEv.out]; rfl, Owns.nil _ _ _, hb01⟩

end Go.Proofs.Ytkgikajfeihbbaa
