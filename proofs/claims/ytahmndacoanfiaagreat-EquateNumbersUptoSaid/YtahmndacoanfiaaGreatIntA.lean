/- Integers: what integer.Add and the reference's Add return. Condition: the limbs can be read, and take at most 2^47 bytes. -/
import Derived.Test.YtahmndacoanfiaaGreatWalk
import Derived.Test.YtahmndacoanfiaaGreatRRatC
namespace Go.Proofs.YtahmndacoanfiaaGreat
set_option maxRecDepth 100000
open Go.RowKit

theorem sgn_same (b : Bool) (m n : Nat) : sgn b m + sgn b n = sgn b (m + n) := by cases b <;> simp [sgn] <;> omega
theorem sgn_ge {b c : Bool} {m n : Nat} (hs : (b == c) = false) (h : n ≤ m) : sgn b (m - n) = sgn b m + sgn c n := by cases b <;> cases c <;> simp [sgn] at hs ⊢ <;> omega
theorem sgn_lt {b c : Bool} {m n : Nat} (hs : (b == c) = false) (h : m < n) : sgn c (n - m) = sgn b m + sgn c n := by cases b <;> cases c <;> simp [sgn] at hs ⊢ <;> omega
theorem int_add_len {y z : Int} {L : Nat} (h1 : (digs y.natAbs).length ≤ L) (h2 : (digs z.natAbs).length ≤ L) : (digs (y + z).natAbs).length ≤ L + 1 :=
  Nat.le_trans (digs_len_le' (Int.natAbs_add_le y z)) (digs_add_len _ _ L h1 h2)
set_option maxHeartbeats 1000000 in
theorem iadd_same (neg neg2 : Bool) (xs xs2 : List Nat) (a a2 : Option Addr) (len cap len2 cap2 L : Nat) (w : World) (hx : Limbs w a len cap xs) (hy : Limbs w a2 len2 cap2 xs2) (h1 : len ≤ L) (h2 : len2 ≤ L) (hm : (L + 1) * 4 ≤ 140737488355328) (hs : (neg == neg2) = true) :
    Calls Tryz.prog 51 #[.agg #[.bool neg, .slice a len cap], .agg #[.bool neg2, .slice a2 len2 cap2]] w fun e w' => ∃ r, e = .returned r ∧ IntN w.heap.size w' r (sgn neg (natOf xs) + sgn neg2 (natOf xs2)) ∧ Below w.heap.size w w' := by
  have HX := Lib.hid hx
  have HY := Lib.hid hy
  have hl1 := digs_length_of hx.2.1
  have hl2 := digs_length_of hy.2.1
  rw [hx.1] at hl1
  rw [hy.1] at hl2
  clear hx hy
  have HZ := Lib.hid (show sgn neg (natOf xs + natOf xs2) = sgn neg (natOf xs) + sgn neg2 (natOf xs2) by rw [← sgn_same, eq_of_beq hs])
  have HL := Lib.hid (digs_add_len (natOf xs) (natOf xs2) L (by omega) (by omega))
  go_enter Tryz.func51, Tryz.ntmps51
  go_wp2_with fail
  have hbx : Below w.heap.size w (((w.alloc (.cells #[.bool neg, .slice a len cap] 26)).alloc (.cells #[.bool neg2, .slice a2 len2 cap2] 26)).alloc (.cells #[.bool false, .slice none 0 0] 26)) := ((((Below.refl _ _).alloc (Nat.le_refl _) _).alloc (by simp) _).alloc (by simp <;> omega) _)
  generalize hWW : (((w.alloc (.cells #[.bool neg, .slice a len cap] 26)).alloc (.cells #[.bool neg2, .slice a2 len2 cap2] 26)).alloc (.cells #[.bool false, .slice none 0 0] 26)) = w0 at *
  replace HX := Lib.hid (HX.out.below hbx)
  replace HY := Lib.hid (HY.out.below hbx)
  have cA0 : w0.cell? ⟨w.heap.size, 0, none⟩ = some (.bool neg) := by subst hWW; go_simp
  have cA1 : w0.cell? ⟨w.heap.size, 1, none⟩ = some (.slice a len cap) := by subst hWW; go_simp
  have ltA : w.heap.size < w0.heap.size := by subst hWW; simp <;> omega
  have cB0 : w0.cell? ⟨w.heap.size + 1, 0, none⟩ = some (.bool neg2) := by subst hWW; go_simp
  have cB1 : w0.cell? ⟨w.heap.size + 1, 1, none⟩ = some (.slice a2 len2 cap2) := by subst hWW; go_simp
  have ltB : w.heap.size + 1 < w0.heap.size := by subst hWW; simp <;> omega
  have cR0 : w0.cell? ⟨w.heap.size + 1 + 1, 0, none⟩ = some (.bool false) := by subst hWW; go_simp
  have fR0 : w0.frozen? ⟨w.heap.size + 1 + 1, 0, none⟩ = false := by subst hWW; go_simp
  have cR1 : w0.cell? ⟨w.heap.size + 1 + 1, 1, none⟩ = some (.slice none 0 0) := by subst hWW; go_simp
  have fR1 : w0.frozen? ⟨w.heap.size + 1 + 1, 1, none⟩ = false := by subst hWW; go_simp
  have ltR : w.heap.size + 1 + 1 < w0.heap.size := by subst hWW; simp
  have hB := hbx
  clear hbx hWW
  have hAR : w.heap.size < w.heap.size + 1 + 1 := by omega
  have eA0 := Gr.cell (R := w.heap.size + 1 + 1) (R2 := w.heap.size + 1 + 1) cA0 ltA (by omega) (by omega)
  have eA1 := Gr.cell (R := w.heap.size + 1 + 1) (R2 := w.heap.size + 1 + 1) cA1 ltA (by omega) (by omega)
  have eB0 := Gr.cell (R := w.heap.size + 1 + 1) (R2 := w.heap.size + 1 + 1) cB0 ltB (by omega) (by omega)
  have eB1 := Gr.cell (R := w.heap.size + 1 + 1) (R2 := w.heap.size + 1 + 1) cB1 ltB (by omega) (by omega)
  refine wp_region_sched [(0, false), (1, false), (2, false), (3, false), (4, false), (5, false), (6, true), (7, true), (8, true)] (fun w' => ∃ W : Gr (w.heap.size + 1 + 1) (w.heap.size + 1 + 1) w0, w' = W.1) (by kernel_rfl) (by kernel_rfl) ⟨⟨w0.drew, below_grown (Below.refl _ _).drew⟩, rfl⟩ ?_
  repeat (refine wpSched_calm rfl (fun K hK => ?_); go_simp; refine hK _ ?_; clear hK K)
  clear eA0 eA1 eB0 eB1
  have hbx : Below w0.heap.size w0 w0.drew := (Below.refl _ _).drew
  have hM := below_grown (R := w.heap.size + 1 + 1) (R2 := w.heap.size + 1 + 1) hbx
  replace cA0 := bc hbx ltA cA0
  replace cA1 := bc hbx ltA cA1
  replace ltA := bl hbx ltA
  replace cB0 := bc hbx ltB cB0
  replace cB1 := bc hbx ltB cB1
  replace ltB := bl hbx ltB
  replace cR0 := bc hbx ltR cR0
  replace fR0 := bf hbx ltR fR0
  replace cR1 := bc hbx ltR cR1
  replace fR1 := bf hbx ltR fR1
  replace ltR := bl hbx ltR
  replace HX := Lib.hid (HX.out.below hbx)
  replace HY := Lib.hid (HY.out.below hbx)
  replace hB := hB.trans (hbx.mono hB.size)
  clear hbx
  generalize w0.drew = ww0d at *
  refine wpSched_eff rfl rfl (fun K hK => ?_)
  go_simp
  refine (add_new _ _ _ _ _ _ _ _ _ HX.out HY.out (by omega) (by omega)).mono ?_
  rintro e w1 ⟨v1, rfl, hv1, hb⟩
  replace cA0 := bc hb ltA cA0
  replace cA1 := bc hb ltA cA1
  replace ltA := bl hb ltA
  replace cB0 := bc hb ltB cB0
  replace cB1 := bc hb ltB cB1
  replace ltB := bl hb ltB
  replace cR0 := bc hb ltR cR0
  replace fR0 := bf hb ltR fR0
  replace cR1 := bc hb ltR cR1
  replace fR1 := bf hb ltR fR1
  replace ltR := bl hb ltR
  replace HX := Lib.hid (HX.out.below hb)
  replace HY := Lib.hid (HY.out.below hb)
  replace hM := grown_below hM hb
  replace hB := hB.trans (hb.mono hB.size)
  have HV := Lib.hid hv1.1
  clear hv1
  clear hb
  refine hK _ _ ⟨⟨w1, hM⟩, rfl⟩ ?_
  clear hK K
  have hs1 := ltR
  refine wpSched_eff rfl rfl (fun K hK => ?_)
  go_simp
  refine (imake_num neg _ _ _ HV.out (by have := HL.out; omega)).mono ?_
  rintro e w2 ⟨v2, rfl, hv2, hb⟩
  replace cA0 := bc hb ltA cA0
  replace cA1 := bc hb ltA cA1
  replace ltA := bl hb ltA
  replace cB0 := bc hb ltB cB0
  replace cB1 := bc hb ltB cB1
  replace ltB := bl hb ltB
  replace cR0 := bc hb ltR cR0
  replace fR0 := bf hb ltR fR0
  replace cR1 := bc hb ltR cR1
  replace fR1 := bf hb ltR fR1
  replace ltR := bl hb ltR
  replace HX := Lib.hid (HX.out.below hb)
  replace HY := Lib.hid (HY.out.below hb)
  replace HV := Lib.hid (HV.out.below hb)
  replace hM := grown_below hM hb
  replace hB := hB.trans (hb.mono hB.size)
  rw [HZ.out] at hv2
  obtain ⟨a5, n5, c5, rfl, h3, h4⟩ := hv2
  have HFin := Lib.hid (int_store (B := w1.heap.size) (B' := w.heap.size) (g := w.heap.size + 1 + 1) ⟨a5, n5, c5, rfl, h3, h4⟩ hs1 (by omega))
  clear h3 h4
  generalize decide (sgn neg (natOf xs) + sgn neg2 (natOf xs2) < 0) = dn at *
  clear hb
  refine hK _ _ ⟨⟨w2, hM⟩, rfl⟩ ?_
  clear hK K
  refine wpSched_eff rfl rfl (fun K hK => ?_)
  go_simp
  refine hK _ _ ⟨⟨_, grown_set (grown_set hM 0 _) 1 _⟩, rfl⟩ ?_
  clear hK K
  refine wpSched_nil ?_
  go_wp2_with fail
  exact bodyPost_ret (v := .agg #[.bool dn, .slice a5 n5 c5]) (by simp [results, Tryz.results51, go_sem, cR0, cR1]) rfl ⟨_, rfl, HFin.out, (hB.setCell (p := ⟨w.heap.size + 1 + 1, 0, none⟩) (by simp <;> omega) _).setCell (p := ⟨w.heap.size + 1 + 1, 1, none⟩) (by simp <;> omega) _⟩

set_option maxHeartbeats 1000000 in
theorem iadd_ge (neg neg2 : Bool) (xs xs2 : List Nat) (a a2 : Option Addr) (len cap len2 cap2 L : Nat) (w : World) (hx : Limbs w a len cap xs) (hy : Limbs w a2 len2 cap2 xs2) (h1 : len ≤ L) (_h2 : len2 ≤ L) (hm : (L + 1) * 4 ≤ 140737488355328) (hs : (neg == neg2) = false) (hc : natOf xs2 ≤ natOf xs) :
    Calls Tryz.prog 51 #[.agg #[.bool neg, .slice a len cap], .agg #[.bool neg2, .slice a2 len2 cap2]] w fun e w' => ∃ r, e = .returned r ∧ IntN w.heap.size w' r (sgn neg (natOf xs) + sgn neg2 (natOf xs2)) ∧ Below w.heap.size w w' := by
  have HX := Lib.hid hx
  have HY := Lib.hid hy
  have hl1 := digs_length_of hx.2.1
  have hl2 := digs_length_of hy.2.1
  rw [hx.1] at hl1
  rw [hy.1] at hl2
  clear hx hy
  have HZ := Lib.hid (show sgn neg (natOf xs - natOf xs2) = sgn neg (natOf xs) + sgn neg2 (natOf xs2) from sgn_ge hs hc)
  have hs' : (!(neg == neg2)) = true := by rw [hs]; rfl
  go_enter Tryz.func51, Tryz.ntmps51
  go_wp2_with fail
  have hbx : Below w.heap.size w (((w.alloc (.cells #[.bool neg, .slice a len cap] 26)).alloc (.cells #[.bool neg2, .slice a2 len2 cap2] 26)).alloc (.cells #[.bool false, .slice none 0 0] 26)) := ((((Below.refl _ _).alloc (Nat.le_refl _) _).alloc (by simp) _).alloc (by simp <;> omega) _)
  generalize hWW : (((w.alloc (.cells #[.bool neg, .slice a len cap] 26)).alloc (.cells #[.bool neg2, .slice a2 len2 cap2] 26)).alloc (.cells #[.bool false, .slice none 0 0] 26)) = w0 at *
  replace HX := Lib.hid (HX.out.below hbx)
  replace HY := Lib.hid (HY.out.below hbx)
  have cA0 : w0.cell? ⟨w.heap.size, 0, none⟩ = some (.bool neg) := by subst hWW; go_simp
  have cA1 : w0.cell? ⟨w.heap.size, 1, none⟩ = some (.slice a len cap) := by subst hWW; go_simp
  have ltA : w.heap.size < w0.heap.size := by subst hWW; simp <;> omega
  have cB0 : w0.cell? ⟨w.heap.size + 1, 0, none⟩ = some (.bool neg2) := by subst hWW; go_simp
  have cB1 : w0.cell? ⟨w.heap.size + 1, 1, none⟩ = some (.slice a2 len2 cap2) := by subst hWW; go_simp
  have ltB : w.heap.size + 1 < w0.heap.size := by subst hWW; simp <;> omega
  have cR0 : w0.cell? ⟨w.heap.size + 1 + 1, 0, none⟩ = some (.bool false) := by subst hWW; go_simp
  have fR0 : w0.frozen? ⟨w.heap.size + 1 + 1, 0, none⟩ = false := by subst hWW; go_simp
  have cR1 : w0.cell? ⟨w.heap.size + 1 + 1, 1, none⟩ = some (.slice none 0 0) := by subst hWW; go_simp
  have fR1 : w0.frozen? ⟨w.heap.size + 1 + 1, 1, none⟩ = false := by subst hWW; go_simp
  have ltR : w.heap.size + 1 + 1 < w0.heap.size := by subst hWW; simp
  have hB := hbx
  clear hbx hWW
  refine (sub_new _ _ _ _ _ _ _ _ _ HX.out HY.out (by omega) hc).mono ?_
  rintro e w1 ⟨v1, rfl, hv1, hb⟩
  replace cA0 := bc hb ltA cA0
  replace cA1 := bc hb ltA cA1
  replace ltA := bl hb ltA
  replace cB0 := bc hb ltB cB0
  replace cB1 := bc hb ltB cB1
  replace ltB := bl hb ltB
  replace cR0 := bc hb ltR cR0
  replace fR0 := bf hb ltR fR0
  replace cR1 := bc hb ltR cR1
  replace fR1 := bf hb ltR fR1
  replace ltR := bl hb ltR
  replace HX := Lib.hid (HX.out.below hb)
  replace HY := Lib.hid (HY.out.below hb)
  replace hB := hB.trans (hb.mono hB.size)
  have HV := Lib.hid hv1.1
  clear hv1
  clear hb
  go_wp2_with fail
  have hs1 := ltR
  refine (imake_num neg _ _ _ HV.out (by have h9 := digs_len_le' (Nat.sub_le (natOf xs) (natOf xs2)); omega)).mono ?_
  rintro e w2 ⟨v2, rfl, hv2, hb⟩
  replace cA0 := bc hb ltA cA0
  replace cA1 := bc hb ltA cA1
  replace ltA := bl hb ltA
  replace cB0 := bc hb ltB cB0
  replace cB1 := bc hb ltB cB1
  replace ltB := bl hb ltB
  replace cR0 := bc hb ltR cR0
  replace fR0 := bf hb ltR fR0
  replace cR1 := bc hb ltR cR1
  replace fR1 := bf hb ltR fR1
  replace ltR := bl hb ltR
  replace HX := Lib.hid (HX.out.below hb)
  replace HY := Lib.hid (HY.out.below hb)
  replace HV := Lib.hid (HV.out.below hb)
  replace hB := hB.trans (hb.mono hB.size)
  rw [HZ.out] at hv2
  obtain ⟨a5, n5, c5, rfl, h3, h4⟩ := hv2
  have HFin := Lib.hid (int_store (B := w1.heap.size) (B' := w.heap.size) (g := w.heap.size + 1 + 1) ⟨a5, n5, c5, rfl, h3, h4⟩ hs1 (by omega))
  clear h3 h4
  generalize decide (sgn neg (natOf xs) + sgn neg2 (natOf xs2) < 0) = dn at *
  clear hb
  go_wp2_with fail
  exact bodyPost_ret (v := .agg #[.bool dn, .slice a5 n5 c5]) (by simp [results, Tryz.results51, go_sem, cR0, cR1]) rfl ⟨_, rfl, HFin.out, (hB.setCell (p := ⟨w.heap.size + 1 + 1, 0, none⟩) (by simp <;> omega) _).setCell (p := ⟨w.heap.size + 1 + 1, 1, none⟩) (by simp <;> omega) _⟩

set_option maxHeartbeats 1000000 in
theorem iadd_lt (neg neg2 : Bool) (xs xs2 : List Nat) (a a2 : Option Addr) (len cap len2 cap2 L : Nat) (w : World) (hx : Limbs w a len cap xs) (hy : Limbs w a2 len2 cap2 xs2) (_h1 : len ≤ L) (h2 : len2 ≤ L) (hm : (L + 1) * 4 ≤ 140737488355328) (hs : (neg == neg2) = false) (hc : natOf xs < natOf xs2) :
    Calls Tryz.prog 51 #[.agg #[.bool neg, .slice a len cap], .agg #[.bool neg2, .slice a2 len2 cap2]] w fun e w' => ∃ r, e = .returned r ∧ IntN w.heap.size w' r (sgn neg (natOf xs) + sgn neg2 (natOf xs2)) ∧ Below w.heap.size w w' := by
  have HX := Lib.hid hx
  have HY := Lib.hid hy
  have hl1 := digs_length_of hx.2.1
  have hl2 := digs_length_of hy.2.1
  rw [hx.1] at hl1
  rw [hy.1] at hl2
  clear hx hy
  have HZ := Lib.hid (show sgn neg2 (natOf xs2 - natOf xs) = sgn neg (natOf xs) + sgn neg2 (natOf xs2) from sgn_lt hs hc)
  have hs' : (!(neg == neg2)) = true := by rw [hs]; rfl
  go_enter Tryz.func51, Tryz.ntmps51
  go_wp2_with fail
  have hbx : Below w.heap.size w (((w.alloc (.cells #[.bool neg, .slice a len cap] 26)).alloc (.cells #[.bool neg2, .slice a2 len2 cap2] 26)).alloc (.cells #[.bool false, .slice none 0 0] 26)) := ((((Below.refl _ _).alloc (Nat.le_refl _) _).alloc (by simp) _).alloc (by simp <;> omega) _)
  generalize hWW : (((w.alloc (.cells #[.bool neg, .slice a len cap] 26)).alloc (.cells #[.bool neg2, .slice a2 len2 cap2] 26)).alloc (.cells #[.bool false, .slice none 0 0] 26)) = w0 at *
  replace HX := Lib.hid (HX.out.below hbx)
  replace HY := Lib.hid (HY.out.below hbx)
  have cA0 : w0.cell? ⟨w.heap.size, 0, none⟩ = some (.bool neg) := by subst hWW; go_simp
  have cA1 : w0.cell? ⟨w.heap.size, 1, none⟩ = some (.slice a len cap) := by subst hWW; go_simp
  have ltA : w.heap.size < w0.heap.size := by subst hWW; simp <;> omega
  have cB0 : w0.cell? ⟨w.heap.size + 1, 0, none⟩ = some (.bool neg2) := by subst hWW; go_simp
  have cB1 : w0.cell? ⟨w.heap.size + 1, 1, none⟩ = some (.slice a2 len2 cap2) := by subst hWW; go_simp
  have ltB : w.heap.size + 1 < w0.heap.size := by subst hWW; simp <;> omega
  have cR0 : w0.cell? ⟨w.heap.size + 1 + 1, 0, none⟩ = some (.bool false) := by subst hWW; go_simp
  have fR0 : w0.frozen? ⟨w.heap.size + 1 + 1, 0, none⟩ = false := by subst hWW; go_simp
  have cR1 : w0.cell? ⟨w.heap.size + 1 + 1, 1, none⟩ = some (.slice none 0 0) := by subst hWW; go_simp
  have fR1 : w0.frozen? ⟨w.heap.size + 1 + 1, 1, none⟩ = false := by subst hWW; go_simp
  have ltR : w.heap.size + 1 + 1 < w0.heap.size := by subst hWW; simp
  have hB := hbx
  clear hbx hWW
  refine (sub_less _ _ _ _ _ _ _ _ _ HX.out HY.out hc).mono ?_
  rintro e w1x ⟨rfl, hb⟩
  replace cA0 := bc hb ltA cA0
  replace cA1 := bc hb ltA cA1
  replace ltA := bl hb ltA
  replace cB0 := bc hb ltB cB0
  replace cB1 := bc hb ltB cB1
  replace ltB := bl hb ltB
  replace cR0 := bc hb ltR cR0
  replace fR0 := bf hb ltR fR0
  replace cR1 := bc hb ltR cR1
  replace fR1 := bf hb ltR fR1
  replace ltR := bl hb ltR
  replace HX := Lib.hid (HX.out.below hb)
  replace HY := Lib.hid (HY.out.below hb)
  replace hB := hB.trans (hb.mono hB.size)
  clear hb
  go_wp2_with fail
  refine (sub_new _ _ _ _ _ _ _ _ _ HY.out HX.out (by omega) (by omega)).mono ?_
  rintro e w1 ⟨v1, rfl, hv1, hb⟩
  replace cA0 := bc hb ltA cA0
  replace cA1 := bc hb ltA cA1
  replace ltA := bl hb ltA
  replace cB0 := bc hb ltB cB0
  replace cB1 := bc hb ltB cB1
  replace ltB := bl hb ltB
  replace cR0 := bc hb ltR cR0
  replace fR0 := bf hb ltR fR0
  replace cR1 := bc hb ltR cR1
  replace fR1 := bf hb ltR fR1
  replace ltR := bl hb ltR
  replace HX := Lib.hid (HX.out.below hb)
  replace HY := Lib.hid (HY.out.below hb)
  replace hB := hB.trans (hb.mono hB.size)
  have HV := Lib.hid hv1.1
  clear hv1
  clear hb
  go_wp2_with fail
  have hs1 := ltR
  refine (imake_num neg2 _ _ _ HV.out (by have h9 := digs_len_le' (Nat.sub_le (natOf xs2) (natOf xs)); omega)).mono ?_
  rintro e w2 ⟨v2, rfl, hv2, hb⟩
  replace cA0 := bc hb ltA cA0
  replace cA1 := bc hb ltA cA1
  replace ltA := bl hb ltA
  replace cB0 := bc hb ltB cB0
  replace cB1 := bc hb ltB cB1
  replace ltB := bl hb ltB
  replace cR0 := bc hb ltR cR0
  replace fR0 := bf hb ltR fR0
  replace cR1 := bc hb ltR cR1
  replace fR1 := bf hb ltR fR1
  replace ltR := bl hb ltR
  replace HX := Lib.hid (HX.out.below hb)
  replace HY := Lib.hid (HY.out.below hb)
  replace HV := Lib.hid (HV.out.below hb)
  replace hB := hB.trans (hb.mono hB.size)
  rw [HZ.out] at hv2
  obtain ⟨a5, n5, c5, rfl, h3, h4⟩ := hv2
  have HFin := Lib.hid (int_store (B := w1.heap.size) (B' := w.heap.size) (g := w.heap.size + 1 + 1) ⟨a5, n5, c5, rfl, h3, h4⟩ hs1 (by omega))
  clear h3 h4
  generalize decide (sgn neg (natOf xs) + sgn neg2 (natOf xs2) < 0) = dn at *
  clear hb
  go_wp2_with fail
  exact bodyPost_ret (v := .agg #[.bool dn, .slice a5 n5 c5]) (by simp [results, Tryz.results51, go_sem, cR0, cR1]) rfl ⟨_, rfl, HFin.out, (hB.setCell (p := ⟨w.heap.size + 1 + 1, 0, none⟩) (by simp <;> omega) _).setCell (p := ⟨w.heap.size + 1 + 1, 1, none⟩) (by simp <;> omega) _⟩

theorem iadd_any (v u : Value) (y z : Int) (L : Nat) (w : World) (hv : IntR w v y L) (hu : IntR w u z L) (hm : (L + 1) * 4 ≤ 140737488355328) :
    Calls Tryz.prog 51 #[v, u] w fun e w' => ∃ r, e = .returned r ∧ IntN w.heap.size w' r (y + z) ∧ Below w.heap.size w w' := by
  obtain ⟨neg, a, len, cap, xs, rfl, hl, rfl, hlL⟩ := hv
  obtain ⟨neg2, a2, len2, cap2, xs2, rfl, hl2, rfl, hlL2⟩ := hu
  cases hs : neg == neg2
  · rcases Nat.lt_or_ge (natOf xs) (natOf xs2) with h | h
    · exact iadd_lt neg neg2 xs xs2 a a2 len cap len2 cap2 L w hl hl2 hlL hlL2 hm hs h
    · exact iadd_ge neg neg2 xs xs2 a a2 len cap len2 cap2 L w hl hl2 hlL hlL2 hm hs h
  · exact iadd_same neg neg2 xs xs2 a a2 len cap len2 cap2 L w hl hl2 hlL hlL2 hm hs

end Go.Proofs.YtahmndacoanfiaaGreat
