/- Equating: what the reference's Score returns. No condition but the reach. · Equating: what the reference's Table returns. No condition but the reach. -/
import Derived.Test.YtahmndacoanfiaaGreatRQU
import Derived.Test.YtahmndacoanfiaaGreatEqV
namespace Go.Proofs.YtahmndacoanfiaaGreat
set_option maxRecDepth 100000
open Go.RowKit

set_option maxHeartbeats 2000000 in
theorem rscore_f (f g : List Int) (a : Option Addr) (len cap : Nat) (a2 : Option Addr) (len2 cap2 : Nat) (x : Int) (w : World) (hI : Ints w a len cap f) (hI2 : Ints w a2 len2 cap2 g) (hE : eqE f ≠ 0) :
    Calls Tryz.prog 15 #[.slice a len cap, .slice a2 len2 cap2, .int .i64 x] w fun e w' => ∃ v, e = .returned (.tuple #[v, .int .i64 (eqE f)]) ∧ RatN w.heap.size w' v 0 ∧ Below w.heap.size w w' := by
  have HI := Lib.hid hI
  have HI2 := Lib.hid hI2
  have HN := Lib.hid hI.1
  have hlm : len ≤ 9223372036854775807 := by have h1 := hI.2.1; have h2 := hI.2.2.1; unfold maxLen at h2; omega
  clear hI hI2
  have hz : (eqE f == 0) = false := by simpa using hE
  clear hE
  generalize hef : eqE f = ef at *
  have HEF := Lib.hid hef
  clear hef
  go_enter Tryz.func15, Tryz.ntmps15
  go_wp2_with fail
  have hbx : Below w.heap.size w (w.alloc (.cells #[.bool false, .slice none 0 0, .slice none 0 0] 28)) := ((Below.refl _ _).alloc (Nat.le_refl _) _)
  generalize hWW : (w.alloc (.cells #[.bool false, .slice none 0 0, .slice none 0 0] 28)) = w0 at *
  replace HI := Lib.hid (HI.out.below hbx)
  replace HI2 := Lib.hid (HI2.out.below hbx)
  have cR0 : w0.cell? ⟨w.heap.size, 0, none⟩ = some (.bool false) := by subst hWW; go_simp
  have fR0 : w0.frozen? ⟨w.heap.size, 0, none⟩ = false := by subst hWW; go_simp
  have cR1 : w0.cell? ⟨w.heap.size, 1, none⟩ = some (.slice none 0 0) := by subst hWW; go_simp
  have fR1 : w0.frozen? ⟨w.heap.size, 1, none⟩ = false := by subst hWW; go_simp
  have cR2 : w0.cell? ⟨w.heap.size, 2, none⟩ = some (.slice none 0 0) := by subst hWW; go_simp
  have fR2 : w0.frozen? ⟨w.heap.size, 2, none⟩ = false := by subst hWW; go_simp
  have ltR : w.heap.size < w0.heap.size := by subst hWW; simp
  have hB := hbx
  clear hbx hWW
  refine (rvalid46_any f a len cap _ HI.out).mono ?_
  rintro e w1 ⟨rfl, hb⟩
  replace cR0 := bc hb ltR cR0
  replace fR0 := bf hb ltR fR0
  replace cR1 := bc hb ltR cR1
  replace fR1 := bf hb ltR fR1
  replace cR2 := bc hb ltR cR2
  replace fR2 := bf hb ltR fR2
  replace ltR := bl hb ltR
  replace HI := Lib.hid (HI.out.below hb)
  replace HI2 := Lib.hid (HI2.out.below hb)
  replace hB := hB.trans (hb.mono hB.size)
  rw [HEF.out]
  clear hb
  go_wp2_with fail
  have hs1 := ltR
  refine (rfrac_any 0 1 0 _ (by omega) (by omega) (by omega) (by omega) (by omega) (by kernel_rfl)).mono ?_
  rintro e w5 ⟨v5, rfl, hv, hsz, hb⟩
  replace cR0 := bc hb ltR cR0
  replace fR0 := bf hb ltR fR0
  replace cR1 := bc hb ltR cR1
  replace fR1 := bf hb ltR fR1
  replace cR2 := bc hb ltR cR2
  replace fR2 := bf hb ltR fR2
  replace ltR := bl hb ltR
  replace HI := Lib.hid (HI.out.below hb)
  replace HI2 := Lib.hid (HI2.out.below hb)
  replace hB := hB.trans (hb.mono hB.size)
  clear hsz
  obtain ⟨p5', m5', q5', p5, m5, q5, rfl, h1, h2, h3, h4⟩ := hv
  have HFin := Lib.hid (rat_store (B := w1.heap.size) (B' := w.heap.size) (g := w.heap.size) (r := 0) ⟨p5', m5', q5', p5, m5, q5, rfl, h1, h2, h3, h4⟩ hs1 (by omega))
  clear h1 h2 h3 h4
  generalize decide ((0 : Rat).num < 0) = d5 at *
  clear hb
  go_wp2_with fail
  exact bodyPost_ret (v := .tuple #[.agg #[.bool d5, .slice p5' m5' q5', .slice p5 m5 q5], .int .i64 ef]) (by simp [results, Tryz.results15, go_sem, cR0, cR1, cR2]) rfl ⟨_, rfl, HFin.out, ((hB.setCell (p := ⟨w.heap.size, 0, none⟩) (by simp) _).setCell (p := ⟨w.heap.size, 1, none⟩) (by simp) _).setCell (p := ⟨w.heap.size, 2, none⟩) (by simp) _⟩
set_option maxHeartbeats 2000000 in
theorem rscore_g (f g : List Int) (a : Option Addr) (len cap : Nat) (a2 : Option Addr) (len2 cap2 : Nat) (x : Int) (w : World) (hI : Ints w a len cap f) (hI2 : Ints w a2 len2 cap2 g) (hO : OkF f) (hE : eqE g ≠ 0) :
    Calls Tryz.prog 15 #[.slice a len cap, .slice a2 len2 cap2, .int .i64 x] w fun e w' => ∃ v, e = .returned (.tuple #[v, .int .i64 (eqE g)]) ∧ RatN w.heap.size w' v 0 ∧ Below w.heap.size w w' := by
  have HI := Lib.hid hI
  have HI2 := Lib.hid hI2
  have HN := Lib.hid hI.1
  have hlm : len ≤ 9223372036854775807 := by have h1 := hI.2.1; have h2 := hI.2.2.1; unfold maxLen at h2; omega
  clear hI hI2
  have HO := Lib.hid (eqE_OkF.2 hO)
  clear hO
  have hz : (eqE g == 0) = false := by simpa using hE
  clear hE
  generalize hef : eqE g = ef at *
  have HEF := Lib.hid hef
  clear hef
  go_enter Tryz.func15, Tryz.ntmps15
  go_wp2_with fail
  have hbx : Below w.heap.size w (w.alloc (.cells #[.bool false, .slice none 0 0, .slice none 0 0] 28)) := ((Below.refl _ _).alloc (Nat.le_refl _) _)
  generalize hWW : (w.alloc (.cells #[.bool false, .slice none 0 0, .slice none 0 0] 28)) = w0 at *
  replace HI := Lib.hid (HI.out.below hbx)
  replace HI2 := Lib.hid (HI2.out.below hbx)
  have cR0 : w0.cell? ⟨w.heap.size, 0, none⟩ = some (.bool false) := by subst hWW; go_simp
  have fR0 : w0.frozen? ⟨w.heap.size, 0, none⟩ = false := by subst hWW; go_simp
  have cR1 : w0.cell? ⟨w.heap.size, 1, none⟩ = some (.slice none 0 0) := by subst hWW; go_simp
  have fR1 : w0.frozen? ⟨w.heap.size, 1, none⟩ = false := by subst hWW; go_simp
  have cR2 : w0.cell? ⟨w.heap.size, 2, none⟩ = some (.slice none 0 0) := by subst hWW; go_simp
  have fR2 : w0.frozen? ⟨w.heap.size, 2, none⟩ = false := by subst hWW; go_simp
  have ltR : w.heap.size < w0.heap.size := by subst hWW; simp
  have hB := hbx
  clear hbx hWW
  refine (rvalid46_any f a len cap _ HI.out).mono ?_
  rintro e w1 ⟨rfl, hb⟩
  replace cR0 := bc hb ltR cR0
  replace fR0 := bf hb ltR fR0
  replace cR1 := bc hb ltR cR1
  replace fR1 := bf hb ltR fR1
  replace cR2 := bc hb ltR cR2
  replace fR2 := bf hb ltR fR2
  replace ltR := bl hb ltR
  replace HI := Lib.hid (HI.out.below hb)
  replace HI2 := Lib.hid (HI2.out.below hb)
  replace hB := hB.trans (hb.mono hB.size)
  rw [HO.out]
  clear hb
  go_wp2_with fail
  refine (rvalid46_any g a2 len2 cap2 _ HI2.out).mono ?_
  rintro e w2 ⟨rfl, hb⟩
  replace cR0 := bc hb ltR cR0
  replace fR0 := bf hb ltR fR0
  replace cR1 := bc hb ltR cR1
  replace fR1 := bf hb ltR fR1
  replace cR2 := bc hb ltR cR2
  replace fR2 := bf hb ltR fR2
  replace ltR := bl hb ltR
  replace HI := Lib.hid (HI.out.below hb)
  replace HI2 := Lib.hid (HI2.out.below hb)
  replace hB := hB.trans (hb.mono hB.size)
  rw [HEF.out]
  clear hb
  go_wp2_with fail
  have hs1 := ltR
  refine (rfrac_any 0 1 0 _ (by omega) (by omega) (by omega) (by omega) (by omega) (by kernel_rfl)).mono ?_
  rintro e w5 ⟨v5, rfl, hv, hsz, hb⟩
  replace cR0 := bc hb ltR cR0
  replace fR0 := bf hb ltR fR0
  replace cR1 := bc hb ltR cR1
  replace fR1 := bf hb ltR fR1
  replace cR2 := bc hb ltR cR2
  replace fR2 := bf hb ltR fR2
  replace ltR := bl hb ltR
  replace HI := Lib.hid (HI.out.below hb)
  replace HI2 := Lib.hid (HI2.out.below hb)
  replace hB := hB.trans (hb.mono hB.size)
  clear hsz
  obtain ⟨p5', m5', q5', p5, m5, q5, rfl, h1, h2, h3, h4⟩ := hv
  have HFin := Lib.hid (rat_store (B := w2.heap.size) (B' := w.heap.size) (g := w.heap.size) (r := 0) ⟨p5', m5', q5', p5, m5, q5, rfl, h1, h2, h3, h4⟩ hs1 (by omega))
  clear h1 h2 h3 h4
  generalize decide ((0 : Rat).num < 0) = d5 at *
  clear hb
  go_wp2_with fail
  exact bodyPost_ret (v := .tuple #[.agg #[.bool d5, .slice p5' m5' q5', .slice p5 m5 q5], .int .i64 ef]) (by simp [results, Tryz.results15, go_sem, cR0, cR1, cR2]) rfl ⟨_, rfl, HFin.out, ((hB.setCell (p := ⟨w.heap.size, 0, none⟩) (by simp) _).setCell (p := ⟨w.heap.size, 1, none⟩) (by simp) _).setCell (p := ⟨w.heap.size, 2, none⟩) (by simp) _⟩
set_option maxHeartbeats 2000000 in
theorem rscore_neg (f g : List Int) (a : Option Addr) (len cap : Nat) (a2 : Option Addr) (len2 cap2 : Nat) (x : Int) (w : World) (hI : Ints w a len cap f) (hI2 : Ints w a2 len2 cap2 g) (hO : OkF f) (hO2 : OkF g) (hx : x < 0) :
    Calls Tryz.prog 15 #[.slice a len cap, .slice a2 len2 cap2, .int .i64 x] w fun e w' => ∃ v, e = .returned (.tuple #[v, .int .i64 3]) ∧ RatN w.heap.size w' v 0 ∧ Below w.heap.size w w' := by
  have HI := Lib.hid hI
  have HI2 := Lib.hid hI2
  have HN := Lib.hid hI.1
  have hlm : len ≤ 9223372036854775807 := by have h1 := hI.2.1; have h2 := hI.2.2.1; unfold maxLen at h2; omega
  clear hI hI2
  have HO := Lib.hid (eqE_OkF.2 hO)
  have HO2 := Lib.hid (eqE_OkF.2 hO2)
  have d0 : decide (x < 0) = true := by simpa using hx
  clear hO hO2
  go_enter Tryz.func15, Tryz.ntmps15
  go_wp2_with fail
  have hbx : Below w.heap.size w (w.alloc (.cells #[.bool false, .slice none 0 0, .slice none 0 0] 28)) := ((Below.refl _ _).alloc (Nat.le_refl _) _)
  generalize hWW : (w.alloc (.cells #[.bool false, .slice none 0 0, .slice none 0 0] 28)) = w0 at *
  replace HI := Lib.hid (HI.out.below hbx)
  replace HI2 := Lib.hid (HI2.out.below hbx)
  have cR0 : w0.cell? ⟨w.heap.size, 0, none⟩ = some (.bool false) := by subst hWW; go_simp
  have fR0 : w0.frozen? ⟨w.heap.size, 0, none⟩ = false := by subst hWW; go_simp
  have cR1 : w0.cell? ⟨w.heap.size, 1, none⟩ = some (.slice none 0 0) := by subst hWW; go_simp
  have fR1 : w0.frozen? ⟨w.heap.size, 1, none⟩ = false := by subst hWW; go_simp
  have cR2 : w0.cell? ⟨w.heap.size, 2, none⟩ = some (.slice none 0 0) := by subst hWW; go_simp
  have fR2 : w0.frozen? ⟨w.heap.size, 2, none⟩ = false := by subst hWW; go_simp
  have ltR : w.heap.size < w0.heap.size := by subst hWW; simp
  have hB := hbx
  clear hbx hWW
  refine (rvalid46_any f a len cap _ HI.out).mono ?_
  rintro e w1 ⟨rfl, hb⟩
  replace cR0 := bc hb ltR cR0
  replace fR0 := bf hb ltR fR0
  replace cR1 := bc hb ltR cR1
  replace fR1 := bf hb ltR fR1
  replace cR2 := bc hb ltR cR2
  replace fR2 := bf hb ltR fR2
  replace ltR := bl hb ltR
  replace HI := Lib.hid (HI.out.below hb)
  replace HI2 := Lib.hid (HI2.out.below hb)
  replace hB := hB.trans (hb.mono hB.size)
  rw [HO.out]
  clear hb
  go_wp2_with fail
  refine (rvalid46_any g a2 len2 cap2 _ HI2.out).mono ?_
  rintro e w2 ⟨rfl, hb⟩
  replace cR0 := bc hb ltR cR0
  replace fR0 := bf hb ltR fR0
  replace cR1 := bc hb ltR cR1
  replace fR1 := bf hb ltR fR1
  replace cR2 := bc hb ltR cR2
  replace fR2 := bf hb ltR fR2
  replace ltR := bl hb ltR
  replace HI := Lib.hid (HI.out.below hb)
  replace HI2 := Lib.hid (HI2.out.below hb)
  replace hB := hB.trans (hb.mono hB.size)
  rw [HO2.out]
  clear hb
  go_wp2_with fail
  have hs1 := ltR
  refine (rfrac_any 0 1 0 _ (by omega) (by omega) (by omega) (by omega) (by omega) (by kernel_rfl)).mono ?_
  rintro e w5 ⟨v5, rfl, hv, hsz, hb⟩
  replace cR0 := bc hb ltR cR0
  replace fR0 := bf hb ltR fR0
  replace cR1 := bc hb ltR cR1
  replace fR1 := bf hb ltR fR1
  replace cR2 := bc hb ltR cR2
  replace fR2 := bf hb ltR fR2
  replace ltR := bl hb ltR
  replace HI := Lib.hid (HI.out.below hb)
  replace HI2 := Lib.hid (HI2.out.below hb)
  replace hB := hB.trans (hb.mono hB.size)
  clear hsz
  obtain ⟨p5', m5', q5', p5, m5, q5, rfl, h1, h2, h3, h4⟩ := hv
  have HFin := Lib.hid (rat_store (B := w2.heap.size) (B' := w.heap.size) (g := w.heap.size) (r := 0) ⟨p5', m5', q5', p5, m5, q5, rfl, h1, h2, h3, h4⟩ hs1 (by omega))
  clear h1 h2 h3 h4
  generalize decide ((0 : Rat).num < 0) = d5 at *
  clear hb
  go_wp2_with fail
  exact bodyPost_ret (v := .tuple #[.agg #[.bool d5, .slice p5' m5' q5', .slice p5 m5 q5], .int .i64 3]) (by simp [results, Tryz.results15, go_sem, cR0, cR1, cR2]) rfl ⟨_, rfl, HFin.out, ((hB.setCell (p := ⟨w.heap.size, 0, none⟩) (by simp) _).setCell (p := ⟨w.heap.size, 1, none⟩) (by simp) _).setCell (p := ⟨w.heap.size, 2, none⟩) (by simp) _⟩
set_option maxHeartbeats 2000000 in
theorem rscore_big (f g : List Int) (a : Option Addr) (len cap : Nat) (a2 : Option Addr) (len2 cap2 : Nat) (x : Int) (w : World) (hI : Ints w a len cap f) (hI2 : Ints w a2 len2 cap2 g) (hO : OkF f) (hO2 : OkF g) (hx : 0 ≤ x) (hx2 : (len : Int) ≤ x) :
    Calls Tryz.prog 15 #[.slice a len cap, .slice a2 len2 cap2, .int .i64 x] w fun e w' => ∃ v, e = .returned (.tuple #[v, .int .i64 3]) ∧ RatN w.heap.size w' v 0 ∧ Below w.heap.size w w' := by
  have HI := Lib.hid hI
  have HI2 := Lib.hid hI2
  have HN := Lib.hid hI.1
  have hlm : len ≤ 9223372036854775807 := by have h1 := hI.2.1; have h2 := hI.2.2.1; unfold maxLen at h2; omega
  clear hI hI2
  have HO := Lib.hid (eqE_OkF.2 hO)
  have HO2 := Lib.hid (eqE_OkF.2 hO2)
  have d0 : decide (x < 0) = false := by simp; omega
  have d1 : decide ((len : Int) ≤ x) = true := by simpa using hx2
  clear hO hO2
  go_enter Tryz.func15, Tryz.ntmps15
  go_wp2_with fail
  have hbx : Below w.heap.size w (w.alloc (.cells #[.bool false, .slice none 0 0, .slice none 0 0] 28)) := ((Below.refl _ _).alloc (Nat.le_refl _) _)
  generalize hWW : (w.alloc (.cells #[.bool false, .slice none 0 0, .slice none 0 0] 28)) = w0 at *
  replace HI := Lib.hid (HI.out.below hbx)
  replace HI2 := Lib.hid (HI2.out.below hbx)
  have cR0 : w0.cell? ⟨w.heap.size, 0, none⟩ = some (.bool false) := by subst hWW; go_simp
  have fR0 : w0.frozen? ⟨w.heap.size, 0, none⟩ = false := by subst hWW; go_simp
  have cR1 : w0.cell? ⟨w.heap.size, 1, none⟩ = some (.slice none 0 0) := by subst hWW; go_simp
  have fR1 : w0.frozen? ⟨w.heap.size, 1, none⟩ = false := by subst hWW; go_simp
  have cR2 : w0.cell? ⟨w.heap.size, 2, none⟩ = some (.slice none 0 0) := by subst hWW; go_simp
  have fR2 : w0.frozen? ⟨w.heap.size, 2, none⟩ = false := by subst hWW; go_simp
  have ltR : w.heap.size < w0.heap.size := by subst hWW; simp
  have hB := hbx
  clear hbx hWW
  refine (rvalid46_any f a len cap _ HI.out).mono ?_
  rintro e w1 ⟨rfl, hb⟩
  replace cR0 := bc hb ltR cR0
  replace fR0 := bf hb ltR fR0
  replace cR1 := bc hb ltR cR1
  replace fR1 := bf hb ltR fR1
  replace cR2 := bc hb ltR cR2
  replace fR2 := bf hb ltR fR2
  replace ltR := bl hb ltR
  replace HI := Lib.hid (HI.out.below hb)
  replace HI2 := Lib.hid (HI2.out.below hb)
  replace hB := hB.trans (hb.mono hB.size)
  rw [HO.out]
  clear hb
  go_wp2_with fail
  refine (rvalid46_any g a2 len2 cap2 _ HI2.out).mono ?_
  rintro e w2 ⟨rfl, hb⟩
  replace cR0 := bc hb ltR cR0
  replace fR0 := bf hb ltR fR0
  replace cR1 := bc hb ltR cR1
  replace fR1 := bf hb ltR fR1
  replace cR2 := bc hb ltR cR2
  replace fR2 := bf hb ltR fR2
  replace ltR := bl hb ltR
  replace HI := Lib.hid (HI.out.below hb)
  replace HI2 := Lib.hid (HI2.out.below hb)
  replace hB := hB.trans (hb.mono hB.size)
  rw [HO2.out]
  clear hb
  go_wp2_with fail
  have hs1 := ltR
  refine (rfrac_any 0 1 0 _ (by omega) (by omega) (by omega) (by omega) (by omega) (by kernel_rfl)).mono ?_
  rintro e w5 ⟨v5, rfl, hv, hsz, hb⟩
  replace cR0 := bc hb ltR cR0
  replace fR0 := bf hb ltR fR0
  replace cR1 := bc hb ltR cR1
  replace fR1 := bf hb ltR fR1
  replace cR2 := bc hb ltR cR2
  replace fR2 := bf hb ltR fR2
  replace ltR := bl hb ltR
  replace HI := Lib.hid (HI.out.below hb)
  replace HI2 := Lib.hid (HI2.out.below hb)
  replace hB := hB.trans (hb.mono hB.size)
  clear hsz
  obtain ⟨p5', m5', q5', p5, m5, q5, rfl, h1, h2, h3, h4⟩ := hv
  have HFin := Lib.hid (rat_store (B := w2.heap.size) (B' := w.heap.size) (g := w.heap.size) (r := 0) ⟨p5', m5', q5', p5, m5, q5, rfl, h1, h2, h3, h4⟩ hs1 (by omega))
  clear h1 h2 h3 h4
  generalize decide ((0 : Rat).num < 0) = d5 at *
  clear hb
  go_wp2_with fail
  exact bodyPost_ret (v := .tuple #[.agg #[.bool d5, .slice p5' m5' q5', .slice p5 m5 q5], .int .i64 3]) (by simp [results, Tryz.results15, go_sem, cR0, cR1, cR2]) rfl ⟨_, rfl, HFin.out, ((hB.setCell (p := ⟨w.heap.size, 0, none⟩) (by simp) _).setCell (p := ⟨w.heap.size, 1, none⟩) (by simp) _).setCell (p := ⟨w.heap.size, 2, none⟩) (by simp) _⟩
set_option maxHeartbeats 4000000 in
theorem rscore_any (f g : List Int) (a : Option Addr) (len cap : Nat) (a2 : Option Addr) (len2 cap2 : Nat) (k : Nat) (w : World) (hI : Ints w a len cap f) (hI2 : Ints w a2 len2 cap2 g) (hO : OkF f) (hO2 : OkF g) (hk : k < len) :
    Calls Tryz.prog 15 #[.slice a len cap, .slice a2 len2 cap2, .int .i64 (k : Int)] w fun e w' => ∃ v, e = .returned (.tuple #[v, .int .i64 0]) ∧ RatN w.heap.size w' v (scoreR f g k) ∧ Rsz (scoreR f g k) 28 ∧ Below w.heap.size w w' := by
  have HI := Lib.hid hI
  have HI2 := Lib.hid hI2
  have HN := Lib.hid hI.1
  have hlm : len ≤ 9223372036854775807 := by have h1 := hI.2.1; have h2 := hI.2.2.1; unfold maxLen at h2; omega
  clear hI hI2
  have HO := Lib.hid (eqE_OkF.2 hO)
  have HO2 := Lib.hid (eqE_OkF.2 hO2)
  have HF := Lib.hid hO
  have HF2 := Lib.hid hO2
  have hl61 : len ≤ 61 := by rw [← HN.out]; exact hO.1
  have d0 : decide ((k : Int) < 0) = false := by simp
  have d1 : decide ((len : Int) ≤ (k : Int)) = false := by simp; omega
  clear hO hO2
  go_enter Tryz.func15, Tryz.ntmps15
  go_wp2_with fail
  have hbx : Below w.heap.size w (w.alloc (.cells #[.bool false, .slice none 0 0, .slice none 0 0] 28)) := ((Below.refl _ _).alloc (Nat.le_refl _) _)
  generalize hWW : (w.alloc (.cells #[.bool false, .slice none 0 0, .slice none 0 0] 28)) = w0 at *
  replace HI := Lib.hid (HI.out.below hbx)
  replace HI2 := Lib.hid (HI2.out.below hbx)
  have cR0 : w0.cell? ⟨w.heap.size, 0, none⟩ = some (.bool false) := by subst hWW; go_simp
  have fR0 : w0.frozen? ⟨w.heap.size, 0, none⟩ = false := by subst hWW; go_simp
  have cR1 : w0.cell? ⟨w.heap.size, 1, none⟩ = some (.slice none 0 0) := by subst hWW; go_simp
  have fR1 : w0.frozen? ⟨w.heap.size, 1, none⟩ = false := by subst hWW; go_simp
  have cR2 : w0.cell? ⟨w.heap.size, 2, none⟩ = some (.slice none 0 0) := by subst hWW; go_simp
  have fR2 : w0.frozen? ⟨w.heap.size, 2, none⟩ = false := by subst hWW; go_simp
  have ltR : w.heap.size < w0.heap.size := by subst hWW; simp
  have hB := hbx
  clear hbx hWW
  refine (rvalid46_any f a len cap _ HI.out).mono ?_
  rintro e w1 ⟨rfl, hb⟩
  replace cR0 := bc hb ltR cR0
  replace fR0 := bf hb ltR fR0
  replace cR1 := bc hb ltR cR1
  replace fR1 := bf hb ltR fR1
  replace cR2 := bc hb ltR cR2
  replace fR2 := bf hb ltR fR2
  replace ltR := bl hb ltR
  replace HI := Lib.hid (HI.out.below hb)
  replace HI2 := Lib.hid (HI2.out.below hb)
  replace hB := hB.trans (hb.mono hB.size)
  rw [HO.out]
  clear hb
  go_wp2_with fail
  refine (rvalid46_any g a2 len2 cap2 _ HI2.out).mono ?_
  rintro e w2 ⟨rfl, hb⟩
  replace cR0 := bc hb ltR cR0
  replace fR0 := bf hb ltR fR0
  replace cR1 := bc hb ltR cR1
  replace fR1 := bf hb ltR fR1
  replace cR2 := bc hb ltR cR2
  replace fR2 := bf hb ltR fR2
  replace ltR := bl hb ltR
  replace HI := Lib.hid (HI.out.below hb)
  replace HI2 := Lib.hid (HI2.out.below hb)
  replace hB := hB.trans (hb.mono hB.size)
  rw [HO2.out]
  clear hb
  go_wp2_with fail
  refine (rfrac_any (k : Int) 1 (k : Rat) _ (by omega) (by omega) (by omega) (by omega) (by omega) (by rw [rat_whole, Rat.intCast_natCast])).mono ?_
  rintro e w3 ⟨v3, rfl, hv, hsz, hb⟩
  replace cR0 := bc hb ltR cR0
  replace fR0 := bf hb ltR fR0
  replace cR1 := bc hb ltR cR1
  replace fR1 := bf hb ltR fR1
  replace cR2 := bc hb ltR cR2
  replace fR2 := bf hb ltR fR2
  replace ltR := bl hb ltR
  replace HI := Lib.hid (HI.out.below hb)
  replace HI2 := Lib.hid (HI2.out.below hb)
  replace hB := hB.trans (hb.mono hB.size)
  have HV3 := Lib.hid (hv.raw hsz)
  clear hv hsz
  clear hb
  go_wp2_with fail
  refine (rrank_any f a len cap _ (k : Rat) 2 _ HI.out HV3.out (by omega) (by omega) HF.out).mono ?_
  rintro e w4 ⟨v4, rfl, hv, hsz, hb⟩
  replace cR0 := bc hb ltR cR0
  replace fR0 := bf hb ltR fR0
  replace cR1 := bc hb ltR cR1
  replace fR1 := bf hb ltR fR1
  replace cR2 := bc hb ltR cR2
  replace fR2 := bf hb ltR fR2
  replace ltR := bl hb ltR
  replace HI := Lib.hid (HI.out.below hb)
  replace HI2 := Lib.hid (HI2.out.below hb)
  replace HV3 := Lib.hid (HV3.out.below hb)
  replace hB := hB.trans (hb.mono hB.size)
  have HIn := Lib.hid (rank_in HF.out (k : Rat))
  have HV4 := Lib.hid (hv.raw hsz)
  obtain ⟨p4', m4', q4', p4, m4, q4, rfl, -, -, -, -⟩ := hv
  clear hsz
  generalize decide ((rankR f (k : Rat) : Rat).num < 0) = d4 at *
  clear hb
  clear HV3
  go_wp2_with fail
  have hbx : Below w4.heap.size w4 (w4.alloc (.cells #[.bool d4, .slice p4' m4' q4', .slice p4 m4 q4] 28)) := ((Below.refl _ _).alloc (Nat.le_refl _) _)
  generalize hWW : (w4.alloc (.cells #[.bool d4, .slice p4' m4' q4', .slice p4 m4 q4] 28)) = w4a at *
  replace cR0 := bc hbx ltR cR0
  replace fR0 := bf hbx ltR fR0
  replace cR1 := bc hbx ltR cR1
  replace fR1 := bf hbx ltR fR1
  replace cR2 := bc hbx ltR cR2
  replace fR2 := bf hbx ltR fR2
  replace ltR := bl hbx ltR
  replace HI := Lib.hid (HI.out.below hbx)
  replace HI2 := Lib.hid (HI2.out.below hbx)
  replace HV4 := Lib.hid (HV4.out.below hbx)
  have cY0 : w4a.cell? ⟨w4.heap.size, 0, none⟩ = some (.bool d4) := by subst hWW; go_simp
  have cY1 : w4a.cell? ⟨w4.heap.size, 1, none⟩ = some (.slice p4' m4' q4') := by subst hWW; go_simp
  have cY2 : w4a.cell? ⟨w4.heap.size, 2, none⟩ = some (.slice p4 m4 q4) := by subst hWW; go_simp
  have ltY : w4.heap.size < w4a.heap.size := by subst hWW; simp
  replace hB := hB.trans (hbx.mono hB.size)
  clear hbx hWW
  have hs1 := ltR
  refine (rinv_any g a2 len2 cap2 _ (rankR f (k : Rat)) (2 + 13) _ HI2.out HV4.out (by omega) (by omega) HF2.out HIn.out.1 HIn.out.2).mono ?_
  rintro e w5 ⟨v5, rfl, hv, hsz, hb⟩
  replace cR0 := bc hb ltR cR0
  replace fR0 := bf hb ltR fR0
  replace cR1 := bc hb ltR cR1
  replace fR1 := bf hb ltR fR1
  replace cR2 := bc hb ltR cR2
  replace fR2 := bf hb ltR fR2
  replace ltR := bl hb ltR
  replace cY0 := bc hb ltY cY0
  replace cY1 := bc hb ltY cY1
  replace cY2 := bc hb ltY cY2
  replace ltY := bl hb ltY
  replace HI := Lib.hid (HI.out.below hb)
  replace HI2 := Lib.hid (HI2.out.below hb)
  replace HV4 := Lib.hid (HV4.out.below hb)
  replace hB := hB.trans (hb.mono hB.size)
  change RatN _ _ _ (scoreR f g k) at hv
  change Rsz (scoreR f g k) _ at hsz
  have HZ5 := Lib.hid (hsz.mono (show 2 + 13 + 13 ≤ 28 by omega))
  clear hsz
  obtain ⟨p5', m5', q5', p5, m5, q5, rfl, h1, h2, h3, h4⟩ := hv
  have HFin := Lib.hid (rat_store (B := w4a.heap.size) (B' := w.heap.size) (g := w.heap.size) (r := scoreR f g k) ⟨p5', m5', q5', p5, m5, q5, rfl, h1, h2, h3, h4⟩ hs1 (by omega))
  clear h1 h2 h3 h4
  generalize decide ((scoreR f g k : Rat).num < 0) = d5 at *
  clear hb
  go_wp2_with fail
  exact bodyPost_ret (v := .tuple #[.agg #[.bool d5, .slice p5' m5' q5', .slice p5 m5 q5], .int .i64 0]) (by simp [results, Tryz.results15, go_sem, cR0, cR1, cR2]) rfl ⟨_, rfl, HFin.out, HZ5.out, ((hB.setCell (p := ⟨w.heap.size, 0, none⟩) (by simp) _).setCell (p := ⟨w.heap.size, 1, none⟩) (by simp) _).setCell (p := ⟨w.heap.size, 2, none⟩) (by simp) _⟩

end Go.Proofs.YtahmndacoanfiaaGreat

namespace Go.Proofs.YtahmndacoanfiaaGreat
set_option maxRecDepth 100000
open Go.RowKit

/-- one of the three-cell fractions of a slice that grows: in lowest terms, its limbs not in the slice's own block -/
def RUi (w : World) (v : Value) (cs : List Value) (i : Nat) (r : Rat) : Prop := ∃ n a' l' c' a l c, cs.getD (i * 3) .nilFunc = .bool n ∧ cs.getD (i * 3 + 1) .nilFunc = .slice a' l' c' ∧ cs.getD (i * 3 + 2) .nilFunc = .slice a l c ∧
  RatN 0 w (.agg #[.bool n, .slice a' l' c', .slice a l c]) r ∧ Rsz r 28 ∧ ∀ g, v.ownBlock = some g → Off g (.slice a' l' c') ∧ Off g (.slice a l c)
/-- a slice of k fractions that grows -/
def RU (w : World) (B : Nat) (v : Value) (k : Nat) (rs : List Rat) : Prop := ∃ cs : List Value, OwnsK w B 28 3 v k cs ∧ cs.length = k * 3 ∧ ∀ i, i < k → RUi w v cs i (rs.getD i 0)
theorem RU.nil (w : World) (B : Nat) (rs : List Rat) : RU w B (.slice none 0 0) 0 rs := ⟨[], OwnsK.nil _ _ _ _, rfl, fun i hi => by omega⟩
theorem RU.later {w w' : World} {B k : Nat} {v : Value} {rs : List Rat} (h : RU w B v k rs) (hb : Below w.heap.size w w') : RU w' B v k rs := by
  obtain ⟨cs, h1, h2, h3⟩ := h
  refine ⟨cs, h1.later hb, h2, fun i hi => ?_⟩
  obtain ⟨n, a', l', c', a, l, c, e0, e1, e2, hX, hZ, ho⟩ := h3 i hi
  exact ⟨n, a', l', c', a, l, c, e0, e1, e2, hX.below hb, hZ, ho⟩
theorem RatN.grew {w w' : World} {v v' : Value} {n : Bool} {a' a : Option Addr} {l' c' l c : Nat} {r : Rat} (h : RatN 0 w (.agg #[.bool n, .slice a' l' c', .slice a l c]) r) (hg : Grew w w' v v') (ho : ∀ g, v.ownBlock = some g → Off g (.slice a' l' c') ∧ Off g (.slice a l c)) :
    RatN 0 w' (.agg #[.bool n, .slice a' l' c', .slice a l c]) r ∧ ∀ g, v'.ownBlock = some g → Off g (.slice a' l' c') ∧ Off g (.slice a l c) := by
  obtain ⟨x', m', k', x, m, k, e, h1, h2, h3, h4⟩ := h
  cases e
  refine ⟨⟨_, _, _, _, _, _, rfl, h1.grew hg (fun g hg => (ho g hg).1), h2, h3.grew hg (fun g hg => (ho g hg).2), h4⟩, fun g hv => ?_⟩
  rcases hg.2 with h5 | h5
  · exact ho g (by rw [← h5]; exact hv)
  · exact ⟨h1.offOld (h5 g hv), h3.offOld (h5 g hv)⟩
theorem RU.step {w w' : World} {B k : Nat} {v v' : Value} {rs : List Rat} {cs : List Value} {n : Bool} {a' a : Option Addr} {l' c' l c : Nat} (hl : cs.length = k * 3) (h3 : ∀ i, i < k → RUi w v cs i (rs.getD i 0))
    (hg : Grew w w' v v') (hO : OwnsK w' B 28 3 v' (k + 1) (cs ++ [.bool n, .slice a' l' c', .slice a l c])) (hX : RatN 0 w (.agg #[.bool n, .slice a' l' c', .slice a l c]) (rs.getD k 0)) (hZ : Rsz (rs.getD k 0) 28) (ho : ∀ g, v.ownBlock = some g → Off g (.slice a' l' c') ∧ Off g (.slice a l c)) : RU w' B v' (k + 1) rs := by
  refine ⟨_, hO, by simp [hl]; omega, fun i hi => ?_⟩
  have hget : ∀ j, j < k * 3 → (cs ++ [Value.bool n, .slice a' l' c', .slice a l c]).getD j .nilFunc = cs.getD j .nilFunc := fun j hj => by
    simp [List.getD, List.getElem?_append_left (by omega : j < cs.length)]
  have hget2 : ∀ j, (cs ++ [Value.bool n, .slice a' l' c', .slice a l c]).getD (k * 3 + j) .nilFunc = ([.bool n, .slice a' l' c', .slice a l c] : List Value).getD j .nilFunc := fun j => by
    simp only [List.getD]
    rw [List.getElem?_append_right (by omega), show k * 3 + j - cs.length = j by omega]
  by_cases hik : i < k
  · obtain ⟨n0, x', m', q', x, m, q, e0, e1, e2, hY, hS, hoo⟩ := h3 i hik
    obtain ⟨p1, p2⟩ := hY.grew hg hoo
    exact ⟨n0, x', m', q', x, m, q, by rw [hget _ (by omega)]; exact e0, by rw [hget _ (by omega)]; exact e1, by rw [hget _ (by omega)]; exact e2, p1, hS, p2⟩
  · obtain rfl : i = k := by omega
    obtain ⟨p1, p2⟩ := hX.grew hg ho
    exact ⟨n, a', l', c', a, l, c, hget2 0, hget2 1, hget2 2, p1, hZ, p2⟩
theorem RU.rats {w : World} {B n : Nat} {v : Value} {rs : List Rat} (h : RU w B v n rs) (hr : rs.length = n) : ∃ a c, v = .slice a n c ∧ RatsN w a n c rs 28 := by
  obtain ⟨cs, h1, h2, h3⟩ := h
  rcases h1.form with ⟨rfl, rfl, -⟩ | ⟨g, cap, rfl, hnc, hcm, -, hlt, hc, -⟩
  · exact ⟨none, 0, rfl, hr, Nat.le_refl _, by simp [maxLen], .inl rfl⟩
  · refine ⟨_, _, rfl, hr, hnc, hcm, .inr ⟨g, 0, rfl, hlt, fun i hi => ?_⟩⟩
    obtain ⟨n0, x', m', q', x, m, q, e0, e1, e2, hY, hS, -⟩ := h3 i hi
    rw [Nat.zero_add]
    exact ⟨n0, x', m', q', x, m, q, by rw [hc _ (by omega), e0], by rw [hc _ (by omega), e1], by rw [hc _ (by omega), e2], hY, hS⟩
set_option maxHeartbeats 2000000 in
theorem rtable_f (f : List Int) (a : Option Addr) (len cap : Nat) (a2 : Option Addr) (len2 cap2 : Nat) (w : World) (hI : Ints w a len cap f) (hE : eqE f ≠ 0) :
    Calls Tryz.prog 17 #[.slice a len cap, .slice a2 len2 cap2] w fun e w' => e = .returned (.tuple #[.slice none 0 0, .int .i64 (eqE f)]) ∧ Below w.heap.size w w' := by
  have HI := Lib.hid hI
  have hz : (eqE f == 0) = false := by simpa using hE
  clear hE hI
  generalize hef : eqE f = ef at *
  have HEF := Lib.hid hef
  clear hef
  go_enter Tryz.func17, Tryz.ntmps17
  go_wp2_with fail
  refine (rvalid46_any f a len cap _ HI.out).mono ?_
  rintro e w1 ⟨rfl, hb⟩
  rw [HEF.out]
  go_wp2_with fail
  go_ret2
  exact ⟨rfl, hb⟩
set_option maxHeartbeats 2000000 in
theorem rtable_g (f g : List Int) (a : Option Addr) (len cap : Nat) (a2 : Option Addr) (len2 cap2 : Nat) (w : World) (hI : Ints w a len cap f) (hI2 : Ints w a2 len2 cap2 g) (hO : OkF f) (hE : eqE g ≠ 0) :
    Calls Tryz.prog 17 #[.slice a len cap, .slice a2 len2 cap2] w fun e w' => e = .returned (.tuple #[.slice none 0 0, .int .i64 (eqE g)]) ∧ Below w.heap.size w w' := by
  have HI := Lib.hid hI
  have HI2 := Lib.hid hI2
  have HO := Lib.hid (eqE_OkF.2 hO)
  have hz : (eqE g == 0) = false := by simpa using hE
  clear hE hI hI2 hO
  generalize hef : eqE g = ef at *
  have HEF := Lib.hid hef
  clear hef
  go_enter Tryz.func17, Tryz.ntmps17
  go_wp2_with fail
  refine (rvalid46_any f a len cap _ HI.out).mono ?_
  rintro e w1 ⟨rfl, hb⟩
  rw [HO.out]
  go_wp2_with fail
  refine (rvalid46_any g a2 len2 cap2 _ (HI2.out.below hb)).mono ?_
  rintro e w2 ⟨rfl, hb2⟩
  rw [HEF.out]
  have HB2 := Lib.hid (hb.trans (hb2.mono hb.size))
  clear hb hb2
  go_wp2_with fail
  go_ret2
  exact ⟨rfl, HB2.out⟩
set_option maxHeartbeats 4000000 in
theorem rtable46_any (f g : List Int) (a : Option Addr) (len cap : Nat) (a2 : Option Addr) (len2 cap2 : Nat) (w : World) (hI : Ints w a len cap f) (hI2 : Ints w a2 len2 cap2 g) (hO : OkF f) (hO2 : OkF g) :
    Calls Tryz.prog 17 #[.slice a len cap, .slice a2 len2 cap2] w fun e w' => ∃ a' c', e = .returned (.tuple #[.slice a' len c', .int .i64 0]) ∧ RatsN w' a' len c' (tableL f g) 28 ∧ Below w.heap.size w w' := by
  have HI := Lib.hid hI
  have HI2 := Lib.hid hI2
  have HO := Lib.hid (eqE_OkF.2 hO)
  have HO2 := Lib.hid (eqE_OkF.2 hO2)
  have HF := Lib.hid hO
  have HF2 := Lib.hid hO2
  have HN := Lib.hid hI.1
  have hl61 : len ≤ 61 := by rw [← HN.out]; exact hO.1
  clear hI hI2 hO hO2
  go_enter Tryz.func17, Tryz.ntmps17
  go_wp2_with fail
  refine (rvalid46_any f a len cap _ HI.out).mono ?_
  rintro e w1 ⟨rfl, hb⟩
  rw [HO.out]
  go_wp2_with fail
  refine (rvalid46_any g a2 len2 cap2 _ (HI2.out.below hb)).mono ?_
  rintro e w2 ⟨rfl, hb2⟩
  rw [HO2.out]
  have HB2 := Lib.hid (hb.trans (hb2.mono hb.size))
  clear hb hb2
  go_wp2_with fail
  go_loopw [8, 24] (fun u i wr => ∃ k : Nat, k ≤ len ∧ i = .int .i64 k ∧ Hid (RU wr w.heap.size u k (tableL f g)) ∧ Hid (Below w.heap.size w wr)) (fun _ i _ => len - (intOf i).toNat)
  case atStart => exact ⟨0, by omega, rfl, Lib.hid (RU.nil _ _ _), HB2⟩
  case round =>
    clear HB2
    obtain ⟨k, hk, rfl, HT, HB⟩ := hrel
    by_cases hlt : k < len
    · have HTl := Lib.hid (tableL_at f g (k := k) (by rw [HN.out]; exact hlt))
      go_wp2_with fail
      refine (rscore_any f g a len cap a2 len2 cap2 k wr (HI.out.below HB.out) (HI2.out.below HB.out) HF.out HF2.out hlt).mono ?_
      rintro e w3 ⟨v3, rfl, hv, hsz, hb⟩
      obtain ⟨cs, hO, hcl, hU⟩ := HT.out.later hb
      have hoff : ∀ q, u8.ownBlock = some q → q < wr.heap.size := fun q hq => by
        obtain ⟨cs0, hO0, -, -⟩ := HT.out
        exact hO0.in q hq
      obtain ⟨x', l', k', x, l, kk, rfl, h1, h2, h3, h4⟩ := hv
      have hX : RatN 0 w3 (.agg #[.bool (decide ((scoreR f g k).num < 0)), .slice x' l' k', .slice x l kk]) (scoreR f g k) := ⟨_, _, _, _, _, _, rfl, h1, h2.mono (Nat.zero_le _), h3, h4.mono (Nat.zero_le _)⟩
      have HOf := Lib.hid (show ∀ q, u8.ownBlock = some q → Off q (.slice x' l' k') ∧ Off q (.slice x l kk) from fun q hq => ⟨h2.off (hoff q hq), h4.off (hoff q hq)⟩)
      generalize decide ((scoreR f g k).num < 0) = dd at *
      rw [← HTl.out] at hX hsz
      have hba : Below w3.heap.size w3 (w3.alloc (.cells #[.bool dd, .slice x' l' k', .slice x l kk] 28)) := (Below.refl _ _).alloc (Nat.le_refl _) _
      have HX := Lib.hid (hX.below hba)
      have HZ := Lib.hid hsz
      have HOw := Lib.hid (hO.later hba)
      have HCl := Lib.hid hcl
      have HUi := Lib.hid (show ∀ i, i < k → RUi (w3.alloc (.cells #[.bool dd, .slice x' l' k', .slice x l kk] 28)) u8 cs i ((tableL f g).getD i 0) from fun i hi => by
        obtain ⟨n, y', m', c', y, m, c, e0, e1, e2, hY, hS, ho⟩ := hU i hi
        exact ⟨n, y', m', c', y, m, c, e0, e1, e2, hY.below hba, hS, ho⟩)
      have HB3 := Lib.hid (HB.out.trans ((hb.trans (hba.mono hb.size)).mono HB.out.size))
      have HLt := Lib.hid hO.lt
      have HNl := Lib.hid (show (k + 1) * 56 ≤ 140737488355328 ∧ k + 1 ≤ maxLen by simp only [maxLen]; omega)
      have hsz3 := HB3.out.size
      clear hX hsz hO hcl hU hoff h1 h2 h3 h4 hb hba HT
      go_wp2_with (at_builtin; go_must (refine wpList_appK1 rfl _ _ 37 rfl w.heap.size 28 3 (by omega) (.agg #[.bool false, .slice none 0 0, .slice none 0 0]) 56 Tryz.underlying37 infoRatio rfl u8 k cs rfl [.bool dd, .slice x' l' k', .slice x l kk] rfl (by intro y hy; simp at hy; rcases hy with rfl | rfl | rfl <;> rfl) HOw.out (by rw [heap_alloc_size]; rfl) HNl.out.1 HNl.out.2 hsz3 fun v' w' h1 h2 => ?_))
      have HB4 := Lib.hid (HB3.out.trans (h2.below hsz3 HLt.out))
      have HT4 := Lib.hid (RU.step HCl.out HUi.out h2 h1 HX.out HZ.out HOf.out)
      clear h1 h2
      go_wp2_with fail
      go_roundw
      case rel => exact ⟨k + 1, by omega, by go_num, HT4, HB4⟩
      case measure => simp [intOf]; omega
    · obtain rfl : k = len := by omega
      obtain ⟨a', c', rfl, hR⟩ := HT.out.rats (by rw [tableL_len, HN.out])
      have HR := Lib.hid hR
      clear HT hR
      go_wp2_with fail
      go_ret2
      exact ⟨_, _, rfl, HR.out, HB.out⟩

end Go.Proofs.YtahmndacoanfiaaGreat

