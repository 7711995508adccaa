/- Equating: what the reference's fraction, below and Valid return. Condition of below: at most 61 numbers from 0 to 1000000. -/
import Derived.Test.YtahmndacoanfiaaGreatEqU
import Derived.Test.YtahmndacoanfiaaGreatRRatD
namespace Go.Proofs.YtahmndacoanfiaaGreat
set_option maxRecDepth 100000
open Go.RowKit
set_option maxHeartbeats 1000000 in
theorem rfrac_any (n d : Int) (r : Rat) (w : World) (h1 : -9223372036854775808 ≤ n) (h2 : n ≤ 9223372036854775807) (h3 : -9223372036854775808 ≤ d) (h4 : d ≤ 9223372036854775807) (hd0 : d ≠ 0) (hr : Rat.divInt n d = r) :
   Calls Tryz.prog 35 #[.int .i64 n, .int .i64 d] w fun e w' => ∃ v, e = .returned v ∧ RatN w.heap.size w' v r ∧ Rsz r 2 ∧ Below w.heap.size w w' := by
 have HS := Lib.hid hr
 clear hr
 go_enter Tryz.func35, Tryz.ntmps35
 go_wp2_with fail
 have hbx : Below w.heap.size w (w.alloc (.cells #[.bool false, .slice none 0 0, .slice none 0 0] 28)) := ((Below.refl _ _).alloc (Nat.le_refl _) _)
 generalize hWW : (w.alloc (.cells #[.bool false, .slice none 0 0, .slice none 0 0] 28)) = w0 at *
 have cR0 : w0.cell? ⟨w.heap.size, 0, none⟩ = some (.bool false) := by subst hWW; go_simp
 have fR0 : w0.frozen? ⟨w.heap.size, 0, none⟩ = false := by subst hWW; go_simp
 have cR1 : w0.cell? ⟨w.heap.size, 1, none⟩ = some (.slice none 0 0) := by subst hWW; go_simp
 have fR1 : w0.frozen? ⟨w.heap.size, 1, none⟩ = false := by subst hWW; go_simp
 have cR2 : w0.cell? ⟨w.heap.size, 2, none⟩ = some (.slice none 0 0) := by subst hWW; go_simp
 have fR2 : w0.frozen? ⟨w.heap.size, 2, none⟩ = false := by subst hWW; go_simp
 have ltR : w.heap.size < w0.heap.size := by subst hWW; simp
 have hB := hbx
 clear hbx hWW
 have hs1 := ltR
 refine (kof_any n d _ h1 h2 h3 h4 hd0).mono ?_
 rintro e w1 ⟨v1, rfl, hv1, hsz, hb⟩
 replace cR0 := bc hb ltR cR0
 replace fR0 := bf hb ltR fR0
 replace cR1 := bc hb ltR cR1
 replace fR1 := bf hb ltR fR1
 replace cR2 := bc hb ltR cR2
 replace fR2 := bf hb ltR fR2
 replace ltR := bl hb ltR
 replace hB := hB.trans (hb.mono hB.size)
 rw [HS.out] at hv1 hsz
 obtain ⟨x', l', k', x, l, k, rfl, h1, h2, h3, h4⟩ := hv1
 have HSz := Lib.hid hsz
 have HFin := Lib.hid (rat_store (B := w0.heap.size) (B' := w.heap.size) (g := w.heap.size) (r := r) ⟨x', l', k', x, l, k, rfl, h1, h2, h3, h4⟩ hs1 (by omega))
 clear h1 h2 h3 h4 hsz
 generalize decide (r.num < 0) = dn at *
 clear hb
 go_wp2_with fail
 exact bodyPost_ret (v := .agg #[.bool dn, .slice x' l' k', .slice x l k]) (by simp [results, Tryz.results35, go_sem, cR0, cR1, cR2, ltR]) rfl ⟨_, rfl, HFin.out.alloc _ _, HSz.out, ((((hB.setCell (p := ⟨w.heap.size, 0, none⟩) (by simp) _).setCell (p := ⟨w.heap.size, 1, none⟩) (by simp) _).setCell (p := ⟨w.heap.size, 2, none⟩) (by simp) _).alloc (by simpa using hB.size) _)⟩
set_option maxHeartbeats 1000000 in
theorem rbelow_any (f : List Int) (a : Option Addr) (len cap k : Nat) (w : World) (hI : Ints w a len cap f) (hf : ∀ n ∈ f, 0 ≤ n ∧ n ≤ 1000000) (hl : len ≤ 61) (hk : k ≤ len) :
   Calls Tryz.prog 36 #[.slice a len cap, .int .i64 (k : Int)] w fun e w' => e = .returned (.int .i64 (preS f k)) ∧ Below w.heap.size w w' := by
 have HI := Lib.hid hI
 have HN := Lib.hid hI.1
 have HA := Lib.hid (preS_at hf (by rw [hI.1]; exact hl))
 clear hI hf
 go_enter Tryz.func36, Tryz.ntmps36
 go_wp2_with fail
 go_loop [5, 6] (fun n i => ∃ j : Nat, j ≤ k ∧ i = .int .i64 j ∧ n = .int .i64 (preS f j)) (fun _ i => k - (intOf i).toNat)
 case atStart => exact ⟨0, by omega, rfl, by rw [preS_zero]⟩
 case round =>
   obtain ⟨j, hj, rfl, rfl⟩ := hrel
   obtain ⟨b1, b2, b3, b4⟩ := HA.out j
   by_cases hlt : j < k
   · have hjl : j < len := by omega
     obtain ⟨b, off, rfl, hbs, hcc⟩ := HI.out.2.at hjl
     have e1 := hcc j hjl w (Below.refl _ _)
     have HS := Lib.hid (preS_succ' f j)
     generalize f.getD j 0 = y at *
     generalize preS f j = s at *
     clear hcc HA
     go_wp2_with fail
     go_round
     case rel => exact ⟨j + 1, by omega, by go_num, by rw [HS.out]⟩
     case measure => simp [intOf]; omega
   · obtain rfl : j = k := by omega
     go_wp2_with fail
     go_ret
     exact ⟨rfl, Below.refl _ _⟩
set_option maxHeartbeats 1000000 in
theorem rvalid46_any (f : List Int) (a : Option Addr) (len cap : Nat) (w : World) (hI : Ints w a len cap f)  :
   Calls Tryz.prog 11 #[.slice a len cap] w fun e w' => e = .returned (.int .i64 (eqE f)) ∧ Below w.heap.size w w' := by
 have hfl : f.length = len := hI.1
 have hlm : len ≤ 9223372036854775807 := by have h1 := hI.2.1; have h2 := hI.2.2.1; unfold maxLen at h2; omega
 have HI := Lib.hid hI
 have HN := Lib.hid hfl
 have HPA := Lib.hid (preS_all f (k := len) (by omega))
 clear hI hfl
 by_cases h61 : 61 < len
 · have d : decide (61 < (len : Int)) = true := by simp; omega
   have HE := Lib.hid (eqE_long (f := f) (by rw [HN.out]; exact h61))
   go_enter Tryz.func11, Tryz.ntmps11
   go_wp2_with fail
   go_ret
   exact ⟨by rw [HE.out]; rfl, Below.refl _ _⟩
 have d : decide (61 < (len : Int)) = false := by simp; omega
 go_enter Tryz.func11, Tryz.ntmps11
 go_wp2_with fail
 go_loop [10] (fun i => ∃ k : Nat, k ≤ len ∧ i = .int .i64 k ∧ Hid (∀ j, j < k → badF (f.getD j 0) = false)) (fun i => len - (intOf i).toNat)
 case atStart => exact ⟨0, by omega, rfl, Lib.hid (fun j hj => by omega)⟩
 case round =>
   obtain ⟨k, hk, rfl, HG⟩ := hrel
   by_cases hlt : k < len
   · obtain ⟨b, off, rfl, hbs, hcc⟩ := HI.out.2.at hlt
     have e1 := hcc k hlt w (Below.refl _ _)
     have HB := Lib.hid (eqE_bad (f := f) (k := k) (by rw [HN.out]; omega) (by rw [HN.out]; exact hlt))
     have HG2 := Lib.hid (show badF (f.getD k 0) = false → ∀ j, j < k + 1 → badF (f.getD j 0) = false from fun h j hj => by
       rcases Nat.lt_or_eq_of_le (show j ≤ k by omega) with h2 | rfl
       · exact HG.out j h2
       · exact h)
     generalize f.getD k 0 = y at *
     clear hcc HG
     by_cases h0 : y < 0
     · have HE := Lib.hid (HB.out (by simp [badF, h0]))
       have d0 : decide (y < 0) = true := by simpa using h0
       clear HB HG2
       go_wp2_with fail
       go_ret
       exact ⟨by rw [HE.out]; rfl, Below.refl _ _⟩
     have d0 : decide (y < 0) = false := by simpa using h0
     by_cases h1 : 1000000 < y
     · have HE := Lib.hid (HB.out (by simp [badF, h1]))
       have d1 : decide (1000000 < y) = true := by simpa using h1
       clear HB HG2
       go_wp2_with fail
       go_ret
       exact ⟨by rw [HE.out]; rfl, Below.refl _ _⟩
     have d1 : decide (1000000 < y) = false := by simpa using h1
     have HG3 := Lib.hid (HG2.out (by simp [badF, h0, h1]))
     clear HB HG2
     go_wp2_with fail
     go_round
     case rel => exact ⟨k + 1, by omega, by go_num, HG3⟩
     case measure => simp [intOf]; omega
   · obtain rfl : k = len := by omega
     have HG2 := Lib.hid (show ∀ j, j < f.length → badF (f.getD j 0) = false by rw [HN.out]; exact HG.out)
     clear HG
     go_wp2_with fail
     refine (rbelow_any f a k cap k w HI.out (badF_no HG2.out) (by omega) (Nat.le_refl _)).mono ?_
     rintro e w1 ⟨rfl, hb⟩
     rw [HPA.out]
     by_cases hz : f.sum = 0
     · have HE := Lib.hid (eqE_empty (f := f) (by rw [HN.out]; omega) HG2.out hz)
       have dz : (f.sum == 0) = true := by simpa using hz
       clear hz
       generalize f.sum = s at *
       go_wp2_with fail
       go_ret
       exact ⟨by rw [HE.out]; rfl, hb⟩
     · have HE := Lib.hid (eqE_ok (f := f) (by rw [HN.out]; omega) HG2.out hz)
       have dz : (f.sum == 0) = false := by simpa using hz
       clear hz
       generalize f.sum = s at *
       go_wp2_with fail
       go_ret
       exact ⟨by rw [HE.out]; rfl, hb⟩
end Go.Proofs.YtahmndacoanfiaaGreat
