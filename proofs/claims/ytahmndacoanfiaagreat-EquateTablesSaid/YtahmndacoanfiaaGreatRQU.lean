/- Equating: what the reference's fraction, below and Valid return. Condition of below: at most 61 numbers from 0 to 1000000. · Equating: what the reference's Rank returns. Condition: the fraction takes at most 2^47 bytes. · Equating: what the reference's Inverse returns. Condition: the fraction takes at most 2^47 bytes. -/
import Derived.Test.YtahmndacoanfiaaGreatEqU
import Derived.Test.YtahmndacoanfiaaGreatRRatD
namespace Go.Proofs.YtahmndacoanfiaaGreat
set_option maxRecDepth 100000
open Go.RowKit

set_option maxHeartbeats 1000000 in
theorem rfrac_any (n d : Int) (r : Rat) (w : World) (h1 : -9223372036854775808 ≤ n) (h2 : n ≤ 9223372036854775807) (h3 : -9223372036854775808 ≤ d) (h4 : d ≤ 9223372036854775807) (hd0 : d ≠ 0) (hr : Rat.divInt n d = r) :
    Calls Tryz.prog 35 #[.int .i64 n, .int .i64 d] w fun e w' => ∃ v, e = .returned v ∧ RatN w.heap.size w' v r ∧ Rsz r 2 ∧ Below w.heap.size w w' := by
  have HS := Lib.hid hr
  clear hr
  go_enter Tryz.func35, Tryz.ntmps35
  go_wp2_with fail
  have hbx : Below w.heap.size w (w.alloc (.cells #[.bool false, .slice none 0 0, .slice none 0 0] 28)) := ((Below.refl _ _).alloc (Nat.le_refl _) _)
  generalize hWW : (w.alloc (.cells #[.bool false, .slice none 0 0, .slice none 0 0] 28)) = w0 at *
  have cR0 : w0.cell? ⟨w.heap.size, 0, none⟩ = some (.bool false) := by subst hWW; go_simp
  have fR0 : w0.frozen? ⟨w.heap.size, 0, none⟩ = false := by subst hWW; go_simp
  have cR1 : w0.cell? ⟨w.heap.size, 1, none⟩ = some (.slice none 0 0) := by subst hWW; go_simp
  have fR1 : w0.frozen? ⟨w.heap.size, 1, none⟩ = false := by subst hWW; go_simp
  have cR2 : w0.cell? ⟨w.heap.size, 2, none⟩ = some (.slice none 0 0) := by subst hWW; go_simp
  have fR2 : w0.frozen? ⟨w.heap.size, 2, none⟩ = false := by subst hWW; go_simp
  have ltR : w.heap.size < w0.heap.size := by subst hWW; simp
  have hB := hbx
  clear hbx hWW
  have hs1 := ltR
  refine (kof_any n d _ h1 h2 h3 h4 hd0).mono ?_
  rintro e w1 ⟨v1, rfl, hv1, hsz, hb⟩
  replace cR0 := bc hb ltR cR0
  replace fR0 := bf hb ltR fR0
  replace cR1 := bc hb ltR cR1
  replace fR1 := bf hb ltR fR1
  replace cR2 := bc hb ltR cR2
  replace fR2 := bf hb ltR fR2
  replace ltR := bl hb ltR
  replace hB := hB.trans (hb.mono hB.size)
  rw [HS.out] at hv1 hsz
  obtain ⟨x', l', k', x, l, k, rfl, h1, h2, h3, h4⟩ := hv1
  have HSz := Lib.hid hsz
  have HFin := Lib.hid (rat_store (B := w0.heap.size) (B' := w.heap.size) (g := w.heap.size) (r := r) ⟨x', l', k', x, l, k, rfl, h1, h2, h3, h4⟩ hs1 (by omega))
  clear h1 h2 h3 h4 hsz
  generalize decide (r.num < 0) = dn at *
  clear hb
  go_wp2_with fail
  exact bodyPost_ret (v := .agg #[.bool dn, .slice x' l' k', .slice x l k]) (by simp [results, Tryz.results35, go_sem, cR0, cR1, cR2, ltR]) rfl ⟨_, rfl, HFin.out.alloc _ _, HSz.out, ((((hB.setCell (p := ⟨w.heap.size, 0, none⟩) (by simp) _).setCell (p := ⟨w.heap.size, 1, none⟩) (by simp) _).setCell (p := ⟨w.heap.size, 2, none⟩) (by simp) _).alloc (by simpa using hB.size) _)⟩

theorem rwhole_eq (n : Int) : Rat.divInt n 1 = (n : Rat) := rat_whole n
set_option maxHeartbeats 1000000 in
theorem rbelow_any (f : List Int) (a : Option Addr) (len cap k : Nat) (w : World) (hI : Ints w a len cap f) (hf : ∀ n ∈ f, 0 ≤ n ∧ n ≤ 1000000) (hl : len ≤ 61) (hk : k ≤ len) :
    Calls Tryz.prog 36 #[.slice a len cap, .int .i64 (k : Int)] w fun e w' => e = .returned (.int .i64 (preS f k)) ∧ Below w.heap.size w w' := by
  have HI := Lib.hid hI
  have HN := Lib.hid hI.1
  have HA := Lib.hid (preS_at hf (by rw [hI.1]; exact hl))
  clear hI hf
  go_enter Tryz.func36, Tryz.ntmps36
  go_wp2_with fail
  go_loop [5, 6] (fun n i => ∃ j : Nat, j ≤ k ∧ i = .int .i64 j ∧ n = .int .i64 (preS f j)) (fun _ i => k - (intOf i).toNat)
  case atStart => exact ⟨0, by omega, rfl, by rw [preS_zero]⟩
  case round =>
    obtain ⟨j, hj, rfl, rfl⟩ := hrel
    obtain ⟨b1, b2, b3, b4⟩ := HA.out j
    by_cases hlt : j < k
    · have hjl : j < len := by omega
      obtain ⟨b, off, rfl, hbs, hcc⟩ := HI.out.2.at hjl
      have e1 := hcc j hjl w (Below.refl _ _)
      have HS := Lib.hid (preS_succ' f j)
      generalize f.getD j 0 = y at *
      generalize preS f j = s at *
      clear hcc HA
      go_wp2_with fail
      go_round
      case rel => exact ⟨j + 1, by omega, by go_num, by rw [HS.out]⟩
      case measure => simp [intOf]; omega
    · obtain rfl : j = k := by omega
      go_wp2_with fail
      go_ret
      exact ⟨rfl, Below.refl _ _⟩
set_option maxHeartbeats 1000000 in
theorem rvalid46_any (f : List Int) (a : Option Addr) (len cap : Nat) (w : World) (hI : Ints w a len cap f)  :
    Calls Tryz.prog 11 #[.slice a len cap] w fun e w' => e = .returned (.int .i64 (eqE f)) ∧ Below w.heap.size w w' := by
  have hfl : f.length = len := hI.1
  have hlm : len ≤ 9223372036854775807 := by have h1 := hI.2.1; have h2 := hI.2.2.1; unfold maxLen at h2; omega
  have HI := Lib.hid hI
  have HN := Lib.hid hfl
  have HPA := Lib.hid (preS_all f (k := len) (by omega))
  clear hI hfl
  by_cases h61 : 61 < len
  · have d : decide (61 < (len : Int)) = true := by simp; omega
    have HE := Lib.hid (eqE_long (f := f) (by rw [HN.out]; exact h61))
    go_enter Tryz.func11, Tryz.ntmps11
    go_wp2_with fail
    go_ret
    exact ⟨by rw [HE.out]; rfl, Below.refl _ _⟩
  have d : decide (61 < (len : Int)) = false := by simp; omega
  go_enter Tryz.func11, Tryz.ntmps11
  go_wp2_with fail
  go_loop [10] (fun i => ∃ k : Nat, k ≤ len ∧ i = .int .i64 k ∧ Hid (∀ j, j < k → badF (f.getD j 0) = false)) (fun i => len - (intOf i).toNat)
  case atStart => exact ⟨0, by omega, rfl, Lib.hid (fun j hj => by omega)⟩
  case round =>
    obtain ⟨k, hk, rfl, HG⟩ := hrel
    by_cases hlt : k < len
    · obtain ⟨b, off, rfl, hbs, hcc⟩ := HI.out.2.at hlt
      have e1 := hcc k hlt w (Below.refl _ _)
      have HB := Lib.hid (eqE_bad (f := f) (k := k) (by rw [HN.out]; omega) (by rw [HN.out]; exact hlt))
      have HG2 := Lib.hid (show badF (f.getD k 0) = false → ∀ j, j < k + 1 → badF (f.getD j 0) = false from fun h j hj => by
        rcases Nat.lt_or_eq_of_le (show j ≤ k by omega) with h2 | rfl
        · exact HG.out j h2
        · exact h)
      generalize f.getD k 0 = y at *
      clear hcc HG
      by_cases h0 : y < 0
      · have HE := Lib.hid (HB.out (by simp [badF, h0]))
        have d0 : decide (y < 0) = true := by simpa using h0
        clear HB HG2
        go_wp2_with fail
        go_ret
        exact ⟨by rw [HE.out]; rfl, Below.refl _ _⟩
      have d0 : decide (y < 0) = false := by simpa using h0
      by_cases h1 : 1000000 < y
      · have HE := Lib.hid (HB.out (by simp [badF, h1]))
        have d1 : decide (1000000 < y) = true := by simpa using h1
        clear HB HG2
        go_wp2_with fail
        go_ret
        exact ⟨by rw [HE.out]; rfl, Below.refl _ _⟩
      have d1 : decide (1000000 < y) = false := by simpa using h1
      have HG3 := Lib.hid (HG2.out (by simp [badF, h0, h1]))
      clear HB HG2
      go_wp2_with fail
      go_round
      case rel => exact ⟨k + 1, by omega, by go_num, HG3⟩
      case measure => simp [intOf]; omega
    · obtain rfl : k = len := by omega
      have HG2 := Lib.hid (show ∀ j, j < f.length → badF (f.getD j 0) = false by rw [HN.out]; exact HG.out)
      clear HG
      go_wp2_with fail
      refine (rbelow_any f a k cap k w HI.out (badF_no HG2.out) (by omega) (Nat.le_refl _)).mono ?_
      rintro e w1 ⟨rfl, hb⟩
      rw [HPA.out]
      by_cases hz : f.sum = 0
      · have HE := Lib.hid (eqE_empty (f := f) (by rw [HN.out]; omega) HG2.out hz)
        have dz : (f.sum == 0) = true := by simpa using hz
        clear hz
        generalize f.sum = s at *
        go_wp2_with fail
        go_ret
        exact ⟨by rw [HE.out]; rfl, hb⟩
      · have HE := Lib.hid (eqE_ok (f := f) (by rw [HN.out]; omega) HG2.out hz)
        have dz : (f.sum == 0) = false := by simpa using hz
        clear hz
        generalize f.sum = s at *
        go_wp2_with fail
        go_ret
        exact ⟨by rw [HE.out]; rfl, hb⟩

theorem cell_up {n : Nat} {y : Rat} (h0 : 0 < y) (h1 : y ≤ (n : Rat)) : ∃ k : Nat, k < n ∧ (k : Rat) < y ∧ y ≤ (k : Rat) + 1 := by
  induction n with
  | zero => exact absurd h1 (by have : ((0 : Nat) : Rat) = 0 := rfl; grind)
  | succ n ih =>
    by_cases h : y ≤ (n : Rat)
    · obtain ⟨k, a, b, c⟩ := ih h
      exact ⟨k, by omega, b, c⟩
    · exact ⟨n, by omega, by grind, by push_cast at h1; grind⟩

end Go.Proofs.YtahmndacoanfiaaGreat

namespace Go.Proofs.YtahmndacoanfiaaGreat
set_option maxRecDepth 100000
open Go.RowKit

theorem div_two (n : Int) : Rat.divInt n 2 = (n : Rat) / 2 := by rw [Rat.divInt_eq_div]; rfl
theorem half_up (k : Nat) : Rat.divInt (2 * (k : Int) + 1) 2 = (k : Rat) + 1/2 := by
  rw [div_two, Rat.intCast_add, Rat.intCast_mul, Rat.intCast_natCast]
  have e1 : ((1 : Int) : Rat) = 1 := rfl
  have e2 : ((2 : Int) : Rat) = 2 := rfl
  grind
theorem half_down (k : Nat) : Rat.divInt (2 * (k : Int) - 1) 2 = (k : Rat) - 1/2 := by
  rw [div_two, Rat.intCast_sub, Rat.intCast_mul, Rat.intCast_natCast]
  have e1 : ((1 : Int) : Rat) = 1 := rfl
  have e2 : ((2 : Int) : Rat) = 2 := rfl
  grind
theorem one_over (n : Int) : Rat.divInt 1 n = 1 / (n : Rat) := by rw [Rat.divInt_eq_div]; rfl
theorem rcmp_le {r s : Rat} : rcmpI r s ≤ 0 ↔ r ≤ s := by
  have h := cmpI_gt0 (r := r) (s := s)
  constructor
  · intro h1; rw [← Rat.not_lt]; intro h2; have := h.2 h2; omega
  · intro h1
    rcases Int.lt_or_le 0 (rcmpI r s) with h2 | h2
    · have := h.1 h2; grind
    · exact h2
set_option maxHeartbeats 2000000 in
theorem rrank_no (f : List Int) (a : Option Addr) (len cap : Nat) (v : Value) (x : Rat) (L : Nat) (w : World) (hI : Ints w a len cap f) (hv : RatV w v x L) (hE : eqE f ≠ 0) :
    Calls Tryz.prog 7 #[.slice a len cap, v] w fun e w' => ∃ v, e = .returned (.tuple #[v, .int .i64 (eqE f)]) ∧ RatN w.heap.size w' v 0 ∧ Below w.heap.size w w' := by
  have HI := Lib.hid hI
  have HN := Lib.hid hI.1
  have HR := Lib.hid hv
  obtain ⟨p, q, hr, hpq⟩ := hv
  obtain ⟨negx, ax', lenx', capx', xsx, ax, lenx, capx, ysx, rfl, -, -, -, -, -, -⟩ := hr
  clear hpq hI
  have hz : (eqE f == 0) = false := by simpa using hE
  clear hE
  generalize hef : eqE f = ef at *
  have HEF := Lib.hid hef
  clear hef
  go_enter Tryz.func7, Tryz.ntmps7
  go_wp2_with fail
  have hbx : Below w.heap.size w ((w.alloc (.cells #[.bool negx, .slice ax' lenx' capx', .slice ax lenx capx] 28)).alloc (.cells #[.bool false, .slice none 0 0, .slice none 0 0] 28)) := (((Below.refl _ _).alloc (Nat.le_refl _) _).alloc (by simp) _)
  generalize hWW : ((w.alloc (.cells #[.bool negx, .slice ax' lenx' capx', .slice ax lenx capx] 28)).alloc (.cells #[.bool false, .slice none 0 0, .slice none 0 0] 28)) = w0 at *
  replace HI := Lib.hid (HI.out.below hbx)
  replace HR := Lib.hid (HR.out.below hbx)
  have cA0 : w0.cell? ⟨w.heap.size, 0, none⟩ = some (.bool negx) := by subst hWW; go_simp
  have cA1 : w0.cell? ⟨w.heap.size, 1, none⟩ = some (.slice ax' lenx' capx') := by subst hWW; go_simp
  have cA2 : w0.cell? ⟨w.heap.size, 2, none⟩ = some (.slice ax lenx capx) := by subst hWW; go_simp
  have ltA : w.heap.size < w0.heap.size := by subst hWW; simp <;> omega
  have cR0 : w0.cell? ⟨w.heap.size + 1, 0, none⟩ = some (.bool false) := by subst hWW; go_simp
  have fR0 : w0.frozen? ⟨w.heap.size + 1, 0, none⟩ = false := by subst hWW; go_simp
  have cR1 : w0.cell? ⟨w.heap.size + 1, 1, none⟩ = some (.slice none 0 0) := by subst hWW; go_simp
  have fR1 : w0.frozen? ⟨w.heap.size + 1, 1, none⟩ = false := by subst hWW; go_simp
  have cR2 : w0.cell? ⟨w.heap.size + 1, 2, none⟩ = some (.slice none 0 0) := by subst hWW; go_simp
  have fR2 : w0.frozen? ⟨w.heap.size + 1, 2, none⟩ = false := by subst hWW; go_simp
  have ltR : w.heap.size + 1 < w0.heap.size := by subst hWW; simp
  have hB := hbx
  clear hbx hWW
  refine (rvalid46_any f a len cap _ HI.out).mono ?_
  rintro e w1 ⟨rfl, hb⟩
  replace cA0 := bc hb ltA cA0
  replace cA1 := bc hb ltA cA1
  replace cA2 := bc hb ltA cA2
  replace ltA := bl hb ltA
  replace cR0 := bc hb ltR cR0
  replace fR0 := bf hb ltR fR0
  replace cR1 := bc hb ltR cR1
  replace fR1 := bf hb ltR fR1
  replace cR2 := bc hb ltR cR2
  replace fR2 := bf hb ltR fR2
  replace ltR := bl hb ltR
  replace HI := Lib.hid (HI.out.below hb)
  replace HR := Lib.hid (HR.out.below hb)
  replace hB := hB.trans (hb.mono hB.size)
  rw [HEF.out]
  clear hb
  go_wp2_with fail
  have hs1 := ltR
  refine (rfrac_any 0 1 0 _ (by omega) (by omega) (by omega) (by omega) (by omega) (by kernel_rfl)).mono ?_
  rintro e w2 ⟨v2, rfl, hv, hsz, hb⟩
  replace cA0 := bc hb ltA cA0
  replace cA1 := bc hb ltA cA1
  replace cA2 := bc hb ltA cA2
  replace ltA := bl hb ltA
  replace cR0 := bc hb ltR cR0
  replace fR0 := bf hb ltR fR0
  replace cR1 := bc hb ltR cR1
  replace fR1 := bf hb ltR fR1
  replace cR2 := bc hb ltR cR2
  replace fR2 := bf hb ltR fR2
  replace ltR := bl hb ltR
  replace HI := Lib.hid (HI.out.below hb)
  replace HR := Lib.hid (HR.out.below hb)
  replace hB := hB.trans (hb.mono hB.size)
  clear hsz
  obtain ⟨p2', m2', q2', p2, m2, q2, rfl, h1, h2, h3, h4⟩ := hv
  have HFin := Lib.hid (rat_store (B := w1.heap.size) (B' := w.heap.size) (g := w.heap.size + 1) (r := 0) ⟨p2', m2', q2', p2, m2, q2, rfl, h1, h2, h3, h4⟩ hs1 (by omega))
  clear h1 h2 h3 h4
  generalize decide ((0 : Rat).num < 0) = d2 at *
  clear hb
  go_wp2_with fail
  exact bodyPost_ret (v := .tuple #[.agg #[.bool d2, .slice p2' m2' q2', .slice p2 m2 q2], .int .i64 ef]) (by simp [results, Tryz.results7, go_sem, cR0, cR1, cR2]) rfl ⟨_, rfl, HFin.out, ((hB.setCell (p := ⟨w.heap.size + 1, 0, none⟩) (by simp) _).setCell (p := ⟨w.heap.size + 1, 1, none⟩) (by simp) _).setCell (p := ⟨w.heap.size + 1, 2, none⟩) (by simp) _⟩
set_option maxHeartbeats 4000000 in
theorem rrank_low (f : List Int) (a : Option Addr) (len cap : Nat) (v : Value) (x : Rat) (L : Nat) (w : World) (hI : Ints w a len cap f) (hv : RatV w v x L) (hL : 1 ≤ L) (hm : (L + 40) * 4 ≤ 140737488355328) (hO : OkF f) (hy : x ≤ -1/2) :
    Calls Tryz.prog 7 #[.slice a len cap, v] w fun e w' => ∃ v, e = .returned (.tuple #[v, .int .i64 0]) ∧ RatN w.heap.size w' v 0 ∧ Rsz 0 (L + 13) ∧ Below w.heap.size w w' := by
  have HI := Lib.hid hI
  have HN := Lib.hid hI.1
  have HR := Lib.hid hv
  obtain ⟨p, q, hr, hpq⟩ := hv
  obtain ⟨negx, ax', lenx', capx', xsx, ax, lenx, capx, ysx, rfl, -, -, -, -, -, -⟩ := hr
  clear hpq hI
  have HO := Lib.hid (eqE_OkF.2 hO)
  have HF0 := Lib.hid hO.2.1
  have h61 : len ≤ 61 := by rw [← HN.out]; exact hO.1
  have b5 := hO.pos
  have b6 := hO.sum_le
  have HPA : Hid (preS f len = f.sum) := Lib.hid (preS_all f (by rw [HN.out]; omega))
  have HC := Lib.hid (rcmp_le.2 hy)
  clear hO hy
  go_enter Tryz.func7, Tryz.ntmps7
  go_wp2_with fail
  have hbx : Below w.heap.size w ((w.alloc (.cells #[.bool negx, .slice ax' lenx' capx', .slice ax lenx capx] 28)).alloc (.cells #[.bool false, .slice none 0 0, .slice none 0 0] 28)) := (((Below.refl _ _).alloc (Nat.le_refl _) _).alloc (by simp) _)
  generalize hWW : ((w.alloc (.cells #[.bool negx, .slice ax' lenx' capx', .slice ax lenx capx] 28)).alloc (.cells #[.bool false, .slice none 0 0, .slice none 0 0] 28)) = w0 at *
  replace HI := Lib.hid (HI.out.below hbx)
  replace HR := Lib.hid (HR.out.below hbx)
  have cA0 : w0.cell? ⟨w.heap.size, 0, none⟩ = some (.bool negx) := by subst hWW; go_simp
  have cA1 : w0.cell? ⟨w.heap.size, 1, none⟩ = some (.slice ax' lenx' capx') := by subst hWW; go_simp
  have cA2 : w0.cell? ⟨w.heap.size, 2, none⟩ = some (.slice ax lenx capx) := by subst hWW; go_simp
  have ltA : w.heap.size < w0.heap.size := by subst hWW; simp <;> omega
  have cR0 : w0.cell? ⟨w.heap.size + 1, 0, none⟩ = some (.bool false) := by subst hWW; go_simp
  have fR0 : w0.frozen? ⟨w.heap.size + 1, 0, none⟩ = false := by subst hWW; go_simp
  have cR1 : w0.cell? ⟨w.heap.size + 1, 1, none⟩ = some (.slice none 0 0) := by subst hWW; go_simp
  have fR1 : w0.frozen? ⟨w.heap.size + 1, 1, none⟩ = false := by subst hWW; go_simp
  have cR2 : w0.cell? ⟨w.heap.size + 1, 2, none⟩ = some (.slice none 0 0) := by subst hWW; go_simp
  have fR2 : w0.frozen? ⟨w.heap.size + 1, 2, none⟩ = false := by subst hWW; go_simp
  have ltR : w.heap.size + 1 < w0.heap.size := by subst hWW; simp
  have hB := hbx
  clear hbx hWW
  refine (rvalid46_any f a len cap _ HI.out).mono ?_
  rintro e w1 ⟨rfl, hb⟩
  replace cA0 := bc hb ltA cA0
  replace cA1 := bc hb ltA cA1
  replace cA2 := bc hb ltA cA2
  replace ltA := bl hb ltA
  replace cR0 := bc hb ltR cR0
  replace fR0 := bf hb ltR fR0
  replace cR1 := bc hb ltR cR1
  replace fR1 := bf hb ltR fR1
  replace cR2 := bc hb ltR cR2
  replace fR2 := bf hb ltR fR2
  replace ltR := bl hb ltR
  replace HI := Lib.hid (HI.out.below hb)
  replace HR := Lib.hid (HR.out.below hb)
  replace hB := hB.trans (hb.mono hB.size)
  rw [HO.out]
  clear hb
  go_wp2_with fail
  refine (rbelow_any f a len cap len _ HI.out HF0.out h61 (Nat.le_refl _)).mono ?_
  rintro e w2 ⟨rfl, hb⟩
  replace cA0 := bc hb ltA cA0
  replace cA1 := bc hb ltA cA1
  replace cA2 := bc hb ltA cA2
  replace ltA := bl hb ltA
  replace cR0 := bc hb ltR cR0
  replace fR0 := bf hb ltR fR0
  replace cR1 := bc hb ltR cR1
  replace fR1 := bf hb ltR fR1
  replace cR2 := bc hb ltR cR2
  replace fR2 := bf hb ltR fR2
  replace ltR := bl hb ltR
  replace HI := Lib.hid (HI.out.below hb)
  replace HR := Lib.hid (HR.out.below hb)
  replace hB := hB.trans (hb.mono hB.size)
  rw [HPA.out]
  clear hb
  go_wp2_with fail
  have eA0 := box_ext (B := w2.heap.size) cA0 ltA
  have eA1 := box_ext (B := w2.heap.size) cA1 ltA
  have eA2 := box_ext (B := w2.heap.size) cA2 ltA
  have eR0 := box_ext (B := w2.heap.size) cR0 ltR
  have eR1 := box_ext (B := w2.heap.size) cR1 ltR
  have eR2 := box_ext (B := w2.heap.size) cR2 ltR
  refine wp_region_sched [(0, false), (1, true), (2, true), (3, false)] (fun w' => ∃ W : Ext w2.heap.size w2, w' = W.1) (by kernel_rfl) (by kernel_rfl) ⟨⟨w2.drew, (Below.refl _ _).drew⟩, rfl⟩ ?_
  repeat (refine wpSched_calm rfl (fun K hK => ?_); go_simp; refine hK _ ?_; clear hK K)
  clear eA0 eA1 eA2 eR0 eR1 eR2
  have hbx : Below w2.heap.size w2 w2.drew := (Below.refl _ _).drew
  have hM := hbx
  replace cA0 := bc hbx ltA cA0
  replace cA1 := bc hbx ltA cA1
  replace cA2 := bc hbx ltA cA2
  replace ltA := bl hbx ltA
  replace cR0 := bc hbx ltR cR0
  replace fR0 := bf hbx ltR fR0
  replace cR1 := bc hbx ltR cR1
  replace fR1 := bf hbx ltR fR1
  replace cR2 := bc hbx ltR cR2
  replace fR2 := bf hbx ltR fR2
  replace ltR := bl hbx ltR
  replace HI := Lib.hid (HI.out.below hbx)
  replace HR := Lib.hid (HR.out.below hbx)
  replace hB := hB.trans (hbx.mono hB.size)
  clear hbx
  generalize w2.drew = ww2d at *
  refine wpSched_eff rfl rfl (fun K hK => ?_)
  go_simp
  refine (rfrac_any (-1) 2 (-1/2) _ (by omega) (by omega) (by omega) (by omega) (by omega) (by kernel_rfl)).mono ?_
  rintro e w3 ⟨v3, rfl, hv, hsz, hb⟩
  replace cA0 := bc hb ltA cA0
  replace cA1 := bc hb ltA cA1
  replace cA2 := bc hb ltA cA2
  replace ltA := bl hb ltA
  replace cR0 := bc hb ltR cR0
  replace fR0 := bf hb ltR fR0
  replace cR1 := bc hb ltR cR1
  replace fR1 := bf hb ltR fR1
  replace cR2 := bc hb ltR cR2
  replace fR2 := bf hb ltR fR2
  replace ltR := bl hb ltR
  replace HI := Lib.hid (HI.out.below hb)
  replace HR := Lib.hid (HR.out.below hb)
  replace hM := hM.trans (hb.mono hM.size)
  replace hB := hB.trans (hb.mono hB.size)
  have HV3 := Lib.hid (hv.raw hsz)
  clear hv hsz
  clear hb
  refine hK _ _ ⟨⟨w3, hM⟩, rfl⟩ ?_
  clear hK K
  refine wpSched_eff rfl rfl (fun K hK => ?_)
  go_simp
  refine (kcmp_any _ _ x (-1/2) L 2 _ HR.out HV3.out hL (by omega) (by omega)).mono ?_
  rintro e w4 ⟨rfl, hb⟩
  replace cA0 := bc hb ltA cA0
  replace cA1 := bc hb ltA cA1
  replace cA2 := bc hb ltA cA2
  replace ltA := bl hb ltA
  replace cR0 := bc hb ltR cR0
  replace fR0 := bf hb ltR fR0
  replace cR1 := bc hb ltR cR1
  replace fR1 := bf hb ltR fR1
  replace cR2 := bc hb ltR cR2
  replace fR2 := bf hb ltR fR2
  replace ltR := bl hb ltR
  replace HI := Lib.hid (HI.out.below hb)
  replace HR := Lib.hid (HR.out.below hb)
  replace HV3 := Lib.hid (HV3.out.below hb)
  replace hM := hM.trans (hb.mono hM.size)
  replace hB := hB.trans (hb.mono hB.size)
  have hq := HC.out
  generalize rcmpI x (-1/2) = cm at *
  have dcm : decide (cm ≤ 0) = true := by simpa using hq
  clear hq HC
  clear hb
  refine hK _ _ ⟨⟨w4, hM⟩, rfl⟩ ?_
  clear hK K
  repeat (refine wpSched_calm rfl (fun K hK => ?_); go_simp; refine hK _ ?_; clear hK K)
  refine wpSched_nil ?_
  clear HV3
  go_wp2_with fail
  have hs1 := ltR
  refine (rfrac_any 0 1 0 _ (by omega) (by omega) (by omega) (by omega) (by omega) (by kernel_rfl)).mono ?_
  rintro e w6 ⟨v6, rfl, hv, hsz, hb⟩
  replace cA0 := bc hb ltA cA0
  replace cA1 := bc hb ltA cA1
  replace cA2 := bc hb ltA cA2
  replace ltA := bl hb ltA
  replace cR0 := bc hb ltR cR0
  replace fR0 := bf hb ltR fR0
  replace cR1 := bc hb ltR cR1
  replace fR1 := bf hb ltR fR1
  replace cR2 := bc hb ltR cR2
  replace fR2 := bf hb ltR fR2
  replace ltR := bl hb ltR
  replace HI := Lib.hid (HI.out.below hb)
  replace HR := Lib.hid (HR.out.below hb)
  replace hB := hB.trans (hb.mono hB.size)
  have HZ6 := Lib.hid (hsz.mono (show 2 ≤ L + 13 by omega))
  clear hsz
  obtain ⟨p6', m6', q6', p6, m6, q6, rfl, h1, h2, h3, h4⟩ := hv
  have HFin := Lib.hid (rat_store (B := w4.heap.size) (B' := w.heap.size) (g := w.heap.size + 1) (r := 0) ⟨p6', m6', q6', p6, m6, q6, rfl, h1, h2, h3, h4⟩ hs1 (by omega))
  clear h1 h2 h3 h4
  generalize decide ((0 : Rat).num < 0) = d6 at *
  clear hb
  go_wp2_with fail
  exact bodyPost_ret (v := .tuple #[.agg #[.bool d6, .slice p6' m6' q6', .slice p6 m6 q6], .int .i64 0]) (by simp [results, Tryz.results7, go_sem, cR0, cR1, cR2]) rfl ⟨_, rfl, HFin.out, HZ6.out, ((hB.setCell (p := ⟨w.heap.size + 1, 0, none⟩) (by simp) _).setCell (p := ⟨w.heap.size + 1, 1, none⟩) (by simp) _).setCell (p := ⟨w.heap.size + 1, 2, none⟩) (by simp) _⟩
set_option maxHeartbeats 4000000 in
theorem rrank_high (f : List Int) (a : Option Addr) (len cap : Nat) (v : Value) (x : Rat) (L : Nat) (w : World) (hI : Ints w a len cap f) (hv : RatV w v x L) (hL : 1 ≤ L) (hm : (L + 40) * 4 ≤ 140737488355328) (hO : OkF f) (hy : ¬ x ≤ -1/2) (hn : ∀ j, j < f.length → ¬ x ≤ (j : Rat) + 1/2) :
    Calls Tryz.prog 7 #[.slice a len cap, v] w fun e w' => ∃ v, e = .returned (.tuple #[v, .int .i64 0]) ∧ RatN w.heap.size w' v 1 ∧ Rsz 1 (L + 13) ∧ Below w.heap.size w w' := by
  have HI := Lib.hid hI
  have HN := Lib.hid hI.1
  have HR := Lib.hid hv
  obtain ⟨p, q, hr, hpq⟩ := hv
  obtain ⟨negx, ax', lenx', capx', xsx, ax, lenx, capx, ysx, rfl, -, -, -, -, -, -⟩ := hr
  clear hpq hI
  have HO := Lib.hid (eqE_OkF.2 hO)
  have HF0 := Lib.hid hO.2.1
  have h61 : len ≤ 61 := by rw [← HN.out]; exact hO.1
  have b5 := hO.pos
  have b6 := hO.sum_le
  have HPA : Hid (preS f len = f.sum) := Lib.hid (preS_all f (by rw [HN.out]; omega))
  have HC := Lib.hid (show ¬ rcmpI x (-1/2) ≤ 0 from fun h => hy (rcmp_le.1 h))
  have HCs := Lib.hid (show ∀ j, j < len → ¬ rcmpI x ((j : Rat) + 1/2) ≤ 0 from fun j hj h => hn j (by rw [HN.out]; exact hj) (rcmp_le.1 h))
  clear hO hy hn
  go_enter Tryz.func7, Tryz.ntmps7
  go_wp2_with fail
  have hbx : Below w.heap.size w ((w.alloc (.cells #[.bool negx, .slice ax' lenx' capx', .slice ax lenx capx] 28)).alloc (.cells #[.bool false, .slice none 0 0, .slice none 0 0] 28)) := (((Below.refl _ _).alloc (Nat.le_refl _) _).alloc (by simp) _)
  generalize hWW : ((w.alloc (.cells #[.bool negx, .slice ax' lenx' capx', .slice ax lenx capx] 28)).alloc (.cells #[.bool false, .slice none 0 0, .slice none 0 0] 28)) = w0 at *
  replace HI := Lib.hid (HI.out.below hbx)
  replace HR := Lib.hid (HR.out.below hbx)
  have cA0 : w0.cell? ⟨w.heap.size, 0, none⟩ = some (.bool negx) := by subst hWW; go_simp
  have cA1 : w0.cell? ⟨w.heap.size, 1, none⟩ = some (.slice ax' lenx' capx') := by subst hWW; go_simp
  have cA2 : w0.cell? ⟨w.heap.size, 2, none⟩ = some (.slice ax lenx capx) := by subst hWW; go_simp
  have ltA : w.heap.size < w0.heap.size := by subst hWW; simp <;> omega
  have cR0 : w0.cell? ⟨w.heap.size + 1, 0, none⟩ = some (.bool false) := by subst hWW; go_simp
  have fR0 : w0.frozen? ⟨w.heap.size + 1, 0, none⟩ = false := by subst hWW; go_simp
  have cR1 : w0.cell? ⟨w.heap.size + 1, 1, none⟩ = some (.slice none 0 0) := by subst hWW; go_simp
  have fR1 : w0.frozen? ⟨w.heap.size + 1, 1, none⟩ = false := by subst hWW; go_simp
  have cR2 : w0.cell? ⟨w.heap.size + 1, 2, none⟩ = some (.slice none 0 0) := by subst hWW; go_simp
  have fR2 : w0.frozen? ⟨w.heap.size + 1, 2, none⟩ = false := by subst hWW; go_simp
  have ltR : w.heap.size + 1 < w0.heap.size := by subst hWW; simp
  have hB := hbx
  clear hbx hWW
  refine (rvalid46_any f a len cap _ HI.out).mono ?_
  rintro e w1 ⟨rfl, hb⟩
  replace cA0 := bc hb ltA cA0
  replace cA1 := bc hb ltA cA1
  replace cA2 := bc hb ltA cA2
  replace ltA := bl hb ltA
  replace cR0 := bc hb ltR cR0
  replace fR0 := bf hb ltR fR0
  replace cR1 := bc hb ltR cR1
  replace fR1 := bf hb ltR fR1
  replace cR2 := bc hb ltR cR2
  replace fR2 := bf hb ltR fR2
  replace ltR := bl hb ltR
  replace HI := Lib.hid (HI.out.below hb)
  replace HR := Lib.hid (HR.out.below hb)
  replace hB := hB.trans (hb.mono hB.size)
  rw [HO.out]
  clear hb
  go_wp2_with fail
  refine (rbelow_any f a len cap len _ HI.out HF0.out h61 (Nat.le_refl _)).mono ?_
  rintro e w2 ⟨rfl, hb⟩
  replace cA0 := bc hb ltA cA0
  replace cA1 := bc hb ltA cA1
  replace cA2 := bc hb ltA cA2
  replace ltA := bl hb ltA
  replace cR0 := bc hb ltR cR0
  replace fR0 := bf hb ltR fR0
  replace cR1 := bc hb ltR cR1
  replace fR1 := bf hb ltR fR1
  replace cR2 := bc hb ltR cR2
  replace fR2 := bf hb ltR fR2
  replace ltR := bl hb ltR
  replace HI := Lib.hid (HI.out.below hb)
  replace HR := Lib.hid (HR.out.below hb)
  replace hB := hB.trans (hb.mono hB.size)
  rw [HPA.out]
  clear hb
  go_wp2_with fail
  have eA0 := box_ext (B := w2.heap.size) cA0 ltA
  have eA1 := box_ext (B := w2.heap.size) cA1 ltA
  have eA2 := box_ext (B := w2.heap.size) cA2 ltA
  have eR0 := box_ext (B := w2.heap.size) cR0 ltR
  have eR1 := box_ext (B := w2.heap.size) cR1 ltR
  have eR2 := box_ext (B := w2.heap.size) cR2 ltR
  refine wp_region_sched [(0, false), (1, true), (2, true), (3, false)] (fun w' => ∃ W : Ext w2.heap.size w2, w' = W.1) (by kernel_rfl) (by kernel_rfl) ⟨⟨w2.drew, (Below.refl _ _).drew⟩, rfl⟩ ?_
  repeat (refine wpSched_calm rfl (fun K hK => ?_); go_simp; refine hK _ ?_; clear hK K)
  clear eA0 eA1 eA2 eR0 eR1 eR2
  have hbx : Below w2.heap.size w2 w2.drew := (Below.refl _ _).drew
  have hM := hbx
  replace cA0 := bc hbx ltA cA0
  replace cA1 := bc hbx ltA cA1
  replace cA2 := bc hbx ltA cA2
  replace ltA := bl hbx ltA
  replace cR0 := bc hbx ltR cR0
  replace fR0 := bf hbx ltR fR0
  replace cR1 := bc hbx ltR cR1
  replace fR1 := bf hbx ltR fR1
  replace cR2 := bc hbx ltR cR2
  replace fR2 := bf hbx ltR fR2
  replace ltR := bl hbx ltR
  replace HI := Lib.hid (HI.out.below hbx)
  replace HR := Lib.hid (HR.out.below hbx)
  replace hB := hB.trans (hbx.mono hB.size)
  clear hbx
  generalize w2.drew = ww2d at *
  refine wpSched_eff rfl rfl (fun K hK => ?_)
  go_simp
  refine (rfrac_any (-1) 2 (-1/2) _ (by omega) (by omega) (by omega) (by omega) (by omega) (by kernel_rfl)).mono ?_
  rintro e w3 ⟨v3, rfl, hv, hsz, hb⟩
  replace cA0 := bc hb ltA cA0
  replace cA1 := bc hb ltA cA1
  replace cA2 := bc hb ltA cA2
  replace ltA := bl hb ltA
  replace cR0 := bc hb ltR cR0
  replace fR0 := bf hb ltR fR0
  replace cR1 := bc hb ltR cR1
  replace fR1 := bf hb ltR fR1
  replace cR2 := bc hb ltR cR2
  replace fR2 := bf hb ltR fR2
  replace ltR := bl hb ltR
  replace HI := Lib.hid (HI.out.below hb)
  replace HR := Lib.hid (HR.out.below hb)
  replace hM := hM.trans (hb.mono hM.size)
  replace hB := hB.trans (hb.mono hB.size)
  have HV3 := Lib.hid (hv.raw hsz)
  clear hv hsz
  clear hb
  refine hK _ _ ⟨⟨w3, hM⟩, rfl⟩ ?_
  clear hK K
  refine wpSched_eff rfl rfl (fun K hK => ?_)
  go_simp
  refine (kcmp_any _ _ x (-1/2) L 2 _ HR.out HV3.out hL (by omega) (by omega)).mono ?_
  rintro e w4 ⟨rfl, hb⟩
  replace cA0 := bc hb ltA cA0
  replace cA1 := bc hb ltA cA1
  replace cA2 := bc hb ltA cA2
  replace ltA := bl hb ltA
  replace cR0 := bc hb ltR cR0
  replace fR0 := bf hb ltR fR0
  replace cR1 := bc hb ltR cR1
  replace fR1 := bf hb ltR fR1
  replace cR2 := bc hb ltR cR2
  replace fR2 := bf hb ltR fR2
  replace ltR := bl hb ltR
  replace HI := Lib.hid (HI.out.below hb)
  replace HR := Lib.hid (HR.out.below hb)
  replace HV3 := Lib.hid (HV3.out.below hb)
  replace hM := hM.trans (hb.mono hM.size)
  replace hB := hB.trans (hb.mono hB.size)
  have hq := HC.out
  generalize rcmpI x (-1/2) = cm at *
  have dcm : decide (cm ≤ 0) = false := by simpa using hq
  clear hq HC
  clear hb
  refine hK _ _ ⟨⟨w4, hM⟩, rfl⟩ ?_
  clear hK K
  repeat (refine wpSched_calm rfl (fun K hK => ?_); go_simp; refine hK _ ?_; clear hK K)
  refine wpSched_nil ?_
  clear HV3
  go_wp2_with fail
  go_loopw [27] (fun i wr => ∃ j : Nat, j ≤ len ∧ i = .int .i64 j ∧ Below w4.heap.size w4 wr) (fun i _ => len + 1 - (intOf i).toNat)
  case atStart => exact ⟨0, by omega, rfl, Below.refl _ _⟩
  case round =>
    obtain ⟨j, hj, rfl, hb⟩ := hrel
    have hP := hb
    replace cA0 := bc hb ltA cA0
    replace cA1 := bc hb ltA cA1
    replace cA2 := bc hb ltA cA2
    replace ltA := bl hb ltA
    replace cR0 := bc hb ltR cR0
    replace fR0 := bf hb ltR fR0
    replace cR1 := bc hb ltR cR1
    replace fR1 := bf hb ltR fR1
    replace cR2 := bc hb ltR cR2
    replace fR2 := bf hb ltR fR2
    replace ltR := bl hb ltR
    replace HI := Lib.hid (HI.out.below hb)
    replace HR := Lib.hid (HR.out.below hb)
    replace hB := hB.trans (hb.mono hB.size)
    clear hb
    by_cases hlt : j < len
    · have HCj := Lib.hid (HCs.out j hlt)
      have hw1 : IntKind.i64.wrap (2 * (j : Int)) = 2 * (j : Int) := IntWalk.i64_in _ (by omega)
      have hw2 : IntKind.i64.wrap (2 * (j : Int) + 1) = 2 * (j : Int) + 1 := IntWalk.i64_in _ (by omega)
      go_wp2_with fail
      have eA0 := box_ext (B := wr.heap.size) cA0 ltA
      have eA1 := box_ext (B := wr.heap.size) cA1 ltA
      have eA2 := box_ext (B := wr.heap.size) cA2 ltA
      have eR0 := box_ext (B := wr.heap.size) cR0 ltR
      have eR1 := box_ext (B := wr.heap.size) cR1 ltR
      have eR2 := box_ext (B := wr.heap.size) cR2 ltR
      refine wp_region_sched [(0, false), (1, false), (2, false), (3, false), (4, true), (5, true), (6, false)] (fun w' => ∃ W : Ext wr.heap.size wr, w' = W.1) (by kernel_rfl) (by kernel_rfl) ⟨⟨wr.drew, (Below.refl _ _).drew⟩, rfl⟩ ?_
      repeat (refine wpSched_calm rfl (fun K hK => ?_); go_simp; refine hK _ ?_; clear hK K)
      clear eA0 eA1 eA2 eR0 eR1 eR2
      have hbx : Below wr.heap.size wr wr.drew := (Below.refl _ _).drew
      have hM := hbx
      replace cA0 := bc hbx ltA cA0
      replace cA1 := bc hbx ltA cA1
      replace cA2 := bc hbx ltA cA2
      replace ltA := bl hbx ltA
      replace cR0 := bc hbx ltR cR0
      replace fR0 := bf hbx ltR fR0
      replace cR1 := bc hbx ltR cR1
      replace fR1 := bf hbx ltR fR1
      replace cR2 := bc hbx ltR cR2
      replace fR2 := bf hbx ltR fR2
      replace ltR := bl hbx ltR
      replace HI := Lib.hid (HI.out.below hbx)
      replace HR := Lib.hid (HR.out.below hbx)
      replace hB := hB.trans (hbx.mono hB.size)
      replace hP := hP.trans (hbx.mono hP.size)
      clear hbx
      generalize wr.drew = wwrd at *
      clear hw1 hw2
      refine wpSched_eff rfl rfl (fun K hK => ?_)
      go_simp
      refine (rfrac_any (2 * (j : Int) + 1) 2 ((j : Rat) + 1/2) _ (by omega) (by omega) (by omega) (by omega) (by omega) (half_up j)).mono ?_
      rintro e wa ⟨va, rfl, hv, hsz, hb⟩
      replace cA0 := bc hb ltA cA0
      replace cA1 := bc hb ltA cA1
      replace cA2 := bc hb ltA cA2
      replace ltA := bl hb ltA
      replace cR0 := bc hb ltR cR0
      replace fR0 := bf hb ltR fR0
      replace cR1 := bc hb ltR cR1
      replace fR1 := bf hb ltR fR1
      replace cR2 := bc hb ltR cR2
      replace fR2 := bf hb ltR fR2
      replace ltR := bl hb ltR
      replace HI := Lib.hid (HI.out.below hb)
      replace HR := Lib.hid (HR.out.below hb)
      replace hM := hM.trans (hb.mono hM.size)
      replace hB := hB.trans (hb.mono hB.size)
      replace hP := hP.trans (hb.mono hP.size)
      have HVa := Lib.hid (hv.raw hsz)
      clear hv hsz
      clear hb
      refine hK _ _ ⟨⟨wa, hM⟩, rfl⟩ ?_
      clear hK K
      refine wpSched_eff rfl rfl (fun K hK => ?_)
      go_simp
      refine (kcmp_any _ _ x ((j : Rat) + 1/2) L 2 _ HR.out HVa.out hL (by omega) (by omega)).mono ?_
      rintro e wb ⟨rfl, hb⟩
      replace cA0 := bc hb ltA cA0
      replace cA1 := bc hb ltA cA1
      replace cA2 := bc hb ltA cA2
      replace ltA := bl hb ltA
      replace cR0 := bc hb ltR cR0
      replace fR0 := bf hb ltR fR0
      replace cR1 := bc hb ltR cR1
      replace fR1 := bf hb ltR fR1
      replace cR2 := bc hb ltR cR2
      replace fR2 := bf hb ltR fR2
      replace ltR := bl hb ltR
      replace HI := Lib.hid (HI.out.below hb)
      replace HR := Lib.hid (HR.out.below hb)
      replace HVa := Lib.hid (HVa.out.below hb)
      replace hM := hM.trans (hb.mono hM.size)
      replace hB := hB.trans (hb.mono hB.size)
      replace hP := hP.trans (hb.mono hP.size)
      have hq := HCj.out
      generalize rcmpI x ((j : Rat) + 1/2) = cj at *
      have dcj : decide (cj ≤ 0) = false := by simpa using hq
      clear hq HCj
      clear hb
      refine hK _ _ ⟨⟨wb, hM⟩, rfl⟩ ?_
      clear hK K
      repeat (refine wpSched_calm rfl (fun K hK => ?_); go_simp; refine hK _ ?_; clear hK K)
      refine wpSched_nil ?_
      clear HVa
      go_wp2_with fail
      go_roundw
      case rel => exact ⟨j + 1, by omega, by go_num, hP⟩
      case measure => simp [intOf]; omega
    · have hs1 := ltR
      go_wp2_with fail
      refine (rfrac_any 1 1 1 _ (by omega) (by omega) (by omega) (by omega) (by omega) (by kernel_rfl)).mono ?_
      rintro e w8 ⟨v8, rfl, hv, hsz, hb⟩
      replace cA0 := bc hb ltA cA0
      replace cA1 := bc hb ltA cA1
      replace cA2 := bc hb ltA cA2
      replace ltA := bl hb ltA
      replace cR0 := bc hb ltR cR0
      replace fR0 := bf hb ltR fR0
      replace cR1 := bc hb ltR cR1
      replace fR1 := bf hb ltR fR1
      replace cR2 := bc hb ltR cR2
      replace fR2 := bf hb ltR fR2
      replace ltR := bl hb ltR
      replace HI := Lib.hid (HI.out.below hb)
      replace HR := Lib.hid (HR.out.below hb)
      replace hB := hB.trans (hb.mono hB.size)
      have HZ8 := Lib.hid (hsz.mono (show 2 ≤ L + 13 by omega))
      clear hsz
      obtain ⟨p8', m8', q8', p8, m8, q8, rfl, h1, h2, h3, h4⟩ := hv
      have HFin := Lib.hid (rat_store (B := wr.heap.size) (B' := w.heap.size) (g := w.heap.size + 1) (r := 1) ⟨p8', m8', q8', p8, m8, q8, rfl, h1, h2, h3, h4⟩ hs1 (by omega))
      clear h1 h2 h3 h4
      generalize decide ((1 : Rat).num < 0) = d8 at *
      clear hb
      go_wp2_with fail
      exact bodyPost_ret (v := .tuple #[.agg #[.bool d8, .slice p8' m8' q8', .slice p8 m8 q8], .int .i64 0]) (by simp [results, Tryz.results7, go_sem, cR0, cR1, cR2]) rfl ⟨_, rfl, HFin.out, HZ8.out, ((hB.setCell (p := ⟨w.heap.size + 1, 0, none⟩) (by simp) _).setCell (p := ⟨w.heap.size + 1, 1, none⟩) (by simp) _).setCell (p := ⟨w.heap.size + 1, 2, none⟩) (by simp) _⟩
set_option maxHeartbeats 4000000 in
theorem rrank_mid (f : List Int) (a : Option Addr) (len cap : Nat) (v : Value) (x : Rat) (L : Nat) (w : World) (hI : Ints w a len cap f) (hv : RatV w v x L) (hL : 1 ≤ L) (hm : (L + 40) * 4 ≤ 140737488355328) (hO : OkF f) (k : Nat) (hkl : k < len) (hy : ¬ x ≤ -1/2) (hn : ∀ j, j < k → ¬ x ≤ (j : Rat) + 1/2) (hkx : x ≤ (k : Rat) + 1/2) :
    Calls Tryz.prog 7 #[.slice a len cap, v] w fun e w' => ∃ v, e = .returned (.tuple #[v, .int .i64 0]) ∧ RatN w.heap.size w' v (((preS f k : Rat) + (f.getD k 0 : Rat) * (x - ((k : Rat) - 1/2))) * (1 / (f.sum : Rat))) ∧ Rsz (((preS f k : Rat) + (f.getD k 0 : Rat) * (x - ((k : Rat) - 1/2))) * (1 / (f.sum : Rat))) (L + 13) ∧ Below w.heap.size w w' := by
  have HI := Lib.hid hI
  have HN := Lib.hid hI.1
  have HR := Lib.hid hv
  obtain ⟨p, q, hr, hpq⟩ := hv
  obtain ⟨negx, ax', lenx', capx', xsx, ax, lenx, capx, ysx, rfl, -, -, -, -, -, -⟩ := hr
  clear hpq hI
  have HO := Lib.hid (eqE_OkF.2 hO)
  have HF0 := Lib.hid hO.2.1
  have h61 : len ≤ 61 := by rw [← HN.out]; exact hO.1
  have b5 := hO.pos
  have b6 := hO.sum_le
  have HPA : Hid (preS f len = f.sum) := Lib.hid (preS_all f (by rw [HN.out]; omega))
  have HC := Lib.hid (show ¬ rcmpI x (-1/2) ≤ 0 from fun h => hy (rcmp_le.1 h))
  have HCs := Lib.hid (show ∀ j, j < k → ¬ rcmpI x ((j : Rat) + 1/2) ≤ 0 from fun j hj h => hn j hj (rcmp_le.1 h))
  have HCk := Lib.hid (rcmp_le.2 hkx)
  obtain ⟨b1, b2, b3, b4⟩ := preS_at hO.2.1 hO.1 k
  generalize hfk : f.getD k 0 = fk at *
  have HFk := Lib.hid hfk
  generalize hpk : preS f k = pk at *
  have HPk := Lib.hid hpk
  generalize hsf : f.sum = sf at *
  clear hO hy hn hkx hfk hpk hsf
  go_enter Tryz.func7, Tryz.ntmps7
  go_wp2_with fail
  have hbx : Below w.heap.size w ((w.alloc (.cells #[.bool negx, .slice ax' lenx' capx', .slice ax lenx capx] 28)).alloc (.cells #[.bool false, .slice none 0 0, .slice none 0 0] 28)) := (((Below.refl _ _).alloc (Nat.le_refl _) _).alloc (by simp) _)
  generalize hWW : ((w.alloc (.cells #[.bool negx, .slice ax' lenx' capx', .slice ax lenx capx] 28)).alloc (.cells #[.bool false, .slice none 0 0, .slice none 0 0] 28)) = w0 at *
  replace HI := Lib.hid (HI.out.below hbx)
  replace HR := Lib.hid (HR.out.below hbx)
  have cA0 : w0.cell? ⟨w.heap.size, 0, none⟩ = some (.bool negx) := by subst hWW; go_simp
  have cA1 : w0.cell? ⟨w.heap.size, 1, none⟩ = some (.slice ax' lenx' capx') := by subst hWW; go_simp
  have cA2 : w0.cell? ⟨w.heap.size, 2, none⟩ = some (.slice ax lenx capx) := by subst hWW; go_simp
  have ltA : w.heap.size < w0.heap.size := by subst hWW; simp <;> omega
  have cR0 : w0.cell? ⟨w.heap.size + 1, 0, none⟩ = some (.bool false) := by subst hWW; go_simp
  have fR0 : w0.frozen? ⟨w.heap.size + 1, 0, none⟩ = false := by subst hWW; go_simp
  have cR1 : w0.cell? ⟨w.heap.size + 1, 1, none⟩ = some (.slice none 0 0) := by subst hWW; go_simp
  have fR1 : w0.frozen? ⟨w.heap.size + 1, 1, none⟩ = false := by subst hWW; go_simp
  have cR2 : w0.cell? ⟨w.heap.size + 1, 2, none⟩ = some (.slice none 0 0) := by subst hWW; go_simp
  have fR2 : w0.frozen? ⟨w.heap.size + 1, 2, none⟩ = false := by subst hWW; go_simp
  have ltR : w.heap.size + 1 < w0.heap.size := by subst hWW; simp
  have hB := hbx
  clear hbx hWW
  refine (rvalid46_any f a len cap _ HI.out).mono ?_
  rintro e w1 ⟨rfl, hb⟩
  replace cA0 := bc hb ltA cA0
  replace cA1 := bc hb ltA cA1
  replace cA2 := bc hb ltA cA2
  replace ltA := bl hb ltA
  replace cR0 := bc hb ltR cR0
  replace fR0 := bf hb ltR fR0
  replace cR1 := bc hb ltR cR1
  replace fR1 := bf hb ltR fR1
  replace cR2 := bc hb ltR cR2
  replace fR2 := bf hb ltR fR2
  replace ltR := bl hb ltR
  replace HI := Lib.hid (HI.out.below hb)
  replace HR := Lib.hid (HR.out.below hb)
  replace hB := hB.trans (hb.mono hB.size)
  rw [HO.out]
  clear hb
  go_wp2_with fail
  refine (rbelow_any f a len cap len _ HI.out HF0.out h61 (Nat.le_refl _)).mono ?_
  rintro e w2 ⟨rfl, hb⟩
  replace cA0 := bc hb ltA cA0
  replace cA1 := bc hb ltA cA1
  replace cA2 := bc hb ltA cA2
  replace ltA := bl hb ltA
  replace cR0 := bc hb ltR cR0
  replace fR0 := bf hb ltR fR0
  replace cR1 := bc hb ltR cR1
  replace fR1 := bf hb ltR fR1
  replace cR2 := bc hb ltR cR2
  replace fR2 := bf hb ltR fR2
  replace ltR := bl hb ltR
  replace HI := Lib.hid (HI.out.below hb)
  replace HR := Lib.hid (HR.out.below hb)
  replace hB := hB.trans (hb.mono hB.size)
  rw [HPA.out]
  clear hb
  go_wp2_with fail
  have eA0 := box_ext (B := w2.heap.size) cA0 ltA
  have eA1 := box_ext (B := w2.heap.size) cA1 ltA
  have eA2 := box_ext (B := w2.heap.size) cA2 ltA
  have eR0 := box_ext (B := w2.heap.size) cR0 ltR
  have eR1 := box_ext (B := w2.heap.size) cR1 ltR
  have eR2 := box_ext (B := w2.heap.size) cR2 ltR
  refine wp_region_sched [(0, false), (1, true), (2, true), (3, false)] (fun w' => ∃ W : Ext w2.heap.size w2, w' = W.1) (by kernel_rfl) (by kernel_rfl) ⟨⟨w2.drew, (Below.refl _ _).drew⟩, rfl⟩ ?_
  repeat (refine wpSched_calm rfl (fun K hK => ?_); go_simp; refine hK _ ?_; clear hK K)
  clear eA0 eA1 eA2 eR0 eR1 eR2
  have hbx : Below w2.heap.size w2 w2.drew := (Below.refl _ _).drew
  have hM := hbx
  replace cA0 := bc hbx ltA cA0
  replace cA1 := bc hbx ltA cA1
  replace cA2 := bc hbx ltA cA2
  replace ltA := bl hbx ltA
  replace cR0 := bc hbx ltR cR0
  replace fR0 := bf hbx ltR fR0
  replace cR1 := bc hbx ltR cR1
  replace fR1 := bf hbx ltR fR1
  replace cR2 := bc hbx ltR cR2
  replace fR2 := bf hbx ltR fR2
  replace ltR := bl hbx ltR
  replace HI := Lib.hid (HI.out.below hbx)
  replace HR := Lib.hid (HR.out.below hbx)
  replace hB := hB.trans (hbx.mono hB.size)
  clear hbx
  generalize w2.drew = ww2d at *
  refine wpSched_eff rfl rfl (fun K hK => ?_)
  go_simp
  refine (rfrac_any (-1) 2 (-1/2) _ (by omega) (by omega) (by omega) (by omega) (by omega) (by kernel_rfl)).mono ?_
  rintro e w3 ⟨v3, rfl, hv, hsz, hb⟩
  replace cA0 := bc hb ltA cA0
  replace cA1 := bc hb ltA cA1
  replace cA2 := bc hb ltA cA2
  replace ltA := bl hb ltA
  replace cR0 := bc hb ltR cR0
  replace fR0 := bf hb ltR fR0
  replace cR1 := bc hb ltR cR1
  replace fR1 := bf hb ltR fR1
  replace cR2 := bc hb ltR cR2
  replace fR2 := bf hb ltR fR2
  replace ltR := bl hb ltR
  replace HI := Lib.hid (HI.out.below hb)
  replace HR := Lib.hid (HR.out.below hb)
  replace hM := hM.trans (hb.mono hM.size)
  replace hB := hB.trans (hb.mono hB.size)
  have HV3 := Lib.hid (hv.raw hsz)
  clear hv hsz
  clear hb
  refine hK _ _ ⟨⟨w3, hM⟩, rfl⟩ ?_
  clear hK K
  refine wpSched_eff rfl rfl (fun K hK => ?_)
  go_simp
  refine (kcmp_any _ _ x (-1/2) L 2 _ HR.out HV3.out hL (by omega) (by omega)).mono ?_
  rintro e w4 ⟨rfl, hb⟩
  replace cA0 := bc hb ltA cA0
  replace cA1 := bc hb ltA cA1
  replace cA2 := bc hb ltA cA2
  replace ltA := bl hb ltA
  replace cR0 := bc hb ltR cR0
  replace fR0 := bf hb ltR fR0
  replace cR1 := bc hb ltR cR1
  replace fR1 := bf hb ltR fR1
  replace cR2 := bc hb ltR cR2
  replace fR2 := bf hb ltR fR2
  replace ltR := bl hb ltR
  replace HI := Lib.hid (HI.out.below hb)
  replace HR := Lib.hid (HR.out.below hb)
  replace HV3 := Lib.hid (HV3.out.below hb)
  replace hM := hM.trans (hb.mono hM.size)
  replace hB := hB.trans (hb.mono hB.size)
  have hq := HC.out
  generalize rcmpI x (-1/2) = cm at *
  have dcm : decide (cm ≤ 0) = false := by simpa using hq
  clear hq HC
  clear hb
  refine hK _ _ ⟨⟨w4, hM⟩, rfl⟩ ?_
  clear hK K
  repeat (refine wpSched_calm rfl (fun K hK => ?_); go_simp; refine hK _ ?_; clear hK K)
  refine wpSched_nil ?_
  clear HV3
  go_wp2_with fail
  go_loopw [27] (fun i wr => ∃ j : Nat, j ≤ k ∧ i = .int .i64 j ∧ Below w4.heap.size w4 wr) (fun i _ => k + 1 - (intOf i).toNat)
  case atStart => exact ⟨0, by omega, rfl, Below.refl _ _⟩
  case round =>
    obtain ⟨j, hj, rfl, hb⟩ := hrel
    have hP := hb
    replace cA0 := bc hb ltA cA0
    replace cA1 := bc hb ltA cA1
    replace cA2 := bc hb ltA cA2
    replace ltA := bl hb ltA
    replace cR0 := bc hb ltR cR0
    replace fR0 := bf hb ltR fR0
    replace cR1 := bc hb ltR cR1
    replace fR1 := bf hb ltR fR1
    replace cR2 := bc hb ltR cR2
    replace fR2 := bf hb ltR fR2
    replace ltR := bl hb ltR
    replace HI := Lib.hid (HI.out.below hb)
    replace HR := Lib.hid (HR.out.below hb)
    replace hB := hB.trans (hb.mono hB.size)
    clear hb
    by_cases hjk : j < k
    · have HCj := Lib.hid (HCs.out j hjk)
      have hjl : j < len := by omega
      have hw1 : IntKind.i64.wrap (2 * (j : Int)) = 2 * (j : Int) := IntWalk.i64_in _ (by omega)
      have hw2 : IntKind.i64.wrap (2 * (j : Int) + 1) = 2 * (j : Int) + 1 := IntWalk.i64_in _ (by omega)
      go_wp2_with fail
      have eA0 := box_ext (B := wr.heap.size) cA0 ltA
      have eA1 := box_ext (B := wr.heap.size) cA1 ltA
      have eA2 := box_ext (B := wr.heap.size) cA2 ltA
      have eR0 := box_ext (B := wr.heap.size) cR0 ltR
      have eR1 := box_ext (B := wr.heap.size) cR1 ltR
      have eR2 := box_ext (B := wr.heap.size) cR2 ltR
      refine wp_region_sched [(0, false), (1, false), (2, false), (3, false), (4, true), (5, true), (6, false)] (fun w' => ∃ W : Ext wr.heap.size wr, w' = W.1) (by kernel_rfl) (by kernel_rfl) ⟨⟨wr.drew, (Below.refl _ _).drew⟩, rfl⟩ ?_
      repeat (refine wpSched_calm rfl (fun K hK => ?_); go_simp; refine hK _ ?_; clear hK K)
      clear eA0 eA1 eA2 eR0 eR1 eR2
      have hbx : Below wr.heap.size wr wr.drew := (Below.refl _ _).drew
      have hM := hbx
      replace cA0 := bc hbx ltA cA0
      replace cA1 := bc hbx ltA cA1
      replace cA2 := bc hbx ltA cA2
      replace ltA := bl hbx ltA
      replace cR0 := bc hbx ltR cR0
      replace fR0 := bf hbx ltR fR0
      replace cR1 := bc hbx ltR cR1
      replace fR1 := bf hbx ltR fR1
      replace cR2 := bc hbx ltR cR2
      replace fR2 := bf hbx ltR fR2
      replace ltR := bl hbx ltR
      replace HI := Lib.hid (HI.out.below hbx)
      replace HR := Lib.hid (HR.out.below hbx)
      replace hB := hB.trans (hbx.mono hB.size)
      replace hP := hP.trans (hbx.mono hP.size)
      clear hbx
      generalize wr.drew = wwrd at *
      clear hw1 hw2
      refine wpSched_eff rfl rfl (fun K hK => ?_)
      go_simp
      refine (rfrac_any (2 * (j : Int) + 1) 2 ((j : Rat) + 1/2) _ (by omega) (by omega) (by omega) (by omega) (by omega) (half_up j)).mono ?_
      rintro e wa ⟨va, rfl, hv, hsz, hb⟩
      replace cA0 := bc hb ltA cA0
      replace cA1 := bc hb ltA cA1
      replace cA2 := bc hb ltA cA2
      replace ltA := bl hb ltA
      replace cR0 := bc hb ltR cR0
      replace fR0 := bf hb ltR fR0
      replace cR1 := bc hb ltR cR1
      replace fR1 := bf hb ltR fR1
      replace cR2 := bc hb ltR cR2
      replace fR2 := bf hb ltR fR2
      replace ltR := bl hb ltR
      replace HI := Lib.hid (HI.out.below hb)
      replace HR := Lib.hid (HR.out.below hb)
      replace hM := hM.trans (hb.mono hM.size)
      replace hB := hB.trans (hb.mono hB.size)
      replace hP := hP.trans (hb.mono hP.size)
      have HVa := Lib.hid (hv.raw hsz)
      clear hv hsz
      clear hb
      refine hK _ _ ⟨⟨wa, hM⟩, rfl⟩ ?_
      clear hK K
      refine wpSched_eff rfl rfl (fun K hK => ?_)
      go_simp
      refine (kcmp_any _ _ x ((j : Rat) + 1/2) L 2 _ HR.out HVa.out hL (by omega) (by omega)).mono ?_
      rintro e wb ⟨rfl, hb⟩
      replace cA0 := bc hb ltA cA0
      replace cA1 := bc hb ltA cA1
      replace cA2 := bc hb ltA cA2
      replace ltA := bl hb ltA
      replace cR0 := bc hb ltR cR0
      replace fR0 := bf hb ltR fR0
      replace cR1 := bc hb ltR cR1
      replace fR1 := bf hb ltR fR1
      replace cR2 := bc hb ltR cR2
      replace fR2 := bf hb ltR fR2
      replace ltR := bl hb ltR
      replace HI := Lib.hid (HI.out.below hb)
      replace HR := Lib.hid (HR.out.below hb)
      replace HVa := Lib.hid (HVa.out.below hb)
      replace hM := hM.trans (hb.mono hM.size)
      replace hB := hB.trans (hb.mono hB.size)
      replace hP := hP.trans (hb.mono hP.size)
      have hq := HCj.out
      generalize rcmpI x ((j : Rat) + 1/2) = cj at *
      have dcj : decide (cj ≤ 0) = false := by simpa using hq
      clear hq HCj
      clear hb
      refine hK _ _ ⟨⟨wb, hM⟩, rfl⟩ ?_
      clear hK K
      repeat (refine wpSched_calm rfl (fun K hK => ?_); go_simp; refine hK _ ?_; clear hK K)
      refine wpSched_nil ?_
      clear HVa
      go_wp2_with fail
      go_roundw
      case rel => exact ⟨j + 1, by omega, by go_num, hP⟩
      case measure => simp [intOf]; omega
    · obtain rfl : j = k := by omega
      have HCj := HCk
      have hw1 : IntKind.i64.wrap (2 * (j : Int)) = 2 * (j : Int) := IntWalk.i64_in _ (by omega)
      have hw2 : IntKind.i64.wrap (2 * (j : Int) + 1) = 2 * (j : Int) + 1 := IntWalk.i64_in _ (by omega)
      go_wp2_with fail
      have eA0 := box_ext (B := wr.heap.size) cA0 ltA
      have eA1 := box_ext (B := wr.heap.size) cA1 ltA
      have eA2 := box_ext (B := wr.heap.size) cA2 ltA
      have eR0 := box_ext (B := wr.heap.size) cR0 ltR
      have eR1 := box_ext (B := wr.heap.size) cR1 ltR
      have eR2 := box_ext (B := wr.heap.size) cR2 ltR
      refine wp_region_sched [(0, false), (1, false), (2, false), (3, false), (4, true), (5, true), (6, false)] (fun w' => ∃ W : Ext wr.heap.size wr, w' = W.1) (by kernel_rfl) (by kernel_rfl) ⟨⟨wr.drew, (Below.refl _ _).drew⟩, rfl⟩ ?_
      repeat (refine wpSched_calm rfl (fun K hK => ?_); go_simp; refine hK _ ?_; clear hK K)
      clear eA0 eA1 eA2 eR0 eR1 eR2
      have hbx : Below wr.heap.size wr wr.drew := (Below.refl _ _).drew
      have hM := hbx
      replace cA0 := bc hbx ltA cA0
      replace cA1 := bc hbx ltA cA1
      replace cA2 := bc hbx ltA cA2
      replace ltA := bl hbx ltA
      replace cR0 := bc hbx ltR cR0
      replace fR0 := bf hbx ltR fR0
      replace cR1 := bc hbx ltR cR1
      replace fR1 := bf hbx ltR fR1
      replace cR2 := bc hbx ltR cR2
      replace fR2 := bf hbx ltR fR2
      replace ltR := bl hbx ltR
      replace HI := Lib.hid (HI.out.below hbx)
      replace HR := Lib.hid (HR.out.below hbx)
      replace hB := hB.trans (hbx.mono hB.size)
      clear hbx
      generalize wr.drew = wwrd at *
      clear hw1 hw2
      refine wpSched_eff rfl rfl (fun K hK => ?_)
      go_simp
      refine (rfrac_any (2 * (j : Int) + 1) 2 ((j : Rat) + 1/2) _ (by omega) (by omega) (by omega) (by omega) (by omega) (half_up j)).mono ?_
      rintro e wa ⟨va, rfl, hv, hsz, hb⟩
      replace cA0 := bc hb ltA cA0
      replace cA1 := bc hb ltA cA1
      replace cA2 := bc hb ltA cA2
      replace ltA := bl hb ltA
      replace cR0 := bc hb ltR cR0
      replace fR0 := bf hb ltR fR0
      replace cR1 := bc hb ltR cR1
      replace fR1 := bf hb ltR fR1
      replace cR2 := bc hb ltR cR2
      replace fR2 := bf hb ltR fR2
      replace ltR := bl hb ltR
      replace HI := Lib.hid (HI.out.below hb)
      replace HR := Lib.hid (HR.out.below hb)
      replace hM := hM.trans (hb.mono hM.size)
      replace hB := hB.trans (hb.mono hB.size)
      have HVa := Lib.hid (hv.raw hsz)
      clear hv hsz
      clear hb
      refine hK _ _ ⟨⟨wa, hM⟩, rfl⟩ ?_
      clear hK K
      refine wpSched_eff rfl rfl (fun K hK => ?_)
      go_simp
      refine (kcmp_any _ _ x ((j : Rat) + 1/2) L 2 _ HR.out HVa.out hL (by omega) (by omega)).mono ?_
      rintro e wb ⟨rfl, hb⟩
      replace cA0 := bc hb ltA cA0
      replace cA1 := bc hb ltA cA1
      replace cA2 := bc hb ltA cA2
      replace ltA := bl hb ltA
      replace cR0 := bc hb ltR cR0
      replace fR0 := bf hb ltR fR0
      replace cR1 := bc hb ltR cR1
      replace fR1 := bf hb ltR fR1
      replace cR2 := bc hb ltR cR2
      replace fR2 := bf hb ltR fR2
      replace ltR := bl hb ltR
      replace HI := Lib.hid (HI.out.below hb)
      replace HR := Lib.hid (HR.out.below hb)
      replace HVa := Lib.hid (HVa.out.below hb)
      replace hM := hM.trans (hb.mono hM.size)
      replace hB := hB.trans (hb.mono hB.size)
      have hq := HCj.out
      generalize rcmpI x ((j : Rat) + 1/2) = cj at *
      have dcj : decide (cj ≤ 0) = true := by simpa using hq
      clear hq HCj
      clear hb
      refine hK _ _ ⟨⟨wb, hM⟩, rfl⟩ ?_
      clear hK K
      repeat (refine wpSched_calm rfl (fun K hK => ?_); go_simp; refine hK _ ?_; clear hK K)
      refine wpSched_nil ?_
      clear HVa
      go_wp2_with fail
      obtain ⟨bb, off, rfl, hbs, hcc⟩ := HI.out.2.at hkl
      have ec := hcc j hkl _ (Below.refl _ _)
      rw [HFk.out] at ec
      have ef := box_ext (B := wb.heap.size) ec hbs
      have hw1 : IntKind.i64.wrap (2 * (j : Int)) = 2 * (j : Int) := IntWalk.i64_in _ (by omega)
      have hw2 : IntKind.i64.wrap (2 * (j : Int) - 1) = 2 * (j : Int) - 1 := IntWalk.i64_in _ (by omega)
      clear hcc ec hbs
      have SCA0 := Lib.hid cA0
      have SCA1 := Lib.hid cA1
      have SCA2 := Lib.hid cA2
      have SLA := Lib.hid ltA
      have SCR0 := Lib.hid cR0
      have SFR0 := Lib.hid fR0
      have SCR1 := Lib.hid cR1
      have SFR1 := Lib.hid fR1
      have SCR2 := Lib.hid cR2
      have SFR2 := Lib.hid fR2
      have SLR := Lib.hid ltR
      have SHI := Lib.hid HI.out
      have SHR := Lib.hid HR.out
      have SB := Lib.hid hB
      have eA0 := box_ext (B := wb.heap.size) cA0 ltA
      have eA1 := box_ext (B := wb.heap.size) cA1 ltA
      have eA2 := box_ext (B := wb.heap.size) cA2 ltA
      have eR0 := box_ext (B := wb.heap.size) cR0 ltR
      have eR1 := box_ext (B := wb.heap.size) cR1 ltR
      have eR2 := box_ext (B := wb.heap.size) cR2 ltR
      refine wp_region_float 12 [(0, false), (1, false), (2, false), (3, false), (5, false), (6, false), (7, false), (8, false), (4, true), (9, true), (10, true), (11, true)] [(13, true)] (fun w' => ∃ W : Ext wb.heap.size wb, w' = W.1) _ 9 (.cells #[.bool false, .slice none 0 0, .slice none 0 0] 28) wb.heap.size (by kernel_rfl) rfl rfl rfl (fun a w => by simp [execOp, go_sem]) (fun w ⟨W, e⟩ => e ▸ W.2.size) (fun w ⟨W, e⟩ => ⟨⟨_, (e ▸ W.2).alloc (e ▸ W.2.size) _⟩, rfl⟩) (by kernel_rfl) ⟨⟨wb.drew, (Below.refl _ _).drew⟩, rfl⟩ ?_
      repeat (refine wpFl_calm rfl (fun K hK => ?_); go_simp; refine hK _ ?_; clear hK K)
      clear eA0 eA1 eA2 eR0 eR1 eR2
      have hbx : Below wb.heap.size wb wb.drew := (Below.refl _ _).drew
      have hM := hbx
      replace cA0 := bc hbx ltA cA0
      replace cA1 := bc hbx ltA cA1
      replace cA2 := bc hbx ltA cA2
      replace ltA := bl hbx ltA
      replace cR0 := bc hbx ltR cR0
      replace fR0 := bf hbx ltR fR0
      replace cR1 := bc hbx ltR cR1
      replace fR1 := bf hbx ltR fR1
      replace cR2 := bc hbx ltR cR2
      replace fR2 := bf hbx ltR fR2
      replace ltR := bl hbx ltR
      replace HI := Lib.hid (HI.out.below hbx)
      replace HR := Lib.hid (HR.out.below hbx)
      replace hB := hB.trans (hbx.mono hB.size)
      clear hbx
      generalize wb.drew = wwbd at *
      clear ef hw1 hw2
      refine wpFl_eff rfl rfl (fun wy hC hg K hK => ?_)
      obtain ⟨⟨wz, hE⟩, hwe⟩ := hC
      change wy = wz at hwe
      subst hwe
      replace cA0 := bc hg ltA cA0
      replace cA1 := bc hg ltA cA1
      replace cA2 := bc hg ltA cA2
      replace ltA := bl hg ltA
      replace cR0 := bc hg ltR cR0
      replace fR0 := bf hg ltR fR0
      replace cR1 := bc hg ltR cR1
      replace fR1 := bf hg ltR fR1
      replace cR2 := bc hg ltR cR2
      replace fR2 := bf hg ltR fR2
      replace ltR := bl hg ltR
      replace HI := Lib.hid (HI.out.below hg)
      replace HR := Lib.hid (HR.out.below hg)
      replace hB := hB.trans (hg.mono hB.size)
      replace hM := hE
      clear hE hg
      go_simp
      refine (rfrac_any fk 1 (fk : Rat) _ (by omega) (by omega) (by omega) (by omega) (by omega) (rat_whole fk)).mono ?_
      rintro e wc ⟨vc, rfl, hv, hsz, hb⟩
      replace cA0 := bc hb ltA cA0
      replace cA1 := bc hb ltA cA1
      replace cA2 := bc hb ltA cA2
      replace ltA := bl hb ltA
      replace cR0 := bc hb ltR cR0
      replace fR0 := bf hb ltR fR0
      replace cR1 := bc hb ltR cR1
      replace fR1 := bf hb ltR fR1
      replace cR2 := bc hb ltR cR2
      replace fR2 := bf hb ltR fR2
      replace ltR := bl hb ltR
      replace HI := Lib.hid (HI.out.below hb)
      replace HR := Lib.hid (HR.out.below hb)
      replace hM := hM.trans (hb.mono hM.size)
      replace hB := hB.trans (hb.mono hB.size)
      have HVc := Lib.hid (hv.raw hsz)
      clear hv hsz
      refine hK _ _ ⟨⟨wc, hM⟩, rfl⟩ hb ?_
      clear hK K hb
      refine wpFl_eff rfl rfl (fun wy hC hg K hK => ?_)
      obtain ⟨⟨wz, hE⟩, hwe⟩ := hC
      change wy = wz at hwe
      subst hwe
      replace cA0 := bc hg ltA cA0
      replace cA1 := bc hg ltA cA1
      replace cA2 := bc hg ltA cA2
      replace ltA := bl hg ltA
      replace cR0 := bc hg ltR cR0
      replace fR0 := bf hg ltR fR0
      replace cR1 := bc hg ltR cR1
      replace fR1 := bf hg ltR fR1
      replace cR2 := bc hg ltR cR2
      replace fR2 := bf hg ltR fR2
      replace ltR := bl hg ltR
      replace HI := Lib.hid (HI.out.below hg)
      replace HR := Lib.hid (HR.out.below hg)
      replace HVc := Lib.hid (HVc.out.below hg)
      replace hB := hB.trans (hg.mono hB.size)
      replace hM := hE
      clear hE hg
      go_simp
      refine (rfrac_any (2 * (j : Int) - 1) 2 ((j : Rat) - 1/2) _ (by omega) (by omega) (by omega) (by omega) (by omega) (half_down j)).mono ?_
      rintro e we ⟨ve, rfl, hv, hsz, hb⟩
      replace cA0 := bc hb ltA cA0
      replace cA1 := bc hb ltA cA1
      replace cA2 := bc hb ltA cA2
      replace ltA := bl hb ltA
      replace cR0 := bc hb ltR cR0
      replace fR0 := bf hb ltR fR0
      replace cR1 := bc hb ltR cR1
      replace fR1 := bf hb ltR fR1
      replace cR2 := bc hb ltR cR2
      replace fR2 := bf hb ltR fR2
      replace ltR := bl hb ltR
      replace HI := Lib.hid (HI.out.below hb)
      replace HR := Lib.hid (HR.out.below hb)
      replace HVc := Lib.hid (HVc.out.below hb)
      replace hM := hM.trans (hb.mono hM.size)
      replace hB := hB.trans (hb.mono hB.size)
      have HVe := Lib.hid (hv.raw hsz)
      clear hv hsz
      refine hK _ _ ⟨⟨we, hM⟩, rfl⟩ hb ?_
      clear hK K hb
      refine wpFl_eff rfl rfl (fun wy hC hg K hK => ?_)
      obtain ⟨⟨wz, hE⟩, hwe⟩ := hC
      change wy = wz at hwe
      subst hwe
      replace cA0 := bc hg ltA cA0
      replace cA1 := bc hg ltA cA1
      replace cA2 := bc hg ltA cA2
      replace ltA := bl hg ltA
      replace cR0 := bc hg ltR cR0
      replace fR0 := bf hg ltR fR0
      replace cR1 := bc hg ltR cR1
      replace fR1 := bf hg ltR fR1
      replace cR2 := bc hg ltR cR2
      replace fR2 := bf hg ltR fR2
      replace ltR := bl hg ltR
      replace HI := Lib.hid (HI.out.below hg)
      replace HR := Lib.hid (HR.out.below hg)
      replace HVc := Lib.hid (HVc.out.below hg)
      replace HVe := Lib.hid (HVe.out.below hg)
      replace hB := hB.trans (hg.mono hB.size)
      replace hM := hE
      clear hE hg
      go_simp
      refine (ksub_any _ _ x ((j : Rat) - 1/2) L 2 _ HR.out HVe.out hL (by omega) (by omega)).mono ?_
      rintro e wf ⟨vf1, rfl, hv, hsz, hb⟩
      replace cA0 := bc hb ltA cA0
      replace cA1 := bc hb ltA cA1
      replace cA2 := bc hb ltA cA2
      replace ltA := bl hb ltA
      replace cR0 := bc hb ltR cR0
      replace fR0 := bf hb ltR fR0
      replace cR1 := bc hb ltR cR1
      replace fR1 := bf hb ltR fR1
      replace cR2 := bc hb ltR cR2
      replace fR2 := bf hb ltR fR2
      replace ltR := bl hb ltR
      replace HI := Lib.hid (HI.out.below hb)
      replace HR := Lib.hid (HR.out.below hb)
      replace HVc := Lib.hid (HVc.out.below hb)
      replace HVe := Lib.hid (HVe.out.below hb)
      replace hM := hM.trans (hb.mono hM.size)
      replace hB := hB.trans (hb.mono hB.size)
      have HVf1 := Lib.hid (hv.raw hsz)
      clear hv hsz
      refine hK _ _ ⟨⟨wf, hM⟩, rfl⟩ hb ?_
      clear hK K hb
      refine wpFl_eff rfl rfl (fun wy hC hg K hK => ?_)
      obtain ⟨⟨wz, hE⟩, hwe⟩ := hC
      change wy = wz at hwe
      subst hwe
      replace cA0 := bc hg ltA cA0
      replace cA1 := bc hg ltA cA1
      replace cA2 := bc hg ltA cA2
      replace ltA := bl hg ltA
      replace cR0 := bc hg ltR cR0
      replace fR0 := bf hg ltR fR0
      replace cR1 := bc hg ltR cR1
      replace fR1 := bf hg ltR fR1
      replace cR2 := bc hg ltR cR2
      replace fR2 := bf hg ltR fR2
      replace ltR := bl hg ltR
      replace HI := Lib.hid (HI.out.below hg)
      replace HR := Lib.hid (HR.out.below hg)
      replace HVc := Lib.hid (HVc.out.below hg)
      replace HVe := Lib.hid (HVe.out.below hg)
      replace HVf1 := Lib.hid (HVf1.out.below hg)
      replace hB := hB.trans (hg.mono hB.size)
      replace hM := hE
      clear hE hg
      go_simp
      refine (kmul_any _ _ (fk : Rat) (x - ((j : Rat) - 1/2)) 2 (L + 2 + 1) _ HVc.out HVf1.out (by omega) (by omega) (by omega)).mono ?_
      rintro e wg ⟨vg, rfl, hv, hsz, hb⟩
      replace cA0 := bc hb ltA cA0
      replace cA1 := bc hb ltA cA1
      replace cA2 := bc hb ltA cA2
      replace ltA := bl hb ltA
      replace cR0 := bc hb ltR cR0
      replace fR0 := bf hb ltR fR0
      replace cR1 := bc hb ltR cR1
      replace fR1 := bf hb ltR fR1
      replace cR2 := bc hb ltR cR2
      replace fR2 := bf hb ltR fR2
      replace ltR := bl hb ltR
      replace HI := Lib.hid (HI.out.below hb)
      replace HR := Lib.hid (HR.out.below hb)
      replace HVc := Lib.hid (HVc.out.below hb)
      replace HVe := Lib.hid (HVe.out.below hb)
      replace HVf1 := Lib.hid (HVf1.out.below hb)
      replace hM := hM.trans (hb.mono hM.size)
      replace hB := hB.trans (hb.mono hB.size)
      have HVg := Lib.hid (hv.raw hsz)
      obtain ⟨pg', mg', qg', pg, mg, qg, rfl, -, -, -, -⟩ := hv
      clear hsz
      generalize decide (((fk : Rat) * (x - ((j : Rat) - 1/2)) : Rat).num < 0) = dg at *
      refine hK _ _ ⟨⟨wg, hM⟩, rfl⟩ hb ?_
      clear hK K hb
      clear HVc HVe HVf1
      refine wpFl_nil fun gZ wy hC hg hBk hge => ?_
      obtain ⟨⟨wz, hE⟩, hwe⟩ := hC
      change wy = wz at hwe
      subst hwe
      replace cA0 := bc hg ltA cA0
      replace cA1 := bc hg ltA cA1
      replace cA2 := bc hg ltA cA2
      replace ltA := bl hg ltA
      replace cR0 := bc hg ltR cR0
      replace fR0 := bf hg ltR fR0
      replace cR1 := bc hg ltR cR1
      replace fR1 := bf hg ltR fR1
      replace cR2 := bc hg ltR cR2
      replace fR2 := bf hg ltR fR2
      replace ltR := bl hg ltR
      replace HI := Lib.hid (HI.out.below hg)
      replace HR := Lib.hid (HR.out.below hg)
      replace HVg := Lib.hid (HVg.out.below hg)
      replace hB := hB.trans (hg.mono hB.size)
      replace hM := hE
      clear hE hg
      have z0 := blk_cell hBk 0
      have y0 := blk_free hBk 0
      have z1 := blk_cell hBk 1
      have y1 := blk_free hBk 1
      have z2 := blk_cell hBk 2
      have y2 := blk_free hBk 2
      simp at z0 z1 z2
      have hgl := blk_lt hBk
      refine wpSched_eff rfl rfl (fun K hK => ?_)
      go_simp
      refine hK _ _ ⟨⟨_, (((hM.setCell (p := ⟨gZ, 0, none⟩) hge _).setCell (p := ⟨gZ, 1, none⟩) hge _).setCell (p := ⟨gZ, 2, none⟩) hge _)⟩, rfl⟩ ?_
      clear hK K
      refine wpSched_nil ?_
      have hMn := (((hM.setCell (p := ⟨gZ, 0, none⟩) hge (.bool dg)).setCell (p := ⟨gZ, 1, none⟩) hge (.slice pg' mg' qg')).setCell (p := ⟨gZ, 2, none⟩) hge (.slice pg mg qg))
      replace HVg := Lib.hid (HVg.out.off hBk zRat_no (.bool dg) (.slice pg' mg' qg') (.slice pg mg qg))
      replace cA0 := bc hMn SLA.out SCA0.out
      replace cA1 := bc hMn SLA.out SCA1.out
      replace cA2 := bc hMn SLA.out SCA2.out
      replace ltA := bl hMn SLA.out
      replace cR0 := bc hMn SLR.out SCR0.out
      replace fR0 := bf hMn SLR.out SFR0.out
      replace cR1 := bc hMn SLR.out SCR1.out
      replace fR1 := bf hMn SLR.out SFR1.out
      replace cR2 := bc hMn SLR.out SCR2.out
      replace fR2 := bf hMn SLR.out SFR2.out
      replace ltR := bl hMn SLR.out
      replace HI := Lib.hid (SHI.out.below hMn)
      replace HR := Lib.hid (SHR.out.below hMn)
      replace hB := SB.out.trans (hMn.mono SB.out.size)
      have cZ0 : (((wy.setCell ⟨gZ, 0, none⟩ (.bool dg)).setCell ⟨gZ, 1, none⟩ (.slice pg' mg' qg')).setCell ⟨gZ, 2, none⟩ (.slice pg mg qg)).cell? ⟨gZ, 0, none⟩ = some (.bool dg) := by go_simp
      have cZ1 : (((wy.setCell ⟨gZ, 0, none⟩ (.bool dg)).setCell ⟨gZ, 1, none⟩ (.slice pg' mg' qg')).setCell ⟨gZ, 2, none⟩ (.slice pg mg qg)).cell? ⟨gZ, 1, none⟩ = some (.slice pg' mg' qg') := by go_simp
      have cZ2 : (((wy.setCell ⟨gZ, 0, none⟩ (.bool dg)).setCell ⟨gZ, 1, none⟩ (.slice pg' mg' qg')).setCell ⟨gZ, 2, none⟩ (.slice pg mg qg)).cell? ⟨gZ, 2, none⟩ = some (.slice pg mg qg) := by go_simp
      have ltZ : gZ < (((wy.setCell ⟨gZ, 0, none⟩ (.bool dg)).setCell ⟨gZ, 1, none⟩ (.slice pg' mg' qg')).setCell ⟨gZ, 2, none⟩ (.slice pg mg qg)).heap.size := by simpa using hgl
      have neZA : w.heap.size < gZ := Nat.lt_of_lt_of_le SLA.out hge
      have neZR : w.heap.size + 1 < gZ := Nat.lt_of_lt_of_le SLR.out hge
      clear SCA0 SCA1 SCA2 SLA SCR0 SFR0 SCR1 SFR1 SCR2 SFR2 SLR SHI SHR SB
      clear hMn hM hBk hgl z0 y0 z1 y1 z2 y2
      go_wp2_with fail
      generalize (((wy.setCell ⟨gZ, 0, none⟩ (.bool dg)).setCell ⟨gZ, 1, none⟩ (.slice pg' mg' qg')).setCell ⟨gZ, 2, none⟩ (.slice pg mg qg)) = wh at *
      have eA0 := Gr.cell (R := w.heap.size + 1) (R2 := w.heap.size + 1) cA0 ltA (by omega) (by omega)
      have eA1 := Gr.cell (R := w.heap.size + 1) (R2 := w.heap.size + 1) cA1 ltA (by omega) (by omega)
      have eA2 := Gr.cell (R := w.heap.size + 1) (R2 := w.heap.size + 1) cA2 ltA (by omega) (by omega)
      have eZ0 := Gr.cell (R := w.heap.size + 1) (R2 := w.heap.size + 1) cZ0 ltZ (by omega) (by omega)
      have eZ1 := Gr.cell (R := w.heap.size + 1) (R2 := w.heap.size + 1) cZ1 ltZ (by omega) (by omega)
      have eZ2 := Gr.cell (R := w.heap.size + 1) (R2 := w.heap.size + 1) cZ2 ltZ (by omega) (by omega)
      refine wp_region_sched [(0, false), (1, false), (4, false), (6, false), (2, true), (3, true), (5, true), (7, true), (8, true), (9, true), (10, false)] (fun w' => ∃ W : Gr (w.heap.size + 1) (w.heap.size + 1) wh, w' = W.1) (by kernel_rfl) (by kernel_rfl) ⟨⟨wh.drew, below_grown (Below.refl _ _).drew⟩, rfl⟩ ?_
      repeat (refine wpSched_calm rfl (fun K hK => ?_); go_simp; refine hK _ ?_; clear hK K)
      clear eA0 eA1 eA2 eZ0 eZ1 eZ2
      have hbx : Below wh.heap.size wh wh.drew := (Below.refl _ _).drew
      have hM := below_grown (R := w.heap.size + 1) (R2 := w.heap.size + 1) hbx
      replace cA0 := bc hbx ltA cA0
      replace cA1 := bc hbx ltA cA1
      replace cA2 := bc hbx ltA cA2
      replace ltA := bl hbx ltA
      replace cR0 := bc hbx ltR cR0
      replace fR0 := bf hbx ltR fR0
      replace cR1 := bc hbx ltR cR1
      replace fR1 := bf hbx ltR fR1
      replace cR2 := bc hbx ltR cR2
      replace fR2 := bf hbx ltR fR2
      replace ltR := bl hbx ltR
      replace cZ0 := bc hbx ltZ cZ0
      replace cZ1 := bc hbx ltZ cZ1
      replace cZ2 := bc hbx ltZ cZ2
      replace ltZ := bl hbx ltZ
      replace HI := Lib.hid (HI.out.below hbx)
      replace HR := Lib.hid (HR.out.below hbx)
      replace HVg := Lib.hid (HVg.out.below hbx)
      replace hB := hB.trans (hbx.mono hB.size)
      clear hbx
      generalize wh.drew = wwhd at *
      refine wpSched_eff rfl rfl (fun K hK => ?_)
      go_simp
      refine (rbelow_any f _ len cap j _ HI.out HF0.out h61 (by omega)).mono ?_
      rintro e wi ⟨rfl, hb⟩
      replace cA0 := bc hb ltA cA0
      replace cA1 := bc hb ltA cA1
      replace cA2 := bc hb ltA cA2
      replace ltA := bl hb ltA
      replace cR0 := bc hb ltR cR0
      replace fR0 := bf hb ltR fR0
      replace cR1 := bc hb ltR cR1
      replace fR1 := bf hb ltR fR1
      replace cR2 := bc hb ltR cR2
      replace fR2 := bf hb ltR fR2
      replace ltR := bl hb ltR
      replace cZ0 := bc hb ltZ cZ0
      replace cZ1 := bc hb ltZ cZ1
      replace cZ2 := bc hb ltZ cZ2
      replace ltZ := bl hb ltZ
      replace HI := Lib.hid (HI.out.below hb)
      replace HR := Lib.hid (HR.out.below hb)
      replace HVg := Lib.hid (HVg.out.below hb)
      replace hM := grown_below hM hb
      replace hB := hB.trans (hb.mono hB.size)
      rw [HPk.out]
      clear hb
      refine hK _ _ ⟨⟨wi, hM⟩, rfl⟩ ?_
      clear hK K
      refine wpSched_eff rfl rfl (fun K hK => ?_)
      go_simp
      refine (rfrac_any pk 1 (pk : Rat) _ (by omega) (by omega) (by omega) (by omega) (by omega) (rat_whole pk)).mono ?_
      rintro e wj ⟨vj1, rfl, hv, hsz, hb⟩
      replace cA0 := bc hb ltA cA0
      replace cA1 := bc hb ltA cA1
      replace cA2 := bc hb ltA cA2
      replace ltA := bl hb ltA
      replace cR0 := bc hb ltR cR0
      replace fR0 := bf hb ltR fR0
      replace cR1 := bc hb ltR cR1
      replace fR1 := bf hb ltR fR1
      replace cR2 := bc hb ltR cR2
      replace fR2 := bf hb ltR fR2
      replace ltR := bl hb ltR
      replace cZ0 := bc hb ltZ cZ0
      replace cZ1 := bc hb ltZ cZ1
      replace cZ2 := bc hb ltZ cZ2
      replace ltZ := bl hb ltZ
      replace HI := Lib.hid (HI.out.below hb)
      replace HR := Lib.hid (HR.out.below hb)
      replace HVg := Lib.hid (HVg.out.below hb)
      replace hM := grown_below hM hb
      replace hB := hB.trans (hb.mono hB.size)
      have HVj1 := Lib.hid (hv.raw hsz)
      clear hv hsz
      clear hb
      refine hK _ _ ⟨⟨wj, hM⟩, rfl⟩ ?_
      clear hK K
      refine wpSched_eff rfl rfl (fun K hK => ?_)
      go_simp
      refine (kadd_any _ _ (pk : Rat) ((fk : Rat) * (x - ((j : Rat) - 1/2))) 2 (2 + (L + 2 + 1)) _ HVj1.out HVg.out (by omega) (by omega) (by omega)).mono ?_
      rintro e wk ⟨vk1, rfl, hv, hsz, hb⟩
      replace cA0 := bc hb ltA cA0
      replace cA1 := bc hb ltA cA1
      replace cA2 := bc hb ltA cA2
      replace ltA := bl hb ltA
      replace cR0 := bc hb ltR cR0
      replace fR0 := bf hb ltR fR0
      replace cR1 := bc hb ltR cR1
      replace fR1 := bf hb ltR fR1
      replace cR2 := bc hb ltR cR2
      replace fR2 := bf hb ltR fR2
      replace ltR := bl hb ltR
      replace cZ0 := bc hb ltZ cZ0
      replace cZ1 := bc hb ltZ cZ1
      replace cZ2 := bc hb ltZ cZ2
      replace ltZ := bl hb ltZ
      replace HI := Lib.hid (HI.out.below hb)
      replace HR := Lib.hid (HR.out.below hb)
      replace HVg := Lib.hid (HVg.out.below hb)
      replace HVj1 := Lib.hid (HVj1.out.below hb)
      replace hM := grown_below hM hb
      replace hB := hB.trans (hb.mono hB.size)
      have HVk1 := Lib.hid (hv.raw hsz)
      clear hv hsz
      clear hb
      refine hK _ _ ⟨⟨wk, hM⟩, rfl⟩ ?_
      clear hK K
      refine wpSched_eff rfl rfl (fun K hK => ?_)
      go_simp
      refine (rfrac_any 1 sf (1 / (sf : Rat)) _ (by omega) (by omega) (by omega) (by omega) (by omega) (one_over sf)).mono ?_
      rintro e wl ⟨vl1, rfl, hv, hsz, hb⟩
      replace cA0 := bc hb ltA cA0
      replace cA1 := bc hb ltA cA1
      replace cA2 := bc hb ltA cA2
      replace ltA := bl hb ltA
      replace cR0 := bc hb ltR cR0
      replace fR0 := bf hb ltR fR0
      replace cR1 := bc hb ltR cR1
      replace fR1 := bf hb ltR fR1
      replace cR2 := bc hb ltR cR2
      replace fR2 := bf hb ltR fR2
      replace ltR := bl hb ltR
      replace cZ0 := bc hb ltZ cZ0
      replace cZ1 := bc hb ltZ cZ1
      replace cZ2 := bc hb ltZ cZ2
      replace ltZ := bl hb ltZ
      replace HI := Lib.hid (HI.out.below hb)
      replace HR := Lib.hid (HR.out.below hb)
      replace HVg := Lib.hid (HVg.out.below hb)
      replace HVj1 := Lib.hid (HVj1.out.below hb)
      replace HVk1 := Lib.hid (HVk1.out.below hb)
      replace hM := grown_below hM hb
      replace hB := hB.trans (hb.mono hB.size)
      have HVl1 := Lib.hid (hv.raw hsz)
      clear hv hsz
      clear hb
      refine hK _ _ ⟨⟨wl, hM⟩, rfl⟩ ?_
      clear hK K
      have hs1 := ltR
      refine wpSched_eff rfl rfl (fun K hK => ?_)
      go_simp
      refine (kmul_any _ _ ((pk : Rat) + ((fk : Rat) * (x - ((j : Rat) - 1/2)))) (1 / (sf : Rat)) (2 + (2 + (L + 2 + 1)) + 1) 2 _ HVk1.out HVl1.out (by omega) (by omega) (by omega)).mono ?_
      rintro e wm ⟨vm1, rfl, hv, hsz, hb⟩
      replace cA0 := bc hb ltA cA0
      replace cA1 := bc hb ltA cA1
      replace cA2 := bc hb ltA cA2
      replace ltA := bl hb ltA
      replace cR0 := bc hb ltR cR0
      replace fR0 := bf hb ltR fR0
      replace cR1 := bc hb ltR cR1
      replace fR1 := bf hb ltR fR1
      replace cR2 := bc hb ltR cR2
      replace fR2 := bf hb ltR fR2
      replace ltR := bl hb ltR
      replace cZ0 := bc hb ltZ cZ0
      replace cZ1 := bc hb ltZ cZ1
      replace cZ2 := bc hb ltZ cZ2
      replace ltZ := bl hb ltZ
      replace HI := Lib.hid (HI.out.below hb)
      replace HR := Lib.hid (HR.out.below hb)
      replace HVg := Lib.hid (HVg.out.below hb)
      replace HVj1 := Lib.hid (HVj1.out.below hb)
      replace HVk1 := Lib.hid (HVk1.out.below hb)
      replace HVl1 := Lib.hid (HVl1.out.below hb)
      replace hM := grown_below hM hb
      replace hB := hB.trans (hb.mono hB.size)
      have HZn := Lib.hid (hsz.mono (show 2 + (2 + (L + 2 + 1)) + 1 + 2 ≤ L + 13 by omega))
      clear hsz
      obtain ⟨pn', mn', qn', pn, mn, qn, rfl, h1, h2, h3, h4⟩ := hv
      have HFin := Lib.hid (rat_store (B := wl.heap.size) (B' := w.heap.size) (g := w.heap.size + 1) (r := (((pk : Rat) + ((fk : Rat) * (x - ((j : Rat) - 1/2)))) * (1 / (sf : Rat)))) ⟨pn', mn', qn', pn, mn, qn, rfl, h1, h2, h3, h4⟩ hs1 (by omega))
      clear h1 h2 h3 h4
      generalize decide (((((pk : Rat) + ((fk : Rat) * (x - ((j : Rat) - 1/2)))) * (1 / (sf : Rat))) : Rat).num < 0) = dn at *
      clear hb
      refine hK _ _ ⟨⟨wm, hM⟩, rfl⟩ ?_
      clear hK K
      refine wpSched_eff rfl rfl (fun K hK => ?_)
      go_simp
      refine hK _ _ ⟨⟨_, grown_set (grown_set (grown_set hM 0 _) 1 _) 2 _⟩, rfl⟩ ?_
      clear hK K
      repeat (refine wpSched_calm rfl (fun K hK => ?_); go_simp; refine hK _ ?_; clear hK K)
      refine wpSched_nil ?_
      go_wp2_with fail
      exact bodyPost_ret (v := .tuple #[.agg #[.bool dn, .slice pn' mn' qn', .slice pn mn qn], .int .i64 0]) (by simp [results, Tryz.results7, go_sem, cR0, cR1, cR2]) rfl ⟨_, rfl, HFin.out, HZn.out, ((hB.setCell (p := ⟨w.heap.size + 1, 0, none⟩) (by simp) _).setCell (p := ⟨w.heap.size + 1, 1, none⟩) (by simp) _).setCell (p := ⟨w.heap.size + 1, 2, none⟩) (by simp) _⟩

theorem rrank_any (f : List Int) (a : Option Addr) (len cap : Nat) (v : Value) (x : Rat) (L : Nat) (w : World) (hI : Ints w a len cap f) (hv : RatV w v x L) (hL : 1 ≤ L) (hm : (L + 40) * 4 ≤ 140737488355328) (hO : OkF f) :
    Calls Tryz.prog 7 #[.slice a len cap, v] w fun e w' => ∃ v, e = .returned (.tuple #[v, .int .i64 0]) ∧ RatN w.heap.size w' v (rankR f x) ∧ Rsz (rankR f x) (L + 13) ∧ Below w.heap.size w w' := by
  obtain ⟨r1, r2, -⟩ := rank_val (x := x) hO.pos
  by_cases hy : x ≤ -1/2
  · rw [r1 (by grind)]; exact rrank_low f a len cap v x L w hI hv hL hm hO hy
  by_cases hn : x + 1/2 ≤ (f.length : Rat)
  · obtain ⟨k, hk, a1, a2⟩ := cell_up (n := f.length) (y := x + 1/2) (by grind) hn
    have e : rankR f x = (((preS f k : Rat) + (f.getD k 0 : Rat) * (x - ((k : Rat) - 1/2))) * (1 / (f.sum : Rat))) := by
      unfold rankR
      rw [rkN_at hk (by grind) a2, Rat.div_def, show (1 / (f.sum : Rat)) = (f.sum : Rat)⁻¹ by rw [Rat.div_def, Rat.one_mul], show x - ((k : Rat) - 1/2) = x + 1/2 - (k : Rat) by grind]
    rw [e]
    refine rrank_mid f a len cap v x L w hI hv hL hm hO k (by rw [← hI.1]; exact hk) hy (fun j hj h => ?_) (by grind)
    have : ((j + 1 : Nat) : Rat) ≤ (k : Rat) := Rat.natCast_le_natCast.2 hj
    push_cast at this
    grind
  · rw [r2 (by grind) (by grind)]
    refine rrank_high f a len cap v x L w hI hv hL hm hO hy (fun j hj h => ?_)
    have : ((j + 1 : Nat) : Rat) ≤ (f.length : Rat) := Rat.natCast_le_natCast.2 hj
    push_cast at this
    grind
end Go.Proofs.YtahmndacoanfiaaGreat

namespace Go.Proofs.YtahmndacoanfiaaGreat
set_option maxRecDepth 100000
open Go.RowKit

set_option maxHeartbeats 2000000 in
theorem rinv_no (f : List Int) (a : Option Addr) (len cap : Nat) (v : Value) (p : Rat) (L : Nat) (w : World) (hI : Ints w a len cap f) (hv : RatV w v p L) (hE : eqE f ≠ 0) :
    Calls Tryz.prog 9 #[.slice a len cap, v] w fun e w' => ∃ v, e = .returned (.tuple #[v, .int .i64 (eqE f)]) ∧ RatN w.heap.size w' v 0 ∧ Below w.heap.size w w' := by
  have HI := Lib.hid hI
  have HN := Lib.hid hI.1
  have HR := Lib.hid hv
  obtain ⟨np, dp, hr, hpq⟩ := hv
  obtain ⟨negx, ax', lenx', capx', xsx, ax, lenx, capx, ysx, rfl, -, -, -, -, -, -⟩ := hr
  clear hpq hI
  have hz : (eqE f == 0) = false := by simpa using hE
  clear hE
  generalize hef : eqE f = ef at *
  have HEF := Lib.hid hef
  clear hef
  go_enter Tryz.func9, Tryz.ntmps9
  go_wp2_with fail
  have hbx : Below w.heap.size w ((w.alloc (.cells #[.bool negx, .slice ax' lenx' capx', .slice ax lenx capx] 28)).alloc (.cells #[.bool false, .slice none 0 0, .slice none 0 0] 28)) := (((Below.refl _ _).alloc (Nat.le_refl _) _).alloc (by simp) _)
  generalize hWW : ((w.alloc (.cells #[.bool negx, .slice ax' lenx' capx', .slice ax lenx capx] 28)).alloc (.cells #[.bool false, .slice none 0 0, .slice none 0 0] 28)) = w0 at *
  replace HI := Lib.hid (HI.out.below hbx)
  replace HR := Lib.hid (HR.out.below hbx)
  have cA0 : w0.cell? ⟨w.heap.size, 0, none⟩ = some (.bool negx) := by subst hWW; go_simp
  have cA1 : w0.cell? ⟨w.heap.size, 1, none⟩ = some (.slice ax' lenx' capx') := by subst hWW; go_simp
  have cA2 : w0.cell? ⟨w.heap.size, 2, none⟩ = some (.slice ax lenx capx) := by subst hWW; go_simp
  have ltA : w.heap.size < w0.heap.size := by subst hWW; simp <;> omega
  have cR0 : w0.cell? ⟨w.heap.size + 1, 0, none⟩ = some (.bool false) := by subst hWW; go_simp
  have fR0 : w0.frozen? ⟨w.heap.size + 1, 0, none⟩ = false := by subst hWW; go_simp
  have cR1 : w0.cell? ⟨w.heap.size + 1, 1, none⟩ = some (.slice none 0 0) := by subst hWW; go_simp
  have fR1 : w0.frozen? ⟨w.heap.size + 1, 1, none⟩ = false := by subst hWW; go_simp
  have cR2 : w0.cell? ⟨w.heap.size + 1, 2, none⟩ = some (.slice none 0 0) := by subst hWW; go_simp
  have fR2 : w0.frozen? ⟨w.heap.size + 1, 2, none⟩ = false := by subst hWW; go_simp
  have ltR : w.heap.size + 1 < w0.heap.size := by subst hWW; simp
  have hB := hbx
  clear hbx hWW
  refine (rvalid46_any f a len cap _ HI.out).mono ?_
  rintro e w1 ⟨rfl, hb⟩
  replace cA0 := bc hb ltA cA0
  replace cA1 := bc hb ltA cA1
  replace cA2 := bc hb ltA cA2
  replace ltA := bl hb ltA
  replace cR0 := bc hb ltR cR0
  replace fR0 := bf hb ltR fR0
  replace cR1 := bc hb ltR cR1
  replace fR1 := bf hb ltR fR1
  replace cR2 := bc hb ltR cR2
  replace fR2 := bf hb ltR fR2
  replace ltR := bl hb ltR
  replace HI := Lib.hid (HI.out.below hb)
  replace HR := Lib.hid (HR.out.below hb)
  replace hB := hB.trans (hb.mono hB.size)
  rw [HEF.out]
  clear hb
  go_wp2_with fail
  have hs1 := ltR
  refine (rfrac_any 0 1 0 _ (by omega) (by omega) (by omega) (by omega) (by omega) (by kernel_rfl)).mono ?_
  rintro e w2 ⟨v2, rfl, hv, hsz, hb⟩
  replace cA0 := bc hb ltA cA0
  replace cA1 := bc hb ltA cA1
  replace cA2 := bc hb ltA cA2
  replace ltA := bl hb ltA
  replace cR0 := bc hb ltR cR0
  replace fR0 := bf hb ltR fR0
  replace cR1 := bc hb ltR cR1
  replace fR1 := bf hb ltR fR1
  replace cR2 := bc hb ltR cR2
  replace fR2 := bf hb ltR fR2
  replace ltR := bl hb ltR
  replace HI := Lib.hid (HI.out.below hb)
  replace HR := Lib.hid (HR.out.below hb)
  replace hB := hB.trans (hb.mono hB.size)
  clear hsz
  obtain ⟨p2', m2', q2', p2, m2, q2, rfl, h1, h2, h3, h4⟩ := hv
  have HFin := Lib.hid (rat_store (B := w1.heap.size) (B' := w.heap.size) (g := w.heap.size + 1) (r := 0) ⟨p2', m2', q2', p2, m2, q2, rfl, h1, h2, h3, h4⟩ hs1 (by omega))
  clear h1 h2 h3 h4
  generalize decide ((0 : Rat).num < 0) = d2 at *
  clear hb
  go_wp2_with fail
  exact bodyPost_ret (v := .tuple #[.agg #[.bool d2, .slice p2' m2' q2', .slice p2 m2 q2], .int .i64 ef]) (by simp [results, Tryz.results9, go_sem, cR0, cR1, cR2]) rfl ⟨_, rfl, HFin.out, ((hB.setCell (p := ⟨w.heap.size + 1, 0, none⟩) (by simp) _).setCell (p := ⟨w.heap.size + 1, 1, none⟩) (by simp) _).setCell (p := ⟨w.heap.size + 1, 2, none⟩) (by simp) _⟩
set_option maxHeartbeats 4000000 in
theorem rinv_neg (f : List Int) (a : Option Addr) (len cap : Nat) (v : Value) (p : Rat) (L : Nat) (w : World) (hI : Ints w a len cap f) (hv : RatV w v p L) (hm : L * 4 ≤ 140737488355328) (hO : OkF f) (hp : p < 0) :
    Calls Tryz.prog 9 #[.slice a len cap, v] w fun e w' => ∃ v, e = .returned (.tuple #[v, .int .i64 3]) ∧ RatN w.heap.size w' v 0 ∧ Below w.heap.size w w' := by
  have HI := Lib.hid hI
  have HN := Lib.hid hI.1
  have HR := Lib.hid hv
  obtain ⟨np, dp, hr, hpq⟩ := hv
  obtain ⟨negx, ax', lenx', capx', xsx, ax, lenx, capx, ysx, rfl, -, -, -, -, -, -⟩ := hr
  clear hpq hI
  have HO := Lib.hid (eqE_OkF.2 hO)
  have h61 : len ≤ 61 := by rw [← HN.out]; exact hO.1
  have HS := Lib.hid (sgI_lt.2 hp)
  clear hO hp
  go_enter Tryz.func9, Tryz.ntmps9
  go_wp2_with fail
  have hbx : Below w.heap.size w ((w.alloc (.cells #[.bool negx, .slice ax' lenx' capx', .slice ax lenx capx] 28)).alloc (.cells #[.bool false, .slice none 0 0, .slice none 0 0] 28)) := (((Below.refl _ _).alloc (Nat.le_refl _) _).alloc (by simp) _)
  generalize hWW : ((w.alloc (.cells #[.bool negx, .slice ax' lenx' capx', .slice ax lenx capx] 28)).alloc (.cells #[.bool false, .slice none 0 0, .slice none 0 0] 28)) = w0 at *
  replace HI := Lib.hid (HI.out.below hbx)
  replace HR := Lib.hid (HR.out.below hbx)
  have cA0 : w0.cell? ⟨w.heap.size, 0, none⟩ = some (.bool negx) := by subst hWW; go_simp
  have cA1 : w0.cell? ⟨w.heap.size, 1, none⟩ = some (.slice ax' lenx' capx') := by subst hWW; go_simp
  have cA2 : w0.cell? ⟨w.heap.size, 2, none⟩ = some (.slice ax lenx capx) := by subst hWW; go_simp
  have ltA : w.heap.size < w0.heap.size := by subst hWW; simp <;> omega
  have cR0 : w0.cell? ⟨w.heap.size + 1, 0, none⟩ = some (.bool false) := by subst hWW; go_simp
  have fR0 : w0.frozen? ⟨w.heap.size + 1, 0, none⟩ = false := by subst hWW; go_simp
  have cR1 : w0.cell? ⟨w.heap.size + 1, 1, none⟩ = some (.slice none 0 0) := by subst hWW; go_simp
  have fR1 : w0.frozen? ⟨w.heap.size + 1, 1, none⟩ = false := by subst hWW; go_simp
  have cR2 : w0.cell? ⟨w.heap.size + 1, 2, none⟩ = some (.slice none 0 0) := by subst hWW; go_simp
  have fR2 : w0.frozen? ⟨w.heap.size + 1, 2, none⟩ = false := by subst hWW; go_simp
  have ltR : w.heap.size + 1 < w0.heap.size := by subst hWW; simp
  have hB := hbx
  clear hbx hWW
  refine (rvalid46_any f a len cap _ HI.out).mono ?_
  rintro e w1 ⟨rfl, hb⟩
  replace cA0 := bc hb ltA cA0
  replace cA1 := bc hb ltA cA1
  replace cA2 := bc hb ltA cA2
  replace ltA := bl hb ltA
  replace cR0 := bc hb ltR cR0
  replace fR0 := bf hb ltR fR0
  replace cR1 := bc hb ltR cR1
  replace fR1 := bf hb ltR fR1
  replace cR2 := bc hb ltR cR2
  replace fR2 := bf hb ltR fR2
  replace ltR := bl hb ltR
  replace HI := Lib.hid (HI.out.below hb)
  replace HR := Lib.hid (HR.out.below hb)
  replace hB := hB.trans (hb.mono hB.size)
  rw [HO.out]
  clear hb
  go_wp2_with fail
  have eA0 := box_ext (B := w1.heap.size) cA0 ltA
  have eA1 := box_ext (B := w1.heap.size) cA1 ltA
  have eA2 := box_ext (B := w1.heap.size) cA2 ltA
  have eR0 := box_ext (B := w1.heap.size) cR0 ltR
  have eR1 := box_ext (B := w1.heap.size) cR1 ltR
  have eR2 := box_ext (B := w1.heap.size) cR2 ltR
  refine wp_region_sched [(0, false), (1, true), (2, false), (3, false), (4, false), (5, true), (6, true), (7, false), (8, false)] (fun w' => ∃ W : Ext w1.heap.size w1, w' = W.1) (by kernel_rfl) (by kernel_rfl) ⟨⟨w1.drew, (Below.refl _ _).drew⟩, rfl⟩ ?_
  repeat (refine wpSched_calm rfl (fun K hK => ?_); go_simp; refine hK _ ?_; clear hK K)
  clear eA0 eA1 eA2 eR0 eR1 eR2
  have hbx : Below w1.heap.size w1 w1.drew := (Below.refl _ _).drew
  have hM := hbx
  replace cA0 := bc hbx ltA cA0
  replace cA1 := bc hbx ltA cA1
  replace cA2 := bc hbx ltA cA2
  replace ltA := bl hbx ltA
  replace cR0 := bc hbx ltR cR0
  replace fR0 := bf hbx ltR fR0
  replace cR1 := bc hbx ltR cR1
  replace fR1 := bf hbx ltR fR1
  replace cR2 := bc hbx ltR cR2
  replace fR2 := bf hbx ltR fR2
  replace ltR := bl hbx ltR
  replace HI := Lib.hid (HI.out.below hbx)
  replace HR := Lib.hid (HR.out.below hbx)
  replace hB := hB.trans (hbx.mono hB.size)
  clear hbx
  generalize w1.drew = ww1d at *
  refine wpSched_eff rfl rfl (fun K hK => ?_)
  go_simp
  refine (ksign_any _ p L _ HR.out hm).mono ?_
  rintro e w2 ⟨rfl, hb⟩
  replace cA0 := bc hb ltA cA0
  replace cA1 := bc hb ltA cA1
  replace cA2 := bc hb ltA cA2
  replace ltA := bl hb ltA
  replace cR0 := bc hb ltR cR0
  replace fR0 := bf hb ltR fR0
  replace cR1 := bc hb ltR cR1
  replace fR1 := bf hb ltR fR1
  replace cR2 := bc hb ltR cR2
  replace fR2 := bf hb ltR fR2
  replace ltR := bl hb ltR
  replace HI := Lib.hid (HI.out.below hb)
  replace HR := Lib.hid (HR.out.below hb)
  replace hM := hM.trans (hb.mono hM.size)
  replace hB := hB.trans (hb.mono hB.size)
  have hsg := HS.out
  generalize rsgI p = sg at *
  have dsg : decide (sg < 0) = true := by simpa using hsg
  clear hsg HS
  clear hb
  refine hK _ _ ⟨⟨w2, hM⟩, rfl⟩ ?_
  clear hK K
  repeat (refine wpSched_calm rfl (fun K hK => ?_); go_simp; refine hK _ ?_; clear hK K)
  refine wpSched_skip rfl ?_ ⟨⟨w2, hM⟩, rfl⟩ ?_
  · go_simp
  go_simp
  refine wpSched_skip rfl ?_ ⟨⟨w2, hM⟩, rfl⟩ ?_
  · go_simp
  go_simp
  repeat (refine wpSched_calm rfl (fun K hK => ?_); go_simp; refine hK _ ?_; clear hK K)
  refine wpSched_nil ?_
  go_wp2_with fail
  have hs1 := ltR
  refine (rfrac_any 0 1 0 _ (by omega) (by omega) (by omega) (by omega) (by omega) (by kernel_rfl)).mono ?_
  rintro e w6 ⟨v6, rfl, hv, hsz, hb⟩
  replace cA0 := bc hb ltA cA0
  replace cA1 := bc hb ltA cA1
  replace cA2 := bc hb ltA cA2
  replace ltA := bl hb ltA
  replace cR0 := bc hb ltR cR0
  replace fR0 := bf hb ltR fR0
  replace cR1 := bc hb ltR cR1
  replace fR1 := bf hb ltR fR1
  replace cR2 := bc hb ltR cR2
  replace fR2 := bf hb ltR fR2
  replace ltR := bl hb ltR
  replace HI := Lib.hid (HI.out.below hb)
  replace HR := Lib.hid (HR.out.below hb)
  replace hB := hB.trans (hb.mono hB.size)
  clear hsz
  obtain ⟨p6', m6', q6', p6, m6, q6, rfl, h1, h2, h3, h4⟩ := hv
  have HFin := Lib.hid (rat_store (B := w2.heap.size) (B' := w.heap.size) (g := w.heap.size + 1) (r := 0) ⟨p6', m6', q6', p6, m6, q6, rfl, h1, h2, h3, h4⟩ hs1 (by omega))
  clear h1 h2 h3 h4
  generalize decide ((0 : Rat).num < 0) = d6 at *
  clear hb
  go_wp2_with fail
  exact bodyPost_ret (v := .tuple #[.agg #[.bool d6, .slice p6' m6' q6', .slice p6 m6 q6], .int .i64 3]) (by simp [results, Tryz.results9, go_sem, cR0, cR1, cR2]) rfl ⟨_, rfl, HFin.out, ((hB.setCell (p := ⟨w.heap.size + 1, 0, none⟩) (by simp) _).setCell (p := ⟨w.heap.size + 1, 1, none⟩) (by simp) _).setCell (p := ⟨w.heap.size + 1, 2, none⟩) (by simp) _⟩
set_option maxHeartbeats 4000000 in
theorem rinv_over (f : List Int) (a : Option Addr) (len cap : Nat) (v : Value) (p : Rat) (L : Nat) (w : World) (hI : Ints w a len cap f) (hv : RatV w v p L) (hL : 1 ≤ L) (hm : (L + 40) * 4 ≤ 140737488355328) (hO : OkF f) (hp : ¬ p < 0) (hp1 : 1 < p) :
    Calls Tryz.prog 9 #[.slice a len cap, v] w fun e w' => ∃ v, e = .returned (.tuple #[v, .int .i64 3]) ∧ RatN w.heap.size w' v 0 ∧ Below w.heap.size w w' := by
  have HI := Lib.hid hI
  have HN := Lib.hid hI.1
  have HR := Lib.hid hv
  obtain ⟨np, dp, hr, hpq⟩ := hv
  obtain ⟨negx, ax', lenx', capx', xsx, ax, lenx, capx, ysx, rfl, -, -, -, -, -, -⟩ := hr
  clear hpq hI
  have HO := Lib.hid (eqE_OkF.2 hO)
  have h61 : len ≤ 61 := by rw [← HN.out]; exact hO.1
  have HS := Lib.hid (show ¬ rsgI p < 0 from fun h => hp (sgI_lt.1 h))
  have HC := Lib.hid (cmpI_gt0.2 hp1)
  clear hO hp hp1
  go_enter Tryz.func9, Tryz.ntmps9
  go_wp2_with fail
  have hbx : Below w.heap.size w ((w.alloc (.cells #[.bool negx, .slice ax' lenx' capx', .slice ax lenx capx] 28)).alloc (.cells #[.bool false, .slice none 0 0, .slice none 0 0] 28)) := (((Below.refl _ _).alloc (Nat.le_refl _) _).alloc (by simp) _)
  generalize hWW : ((w.alloc (.cells #[.bool negx, .slice ax' lenx' capx', .slice ax lenx capx] 28)).alloc (.cells #[.bool false, .slice none 0 0, .slice none 0 0] 28)) = w0 at *
  replace HI := Lib.hid (HI.out.below hbx)
  replace HR := Lib.hid (HR.out.below hbx)
  have cA0 : w0.cell? ⟨w.heap.size, 0, none⟩ = some (.bool negx) := by subst hWW; go_simp
  have cA1 : w0.cell? ⟨w.heap.size, 1, none⟩ = some (.slice ax' lenx' capx') := by subst hWW; go_simp
  have cA2 : w0.cell? ⟨w.heap.size, 2, none⟩ = some (.slice ax lenx capx) := by subst hWW; go_simp
  have ltA : w.heap.size < w0.heap.size := by subst hWW; simp <;> omega
  have cR0 : w0.cell? ⟨w.heap.size + 1, 0, none⟩ = some (.bool false) := by subst hWW; go_simp
  have fR0 : w0.frozen? ⟨w.heap.size + 1, 0, none⟩ = false := by subst hWW; go_simp
  have cR1 : w0.cell? ⟨w.heap.size + 1, 1, none⟩ = some (.slice none 0 0) := by subst hWW; go_simp
  have fR1 : w0.frozen? ⟨w.heap.size + 1, 1, none⟩ = false := by subst hWW; go_simp
  have cR2 : w0.cell? ⟨w.heap.size + 1, 2, none⟩ = some (.slice none 0 0) := by subst hWW; go_simp
  have fR2 : w0.frozen? ⟨w.heap.size + 1, 2, none⟩ = false := by subst hWW; go_simp
  have ltR : w.heap.size + 1 < w0.heap.size := by subst hWW; simp
  have hB := hbx
  clear hbx hWW
  refine (rvalid46_any f a len cap _ HI.out).mono ?_
  rintro e w1 ⟨rfl, hb⟩
  replace cA0 := bc hb ltA cA0
  replace cA1 := bc hb ltA cA1
  replace cA2 := bc hb ltA cA2
  replace ltA := bl hb ltA
  replace cR0 := bc hb ltR cR0
  replace fR0 := bf hb ltR fR0
  replace cR1 := bc hb ltR cR1
  replace fR1 := bf hb ltR fR1
  replace cR2 := bc hb ltR cR2
  replace fR2 := bf hb ltR fR2
  replace ltR := bl hb ltR
  replace HI := Lib.hid (HI.out.below hb)
  replace HR := Lib.hid (HR.out.below hb)
  replace hB := hB.trans (hb.mono hB.size)
  rw [HO.out]
  clear hb
  go_wp2_with fail
  have eA0 := box_ext (B := w1.heap.size) cA0 ltA
  have eA1 := box_ext (B := w1.heap.size) cA1 ltA
  have eA2 := box_ext (B := w1.heap.size) cA2 ltA
  have eR0 := box_ext (B := w1.heap.size) cR0 ltR
  have eR1 := box_ext (B := w1.heap.size) cR1 ltR
  have eR2 := box_ext (B := w1.heap.size) cR2 ltR
  refine wp_region_sched [(0, false), (1, true), (2, false), (3, false), (4, false), (5, true), (6, true), (7, false), (8, false)] (fun w' => ∃ W : Ext w1.heap.size w1, w' = W.1) (by kernel_rfl) (by kernel_rfl) ⟨⟨w1.drew, (Below.refl _ _).drew⟩, rfl⟩ ?_
  repeat (refine wpSched_calm rfl (fun K hK => ?_); go_simp; refine hK _ ?_; clear hK K)
  have hbx : Below w1.heap.size w1 w1.drew := (Below.refl _ _).drew
  have hM := hbx
  replace cA0 := bc hbx ltA cA0
  replace cA1 := bc hbx ltA cA1
  replace cA2 := bc hbx ltA cA2
  replace ltA := bl hbx ltA
  replace cR0 := bc hbx ltR cR0
  replace fR0 := bf hbx ltR fR0
  replace cR1 := bc hbx ltR cR1
  replace fR1 := bf hbx ltR fR1
  replace cR2 := bc hbx ltR cR2
  replace fR2 := bf hbx ltR fR2
  replace ltR := bl hbx ltR
  replace HI := Lib.hid (HI.out.below hbx)
  replace HR := Lib.hid (HR.out.below hbx)
  replace hB := hB.trans (hbx.mono hB.size)
  clear hbx
  generalize w1.drew = ww1d at *
  refine wpSched_eff rfl rfl (fun K hK => ?_)
  go_simp
  refine (ksign_any _ p L _ HR.out (by omega)).mono ?_
  rintro e w2 ⟨rfl, hb⟩
  replace cA0 := bc hb ltA cA0
  replace cA1 := bc hb ltA cA1
  replace cA2 := bc hb ltA cA2
  replace ltA := bl hb ltA
  replace cR0 := bc hb ltR cR0
  replace fR0 := bf hb ltR fR0
  replace cR1 := bc hb ltR cR1
  replace fR1 := bf hb ltR fR1
  replace cR2 := bc hb ltR cR2
  replace fR2 := bf hb ltR fR2
  replace ltR := bl hb ltR
  replace HI := Lib.hid (HI.out.below hb)
  replace HR := Lib.hid (HR.out.below hb)
  replace hM := hM.trans (hb.mono hM.size)
  replace hB := hB.trans (hb.mono hB.size)
  have hsg := HS.out
  generalize rsgI p = sg at *
  have dsg : decide (sg < 0) = false := by simpa using hsg
  clear hsg HS
  clear hb
  refine hK _ _ ⟨⟨w2, hM⟩, rfl⟩ ?_
  clear hK K
  repeat (refine wpSched_calm rfl (fun K hK => ?_); go_simp; refine hK _ ?_; clear hK K)
  clear eA0 eA1 eA2 eR0 eR1 eR2
  refine wpSched_geff rfl ?_ (fun K hK => ?_)
  · go_simp
  go_simp
  refine (rfrac_any 1 1 1 _ (by omega) (by omega) (by omega) (by omega) (by omega) (by kernel_rfl)).mono ?_
  rintro e w3 ⟨v3, rfl, hv, hsz, hb⟩
  replace cA0 := bc hb ltA cA0
  replace cA1 := bc hb ltA cA1
  replace cA2 := bc hb ltA cA2
  replace ltA := bl hb ltA
  replace cR0 := bc hb ltR cR0
  replace fR0 := bf hb ltR fR0
  replace cR1 := bc hb ltR cR1
  replace fR1 := bf hb ltR fR1
  replace cR2 := bc hb ltR cR2
  replace fR2 := bf hb ltR fR2
  replace ltR := bl hb ltR
  replace HI := Lib.hid (HI.out.below hb)
  replace HR := Lib.hid (HR.out.below hb)
  replace hM := hM.trans (hb.mono hM.size)
  replace hB := hB.trans (hb.mono hB.size)
  have HV3 := Lib.hid (hv.raw hsz)
  clear hv hsz
  clear hb
  refine hK _ _ ⟨⟨w3, hM⟩, rfl⟩ ?_
  clear hK K
  refine wpSched_geff rfl ?_ (fun K hK => ?_)
  · go_simp
  go_simp
  refine (kcmp_any _ _ p 1 L 2 _ HR.out HV3.out hL (by omega) (by omega)).mono ?_
  rintro e w4 ⟨rfl, hb⟩
  replace cA0 := bc hb ltA cA0
  replace cA1 := bc hb ltA cA1
  replace cA2 := bc hb ltA cA2
  replace ltA := bl hb ltA
  replace cR0 := bc hb ltR cR0
  replace fR0 := bf hb ltR fR0
  replace cR1 := bc hb ltR cR1
  replace fR1 := bf hb ltR fR1
  replace cR2 := bc hb ltR cR2
  replace fR2 := bf hb ltR fR2
  replace ltR := bl hb ltR
  replace HI := Lib.hid (HI.out.below hb)
  replace HR := Lib.hid (HR.out.below hb)
  replace HV3 := Lib.hid (HV3.out.below hb)
  replace hM := hM.trans (hb.mono hM.size)
  replace hB := hB.trans (hb.mono hB.size)
  have hcm := HC.out
  generalize rcmpI p 1 = cm at *
  have dcm : decide (0 < cm) = true := by simpa using hcm
  clear HC hcm
  clear hb
  refine hK _ _ ⟨⟨w4, hM⟩, rfl⟩ ?_
  clear hK K
  repeat (refine wpSched_calm rfl (fun K hK => ?_); go_simp; refine hK _ ?_; clear hK K)
  refine wpSched_nil ?_
  clear HV3
  go_wp2_with fail
  have hs1 := ltR
  refine (rfrac_any 0 1 0 _ (by omega) (by omega) (by omega) (by omega) (by omega) (by kernel_rfl)).mono ?_
  rintro e w6 ⟨v6, rfl, hv, hsz, hb⟩
  replace cA0 := bc hb ltA cA0
  replace cA1 := bc hb ltA cA1
  replace cA2 := bc hb ltA cA2
  replace ltA := bl hb ltA
  replace cR0 := bc hb ltR cR0
  replace fR0 := bf hb ltR fR0
  replace cR1 := bc hb ltR cR1
  replace fR1 := bf hb ltR fR1
  replace cR2 := bc hb ltR cR2
  replace fR2 := bf hb ltR fR2
  replace ltR := bl hb ltR
  replace HI := Lib.hid (HI.out.below hb)
  replace HR := Lib.hid (HR.out.below hb)
  replace hB := hB.trans (hb.mono hB.size)
  clear hsz
  obtain ⟨p6', m6', q6', p6, m6, q6, rfl, h1, h2, h3, h4⟩ := hv
  have HFin := Lib.hid (rat_store (B := w4.heap.size) (B' := w.heap.size) (g := w.heap.size + 1) (r := 0) ⟨p6', m6', q6', p6, m6, q6, rfl, h1, h2, h3, h4⟩ hs1 (by omega))
  clear h1 h2 h3 h4
  generalize decide ((0 : Rat).num < 0) = d6 at *
  clear hb
  go_wp2_with fail
  exact bodyPost_ret (v := .tuple #[.agg #[.bool d6, .slice p6' m6' q6', .slice p6 m6 q6], .int .i64 3]) (by simp [results, Tryz.results9, go_sem, cR0, cR1, cR2]) rfl ⟨_, rfl, HFin.out, ((hB.setCell (p := ⟨w.heap.size + 1, 0, none⟩) (by simp) _).setCell (p := ⟨w.heap.size + 1, 1, none⟩) (by simp) _).setCell (p := ⟨w.heap.size + 1, 2, none⟩) (by simp) _⟩
set_option maxHeartbeats 4000000 in
theorem rinv_in (f : List Int) (a : Option Addr) (len cap : Nat) (v : Value) (p : Rat) (L : Nat) (w : World) (hI : Ints w a len cap f) (hv : RatV w v p L) (hL : 1 ≤ L) (hm : (L + 40) * 4 ≤ 140737488355328) (hO : OkF f) (k : Nat) (hp : ¬ p < 0) (hp1 : ¬ 1 < p) (hk : IsInv f (p * (f.sum : Rat)) k) :
    Calls Tryz.prog 9 #[.slice a len cap, v] w fun e w' => ∃ v, e = .returned (.tuple #[v, .int .i64 0]) ∧ RatN w.heap.size w' v (((k : Rat) - 1/2) + (p * (f.sum : Rat) - (preS f k : Rat)) * (1 / (f.getD k 0 : Rat))) ∧ Rsz (((k : Rat) - 1/2) + (p * (f.sum : Rat) - (preS f k : Rat)) * (1 / (f.getD k 0 : Rat))) (L + 13) ∧ Below w.heap.size w w' := by
  have HI := Lib.hid hI
  have HN := Lib.hid hI.1
  have HR := Lib.hid hv
  obtain ⟨np, dp, hr, hpq⟩ := hv
  obtain ⟨negx, ax', lenx', capx', xsx, ax, lenx, capx, ysx, rfl, -, -, -, -, -, -⟩ := hr
  clear hpq hI
  have HO := Lib.hid (eqE_OkF.2 hO)
  have h61 : len ≤ 61 := by rw [← HN.out]; exact hO.1
  have HS := Lib.hid (show ¬ rsgI p < 0 from fun h => hp (sgI_lt.1 h))
  have HC := Lib.hid (show ¬ 0 < rcmpI p 1 from fun h => hp1 (cmpI_gt0.1 h))
  have hkl : k < len := by rw [← HN.out]; exact hk.1
  obtain ⟨b1, b2, b3, b4⟩ := preS_at hO.2.1 hO.1 k
  have b6 := hO.sum_le
  have b5 := hO.pos
  have b7 := hk.2.1.1
  have HMiss := Lib.hid hk.2.2
  have HHit := Lib.hid hk.2.1.2
  have HPb := Lib.hid (preS_at hO.2.1 hO.1)
  have HF0 := Lib.hid hO.2.1
  have HPA : Hid (preS f len = f.sum) := Lib.hid (preS_all f (by rw [HN.out]; omega))
  generalize hfk : f.getD k 0 = fk at *
  have HFk := Lib.hid hfk
  generalize hpk : preS f k = pk at *
  have HPk := Lib.hid hpk
  generalize hsf : f.sum = sf at *
  clear hO hp hp1 hk hfk hpk hsf
  go_enter Tryz.func9, Tryz.ntmps9
  go_wp2_with fail
  have hbx : Below w.heap.size w ((w.alloc (.cells #[.bool negx, .slice ax' lenx' capx', .slice ax lenx capx] 28)).alloc (.cells #[.bool false, .slice none 0 0, .slice none 0 0] 28)) := (((Below.refl _ _).alloc (Nat.le_refl _) _).alloc (by simp) _)
  generalize hWW : ((w.alloc (.cells #[.bool negx, .slice ax' lenx' capx', .slice ax lenx capx] 28)).alloc (.cells #[.bool false, .slice none 0 0, .slice none 0 0] 28)) = w0 at *
  replace HI := Lib.hid (HI.out.below hbx)
  replace HR := Lib.hid (HR.out.below hbx)
  have cA0 : w0.cell? ⟨w.heap.size, 0, none⟩ = some (.bool negx) := by subst hWW; go_simp
  have cA1 : w0.cell? ⟨w.heap.size, 1, none⟩ = some (.slice ax' lenx' capx') := by subst hWW; go_simp
  have cA2 : w0.cell? ⟨w.heap.size, 2, none⟩ = some (.slice ax lenx capx) := by subst hWW; go_simp
  have ltA : w.heap.size < w0.heap.size := by subst hWW; simp <;> omega
  have cR0 : w0.cell? ⟨w.heap.size + 1, 0, none⟩ = some (.bool false) := by subst hWW; go_simp
  have fR0 : w0.frozen? ⟨w.heap.size + 1, 0, none⟩ = false := by subst hWW; go_simp
  have cR1 : w0.cell? ⟨w.heap.size + 1, 1, none⟩ = some (.slice none 0 0) := by subst hWW; go_simp
  have fR1 : w0.frozen? ⟨w.heap.size + 1, 1, none⟩ = false := by subst hWW; go_simp
  have cR2 : w0.cell? ⟨w.heap.size + 1, 2, none⟩ = some (.slice none 0 0) := by subst hWW; go_simp
  have fR2 : w0.frozen? ⟨w.heap.size + 1, 2, none⟩ = false := by subst hWW; go_simp
  have ltR : w.heap.size + 1 < w0.heap.size := by subst hWW; simp
  have hB := hbx
  clear hbx hWW
  refine (rvalid46_any f a len cap _ HI.out).mono ?_
  rintro e w1 ⟨rfl, hb⟩
  replace cA0 := bc hb ltA cA0
  replace cA1 := bc hb ltA cA1
  replace cA2 := bc hb ltA cA2
  replace ltA := bl hb ltA
  replace cR0 := bc hb ltR cR0
  replace fR0 := bf hb ltR fR0
  replace cR1 := bc hb ltR cR1
  replace fR1 := bf hb ltR fR1
  replace cR2 := bc hb ltR cR2
  replace fR2 := bf hb ltR fR2
  replace ltR := bl hb ltR
  replace HI := Lib.hid (HI.out.below hb)
  replace HR := Lib.hid (HR.out.below hb)
  replace hB := hB.trans (hb.mono hB.size)
  rw [HO.out]
  clear hb
  go_wp2_with fail
  have eA0 := box_ext (B := w1.heap.size) cA0 ltA
  have eA1 := box_ext (B := w1.heap.size) cA1 ltA
  have eA2 := box_ext (B := w1.heap.size) cA2 ltA
  have eR0 := box_ext (B := w1.heap.size) cR0 ltR
  have eR1 := box_ext (B := w1.heap.size) cR1 ltR
  have eR2 := box_ext (B := w1.heap.size) cR2 ltR
  refine wp_region_sched [(0, false), (1, true), (2, false), (3, false), (4, false), (5, true), (6, true), (7, false), (8, false)] (fun w' => ∃ W : Ext w1.heap.size w1, w' = W.1) (by kernel_rfl) (by kernel_rfl) ⟨⟨w1.drew, (Below.refl _ _).drew⟩, rfl⟩ ?_
  repeat (refine wpSched_calm rfl (fun K hK => ?_); go_simp; refine hK _ ?_; clear hK K)
  have hbx : Below w1.heap.size w1 w1.drew := (Below.refl _ _).drew
  have hM := hbx
  replace cA0 := bc hbx ltA cA0
  replace cA1 := bc hbx ltA cA1
  replace cA2 := bc hbx ltA cA2
  replace ltA := bl hbx ltA
  replace cR0 := bc hbx ltR cR0
  replace fR0 := bf hbx ltR fR0
  replace cR1 := bc hbx ltR cR1
  replace fR1 := bf hbx ltR fR1
  replace cR2 := bc hbx ltR cR2
  replace fR2 := bf hbx ltR fR2
  replace ltR := bl hbx ltR
  replace HI := Lib.hid (HI.out.below hbx)
  replace HR := Lib.hid (HR.out.below hbx)
  replace hB := hB.trans (hbx.mono hB.size)
  clear hbx
  generalize w1.drew = ww1d at *
  refine wpSched_eff rfl rfl (fun K hK => ?_)
  go_simp
  refine (ksign_any _ p L _ HR.out (by omega)).mono ?_
  rintro e w2 ⟨rfl, hb⟩
  replace cA0 := bc hb ltA cA0
  replace cA1 := bc hb ltA cA1
  replace cA2 := bc hb ltA cA2
  replace ltA := bl hb ltA
  replace cR0 := bc hb ltR cR0
  replace fR0 := bf hb ltR fR0
  replace cR1 := bc hb ltR cR1
  replace fR1 := bf hb ltR fR1
  replace cR2 := bc hb ltR cR2
  replace fR2 := bf hb ltR fR2
  replace ltR := bl hb ltR
  replace HI := Lib.hid (HI.out.below hb)
  replace HR := Lib.hid (HR.out.below hb)
  replace hM := hM.trans (hb.mono hM.size)
  replace hB := hB.trans (hb.mono hB.size)
  have hsg := HS.out
  generalize rsgI p = sg at *
  have dsg : decide (sg < 0) = false := by simpa using hsg
  clear hsg HS
  clear hb
  refine hK _ _ ⟨⟨w2, hM⟩, rfl⟩ ?_
  clear hK K
  repeat (refine wpSched_calm rfl (fun K hK => ?_); go_simp; refine hK _ ?_; clear hK K)
  clear eA0 eA1 eA2 eR0 eR1 eR2
  refine wpSched_geff rfl ?_ (fun K hK => ?_)
  · go_simp
  go_simp
  refine (rfrac_any 1 1 1 _ (by omega) (by omega) (by omega) (by omega) (by omega) (by kernel_rfl)).mono ?_
  rintro e w3 ⟨v3, rfl, hv, hsz, hb⟩
  replace cA0 := bc hb ltA cA0
  replace cA1 := bc hb ltA cA1
  replace cA2 := bc hb ltA cA2
  replace ltA := bl hb ltA
  replace cR0 := bc hb ltR cR0
  replace fR0 := bf hb ltR fR0
  replace cR1 := bc hb ltR cR1
  replace fR1 := bf hb ltR fR1
  replace cR2 := bc hb ltR cR2
  replace fR2 := bf hb ltR fR2
  replace ltR := bl hb ltR
  replace HI := Lib.hid (HI.out.below hb)
  replace HR := Lib.hid (HR.out.below hb)
  replace hM := hM.trans (hb.mono hM.size)
  replace hB := hB.trans (hb.mono hB.size)
  have HV3 := Lib.hid (hv.raw hsz)
  clear hv hsz
  clear hb
  refine hK _ _ ⟨⟨w3, hM⟩, rfl⟩ ?_
  clear hK K
  refine wpSched_geff rfl ?_ (fun K hK => ?_)
  · go_simp
  go_simp
  refine (kcmp_any _ _ p 1 L 2 _ HR.out HV3.out hL (by omega) (by omega)).mono ?_
  rintro e w4 ⟨rfl, hb⟩
  replace cA0 := bc hb ltA cA0
  replace cA1 := bc hb ltA cA1
  replace cA2 := bc hb ltA cA2
  replace ltA := bl hb ltA
  replace cR0 := bc hb ltR cR0
  replace fR0 := bf hb ltR fR0
  replace cR1 := bc hb ltR cR1
  replace fR1 := bf hb ltR fR1
  replace cR2 := bc hb ltR cR2
  replace fR2 := bf hb ltR fR2
  replace ltR := bl hb ltR
  replace HI := Lib.hid (HI.out.below hb)
  replace HR := Lib.hid (HR.out.below hb)
  replace HV3 := Lib.hid (HV3.out.below hb)
  replace hM := hM.trans (hb.mono hM.size)
  replace hB := hB.trans (hb.mono hB.size)
  have hcm := HC.out
  generalize rcmpI p 1 = cm at *
  have dcm : decide (0 < cm) = false := by simpa using hcm
  clear HC hcm
  clear hb
  refine hK _ _ ⟨⟨w4, hM⟩, rfl⟩ ?_
  clear hK K
  repeat (refine wpSched_calm rfl (fun K hK => ?_); go_simp; refine hK _ ?_; clear hK K)
  refine wpSched_nil ?_
  clear HV3
  go_wp2_with fail
  have SCA0 := Lib.hid cA0
  have SCA1 := Lib.hid cA1
  have SCA2 := Lib.hid cA2
  have SLA := Lib.hid ltA
  have SCR0 := Lib.hid cR0
  have SFR0 := Lib.hid fR0
  have SCR1 := Lib.hid cR1
  have SFR1 := Lib.hid fR1
  have SCR2 := Lib.hid cR2
  have SFR2 := Lib.hid fR2
  have SLR := Lib.hid ltR
  have SHI := Lib.hid HI.out
  have SHR := Lib.hid HR.out
  have SB := Lib.hid hB
  have eA0 := box_ext (B := w4.heap.size) cA0 ltA
  have eA1 := box_ext (B := w4.heap.size) cA1 ltA
  have eA2 := box_ext (B := w4.heap.size) cA2 ltA
  have eR0 := box_ext (B := w4.heap.size) cR0 ltR
  have eR1 := box_ext (B := w4.heap.size) cR1 ltR
  have eR2 := box_ext (B := w4.heap.size) cR2 ltR
  refine wp_region_float 7 [(0, false), (1, false), (2, false), (3, false), (4, true), (5, true), (6, true)] [(8, true)] (fun w' => ∃ W : Ext w4.heap.size w4, w' = W.1) _ 7 (.cells #[.bool false, .slice none 0 0, .slice none 0 0] 28) w4.heap.size (by kernel_rfl) rfl rfl rfl (fun a w => by simp [execOp, go_sem]) (fun w ⟨W, e⟩ => e ▸ W.2.size) (fun w ⟨W, e⟩ => ⟨⟨_, (e ▸ W.2).alloc (e ▸ W.2.size) _⟩, rfl⟩) (by kernel_rfl) ⟨⟨w4.drew, (Below.refl _ _).drew⟩, rfl⟩ ?_
  repeat (refine wpFl_calm rfl (fun K hK => ?_); go_simp; refine hK _ ?_; clear hK K)
  clear eA0 eA1 eA2 eR0 eR1 eR2
  have hbx : Below w4.heap.size w4 w4.drew := (Below.refl _ _).drew
  have hM := hbx
  replace cA0 := bc hbx ltA cA0
  replace cA1 := bc hbx ltA cA1
  replace cA2 := bc hbx ltA cA2
  replace ltA := bl hbx ltA
  replace cR0 := bc hbx ltR cR0
  replace fR0 := bf hbx ltR fR0
  replace cR1 := bc hbx ltR cR1
  replace fR1 := bf hbx ltR fR1
  replace cR2 := bc hbx ltR cR2
  replace fR2 := bf hbx ltR fR2
  replace ltR := bl hbx ltR
  replace HI := Lib.hid (HI.out.below hbx)
  replace HR := Lib.hid (HR.out.below hbx)
  replace hB := hB.trans (hbx.mono hB.size)
  clear hbx
  generalize w4.drew = ww4d at *
  refine wpFl_eff rfl rfl (fun wy hC hg K hK => ?_)
  obtain ⟨⟨wz, hE⟩, hwe⟩ := hC
  change wy = wz at hwe
  subst hwe
  replace cA0 := bc hg ltA cA0
  replace cA1 := bc hg ltA cA1
  replace cA2 := bc hg ltA cA2
  replace ltA := bl hg ltA
  replace cR0 := bc hg ltR cR0
  replace fR0 := bf hg ltR fR0
  replace cR1 := bc hg ltR cR1
  replace fR1 := bf hg ltR fR1
  replace cR2 := bc hg ltR cR2
  replace fR2 := bf hg ltR fR2
  replace ltR := bl hg ltR
  replace HI := Lib.hid (HI.out.below hg)
  replace HR := Lib.hid (HR.out.below hg)
  replace hB := hB.trans (hg.mono hB.size)
  replace hM := hE
  clear hE hg
  go_simp
  refine (rbelow_any f _ len cap len _ HI.out HF0.out h61 (Nat.le_refl _)).mono ?_
  rintro e w5 ⟨rfl, hb⟩
  replace cA0 := bc hb ltA cA0
  replace cA1 := bc hb ltA cA1
  replace cA2 := bc hb ltA cA2
  replace ltA := bl hb ltA
  replace cR0 := bc hb ltR cR0
  replace fR0 := bf hb ltR fR0
  replace cR1 := bc hb ltR cR1
  replace fR1 := bf hb ltR fR1
  replace cR2 := bc hb ltR cR2
  replace fR2 := bf hb ltR fR2
  replace ltR := bl hb ltR
  replace HI := Lib.hid (HI.out.below hb)
  replace HR := Lib.hid (HR.out.below hb)
  replace hM := hM.trans (hb.mono hM.size)
  replace hB := hB.trans (hb.mono hB.size)
  rw [HPA.out]
  refine hK _ _ ⟨⟨w5, hM⟩, rfl⟩ hb ?_
  clear hK K hb
  refine wpFl_eff rfl rfl (fun wy hC hg K hK => ?_)
  obtain ⟨⟨wz, hE⟩, hwe⟩ := hC
  change wy = wz at hwe
  subst hwe
  replace cA0 := bc hg ltA cA0
  replace cA1 := bc hg ltA cA1
  replace cA2 := bc hg ltA cA2
  replace ltA := bl hg ltA
  replace cR0 := bc hg ltR cR0
  replace fR0 := bf hg ltR fR0
  replace cR1 := bc hg ltR cR1
  replace fR1 := bf hg ltR fR1
  replace cR2 := bc hg ltR cR2
  replace fR2 := bf hg ltR fR2
  replace ltR := bl hg ltR
  replace HI := Lib.hid (HI.out.below hg)
  replace HR := Lib.hid (HR.out.below hg)
  replace hB := hB.trans (hg.mono hB.size)
  replace hM := hE
  clear hE hg
  go_simp
  refine (rfrac_any sf 1 (sf : Rat) _ (by omega) (by omega) (by omega) (by omega) (by omega) (rat_whole sf)).mono ?_
  rintro e w6 ⟨v6, rfl, hv, hsz, hb⟩
  replace cA0 := bc hb ltA cA0
  replace cA1 := bc hb ltA cA1
  replace cA2 := bc hb ltA cA2
  replace ltA := bl hb ltA
  replace cR0 := bc hb ltR cR0
  replace fR0 := bf hb ltR fR0
  replace cR1 := bc hb ltR cR1
  replace fR1 := bf hb ltR fR1
  replace cR2 := bc hb ltR cR2
  replace fR2 := bf hb ltR fR2
  replace ltR := bl hb ltR
  replace HI := Lib.hid (HI.out.below hb)
  replace HR := Lib.hid (HR.out.below hb)
  replace hM := hM.trans (hb.mono hM.size)
  replace hB := hB.trans (hb.mono hB.size)
  have HV6 := Lib.hid (hv.raw hsz)
  clear hv hsz
  refine hK _ _ ⟨⟨w6, hM⟩, rfl⟩ hb ?_
  clear hK K hb
  refine wpFl_eff rfl rfl (fun wy hC hg K hK => ?_)
  obtain ⟨⟨wz, hE⟩, hwe⟩ := hC
  change wy = wz at hwe
  subst hwe
  replace cA0 := bc hg ltA cA0
  replace cA1 := bc hg ltA cA1
  replace cA2 := bc hg ltA cA2
  replace ltA := bl hg ltA
  replace cR0 := bc hg ltR cR0
  replace fR0 := bf hg ltR fR0
  replace cR1 := bc hg ltR cR1
  replace fR1 := bf hg ltR fR1
  replace cR2 := bc hg ltR cR2
  replace fR2 := bf hg ltR fR2
  replace ltR := bl hg ltR
  replace HI := Lib.hid (HI.out.below hg)
  replace HR := Lib.hid (HR.out.below hg)
  replace HV6 := Lib.hid (HV6.out.below hg)
  replace hB := hB.trans (hg.mono hB.size)
  replace hM := hE
  clear hE hg
  go_simp
  refine (kmul_any _ _ p (sf : Rat) L 2 _ HR.out HV6.out hL (by omega) (by omega)).mono ?_
  rintro e w7 ⟨v7, rfl, hv, hsz, hb⟩
  replace cA0 := bc hb ltA cA0
  replace cA1 := bc hb ltA cA1
  replace cA2 := bc hb ltA cA2
  replace ltA := bl hb ltA
  replace cR0 := bc hb ltR cR0
  replace fR0 := bf hb ltR fR0
  replace cR1 := bc hb ltR cR1
  replace fR1 := bf hb ltR fR1
  replace cR2 := bc hb ltR cR2
  replace fR2 := bf hb ltR fR2
  replace ltR := bl hb ltR
  replace HI := Lib.hid (HI.out.below hb)
  replace HR := Lib.hid (HR.out.below hb)
  replace HV6 := Lib.hid (HV6.out.below hb)
  replace hM := hM.trans (hb.mono hM.size)
  replace hB := hB.trans (hb.mono hB.size)
  have HV7 := Lib.hid (hv.raw hsz)
  obtain ⟨p7', m7', q7', p7, m7, q7, rfl, -, -, -, -⟩ := hv
  clear hsz
  generalize decide ((p * (sf : Rat) : Rat).num < 0) = d7 at *
  refine hK _ _ ⟨⟨w7, hM⟩, rfl⟩ hb ?_
  clear hK K hb
  clear HV6 HR
  refine wpFl_nil fun gY wy hC hg hBk hge => ?_
  obtain ⟨⟨wz, hE⟩, hwe⟩ := hC
  change wy = wz at hwe
  subst hwe
  replace cA0 := bc hg ltA cA0
  replace cA1 := bc hg ltA cA1
  replace cA2 := bc hg ltA cA2
  replace ltA := bl hg ltA
  replace cR0 := bc hg ltR cR0
  replace fR0 := bf hg ltR fR0
  replace cR1 := bc hg ltR cR1
  replace fR1 := bf hg ltR fR1
  replace cR2 := bc hg ltR cR2
  replace fR2 := bf hg ltR fR2
  replace ltR := bl hg ltR
  replace HI := Lib.hid (HI.out.below hg)
  replace HV7 := Lib.hid (HV7.out.below hg)
  replace hB := hB.trans (hg.mono hB.size)
  replace hM := hE
  clear hE hg
  have z0 := blk_cell hBk 0
  have y0 := blk_free hBk 0
  have z1 := blk_cell hBk 1
  have y1 := blk_free hBk 1
  have z2 := blk_cell hBk 2
  have y2 := blk_free hBk 2
  simp at z0 z1 z2
  have hgl := blk_lt hBk
  refine wpSched_eff rfl rfl (fun K hK => ?_)
  go_simp
  refine hK _ _ ⟨⟨_, (((hM.setCell (p := ⟨gY, 0, none⟩) hge _).setCell (p := ⟨gY, 1, none⟩) hge _).setCell (p := ⟨gY, 2, none⟩) hge _)⟩, rfl⟩ ?_
  clear hK K
  refine wpSched_nil ?_
  have hMn := (((hM.setCell (p := ⟨gY, 0, none⟩) hge (.bool d7)).setCell (p := ⟨gY, 1, none⟩) hge (.slice p7' m7' q7')).setCell (p := ⟨gY, 2, none⟩) hge (.slice p7 m7 q7))
  replace HV7 := Lib.hid (HV7.out.off hBk zRat_no (.bool d7) (.slice p7' m7' q7') (.slice p7 m7 q7))
  replace cA0 := bc hMn SLA.out SCA0.out
  replace cA1 := bc hMn SLA.out SCA1.out
  replace cA2 := bc hMn SLA.out SCA2.out
  replace ltA := bl hMn SLA.out
  replace cR0 := bc hMn SLR.out SCR0.out
  replace fR0 := bf hMn SLR.out SFR0.out
  replace cR1 := bc hMn SLR.out SCR1.out
  replace fR1 := bf hMn SLR.out SFR1.out
  replace cR2 := bc hMn SLR.out SCR2.out
  replace fR2 := bf hMn SLR.out SFR2.out
  replace ltR := bl hMn SLR.out
  replace HI := Lib.hid (SHI.out.below hMn)
  replace HR := Lib.hid (SHR.out.below hMn)
  replace hB := SB.out.trans (hMn.mono SB.out.size)
  have cY0 : (((wy.setCell ⟨gY, 0, none⟩ (.bool d7)).setCell ⟨gY, 1, none⟩ (.slice p7' m7' q7')).setCell ⟨gY, 2, none⟩ (.slice p7 m7 q7)).cell? ⟨gY, 0, none⟩ = some (.bool d7) := by go_simp
  have cY1 : (((wy.setCell ⟨gY, 0, none⟩ (.bool d7)).setCell ⟨gY, 1, none⟩ (.slice p7' m7' q7')).setCell ⟨gY, 2, none⟩ (.slice p7 m7 q7)).cell? ⟨gY, 1, none⟩ = some (.slice p7' m7' q7') := by go_simp
  have cY2 : (((wy.setCell ⟨gY, 0, none⟩ (.bool d7)).setCell ⟨gY, 1, none⟩ (.slice p7' m7' q7')).setCell ⟨gY, 2, none⟩ (.slice p7 m7 q7)).cell? ⟨gY, 2, none⟩ = some (.slice p7 m7 q7) := by go_simp
  have ltY : gY < (((wy.setCell ⟨gY, 0, none⟩ (.bool d7)).setCell ⟨gY, 1, none⟩ (.slice p7' m7' q7')).setCell ⟨gY, 2, none⟩ (.slice p7 m7 q7)).heap.size := by simpa using hgl
  have neYA : w.heap.size < gY := Nat.lt_of_lt_of_le SLA.out hge
  have neYR : w.heap.size + 1 < gY := Nat.lt_of_lt_of_le SLR.out hge
  clear SCA0 SCA1 SCA2 SLA SCR0 SFR0 SCR1 SFR1 SCR2 SFR2 SLR SHI SHR SB
  clear hMn hM hBk hgl z0 y0 z1 y1 z2 y2
  go_wp2_with fail
  generalize (((wy.setCell ⟨gY, 0, none⟩ (.bool d7)).setCell ⟨gY, 1, none⟩ (.slice p7' m7' q7')).setCell ⟨gY, 2, none⟩ (.slice p7 m7 q7)) = w8 at *
  generalize hq : p * (sf : Rat) = q at *
  have HQ := Lib.hid hq
  clear hq
  go_loopw [35] (fun i wr => ∃ j : Nat, j ≤ k ∧ i = .int .i64 j ∧ Below w8.heap.size w8 wr) (fun i _ => k + 1 - (intOf i).toNat)
  case atStart => exact ⟨0, by omega, rfl, Below.refl _ _⟩
  case round =>
    obtain ⟨j, hj, rfl, hb⟩ := hrel
    have hP := hb
    replace cA0 := bc hb ltA cA0
    replace cA1 := bc hb ltA cA1
    replace cA2 := bc hb ltA cA2
    replace ltA := bl hb ltA
    replace cR0 := bc hb ltR cR0
    replace fR0 := bf hb ltR fR0
    replace cR1 := bc hb ltR cR1
    replace fR1 := bf hb ltR fR1
    replace cR2 := bc hb ltR cR2
    replace fR2 := bf hb ltR fR2
    replace ltR := bl hb ltR
    replace cY0 := bc hb ltY cY0
    replace cY1 := bc hb ltY cY1
    replace cY2 := bc hb ltY cY2
    replace ltY := bl hb ltY
    replace HI := Lib.hid (HI.out.below hb)
    replace HV7 := Lib.hid (HV7.out.below hb)
    replace hB := hB.trans (hb.mono hB.size)
    clear hb
    obtain ⟨j1, hj1⟩ : ∃ j1, j + 1 = j1 := ⟨_, rfl⟩
    obtain ⟨c1, c2, c3, c4⟩ := HPb.out j1
    have hw : IntKind.i64.wrap ((j : Int) + 1) = (j1 : Int) := by rw [IntWalk.i64_in _ (by omega)]; omega
    by_cases hjk : j < k
    · have hjl : j < len := by omega
      have hj1l : j1 ≤ len := by omega
      have hM2 := HMiss.out j hjk
      unfold HitB at hM2
      rw [hj1] at hM2
      obtain ⟨bb, off, rfl, hbs, hcc⟩ := HI.out.2.at hjl
      have ec := hcc j hjl _ (Below.refl _ _)
      have ef := box_ext (B := wr.heap.size) ec hbs
      generalize f.getD j 0 = fj at *
      generalize hpj : preS f j1 = pj at *
      have HPj := Lib.hid hpj
      clear hcc hpj
      by_cases hf0 : 0 < fj
      · have d0 : decide (0 < fj) = true := by simpa using hf0
        have hq0 : ¬ q ≤ (pj : Rat) := fun h => hM2 ⟨hf0, h⟩
        have HC := Lib.hid (show ¬ 0 ≤ rcmpI (pj : Rat) q from fun h => hq0 (cmpI_ge.1 h))
        have hj2 : j + 1 ≤ j1 := by omega
        have hj3 : j1 ≤ j + 1 := by omega
        clear hM2 hq0 hj1
        go_wp2_with fail
        have eA0 := box_ext (B := wr.heap.size) cA0 ltA
        have eA1 := box_ext (B := wr.heap.size) cA1 ltA
        have eA2 := box_ext (B := wr.heap.size) cA2 ltA
        have eR0 := box_ext (B := wr.heap.size) cR0 ltR
        have eR1 := box_ext (B := wr.heap.size) cR1 ltR
        have eR2 := box_ext (B := wr.heap.size) cR2 ltR
        have eY0 := box_ext (B := wr.heap.size) cY0 ltY
        have eY1 := box_ext (B := wr.heap.size) cY1 ltY
        have eY2 := box_ext (B := wr.heap.size) cY2 ltY
        refine wp_region_sched [(0, false), (1, false), (2, false), (3, false), (4, false), (5, false), (6, false), (7, false), (8, false), (11, false), (9, true), (10, true), (12, true), (13, false), (14, false)] (fun w' => ∃ W : Ext wr.heap.size wr, w' = W.1) (by kernel_rfl) (by kernel_rfl) ⟨⟨wr.drew, (Below.refl _ _).drew⟩, rfl⟩ ?_
        repeat (refine wpSched_calm rfl (fun K hK => ?_); go_simp; refine hK _ ?_; clear hK K)
        clear eA0 eA1 eA2 eR0 eR1 eR2 eY0 eY1 eY2
        have hbx : Below wr.heap.size wr wr.drew := (Below.refl _ _).drew
        have hM := hbx
        replace cA0 := bc hbx ltA cA0
        replace cA1 := bc hbx ltA cA1
        replace cA2 := bc hbx ltA cA2
        replace ltA := bl hbx ltA
        replace cR0 := bc hbx ltR cR0
        replace fR0 := bf hbx ltR fR0
        replace cR1 := bc hbx ltR cR1
        replace fR1 := bf hbx ltR fR1
        replace cR2 := bc hbx ltR cR2
        replace fR2 := bf hbx ltR fR2
        replace ltR := bl hbx ltR
        replace cY0 := bc hbx ltY cY0
        replace cY1 := bc hbx ltY cY1
        replace cY2 := bc hbx ltY cY2
        replace ltY := bl hbx ltY
        replace HI := Lib.hid (HI.out.below hbx)
        replace HV7 := Lib.hid (HV7.out.below hbx)
        replace hB := hB.trans (hbx.mono hB.size)
        replace hP := hP.trans (hbx.mono hP.size)
        clear hbx
        generalize wr.drew = wwrd at *
        clear ef ec hw
        refine wpSched_geff rfl ?_ (fun K hK => ?_)
        · go_simp
        go_simp
        refine (rbelow_any f _ len cap j1 _ HI.out HF0.out h61 hj1l).mono ?_
        rintro e wa ⟨rfl, hb⟩
        replace cA0 := bc hb ltA cA0
        replace cA1 := bc hb ltA cA1
        replace cA2 := bc hb ltA cA2
        replace ltA := bl hb ltA
        replace cR0 := bc hb ltR cR0
        replace fR0 := bf hb ltR fR0
        replace cR1 := bc hb ltR cR1
        replace fR1 := bf hb ltR fR1
        replace cR2 := bc hb ltR cR2
        replace fR2 := bf hb ltR fR2
        replace ltR := bl hb ltR
        replace cY0 := bc hb ltY cY0
        replace cY1 := bc hb ltY cY1
        replace cY2 := bc hb ltY cY2
        replace ltY := bl hb ltY
        replace HI := Lib.hid (HI.out.below hb)
        replace HV7 := Lib.hid (HV7.out.below hb)
        replace hM := hM.trans (hb.mono hM.size)
        replace hB := hB.trans (hb.mono hB.size)
        replace hP := hP.trans (hb.mono hP.size)
        rw [HPj.out]
        clear hb
        refine hK _ _ ⟨⟨wa, hM⟩, rfl⟩ ?_
        clear hK K
        refine wpSched_geff rfl ?_ (fun K hK => ?_)
        · go_simp
        go_simp
        refine (rfrac_any pj 1 (pj : Rat) _ (by omega) (by omega) (by omega) (by omega) (by omega) (rat_whole pj)).mono ?_
        rintro e wb ⟨vb, rfl, hv, hsz, hb⟩
        replace cA0 := bc hb ltA cA0
        replace cA1 := bc hb ltA cA1
        replace cA2 := bc hb ltA cA2
        replace ltA := bl hb ltA
        replace cR0 := bc hb ltR cR0
        replace fR0 := bf hb ltR fR0
        replace cR1 := bc hb ltR cR1
        replace fR1 := bf hb ltR fR1
        replace cR2 := bc hb ltR cR2
        replace fR2 := bf hb ltR fR2
        replace ltR := bl hb ltR
        replace cY0 := bc hb ltY cY0
        replace cY1 := bc hb ltY cY1
        replace cY2 := bc hb ltY cY2
        replace ltY := bl hb ltY
        replace HI := Lib.hid (HI.out.below hb)
        replace HV7 := Lib.hid (HV7.out.below hb)
        replace hM := hM.trans (hb.mono hM.size)
        replace hB := hB.trans (hb.mono hB.size)
        replace hP := hP.trans (hb.mono hP.size)
        have HVb := Lib.hid (hv.raw hsz)
        clear hv hsz
        clear hb
        refine hK _ _ ⟨⟨wb, hM⟩, rfl⟩ ?_
        clear hK K
        refine wpSched_geff rfl ?_ (fun K hK => ?_)
        · go_simp
        go_simp
        refine (kcmp_any _ _ (pj : Rat) q 2 (L + 2) _ HVb.out HV7.out (by omega) (by omega) (by omega)).mono ?_
        rintro e wc ⟨rfl, hb⟩
        replace cA0 := bc hb ltA cA0
        replace cA1 := bc hb ltA cA1
        replace cA2 := bc hb ltA cA2
        replace ltA := bl hb ltA
        replace cR0 := bc hb ltR cR0
        replace fR0 := bf hb ltR fR0
        replace cR1 := bc hb ltR cR1
        replace fR1 := bf hb ltR fR1
        replace cR2 := bc hb ltR cR2
        replace fR2 := bf hb ltR fR2
        replace ltR := bl hb ltR
        replace cY0 := bc hb ltY cY0
        replace cY1 := bc hb ltY cY1
        replace cY2 := bc hb ltY cY2
        replace ltY := bl hb ltY
        replace HI := Lib.hid (HI.out.below hb)
        replace HV7 := Lib.hid (HV7.out.below hb)
        replace HVb := Lib.hid (HVb.out.below hb)
        replace hM := hM.trans (hb.mono hM.size)
        replace hB := hB.trans (hb.mono hB.size)
        replace hP := hP.trans (hb.mono hP.size)
        have hcm := HC.out
        generalize rcmpI (pj : Rat) q = cm at *
        have dcm : decide (0 ≤ cm) = false := by simpa using hcm
        clear HC hcm
        clear hb
        refine hK _ _ ⟨⟨wc, hM⟩, rfl⟩ ?_
        clear hK K
        repeat (refine wpSched_calm rfl (fun K hK => ?_); go_simp; refine hK _ ?_; clear hK K)
        refine wpSched_nil ?_
        go_wp2_with fail
        go_roundw
        case rel => exact ⟨j + 1, by omega, by go_num, hP⟩
        case measure => simp [intOf]; omega
      · have d0 : decide (0 < fj) = false := by simpa using hf0
        have hj2 : j + 1 ≤ j1 := by omega
        have hj3 : j1 ≤ j + 1 := by omega
        clear hM2 hj1
        go_wp2_with fail
        have eA0 := box_ext (B := wr.heap.size) cA0 ltA
        have eA1 := box_ext (B := wr.heap.size) cA1 ltA
        have eA2 := box_ext (B := wr.heap.size) cA2 ltA
        have eR0 := box_ext (B := wr.heap.size) cR0 ltR
        have eR1 := box_ext (B := wr.heap.size) cR1 ltR
        have eR2 := box_ext (B := wr.heap.size) cR2 ltR
        have eY0 := box_ext (B := wr.heap.size) cY0 ltY
        have eY1 := box_ext (B := wr.heap.size) cY1 ltY
        have eY2 := box_ext (B := wr.heap.size) cY2 ltY
        refine wp_region_sched [(0, false), (1, false), (2, false), (3, false), (4, false), (5, false), (6, false), (7, false), (8, false), (11, false), (9, true), (10, true), (12, true), (13, false), (14, false)] (fun w' => ∃ W : Ext wr.heap.size wr, w' = W.1) (by kernel_rfl) (by kernel_rfl) ⟨⟨wr.drew, (Below.refl _ _).drew⟩, rfl⟩ ?_
        repeat (refine wpSched_calm rfl (fun K hK => ?_); go_simp; refine hK _ ?_; clear hK K)
        clear eA0 eA1 eA2 eR0 eR1 eR2 eY0 eY1 eY2
        have hbx : Below wr.heap.size wr wr.drew := (Below.refl _ _).drew
        have hM := hbx
        replace cA0 := bc hbx ltA cA0
        replace cA1 := bc hbx ltA cA1
        replace cA2 := bc hbx ltA cA2
        replace ltA := bl hbx ltA
        replace cR0 := bc hbx ltR cR0
        replace fR0 := bf hbx ltR fR0
        replace cR1 := bc hbx ltR cR1
        replace fR1 := bf hbx ltR fR1
        replace cR2 := bc hbx ltR cR2
        replace fR2 := bf hbx ltR fR2
        replace ltR := bl hbx ltR
        replace cY0 := bc hbx ltY cY0
        replace cY1 := bc hbx ltY cY1
        replace cY2 := bc hbx ltY cY2
        replace ltY := bl hbx ltY
        replace HI := Lib.hid (HI.out.below hbx)
        replace HV7 := Lib.hid (HV7.out.below hbx)
        replace hB := hB.trans (hbx.mono hB.size)
        replace hP := hP.trans (hbx.mono hP.size)
        clear hbx
        generalize wr.drew = wwrd at *
        clear ef ec hw
        refine wpSched_skip rfl ?_ ⟨⟨wwrd, hM⟩, rfl⟩ ?_
        · go_simp
        go_simp
        refine wpSched_skip rfl ?_ ⟨⟨wwrd, hM⟩, rfl⟩ ?_
        · go_simp
        go_simp
        refine wpSched_skip rfl ?_ ⟨⟨wwrd, hM⟩, rfl⟩ ?_
        · go_simp
        go_simp
        repeat (refine wpSched_calm rfl (fun K hK => ?_); go_simp; refine hK _ ?_; clear hK K)
        refine wpSched_nil ?_
        go_wp2_with fail
        go_roundw
        case rel => exact ⟨j + 1, by omega, by go_num, hP⟩
        case measure => simp [intOf]; omega
    · obtain rfl : j = k := by omega
      obtain ⟨bb, off, rfl, hbs, hcc⟩ := HI.out.2.at hkl
      have ec := hcc j hkl _ (Below.refl _ _)
      rw [HFk.out] at ec
      have hj1l : j1 ≤ len := by omega
      rw [hj1] at HHit
      generalize hpj : preS f j1 = pj at *
      have HPj := Lib.hid hpj
      have ef := box_ext (B := wr.heap.size) ec hbs
      have d0 : decide (0 < fk) = true := by simpa using b7
      have HC := Lib.hid (cmpI_ge.2 HHit.out)
      clear hcc hpj hj1 ec hbs
      go_wp2_with fail
      have eA0 := box_ext (B := wr.heap.size) cA0 ltA
      have eA1 := box_ext (B := wr.heap.size) cA1 ltA
      have eA2 := box_ext (B := wr.heap.size) cA2 ltA
      have eR0 := box_ext (B := wr.heap.size) cR0 ltR
      have eR1 := box_ext (B := wr.heap.size) cR1 ltR
      have eR2 := box_ext (B := wr.heap.size) cR2 ltR
      have eY0 := box_ext (B := wr.heap.size) cY0 ltY
      have eY1 := box_ext (B := wr.heap.size) cY1 ltY
      have eY2 := box_ext (B := wr.heap.size) cY2 ltY
      refine wp_region_sched [(0, false), (1, false), (2, false), (3, false), (4, false), (5, false), (6, false), (7, false), (8, false), (11, false), (9, true), (10, true), (12, true), (13, false), (14, false)] (fun w' => ∃ W : Ext wr.heap.size wr, w' = W.1) (by kernel_rfl) (by kernel_rfl) ⟨⟨wr.drew, (Below.refl _ _).drew⟩, rfl⟩ ?_
      repeat (refine wpSched_calm rfl (fun K hK => ?_); go_simp; refine hK _ ?_; clear hK K)
      clear eA0 eA1 eA2 eR0 eR1 eR2 eY0 eY1 eY2
      have hbx : Below wr.heap.size wr wr.drew := (Below.refl _ _).drew
      have hM := hbx
      replace cA0 := bc hbx ltA cA0
      replace cA1 := bc hbx ltA cA1
      replace cA2 := bc hbx ltA cA2
      replace ltA := bl hbx ltA
      replace cR0 := bc hbx ltR cR0
      replace fR0 := bf hbx ltR fR0
      replace cR1 := bc hbx ltR cR1
      replace fR1 := bf hbx ltR fR1
      replace cR2 := bc hbx ltR cR2
      replace fR2 := bf hbx ltR fR2
      replace ltR := bl hbx ltR
      replace cY0 := bc hbx ltY cY0
      replace cY1 := bc hbx ltY cY1
      replace cY2 := bc hbx ltY cY2
      replace ltY := bl hbx ltY
      replace HI := Lib.hid (HI.out.below hbx)
      replace HV7 := Lib.hid (HV7.out.below hbx)
      replace hB := hB.trans (hbx.mono hB.size)
      clear hbx
      generalize wr.drew = wwrd at *
      clear ef hw
      refine wpSched_geff rfl ?_ (fun K hK => ?_)
      · go_simp
      go_simp
      refine (rbelow_any f _ len cap j1 _ HI.out HF0.out h61 hj1l).mono ?_
      rintro e wa ⟨rfl, hb⟩
      replace cA0 := bc hb ltA cA0
      replace cA1 := bc hb ltA cA1
      replace cA2 := bc hb ltA cA2
      replace ltA := bl hb ltA
      replace cR0 := bc hb ltR cR0
      replace fR0 := bf hb ltR fR0
      replace cR1 := bc hb ltR cR1
      replace fR1 := bf hb ltR fR1
      replace cR2 := bc hb ltR cR2
      replace fR2 := bf hb ltR fR2
      replace ltR := bl hb ltR
      replace cY0 := bc hb ltY cY0
      replace cY1 := bc hb ltY cY1
      replace cY2 := bc hb ltY cY2
      replace ltY := bl hb ltY
      replace HI := Lib.hid (HI.out.below hb)
      replace HV7 := Lib.hid (HV7.out.below hb)
      replace hM := hM.trans (hb.mono hM.size)
      replace hB := hB.trans (hb.mono hB.size)
      rw [HPj.out]
      clear hb
      refine hK _ _ ⟨⟨wa, hM⟩, rfl⟩ ?_
      clear hK K
      refine wpSched_geff rfl ?_ (fun K hK => ?_)
      · go_simp
      go_simp
      refine (rfrac_any pj 1 (pj : Rat) _ (by omega) (by omega) (by omega) (by omega) (by omega) (rat_whole pj)).mono ?_
      rintro e wb ⟨vb, rfl, hv, hsz, hb⟩
      replace cA0 := bc hb ltA cA0
      replace cA1 := bc hb ltA cA1
      replace cA2 := bc hb ltA cA2
      replace ltA := bl hb ltA
      replace cR0 := bc hb ltR cR0
      replace fR0 := bf hb ltR fR0
      replace cR1 := bc hb ltR cR1
      replace fR1 := bf hb ltR fR1
      replace cR2 := bc hb ltR cR2
      replace fR2 := bf hb ltR fR2
      replace ltR := bl hb ltR
      replace cY0 := bc hb ltY cY0
      replace cY1 := bc hb ltY cY1
      replace cY2 := bc hb ltY cY2
      replace ltY := bl hb ltY
      replace HI := Lib.hid (HI.out.below hb)
      replace HV7 := Lib.hid (HV7.out.below hb)
      replace hM := hM.trans (hb.mono hM.size)
      replace hB := hB.trans (hb.mono hB.size)
      have HVb := Lib.hid (hv.raw hsz)
      clear hv hsz
      clear hb
      refine hK _ _ ⟨⟨wb, hM⟩, rfl⟩ ?_
      clear hK K
      refine wpSched_geff rfl ?_ (fun K hK => ?_)
      · go_simp
      go_simp
      refine (kcmp_any _ _ (pj : Rat) q 2 (L + 2) _ HVb.out HV7.out (by omega) (by omega) (by omega)).mono ?_
      rintro e wc ⟨rfl, hb⟩
      replace cA0 := bc hb ltA cA0
      replace cA1 := bc hb ltA cA1
      replace cA2 := bc hb ltA cA2
      replace ltA := bl hb ltA
      replace cR0 := bc hb ltR cR0
      replace fR0 := bf hb ltR fR0
      replace cR1 := bc hb ltR cR1
      replace fR1 := bf hb ltR fR1
      replace cR2 := bc hb ltR cR2
      replace fR2 := bf hb ltR fR2
      replace ltR := bl hb ltR
      replace cY0 := bc hb ltY cY0
      replace cY1 := bc hb ltY cY1
      replace cY2 := bc hb ltY cY2
      replace ltY := bl hb ltY
      replace HI := Lib.hid (HI.out.below hb)
      replace HV7 := Lib.hid (HV7.out.below hb)
      replace HVb := Lib.hid (HVb.out.below hb)
      replace hM := hM.trans (hb.mono hM.size)
      replace hB := hB.trans (hb.mono hB.size)
      have hcm := HC.out
      generalize rcmpI (pj : Rat) q = cm at *
      have dcm : decide (0 ≤ cm) = true := by simpa using hcm
      clear HC hcm
      clear hb
      refine hK _ _ ⟨⟨wc, hM⟩, rfl⟩ ?_
      clear hK K
      repeat (refine wpSched_calm rfl (fun K hK => ?_); go_simp; refine hK _ ?_; clear hK K)
      refine wpSched_nil ?_
      clear HVb
      go_wp2_with fail
      obtain ⟨bb2, off2, hbb, hbs, hcc⟩ := HI.out.2.at hkl
      cases hbb
      have ec := hcc j hkl _ (Below.refl _ _)
      rw [HFk.out] at ec
      have ef := box_ext (B := wc.heap.size) ec hbs
      clear hcc ec hbs
      have SCA0 := Lib.hid cA0
      have SCA1 := Lib.hid cA1
      have SCA2 := Lib.hid cA2
      have SLA := Lib.hid ltA
      have SCR0 := Lib.hid cR0
      have SFR0 := Lib.hid fR0
      have SCR1 := Lib.hid cR1
      have SFR1 := Lib.hid fR1
      have SCR2 := Lib.hid cR2
      have SFR2 := Lib.hid fR2
      have SLR := Lib.hid ltR
      have SCY0 := Lib.hid cY0
      have SCY1 := Lib.hid cY1
      have SCY2 := Lib.hid cY2
      have SLY := Lib.hid ltY
      have SHI := Lib.hid HI.out
      have SHV7 := Lib.hid HV7.out
      have SB := Lib.hid hB
      have eA0 := box_ext (B := wc.heap.size) cA0 ltA
      have eA1 := box_ext (B := wc.heap.size) cA1 ltA
      have eA2 := box_ext (B := wc.heap.size) cA2 ltA
      have eR0 := box_ext (B := wc.heap.size) cR0 ltR
      have eR1 := box_ext (B := wc.heap.size) cR1 ltR
      have eR2 := box_ext (B := wc.heap.size) cR2 ltR
      have eY0 := box_ext (B := wc.heap.size) cY0 ltY
      have eY1 := box_ext (B := wc.heap.size) cY1 ltY
      have eY2 := box_ext (B := wc.heap.size) cY2 ltY
      refine wp_region_float 12 [(0, false), (1, false), (2, false), (6, false), (7, false), (8, false), (9, false), (3, true), (4, true), (5, true), (10, true), (11, true)] [(13, true)] (fun w' => ∃ W : Ext wc.heap.size wc, w' = W.1) _ 9 (.cells #[.bool false, .slice none 0 0, .slice none 0 0] 28) wc.heap.size (by kernel_rfl) rfl rfl rfl (fun a w => by simp [execOp, go_sem]) (fun w ⟨W, e⟩ => e ▸ W.2.size) (fun w ⟨W, e⟩ => ⟨⟨_, (e ▸ W.2).alloc (e ▸ W.2.size) _⟩, rfl⟩) (by kernel_rfl) ⟨⟨wc.drew, (Below.refl _ _).drew⟩, rfl⟩ ?_
      repeat (refine wpFl_calm rfl (fun K hK => ?_); go_simp; refine hK _ ?_; clear hK K)
      clear eA0 eA1 eA2 eR0 eR1 eR2 eY0 eY1 eY2
      have hbx : Below wc.heap.size wc wc.drew := (Below.refl _ _).drew
      have hM := hbx
      replace cA0 := bc hbx ltA cA0
      replace cA1 := bc hbx ltA cA1
      replace cA2 := bc hbx ltA cA2
      replace ltA := bl hbx ltA
      replace cR0 := bc hbx ltR cR0
      replace fR0 := bf hbx ltR fR0
      replace cR1 := bc hbx ltR cR1
      replace fR1 := bf hbx ltR fR1
      replace cR2 := bc hbx ltR cR2
      replace fR2 := bf hbx ltR fR2
      replace ltR := bl hbx ltR
      replace cY0 := bc hbx ltY cY0
      replace cY1 := bc hbx ltY cY1
      replace cY2 := bc hbx ltY cY2
      replace ltY := bl hbx ltY
      replace HI := Lib.hid (HI.out.below hbx)
      replace HV7 := Lib.hid (HV7.out.below hbx)
      replace hB := hB.trans (hbx.mono hB.size)
      clear hbx
      generalize wc.drew = wwcd at *
      clear ef
      refine wpFl_eff rfl rfl (fun wy hC hg K hK => ?_)
      obtain ⟨⟨wz, hE⟩, hwe⟩ := hC
      change wy = wz at hwe
      subst hwe
      replace cA0 := bc hg ltA cA0
      replace cA1 := bc hg ltA cA1
      replace cA2 := bc hg ltA cA2
      replace ltA := bl hg ltA
      replace cR0 := bc hg ltR cR0
      replace fR0 := bf hg ltR fR0
      replace cR1 := bc hg ltR cR1
      replace fR1 := bf hg ltR fR1
      replace cR2 := bc hg ltR cR2
      replace fR2 := bf hg ltR fR2
      replace ltR := bl hg ltR
      replace cY0 := bc hg ltY cY0
      replace cY1 := bc hg ltY cY1
      replace cY2 := bc hg ltY cY2
      replace ltY := bl hg ltY
      replace HI := Lib.hid (HI.out.below hg)
      replace HV7 := Lib.hid (HV7.out.below hg)
      replace hB := hB.trans (hg.mono hB.size)
      replace hM := hE
      clear hE hg
      go_simp
      refine (rbelow_any f _ len cap j _ HI.out HF0.out h61 (by omega)).mono ?_
      rintro e we ⟨rfl, hb⟩
      replace cA0 := bc hb ltA cA0
      replace cA1 := bc hb ltA cA1
      replace cA2 := bc hb ltA cA2
      replace ltA := bl hb ltA
      replace cR0 := bc hb ltR cR0
      replace fR0 := bf hb ltR fR0
      replace cR1 := bc hb ltR cR1
      replace fR1 := bf hb ltR fR1
      replace cR2 := bc hb ltR cR2
      replace fR2 := bf hb ltR fR2
      replace ltR := bl hb ltR
      replace cY0 := bc hb ltY cY0
      replace cY1 := bc hb ltY cY1
      replace cY2 := bc hb ltY cY2
      replace ltY := bl hb ltY
      replace HI := Lib.hid (HI.out.below hb)
      replace HV7 := Lib.hid (HV7.out.below hb)
      replace hM := hM.trans (hb.mono hM.size)
      replace hB := hB.trans (hb.mono hB.size)
      rw [HPk.out]
      refine hK _ _ ⟨⟨we, hM⟩, rfl⟩ hb ?_
      clear hK K hb
      refine wpFl_eff rfl rfl (fun wy hC hg K hK => ?_)
      obtain ⟨⟨wz, hE⟩, hwe⟩ := hC
      change wy = wz at hwe
      subst hwe
      replace cA0 := bc hg ltA cA0
      replace cA1 := bc hg ltA cA1
      replace cA2 := bc hg ltA cA2
      replace ltA := bl hg ltA
      replace cR0 := bc hg ltR cR0
      replace fR0 := bf hg ltR fR0
      replace cR1 := bc hg ltR cR1
      replace fR1 := bf hg ltR fR1
      replace cR2 := bc hg ltR cR2
      replace fR2 := bf hg ltR fR2
      replace ltR := bl hg ltR
      replace cY0 := bc hg ltY cY0
      replace cY1 := bc hg ltY cY1
      replace cY2 := bc hg ltY cY2
      replace ltY := bl hg ltY
      replace HI := Lib.hid (HI.out.below hg)
      replace HV7 := Lib.hid (HV7.out.below hg)
      replace hB := hB.trans (hg.mono hB.size)
      replace hM := hE
      clear hE hg
      go_simp
      refine (rfrac_any pk 1 (pk : Rat) _ (by omega) (by omega) (by omega) (by omega) (by omega) (rat_whole pk)).mono ?_
      rintro e wf ⟨vf1, rfl, hv, hsz, hb⟩
      replace cA0 := bc hb ltA cA0
      replace cA1 := bc hb ltA cA1
      replace cA2 := bc hb ltA cA2
      replace ltA := bl hb ltA
      replace cR0 := bc hb ltR cR0
      replace fR0 := bf hb ltR fR0
      replace cR1 := bc hb ltR cR1
      replace fR1 := bf hb ltR fR1
      replace cR2 := bc hb ltR cR2
      replace fR2 := bf hb ltR fR2
      replace ltR := bl hb ltR
      replace cY0 := bc hb ltY cY0
      replace cY1 := bc hb ltY cY1
      replace cY2 := bc hb ltY cY2
      replace ltY := bl hb ltY
      replace HI := Lib.hid (HI.out.below hb)
      replace HV7 := Lib.hid (HV7.out.below hb)
      replace hM := hM.trans (hb.mono hM.size)
      replace hB := hB.trans (hb.mono hB.size)
      have HVf1 := Lib.hid (hv.raw hsz)
      clear hv hsz
      refine hK _ _ ⟨⟨wf, hM⟩, rfl⟩ hb ?_
      clear hK K hb
      refine wpFl_eff rfl rfl (fun wy hC hg K hK => ?_)
      obtain ⟨⟨wz, hE⟩, hwe⟩ := hC
      change wy = wz at hwe
      subst hwe
      replace cA0 := bc hg ltA cA0
      replace cA1 := bc hg ltA cA1
      replace cA2 := bc hg ltA cA2
      replace ltA := bl hg ltA
      replace cR0 := bc hg ltR cR0
      replace fR0 := bf hg ltR fR0
      replace cR1 := bc hg ltR cR1
      replace fR1 := bf hg ltR fR1
      replace cR2 := bc hg ltR cR2
      replace fR2 := bf hg ltR fR2
      replace ltR := bl hg ltR
      replace cY0 := bc hg ltY cY0
      replace cY1 := bc hg ltY cY1
      replace cY2 := bc hg ltY cY2
      replace ltY := bl hg ltY
      replace HI := Lib.hid (HI.out.below hg)
      replace HV7 := Lib.hid (HV7.out.below hg)
      replace HVf1 := Lib.hid (HVf1.out.below hg)
      replace hB := hB.trans (hg.mono hB.size)
      replace hM := hE
      clear hE hg
      go_simp
      refine (ksub_any _ _ q (pk : Rat) (L + 2) 2 _ HV7.out HVf1.out (by omega) (by omega) (by omega)).mono ?_
      rintro e wg ⟨vg, rfl, hv, hsz, hb⟩
      replace cA0 := bc hb ltA cA0
      replace cA1 := bc hb ltA cA1
      replace cA2 := bc hb ltA cA2
      replace ltA := bl hb ltA
      replace cR0 := bc hb ltR cR0
      replace fR0 := bf hb ltR fR0
      replace cR1 := bc hb ltR cR1
      replace fR1 := bf hb ltR fR1
      replace cR2 := bc hb ltR cR2
      replace fR2 := bf hb ltR fR2
      replace ltR := bl hb ltR
      replace cY0 := bc hb ltY cY0
      replace cY1 := bc hb ltY cY1
      replace cY2 := bc hb ltY cY2
      replace ltY := bl hb ltY
      replace HI := Lib.hid (HI.out.below hb)
      replace HV7 := Lib.hid (HV7.out.below hb)
      replace HVf1 := Lib.hid (HVf1.out.below hb)
      replace hM := hM.trans (hb.mono hM.size)
      replace hB := hB.trans (hb.mono hB.size)
      have HVg := Lib.hid (hv.raw hsz)
      clear hv hsz
      refine hK _ _ ⟨⟨wg, hM⟩, rfl⟩ hb ?_
      clear hK K hb
      refine wpFl_eff rfl rfl (fun wy hC hg K hK => ?_)
      obtain ⟨⟨wz, hE⟩, hwe⟩ := hC
      change wy = wz at hwe
      subst hwe
      replace cA0 := bc hg ltA cA0
      replace cA1 := bc hg ltA cA1
      replace cA2 := bc hg ltA cA2
      replace ltA := bl hg ltA
      replace cR0 := bc hg ltR cR0
      replace fR0 := bf hg ltR fR0
      replace cR1 := bc hg ltR cR1
      replace fR1 := bf hg ltR fR1
      replace cR2 := bc hg ltR cR2
      replace fR2 := bf hg ltR fR2
      replace ltR := bl hg ltR
      replace cY0 := bc hg ltY cY0
      replace cY1 := bc hg ltY cY1
      replace cY2 := bc hg ltY cY2
      replace ltY := bl hg ltY
      replace HI := Lib.hid (HI.out.below hg)
      replace HV7 := Lib.hid (HV7.out.below hg)
      replace HVf1 := Lib.hid (HVf1.out.below hg)
      replace HVg := Lib.hid (HVg.out.below hg)
      replace hB := hB.trans (hg.mono hB.size)
      replace hM := hE
      clear hE hg
      go_simp
      refine (rfrac_any 1 fk (1 / (fk : Rat)) _ (by omega) (by omega) (by omega) (by omega) (by omega) (one_over fk)).mono ?_
      rintro e wh ⟨vh, rfl, hv, hsz, hb⟩
      replace cA0 := bc hb ltA cA0
      replace cA1 := bc hb ltA cA1
      replace cA2 := bc hb ltA cA2
      replace ltA := bl hb ltA
      replace cR0 := bc hb ltR cR0
      replace fR0 := bf hb ltR fR0
      replace cR1 := bc hb ltR cR1
      replace fR1 := bf hb ltR fR1
      replace cR2 := bc hb ltR cR2
      replace fR2 := bf hb ltR fR2
      replace ltR := bl hb ltR
      replace cY0 := bc hb ltY cY0
      replace cY1 := bc hb ltY cY1
      replace cY2 := bc hb ltY cY2
      replace ltY := bl hb ltY
      replace HI := Lib.hid (HI.out.below hb)
      replace HV7 := Lib.hid (HV7.out.below hb)
      replace HVf1 := Lib.hid (HVf1.out.below hb)
      replace HVg := Lib.hid (HVg.out.below hb)
      replace hM := hM.trans (hb.mono hM.size)
      replace hB := hB.trans (hb.mono hB.size)
      have HVh := Lib.hid (hv.raw hsz)
      clear hv hsz
      refine hK _ _ ⟨⟨wh, hM⟩, rfl⟩ hb ?_
      clear hK K hb
      refine wpFl_eff rfl rfl (fun wy hC hg K hK => ?_)
      obtain ⟨⟨wz, hE⟩, hwe⟩ := hC
      change wy = wz at hwe
      subst hwe
      replace cA0 := bc hg ltA cA0
      replace cA1 := bc hg ltA cA1
      replace cA2 := bc hg ltA cA2
      replace ltA := bl hg ltA
      replace cR0 := bc hg ltR cR0
      replace fR0 := bf hg ltR fR0
      replace cR1 := bc hg ltR cR1
      replace fR1 := bf hg ltR fR1
      replace cR2 := bc hg ltR cR2
      replace fR2 := bf hg ltR fR2
      replace ltR := bl hg ltR
      replace cY0 := bc hg ltY cY0
      replace cY1 := bc hg ltY cY1
      replace cY2 := bc hg ltY cY2
      replace ltY := bl hg ltY
      replace HI := Lib.hid (HI.out.below hg)
      replace HV7 := Lib.hid (HV7.out.below hg)
      replace HVf1 := Lib.hid (HVf1.out.below hg)
      replace HVg := Lib.hid (HVg.out.below hg)
      replace HVh := Lib.hid (HVh.out.below hg)
      replace hB := hB.trans (hg.mono hB.size)
      replace hM := hE
      clear hE hg
      go_simp
      refine (kmul_any _ _ (q - (pk : Rat)) (1 / (fk : Rat)) (L + 2 + 2 + 1) 2 _ HVg.out HVh.out (by omega) (by omega) (by omega)).mono ?_
      rintro e wi ⟨vi, rfl, hv, hsz, hb⟩
      replace cA0 := bc hb ltA cA0
      replace cA1 := bc hb ltA cA1
      replace cA2 := bc hb ltA cA2
      replace ltA := bl hb ltA
      replace cR0 := bc hb ltR cR0
      replace fR0 := bf hb ltR fR0
      replace cR1 := bc hb ltR cR1
      replace fR1 := bf hb ltR fR1
      replace cR2 := bc hb ltR cR2
      replace fR2 := bf hb ltR fR2
      replace ltR := bl hb ltR
      replace cY0 := bc hb ltY cY0
      replace cY1 := bc hb ltY cY1
      replace cY2 := bc hb ltY cY2
      replace ltY := bl hb ltY
      replace HI := Lib.hid (HI.out.below hb)
      replace HV7 := Lib.hid (HV7.out.below hb)
      replace HVf1 := Lib.hid (HVf1.out.below hb)
      replace HVg := Lib.hid (HVg.out.below hb)
      replace HVh := Lib.hid (HVh.out.below hb)
      replace hM := hM.trans (hb.mono hM.size)
      replace hB := hB.trans (hb.mono hB.size)
      have HVi := Lib.hid (hv.raw hsz)
      obtain ⟨pi', mi', qi', pi, mi, qi, rfl, -, -, -, -⟩ := hv
      clear hsz
      generalize decide ((((q - (pk : Rat)) * (1 / (fk : Rat))) : Rat).num < 0) = di at *
      refine hK _ _ ⟨⟨wi, hM⟩, rfl⟩ hb ?_
      clear hK K hb
      clear HVf1 HVg HVh HV7
      refine wpFl_nil fun gZ wy hC hg hBk hge => ?_
      obtain ⟨⟨wz, hE⟩, hwe⟩ := hC
      change wy = wz at hwe
      subst hwe
      replace cA0 := bc hg ltA cA0
      replace cA1 := bc hg ltA cA1
      replace cA2 := bc hg ltA cA2
      replace ltA := bl hg ltA
      replace cR0 := bc hg ltR cR0
      replace fR0 := bf hg ltR fR0
      replace cR1 := bc hg ltR cR1
      replace fR1 := bf hg ltR fR1
      replace cR2 := bc hg ltR cR2
      replace fR2 := bf hg ltR fR2
      replace ltR := bl hg ltR
      replace cY0 := bc hg ltY cY0
      replace cY1 := bc hg ltY cY1
      replace cY2 := bc hg ltY cY2
      replace ltY := bl hg ltY
      replace HI := Lib.hid (HI.out.below hg)
      replace HVi := Lib.hid (HVi.out.below hg)
      replace hB := hB.trans (hg.mono hB.size)
      replace hM := hE
      clear hE hg
      have z0 := blk_cell hBk 0
      have y0 := blk_free hBk 0
      have z1 := blk_cell hBk 1
      have y1 := blk_free hBk 1
      have z2 := blk_cell hBk 2
      have y2 := blk_free hBk 2
      simp at z0 z1 z2
      have hgl := blk_lt hBk
      refine wpSched_eff rfl rfl (fun K hK => ?_)
      go_simp
      refine hK _ _ ⟨⟨_, (((hM.setCell (p := ⟨gZ, 0, none⟩) hge _).setCell (p := ⟨gZ, 1, none⟩) hge _).setCell (p := ⟨gZ, 2, none⟩) hge _)⟩, rfl⟩ ?_
      clear hK K
      refine wpSched_nil ?_
      have hMn := (((hM.setCell (p := ⟨gZ, 0, none⟩) hge (.bool di)).setCell (p := ⟨gZ, 1, none⟩) hge (.slice pi' mi' qi')).setCell (p := ⟨gZ, 2, none⟩) hge (.slice pi mi qi))
      replace HVi := Lib.hid (HVi.out.off hBk zRat_no (.bool di) (.slice pi' mi' qi') (.slice pi mi qi))
      replace cA0 := bc hMn SLA.out SCA0.out
      replace cA1 := bc hMn SLA.out SCA1.out
      replace cA2 := bc hMn SLA.out SCA2.out
      replace ltA := bl hMn SLA.out
      replace cR0 := bc hMn SLR.out SCR0.out
      replace fR0 := bf hMn SLR.out SFR0.out
      replace cR1 := bc hMn SLR.out SCR1.out
      replace fR1 := bf hMn SLR.out SFR1.out
      replace cR2 := bc hMn SLR.out SCR2.out
      replace fR2 := bf hMn SLR.out SFR2.out
      replace ltR := bl hMn SLR.out
      replace cY0 := bc hMn SLY.out SCY0.out
      replace cY1 := bc hMn SLY.out SCY1.out
      replace cY2 := bc hMn SLY.out SCY2.out
      replace ltY := bl hMn SLY.out
      replace HI := Lib.hid (SHI.out.below hMn)
      replace HV7 := Lib.hid (SHV7.out.below hMn)
      replace hB := SB.out.trans (hMn.mono SB.out.size)
      have cZ0 : (((wy.setCell ⟨gZ, 0, none⟩ (.bool di)).setCell ⟨gZ, 1, none⟩ (.slice pi' mi' qi')).setCell ⟨gZ, 2, none⟩ (.slice pi mi qi)).cell? ⟨gZ, 0, none⟩ = some (.bool di) := by go_simp
      have cZ1 : (((wy.setCell ⟨gZ, 0, none⟩ (.bool di)).setCell ⟨gZ, 1, none⟩ (.slice pi' mi' qi')).setCell ⟨gZ, 2, none⟩ (.slice pi mi qi)).cell? ⟨gZ, 1, none⟩ = some (.slice pi' mi' qi') := by go_simp
      have cZ2 : (((wy.setCell ⟨gZ, 0, none⟩ (.bool di)).setCell ⟨gZ, 1, none⟩ (.slice pi' mi' qi')).setCell ⟨gZ, 2, none⟩ (.slice pi mi qi)).cell? ⟨gZ, 2, none⟩ = some (.slice pi mi qi) := by go_simp
      have ltZ : gZ < (((wy.setCell ⟨gZ, 0, none⟩ (.bool di)).setCell ⟨gZ, 1, none⟩ (.slice pi' mi' qi')).setCell ⟨gZ, 2, none⟩ (.slice pi mi qi)).heap.size := by simpa using hgl
      have neZA : w.heap.size < gZ := Nat.lt_of_lt_of_le SLA.out hge
      have neZR : w.heap.size + 1 < gZ := Nat.lt_of_lt_of_le SLR.out hge
      have neZY : gY < gZ := Nat.lt_of_lt_of_le SLY.out hge
      clear SCA0 SCA1 SCA2 SLA SCR0 SFR0 SCR1 SFR1 SCR2 SFR2 SLR SCY0 SCY1 SCY2 SLY SHI SHV7 SB
      clear hMn hM hBk hgl z0 y0 z1 y1 z2 y2
      go_wp2_with fail
      generalize (((wy.setCell ⟨gZ, 0, none⟩ (.bool di)).setCell ⟨gZ, 1, none⟩ (.slice pi' mi' qi')).setCell ⟨gZ, 2, none⟩ (.slice pi mi qi)) = wj at *
      have hw1 : IntKind.i64.wrap (2 * (j : Int)) = 2 * (j : Int) := IntWalk.i64_in _ (by omega)
      have hw2 : IntKind.i64.wrap (2 * (j : Int) - 1) = 2 * (j : Int) - 1 := IntWalk.i64_in _ (by omega)
      have eA0 := Gr.cell (R := w.heap.size + 1) (R2 := w.heap.size + 1) cA0 ltA (by omega) (by omega)
      have eA1 := Gr.cell (R := w.heap.size + 1) (R2 := w.heap.size + 1) cA1 ltA (by omega) (by omega)
      have eA2 := Gr.cell (R := w.heap.size + 1) (R2 := w.heap.size + 1) cA2 ltA (by omega) (by omega)
      have eY0 := Gr.cell (R := w.heap.size + 1) (R2 := w.heap.size + 1) cY0 ltY (by omega) (by omega)
      have eY1 := Gr.cell (R := w.heap.size + 1) (R2 := w.heap.size + 1) cY1 ltY (by omega) (by omega)
      have eY2 := Gr.cell (R := w.heap.size + 1) (R2 := w.heap.size + 1) cY2 ltY (by omega) (by omega)
      have eZ0 := Gr.cell (R := w.heap.size + 1) (R2 := w.heap.size + 1) cZ0 ltZ (by omega) (by omega)
      have eZ1 := Gr.cell (R := w.heap.size + 1) (R2 := w.heap.size + 1) cZ1 ltZ (by omega) (by omega)
      have eZ2 := Gr.cell (R := w.heap.size + 1) (R2 := w.heap.size + 1) cZ2 ltZ (by omega) (by omega)
      refine wp_region_sched [(0, false), (1, false), (2, false), (4, false), (3, true), (5, true), (6, true), (7, false)] (fun w' => ∃ W : Gr (w.heap.size + 1) (w.heap.size + 1) wj, w' = W.1) (by kernel_rfl) (by kernel_rfl) ⟨⟨wj.drew, below_grown (Below.refl _ _).drew⟩, rfl⟩ ?_
      repeat (refine wpSched_calm rfl (fun K hK => ?_); go_simp; refine hK _ ?_; clear hK K)
      clear eA0 eA1 eA2 eY0 eY1 eY2 eZ0 eZ1 eZ2
      have hbx : Below wj.heap.size wj wj.drew := (Below.refl _ _).drew
      have hM := below_grown (R := w.heap.size + 1) (R2 := w.heap.size + 1) hbx
      replace cA0 := bc hbx ltA cA0
      replace cA1 := bc hbx ltA cA1
      replace cA2 := bc hbx ltA cA2
      replace ltA := bl hbx ltA
      replace cR0 := bc hbx ltR cR0
      replace fR0 := bf hbx ltR fR0
      replace cR1 := bc hbx ltR cR1
      replace fR1 := bf hbx ltR fR1
      replace cR2 := bc hbx ltR cR2
      replace fR2 := bf hbx ltR fR2
      replace ltR := bl hbx ltR
      replace cY0 := bc hbx ltY cY0
      replace cY1 := bc hbx ltY cY1
      replace cY2 := bc hbx ltY cY2
      replace ltY := bl hbx ltY
      replace cZ0 := bc hbx ltZ cZ0
      replace cZ1 := bc hbx ltZ cZ1
      replace cZ2 := bc hbx ltZ cZ2
      replace ltZ := bl hbx ltZ
      replace HI := Lib.hid (HI.out.below hbx)
      replace HVi := Lib.hid (HVi.out.below hbx)
      replace hB := hB.trans (hbx.mono hB.size)
      clear hbx
      generalize wj.drew = wwjd at *
      clear hw1 hw2
      refine wpSched_eff rfl rfl (fun K hK => ?_)
      go_simp
      refine (rfrac_any (2 * (j : Int) - 1) 2 ((j : Rat) - 1/2) _ (by omega) (by omega) (by omega) (by omega) (by omega) (half_down j)).mono ?_
      rintro e wk ⟨vk1, rfl, hv, hsz, hb⟩
      replace cA0 := bc hb ltA cA0
      replace cA1 := bc hb ltA cA1
      replace cA2 := bc hb ltA cA2
      replace ltA := bl hb ltA
      replace cR0 := bc hb ltR cR0
      replace fR0 := bf hb ltR fR0
      replace cR1 := bc hb ltR cR1
      replace fR1 := bf hb ltR fR1
      replace cR2 := bc hb ltR cR2
      replace fR2 := bf hb ltR fR2
      replace ltR := bl hb ltR
      replace cY0 := bc hb ltY cY0
      replace cY1 := bc hb ltY cY1
      replace cY2 := bc hb ltY cY2
      replace ltY := bl hb ltY
      replace cZ0 := bc hb ltZ cZ0
      replace cZ1 := bc hb ltZ cZ1
      replace cZ2 := bc hb ltZ cZ2
      replace ltZ := bl hb ltZ
      replace HI := Lib.hid (HI.out.below hb)
      replace HVi := Lib.hid (HVi.out.below hb)
      replace hM := grown_below hM hb
      replace hB := hB.trans (hb.mono hB.size)
      have HVk1 := Lib.hid (hv.raw hsz)
      clear hv hsz
      clear hb
      refine hK _ _ ⟨⟨wk, hM⟩, rfl⟩ ?_
      clear hK K
      have hs1 := ltR
      refine wpSched_eff rfl rfl (fun K hK => ?_)
      go_simp
      refine (kadd_any _ _ ((j : Rat) - 1/2) ((q - (pk : Rat)) * (1 / (fk : Rat))) 2 (L + 2 + 2 + 1 + 2) _ HVk1.out HVi.out (by omega) (by omega) (by omega)).mono ?_
      rintro e wn ⟨vn, rfl, hv, hsz, hb⟩
      replace cA0 := bc hb ltA cA0
      replace cA1 := bc hb ltA cA1
      replace cA2 := bc hb ltA cA2
      replace ltA := bl hb ltA
      replace cR0 := bc hb ltR cR0
      replace fR0 := bf hb ltR fR0
      replace cR1 := bc hb ltR cR1
      replace fR1 := bf hb ltR fR1
      replace cR2 := bc hb ltR cR2
      replace fR2 := bf hb ltR fR2
      replace ltR := bl hb ltR
      replace cY0 := bc hb ltY cY0
      replace cY1 := bc hb ltY cY1
      replace cY2 := bc hb ltY cY2
      replace ltY := bl hb ltY
      replace cZ0 := bc hb ltZ cZ0
      replace cZ1 := bc hb ltZ cZ1
      replace cZ2 := bc hb ltZ cZ2
      replace ltZ := bl hb ltZ
      replace HI := Lib.hid (HI.out.below hb)
      replace HVi := Lib.hid (HVi.out.below hb)
      replace HVk1 := Lib.hid (HVk1.out.below hb)
      replace hM := grown_below hM hb
      replace hB := hB.trans (hb.mono hB.size)
      have HZn := Lib.hid (hsz.mono (show 2 + (L + 2 + 2 + 1 + 2) + 1 ≤ L + 13 by omega))
      clear hsz
      obtain ⟨pn', mn', qn', pn, mn, qn, rfl, h1, h2, h3, h4⟩ := hv
      have HFin := Lib.hid (rat_store (B := wk.heap.size) (B' := w.heap.size) (g := w.heap.size + 1) (r := (((j : Rat) - 1/2) + ((q - (pk : Rat)) * (1 / (fk : Rat))))) ⟨pn', mn', qn', pn, mn, qn, rfl, h1, h2, h3, h4⟩ hs1 (by omega))
      clear h1 h2 h3 h4
      generalize decide (((((j : Rat) - 1/2) + ((q - (pk : Rat)) * (1 / (fk : Rat)))) : Rat).num < 0) = dn at *
      clear hb
      refine hK _ _ ⟨⟨wn, hM⟩, rfl⟩ ?_
      clear hK K
      refine wpSched_eff rfl rfl (fun K hK => ?_)
      go_simp
      refine hK _ _ ⟨⟨_, grown_set (grown_set (grown_set hM 0 _) 1 _) 2 _⟩, rfl⟩ ?_
      clear hK K
      repeat (refine wpSched_calm rfl (fun K hK => ?_); go_simp; refine hK _ ?_; clear hK K)
      refine wpSched_nil ?_
      go_wp2_with fail
      exact bodyPost_ret (v := .tuple #[.agg #[.bool dn, .slice pn' mn' qn', .slice pn mn qn], .int .i64 0]) (by simp [results, Tryz.results9, go_sem, cR0, cR1, cR2]) rfl ⟨_, rfl, (by rw [HQ.out]; exact HFin.out), (by rw [HQ.out]; exact HZn.out), ((hB.setCell (p := ⟨w.heap.size + 1, 0, none⟩) (by simp) _).setCell (p := ⟨w.heap.size + 1, 1, none⟩) (by simp) _).setCell (p := ⟨w.heap.size + 1, 2, none⟩) (by simp) _⟩

theorem rinv_any (f : List Int) (a : Option Addr) (len cap : Nat) (v : Value) (p : Rat) (L : Nat) (w : World) (hI : Ints w a len cap f) (hv : RatV w v p L) (hL : 1 ≤ L) (hm : (L + 40) * 4 ≤ 140737488355328) (hO : OkF f) (hp : 0 ≤ p) (hp1 : p ≤ 1) :
    Calls Tryz.prog 9 #[.slice a len cap, v] w fun e w' => ∃ v, e = .returned (.tuple #[v, .int .i64 0]) ∧ RatN w.heap.size w' v (invR f (p * (f.sum : Rat))) ∧ Rsz (invR f (p * (f.sum : Rat))) (L + 13) ∧ Below w.heap.size w w' := by
  have hs := cast_lt hO.pos
  have e0 : ((0 : Int) : Rat) = 0 := rfl
  have hq : p * (f.sum : Rat) ≤ (f.sum : Rat) := by
    have := Rat.mul_le_mul_of_nonneg_right hp1 (show (0 : Rat) ≤ (f.sum : Rat) by grind)
    grind
  obtain ⟨k, hk⟩ := inv_ex hO.nn hO.2.2 hq
  have e : invV f (p * (f.sum : Rat)) k = (((k : Rat) - 1/2) + (p * (f.sum : Rat) - (preS f k : Rat)) * (1 / (f.getD k 0 : Rat))) := by
    unfold invV; rw [Rat.div_def (p * (f.sum : Rat) - (preS f k : Rat)), Rat.div_def 1 (f.getD k 0 : Rat), Rat.one_mul]
  rw [invR_eq hk, e]
  exact rinv_in f a len cap v p L w hI hv hL hm hO k (by grind) (by grind) hk
theorem rinv_out (f : List Int) (a : Option Addr) (len cap : Nat) (v : Value) (p : Rat) (L : Nat) (w : World) (hI : Ints w a len cap f) (hv : RatV w v p L) (hL : 1 ≤ L) (hm : (L + 40) * 4 ≤ 140737488355328) (hO : OkF f) (hp : ¬ (0 ≤ p ∧ p ≤ 1)) :
    Calls Tryz.prog 9 #[.slice a len cap, v] w fun e w' => ∃ v, e = .returned (.tuple #[v, .int .i64 3]) ∧ RatN w.heap.size w' v 0 ∧ Below w.heap.size w w' := by
  by_cases h : p < 0
  · exact rinv_neg f a len cap v p L w hI hv (by omega) hO h
  · exact rinv_over f a len cap v p L w hI hv hL hm hO h (by grind)
end Go.Proofs.YtahmndacoanfiaaGreat

