/- Draws: what draws.Pick and the reference's return. -/
import Derived.Test.YtfkijcimddbjoaaDrS
namespace Go.Proofs.Ytfkijcimddbjoaa
open Go.RowKit

theorem pick_len {d : UInt64} {l : List Int} (h : l.length < 1 ∨ 1024 < l.length) : pickI d l = -1 ∧ pickS d l = d := by
  unfold pickI pickS
  have : (decide (l.length < 1) || decide (1024 < l.length)) = true := by simpa using h
  rw [this]; exact ⟨rfl, rfl⟩
theorem pick_bad {d : UInt64} {l : List Int} (h : wOk l = false) : pickI d l = -1 ∧ pickS d l = d := by
  unfold pickI pickS
  rw [h, Bool.not_false, Bool.true_or, Bool.or_true]; exact ⟨rfl, rfl⟩
theorem pick_zero {d : UInt64} {l : List Int} (h : isum l = 0) : pickI d l = -1 ∧ pickS d l = d := by
  unfold pickI pickS
  rw [decide_eq_true h, Bool.or_true, Bool.or_true]; exact ⟨rfl, rfl⟩
theorem pick_yes {d : UInt64} {l : List Int} (h1 : 1 ≤ l.length) (h2 : l.length ≤ 1024) (h3 : wOk l = true) (h4 : isum l ≠ 0) : pickI d l = (firstAbove l (belD d (isum l)) l.length 0 : Int) ∧ pickS d l = stepD d := by
  unfold pickI pickS
  rw [decide_eq_false (by omega), decide_eq_false (by omega), h3, decide_eq_false h4]; exact ⟨rfl, rfl⟩
theorem wOk_drop (l : List Int) (k : Nat) (h : k < l.length) : wOk (l.drop k) = ((decide (0 ≤ l.getD k 0) && decide (l.getD k 0 ≤ 1000000)) && wOk (l.drop (k + 1))) := by
  rw [drop_cons l k 0 h]; simp [wOk]
theorem wOk_bad {l : List Int} {k : Nat} (hk : k < l.length) (hd : wOk l = wOk (l.drop k)) (h : l.getD k 0 < 0 ∨ 1000000 < l.getD k 0) : wOk l = false := by
  rw [hd, wOk_drop l k hk]
  rcases h with h | h
  · rw [decide_eq_false (by omega)]; rfl
  · rw [decide_eq_false (by omega : ¬ l.getD k 0 ≤ 1000000), Bool.and_false]; rfl
theorem wOk_next {l : List Int} {k : Nat} (hk : k < l.length) (hd : wOk l = wOk (l.drop k)) (h1 : 0 ≤ l.getD k 0) (h2 : l.getD k 0 ≤ 1000000) : wOk l = wOk (l.drop (k + 1)) := by
  rw [hd, wOk_drop l k hk, decide_eq_true h1, decide_eq_true h2]; rfl
theorem isum_le_all {l : List Int} (h : wOk l = true) (k : Nat) : isum (l.take k) ≤ isum l := by
  have := isum_mono h (Nat.le_max_left k l.length)
  rwa [List.take_of_length_le (l := l) (Nat.le_max_right k l.length)] at this

set_option maxHeartbeats 1000000 in
theorem pick_draw (d : UInt64) (l : List Int) (a : Option Addr) (len cap : Nat) (w : World) (hl : Ints w a len cap l) : Calls Try.prog 18 #[.int .u64 (d.toNat : Int), .slice a len cap] w fun e w' => e = .returned (.tuple #[.int .i64 (pickI d l), .int .u64 ((pickS d l).toNat : Int)]) ∧ Below w.heap.size w w' := by
  obtain ⟨hll, hcell⟩ := hl
  have HL := Lib.hid hll
  have HC := Lib.hid hcell
  clear hll hcell
  by_cases hb : len < 1 ∨ 1024 < len
  · have H1 := Lib.hid (pick_len (d := d) (l := l) (by rw [HL.out]; exact hb))
    by_cases h1 : len < 1
    · have hl0 : len = 0 := by omega
      clear hb h1
      subst hl0
      go_enter Try.func18, Try.ntmps18
      go_wp2_with fail
      go_ret2
      exact ⟨by rw [H1.out.1, H1.out.2]; rfl, Below.refl _ _⟩
    · have d1 : decide ((len : Int) < 1) = false := by simp; omega
      have d2 : decide (1024 < (len : Int)) = true := by simp; omega
      have hlm := HC.out.2.1; have hlc := HC.out.1
      unfold maxLen at hlm
      clear hb
      go_enter Try.func18, Try.ntmps18
      go_wp2_with fail
      go_ret2
      exact ⟨by rw [H1.out.1, H1.out.2]; rfl, Below.refl _ _⟩
  have h1 : 1 ≤ len := by omega
  have h2 : len ≤ 1024 := by omega
  have d1 : decide ((len : Int) < 1) = false := by simp; omega
  have d2 : decide (1024 < (len : Int)) = false := by simp; omega
  clear hb
  obtain ⟨b, off, rfl, hbs, hcc⟩ := HC.out.at (k := 0) (by omega)
  have HCC := Lib.hid hcc
  clear hcc HC
  go_enter Try.func18, Try.ntmps18
  go_wp2_with fail
  go_loop [6, 23] (fun s i => ∃ k : Nat, k ≤ len ∧ i = .int .i64 k ∧ s = .int .i64 (isum (l.take k)) ∧ Hid (wOk l = wOk (l.drop k)) ∧ 0 ≤ isum (l.take k) ∧ isum (l.take k) ≤ 1000000 * k) (fun _ i => len - (intOf i).toNat)
  case atStart => exact ⟨0, by omega, rfl, rfl, Lib.hid rfl, by simp [isum], by simp [isum]⟩
  case round =>
    obtain ⟨k, hk, rfl, rfl, HW, hs1, hs2⟩ := hrel
    by_cases hlt : k < len
    · have c1 := HCC.out k hlt w (Below.refl _ _)
      have HSn := Lib.hid (isum_take_succ l k (by rw [HL.out]; omega))
      by_cases hx : l.getD k 0 < 0 ∨ 1000000 < l.getD k 0
      · have H1 := Lib.hid (pick_bad (d := d) (wOk_bad (by rw [HL.out]; omega) HW.out hx))
        clear HSn HW
        generalize l.getD k 0 = x at *
        by_cases hx1 : x < 0
        · clear hx
          go_wp2_with fail
          go_ret2
          exact ⟨by rw [H1.out.1, H1.out.2]; rfl, Below.refl _ _⟩
        · have hx2 : 1000000 < x := by omega
          clear hx
          go_wp2_with fail
          go_ret2
          exact ⟨by rw [H1.out.1, H1.out.2]; rfl, Below.refl _ _⟩
      · have HW2 := Lib.hid (wOk_next (by rw [HL.out]; omega) HW.out (by omega) (by omega))
        clear HW
        generalize l.getD k 0 = x at *
        have hx1 : ¬ x < 0 := by omega
        have hx2 : ¬ 1000000 < x := by omega
        clear hx
        go_wp2_with fail
        go_round
        case rel => exact ⟨k + 1, by omega, by go_num, by rw [HSn.out], HW2, by rw [HSn.out]; omega, by rw [HSn.out]; omega⟩
        case measure => simp [intOf]; omega
    · obtain rfl : k = len := by omega
      have HT := Lib.hid (show l.take k = l from List.take_of_length_le (by rw [HL.out]; omega))
      have HWt := Lib.hid (show wOk l = true by rw [HW.out, List.drop_of_length_le (by rw [HL.out]; omega)]; rfl)
      rw [HT.out] at hs1 hs2 ⊢
      clear HW
      by_cases hz : isum l = 0
      · have H1 := Lib.hid (pick_zero (d := d) hz)
        have hz' : (isum l == 0) = true := by simpa using hz
        clear hz
        go_wp2_with fail
        go_ret2
        exact ⟨by rw [H1.out.1, H1.out.2]; rfl, Below.refl _ _⟩
      · have H1 := Lib.hid (pick_yes (d := d) (l := l) (by rw [HL.out]; omega) (by rw [HL.out]; omega) HWt.out hz)
        have hz' : (isum l == 0) = false := by simpa using hz
        have hbd := belD_bd (d := d) (n := isum l) (by omega) (by omega)
        have HS2 := Lib.hid (belS_yes (d := d) (badN_no (n := isum l) (by omega) (by omega)))
        have HLe := Lib.hid (isum_le_all HWt.out)
        have HAt := Lib.hid (wOk_at HWt.out)
        have HN0 := Lib.hid (show isum (l.take 1) = l.getD 0 0 by rw [isum_take_succ l 0 (by rw [HL.out]; omega)]; simp [isum])
        have HAll := Lib.hid (show ∀ j, k ≤ j → isum (l.take j) = isum l from fun j hj => by rw [List.take_of_length_le (by rw [HL.out]; omega)])
        have HNx := Lib.hid (fun j (hj : j < k) => isum_take_succ l j (by rw [HL.out]; exact hj))
        generalize hS : isum l = S at *
        have HS := Lib.hid hS
        clear hS hz
        have c0 := HCC.out 0 (by omega) w (Below.refl _ _)
        rw [Nat.add_zero] at c0
        go_wp2_with fail
        refine (below_draw d S _).mono ?_
        rintro e w' ⟨rfl, rfl⟩
        rw [HS2.out]
        have HG := Lib.hid (fun j => @firstAbove_at l (belD d S) l.length 0 j (Nat.zero_le _))
        rw [HL.out] at HG H1
        generalize belD d S = x at *
        go_wp2_with fail
        go_loop [10, 11] (fun i r => ∃ j : Nat, j < k ∧ i = .int .i64 j ∧ r = .int .i64 (isum (l.take (j + 1))) ∧ Hid (∀ i, i < j → isum (l.take (i + 1)) ≤ x) ∧ isum (l.take (j + 1)) ≤ S ∧ 0 ≤ isum (l.take (j + 1))) (fun i _ => k - (intOf i).toNat)
        case atStart => exact ⟨0, by omega, rfl, by rw [HN0.out]; rfl, Lib.hid (fun i hi => by omega), by exact HLe.out 1, by rw [HN0.out]; exact (HAt.out 0).1⟩
        case round =>
          obtain ⟨j, hj, rfl, rfl, HLow, hle, hge⟩ := hrel
          by_cases hc : isum (l.take (j + 1)) ≤ x
          · have hj1 : j + 1 < k := by
              rcases Nat.lt_or_ge (j + 1) k with h | h
              · exact h
              · have := HAll.out (j + 1) h; omega
            have HN2 := Lib.hid (HNx.out (j + 1) hj1)
            have c1 := HCC.out (j + 1) hj1 w (Below.refl _ _)
            have hle2 := HLe.out (j + 1 + 1)
            have hat := HAt.out (j + 1)
            rw [HN2.out] at hle2
            have HLow2 := Lib.hid (show ∀ i, i < j + 1 → isum (l.take (i + 1)) ≤ x from fun i hi => by
              by_cases h : i = j
              · subst h; exact hc
              · exact HLow.out i (by omega))
            generalize l.getD (j + 1) 0 = y at *
            generalize hA : isum (l.take (j + 1)) = A at *
            have HA := Lib.hid hA
            clear hA
            go_wp2_with fail
            go_round
            case rel => exact ⟨j + 1, hj1, by go_num, by rw [HN2.out], HLow2, by rw [HN2.out]; omega, by rw [HN2.out]; omega⟩
            case measure => simp [intOf]; omega
          · have HF := Lib.hid (HG.out j (by omega) (fun i _ hi => HLow.out i hi) (by omega))
            generalize isum (l.take (j + 1)) = A at *
            go_wp2_with fail
            go_ret2
            exact ⟨by rw [H1.out.1, H1.out.2, HF.out]; rfl, Below.refl _ _⟩

/-! ### The reference -/
set_option maxHeartbeats 1000000 in
theorem rpick_draw (d : UInt64) (l : List Int) (a : Option Addr) (len cap : Nat) (w : World) (hl : Ints w a len cap l) : Calls Try.prog 19 #[.int .u64 (d.toNat : Int), .slice a len cap] w fun e w' => e = .returned (.tuple #[.int .i64 (pickI d l), .int .u64 ((pickS d l).toNat : Int)]) ∧ Below w.heap.size w w' := by
  obtain ⟨hll, hcell⟩ := hl
  have HL := Lib.hid hll
  have HC := Lib.hid hcell
  clear hll hcell
  by_cases hb : len < 1 ∨ 1024 < len
  · have H1 := Lib.hid (pick_len (d := d) (l := l) (by rw [HL.out]; exact hb))
    by_cases h1 : len < 1
    · have hl0 : len = 0 := by omega
      clear hb h1
      subst hl0
      go_enter Try.func19, Try.ntmps19
      go_wp2_with fail
      go_ret2
      exact ⟨by rw [H1.out.1, H1.out.2]; rfl, Below.refl _ _⟩
    · have d1 : decide ((len : Int) < 1) = false := by simp; omega
      have d2 : decide (1024 < (len : Int)) = true := by simp; omega
      have hlm := HC.out.2.1; have hlc := HC.out.1
      unfold maxLen at hlm
      clear hb
      go_enter Try.func19, Try.ntmps19
      go_wp2_with fail
      go_ret2
      exact ⟨by rw [H1.out.1, H1.out.2]; rfl, Below.refl _ _⟩
  have h1 : 1 ≤ len := by omega
  have h2 : len ≤ 1024 := by omega
  have d1 : decide ((len : Int) < 1) = false := by simp; omega
  have d2 : decide (1024 < (len : Int)) = false := by simp; omega
  clear hb
  obtain ⟨b, off, rfl, hbs, hcc⟩ := HC.out.at (k := 0) (by omega)
  have HCC := Lib.hid hcc
  clear hcc HC
  go_enter Try.func19, Try.ntmps19
  go_wp2_with fail
  go_loop [6, 25] (fun s i => ∃ k : Nat, k ≤ len ∧ i = .int .i64 k ∧ s = .int .i64 (isum (l.take k)) ∧ Hid (wOk l = wOk (l.drop k)) ∧ 0 ≤ isum (l.take k) ∧ isum (l.take k) ≤ 1000000 * k) (fun _ i => len - (intOf i).toNat)
  case atStart => exact ⟨0, by omega, rfl, rfl, Lib.hid rfl, by simp [isum], by simp [isum]⟩
  case round =>
    obtain ⟨k, hk, rfl, rfl, HW, hs1, hs2⟩ := hrel
    by_cases hlt : k < len
    · have c1 := HCC.out k hlt w (Below.refl _ _)
      have HSn := Lib.hid (isum_take_succ l k (by rw [HL.out]; omega))
      by_cases hx : l.getD k 0 < 0 ∨ 1000000 < l.getD k 0
      · have H1 := Lib.hid (pick_bad (d := d) (wOk_bad (by rw [HL.out]; omega) HW.out hx))
        clear HSn HW
        generalize l.getD k 0 = x at *
        by_cases hx1 : x < 0
        · clear hx
          go_wp2_with fail
          go_ret2
          exact ⟨by rw [H1.out.1, H1.out.2]; rfl, Below.refl _ _⟩
        · have hx2 : 1000000 < x := by omega
          clear hx
          go_wp2_with fail
          go_ret2
          exact ⟨by rw [H1.out.1, H1.out.2]; rfl, Below.refl _ _⟩
      · have HW2 := Lib.hid (wOk_next (by rw [HL.out]; omega) HW.out (by omega) (by omega))
        clear HW
        generalize l.getD k 0 = x at *
        have hx1 : ¬ x < 0 := by omega
        have hx2 : ¬ 1000000 < x := by omega
        clear hx
        go_wp2_with fail
        go_round
        case rel => exact ⟨k + 1, by omega, by go_num, by rw [HSn.out], HW2, by rw [HSn.out]; omega, by rw [HSn.out]; omega⟩
        case measure => simp [intOf]; omega
    · obtain rfl : k = len := by omega
      have HT := Lib.hid (show l.take k = l from List.take_of_length_le (by rw [HL.out]; omega))
      have HWt := Lib.hid (show wOk l = true by rw [HW.out, List.drop_of_length_le (by rw [HL.out]; omega)]; rfl)
      rw [HT.out] at hs1 hs2 ⊢
      clear HW
      by_cases hz : isum l = 0
      · have H1 := Lib.hid (pick_zero (d := d) hz)
        have hz' : (isum l == 0) = true := by simpa using hz
        clear hz
        go_wp2_with fail
        go_ret2
        exact ⟨by rw [H1.out.1, H1.out.2]; rfl, Below.refl _ _⟩
      · have H1 := Lib.hid (pick_yes (d := d) (l := l) (by rw [HL.out]; omega) (by rw [HL.out]; omega) HWt.out hz)
        have hz' : (isum l == 0) = false := by simpa using hz
        have hbd := belD_bd (d := d) (n := isum l) (by omega) (by omega)
        have HS2 := Lib.hid (belS_yes (d := d) (badN_no (n := isum l) (by omega) (by omega)))
        have HLe := Lib.hid (isum_le_all HWt.out)
        have HAt := Lib.hid (wOk_at HWt.out)
        have HN0 := Lib.hid (show isum (l.take 1) = l.getD 0 0 by rw [isum_take_succ l 0 (by rw [HL.out]; omega)]; simp [isum])
        have HAll := Lib.hid (show ∀ j, k ≤ j → isum (l.take j) = isum l from fun j hj => by rw [List.take_of_length_le (by rw [HL.out]; omega)])
        have HNx := Lib.hid (fun j (hj : j < k) => isum_take_succ l j (by rw [HL.out]; exact hj))
        generalize hS : isum l = S at *
        have HS := Lib.hid hS
        clear hS hz
        go_wp2_with fail
        refine (rbelow_draw d S _).mono ?_
        rintro e w' ⟨rfl, rfl⟩
        rw [HS2.out]
        have HG := Lib.hid (fun j => @firstAbove_at l (belD d S) l.length 0 j (Nat.zero_le _))
        rw [HL.out] at HG H1
        generalize belD d S = x at *
        go_wp2_with fail
        go_loop [11, 51] (fun p i => ∃ j : Nat, j ≤ k ∧ i = .int .i64 j ∧ p = .int .i64 (isum (l.take j)) ∧ Hid (∀ i, i < j → isum (l.take (i + 1)) ≤ x) ∧ isum (l.take j) ≤ S ∧ 0 ≤ isum (l.take j)) (fun _ i => k - (intOf i).toNat)
        case atStart => exact ⟨0, by omega, rfl, rfl, Lib.hid (fun i hi => by omega), by exact HLe.out 0, by simp [isum]⟩
        case round =>
          obtain ⟨j, hj, rfl, rfl, HLow, hle, hge⟩ := hrel
          have hjk : j < k := by
            rcases Nat.lt_or_ge j k with h | h
            · exact h
            · exfalso
              have h1 := HAll.out j h
              have h2 := HLow.out (k - 1) (by omega)
              rw [show k - 1 + 1 = j by omega] at h2
              omega
          have HN2 := Lib.hid (HNx.out j hjk)
          have c1 := HCC.out j hjk w (Below.refl _ _)
          have hle2 := HLe.out (j + 1)
          have hat := HAt.out j
          rw [HN2.out] at hle2
          by_cases hc : isum (l.take (j + 1)) ≤ x
          · have HLow2 := Lib.hid (show ∀ i, i < j + 1 → isum (l.take (i + 1)) ≤ x from fun i hi => by
              by_cases h : i = j
              · subst h; exact hc
              · exact HLow.out i (by omega))
            rw [HN2.out] at hc
            generalize l.getD j 0 = y at *
            generalize hA : isum (l.take j) = A at *
            have HA := Lib.hid hA
            clear hA
            go_wp2_with fail
            go_round
            case rel => exact ⟨j + 1, by omega, by go_num, by rw [HN2.out], HLow2, by rw [HN2.out]; omega, by rw [HN2.out]; omega⟩
            case measure => simp [intOf]; omega
          · have HF := Lib.hid (HG.out j (by omega) (fun i _ hi => HLow.out i hi) (by omega))
            rw [HN2.out] at hc
            generalize l.getD j 0 = y at *
            generalize isum (l.take j) = A at *
            go_wp2_with fail
            go_ret2
            exact ⟨by rw [H1.out.1, H1.out.2, HF.out]; rfl, Below.refl _ _⟩

end Go.Proofs.Ytfkijcimddbjoaa
