/- Multinomial coefficients: what combin.Multinomial and the reference's return, for all lists. -/
import Derived.Test.YtjmdcabbglappaaComb
import Derived.Test.YtjmdcabbglappaaCombQ
namespace Go.Proofs.Ytjmdcabbglappaa
open Go.RowKit

theorem multV_false {xs : List Int} (h : multOk xs = false) : multV xs = 0 := by simp [multV, h]
theorem multV_true {xs : List Int} (h : multOk xs = true) : multV xs = mult 0 xs := by simp [multV, h]
theorem multOk_long {xs : List Int} (h : ¬ xs.length ≤ 201) : multOk xs = false := by simp [multOk, h]
theorem multOk_eq {xs : List Int} (h : xs.length ≤ 201) : multOk xs = partsOk 0 xs := by simp [multOk, h]

set_option maxHeartbeats 1000000 in
theorem Mult_any (xs : List Int) (a : Option Addr) (len cap : Nat) (w : World) (hx : Row .i64 w a len cap xs) :
    Calls Try.prog 11 #[.slice a len cap] w fun e w' => ∃ v, e = .returned (.tuple #[v, .bool (multOk xs)]) ∧ Num w' v (multV xs) ∧ Below w.heap.size w w' := by
  have HX := Lib.hid hx
  have HL := Lib.hid hx.1
  have hm := hx.2.2.1
  have hm2 := hx.2.2.2.1
  unfold maxLen at hm2
  clear hx
  by_cases hlen : len ≤ 201
  case neg =>
    have HF := Lib.hid (multOk_long (xs := xs) (by rw [HL.out]; exact hlen))
    have HV := Lib.hid (multV_false HF.out)
    have hgt : 201 < len := by omega
    clear hlen
    go_enter Try.func11, Try.ntmps11
    go_wp2_with fail
    go_ret2
    exact ⟨.slice none 0 0, by rw [HF.out]; rfl, by rw [HV.out]; exact num_nil _, Below.refl _ _⟩
  have HOk := Lib.hid (multOk_eq (xs := xs) (by rw [HL.out]; exact hlen))
  have HVf := Lib.hid (multV_false (xs := xs))
  have HVt := Lib.hid (multV_true (xs := xs))
  go_enter Try.func11, Try.ntmps11
  go_wp2_with fail
  refine (of_any 1 (by omega) _).mono ?_
  rintro e w1 ⟨v1, rfl, hv1, hb1⟩
  have HV1 := Lib.hid hv1
  clear hv1
  go_wp2_with fail
  go_loopw [4, 5, 14] (fun s v i wr => ∃ (k t p : Nat), k ≤ len ∧ i = .int .i64 k ∧ s = .int .i64 t ∧ t ≤ 200 ∧ Hid (p ≤ fact t) ∧ Hid (p * mult t (xs.drop k) = mult 0 xs) ∧ Hid (multOk xs = partsOk t (xs.drop k)) ∧ Hid (Num wr v p) ∧ Below w.heap.size w wr) (fun _ _ i _ => len - (intOf i).toNat)
  case atStart => exact ⟨0, 0, 1, by omega, rfl, rfl, by omega, Nat.le_refl _, by simp [Hid], by unfold Hid; rw [HOk.out]; rfl, HV1.out, hb1⟩
  case round =>
    obtain ⟨k, t, p, hk, rfl, rfl, ht, HPf, HM, HB, HV, hb⟩ := hrel
    by_cases hlt : k < len
    · obtain ⟨b, off, rfl, _, hcc⟩ := HX.out.2.2.at (k := k) hlt
      have c1 := hcc k hlt wr hb
      clear hcc
      generalize hX1 : xs.getD k 0 = x at *
      by_cases hy : 0 ≤ x ∧ x ≤ 200 - (t : Int)
      · have HM1 := Lib.hid (mult_next (by rw [HL.out]; exact hlt) hX1 HM.out)
        have HB1 := Lib.hid (ok_next (by rw [HL.out]; exact hlt) hX1 hy HB.out)
        clear hX1
        obtain ⟨X, rfl⟩ : ∃ X : Nat, x = X := ⟨x.toNat, by omega⟩
        have hX : t + X ≤ 200 := by omega
        have HPf1 := Lib.hid (fact_next (a := X) HPf.out)
        simp only [Int.toNat_natCast] at HM1 HB1
        have HS1 := Lib.hid (sm_fact' ht HPf.out)
        have HS2 := Lib.hid (sm_fact' hX (ch_le_fact (n := t + X) (k := X)))
        have HC := Lib.hid (chI_nat (n := t + X) (k := X) (by omega))
        have d1 : decide ((X : Int) < 0) = false := decide_eq_false (by omega)
        have d2 : decide (200 - (t : Int) < X) = false := decide_eq_false (by omega)
        clear hy
        go_wp2_with fail
        rw [show ((t : Int) + X) = ((t + X : Nat) : Int) by omega]
        refine (choose_any _ _ _ (by omega) (by omega)).mono ?_
        rintro e w2 ⟨v2, rfl, hv2, hb2⟩
        rw [HC.out] at hv2
        have HV2 := Lib.hid hv2
        have HVa := Lib.hid (HV.out.below hb2)
        clear hv2
        go_wp2_with fail
        refine (mul_num HVa.out HV2.out HS1.out HS2.out).mono ?_
        rintro e w3 ⟨v3, rfl, hv3, hb3⟩
        have HV3 := Lib.hid hv3
        clear hv3
        have hbn := hb.trans ((hb2.trans (hb3.mono hb2.size)).mono hb.size)
        go_wp2_with fail
        go_roundw
        case rel => exact ⟨k + 1, t + X, p * ch (t + X) X, by omega, by go_num, by go_num, hX, HPf1, HM1, HB1, HV3, hbn⟩
        case measure => simp [intOf]; omega
      · have HF := Lib.hid (ok_stop (by rw [HL.out]; exact hlt) hX1 hy HB.out)
        clear hX1
        have HZ := Lib.hid (HVf.out HF.out)
        by_cases hneg : x < 0
        case' pos =>
          have d1 : decide (x < 0) = true := by simpa using hneg
          clear hy hneg
        case' neg =>
          have d1 : decide (x < 0) = false := by simpa using hneg
          have d2 : decide (200 - (t : Int) < x) = true := decide_eq_true (by omega)
          clear hy hneg
        all_goals
          go_wp2_with fail
          go_ret2
          exact ⟨.slice none 0 0, by rw [HF.out]; rfl, by rw [HZ.out]; exact num_nil _, hb⟩
    · obtain rfl : k = len := by omega
      have HF := Lib.hid (ok_end (by rw [HL.out]; omega) HB.out)
      have HZ := Lib.hid (show multV xs = p by rw [HVt.out HF.out, ← HM.out, List.drop_of_length_le (by rw [HL.out]; omega)]; simp [mult])
      go_wp2_with fail
      go_ret2
      exact ⟨u5, by rw [HF.out]; rfl, by rw [HZ.out]; exact HV.out, hb⟩

set_option maxHeartbeats 1000000 in
theorem rMult_any (xs : List Int) (a : Option Addr) (len cap : Nat) (w : World) (hx : Row .i64 w a len cap xs) :
    Calls Try.prog 12 #[.slice a len cap] w fun e w' => ∃ v, e = .returned (.tuple #[v, .bool (multOk xs)]) ∧ Num w' v (multV xs) ∧ Below w.heap.size w w' := by
  have HX := Lib.hid hx
  have HL := Lib.hid hx.1
  have hm := hx.2.2.1
  have hm2 := hx.2.2.2.1
  unfold maxLen at hm2
  clear hx
  by_cases hlen : len ≤ 201
  case neg =>
    have HF := Lib.hid (multOk_long (xs := xs) (by rw [HL.out]; exact hlen))
    have HV := Lib.hid (multV_false HF.out)
    have hgt : 201 < len := by omega
    clear hlen
    go_enter Try.func12, Try.ntmps12
    go_wp2_with fail
    go_ret2
    exact ⟨.slice none 0 0, by rw [HF.out]; rfl, by rw [HV.out]; exact num_nil _, Below.refl _ _⟩
  have HOk := Lib.hid (multOk_eq (xs := xs) (by rw [HL.out]; exact hlen))
  have HVf := Lib.hid (multV_false (xs := xs))
  have HVt := Lib.hid (multV_true (xs := xs))
  go_enter Try.func12, Try.ntmps12
  go_wp2_with fail
  go_loop [4, 5] (fun s i => ∃ (k t : Nat), k ≤ len ∧ i = .int .i64 k ∧ s = .int .i64 t ∧ t ≤ 200 ∧ Hid (t + sumN (xs.drop k) = sumN xs) ∧ Hid (multOk xs = partsOk t (xs.drop k))) (fun _ i => len - (intOf i).toNat)
  case atStart => exact ⟨0, 0, by omega, rfl, rfl, by omega, by simp [Hid], by unfold Hid; rw [HOk.out]; rfl⟩
  case round =>
    obtain ⟨k, t, hk, rfl, rfl, ht, HT, HB⟩ := hrel
    by_cases hlt : k < len
    · obtain ⟨b, off, rfl, _, hcc⟩ := HX.out.2.2.at (k := k) hlt
      have c1 := hcc k hlt w (Below.refl _ _)
      clear hcc
      generalize hX1 : xs.getD k 0 = x at *
      by_cases hy : 0 ≤ x ∧ x ≤ 200 - (t : Int)
      · have HT1 := Lib.hid (sumN_next (by rw [HL.out]; exact hlt) hX1 HT.out)
        have HB1 := Lib.hid (ok_next (by rw [HL.out]; exact hlt) hX1 hy HB.out)
        clear hX1
        obtain ⟨X, rfl⟩ : ∃ X : Nat, x = X := ⟨x.toNat, by omega⟩
        have hX : t + X ≤ 200 := by omega
        simp only [Int.toNat_natCast] at HT1 HB1
        have d1 : decide ((X : Int) < 0) = false := decide_eq_false (by omega)
        have d2 : decide (200 < (X : Int)) = false := decide_eq_false (by omega)
        have d3 : decide (200 < (t : Int) + X) = false := decide_eq_false (by omega)
        clear hy
        go_wp2_with fail
        go_round
        case rel => exact ⟨k + 1, t + X, by omega, by go_num, by go_num, hX, HT1, HB1⟩
        case measure => simp [intOf]; omega
      · have HF := Lib.hid (ok_stop (by rw [HL.out]; exact hlt) hX1 hy HB.out)
        clear hX1
        have HZ := Lib.hid (HVf.out HF.out)
        by_cases hneg : x < 0
        case' pos =>
          have d1 : decide (x < 0) = true := by simpa using hneg
          clear hy hneg
        case' neg =>
          have d1 : decide (x < 0) = false := by simpa using hneg
          have hx0 : 0 ≤ x := by omega
          have hx1 : 200 < (t : Int) + x := by omega
          have hlo : x ≤ 200 ∨ 200 < x := by omega
          clear hy hneg
          rcases hlo with h200 | h200
          case' inl => 
            have d2 : decide (200 < x) = false := decide_eq_false (by omega)
            have d3 : decide (200 < (t : Int) + x) = true := decide_eq_true hx1
          case' inr => 
            have d2 : decide (200 < x) = true := decide_eq_true h200
        all_goals
          go_wp2_with fail
          go_ret2
          exact ⟨.slice none 0 0, by rw [HF.out]; rfl, by rw [HZ.out]; exact num_nil _, Below.refl _ _⟩
    · obtain rfl : k = len := by omega
      have HF := Lib.hid (ok_end (by rw [HL.out]; omega) HB.out)
      have HZ := Lib.hid (HVt.out HF.out)
      have HTs := Lib.hid (show t = sumN xs by have := HT.out; rw [List.drop_of_length_le (by rw [HL.out]; omega)] at this; simpa [sumN] using this)
      have HFs := Lib.hid (show fact t = mult 0 xs * prodF (xs.drop 0) by
        have h := mult_fact 0 xs
        simp only [fact, Nat.mul_one, Nat.zero_add] at h
        rw [HTs.out, ← h]; rfl)
      have HPk := Lib.hid (partsOk_nonneg 0 xs (by rw [← HOk.out]; exact HF.out))
      have HPs := Lib.hid (partsOk_sum 0 xs (by omega) (by rw [← HOk.out]; exact HF.out))
      go_wp2_with fail
      refine (product_any 1 t t _ (by omega) (by omega) ht).mono ?_
      rintro e w1 ⟨v1, rfl, hv1, hb1⟩
      rw [rise_one, HFs.out] at hv1
      have HV1 := Lib.hid hv1
      clear hv1
      go_wp2_with fail
      go_loopw [6, 7] (fun v i wr => ∃ (j : Nat), j ≤ k ∧ i = .int .i64 j ∧ Hid (Num wr v (mult 0 xs * prodF (xs.drop j))) ∧ Below w.heap.size w wr) (fun _ i _ => k - (intOf i).toNat)
      case atStart => exact ⟨0, by omega, rfl, HV1.out, hb1⟩
      case round =>
        obtain ⟨j, hj, rfl, HV, hb⟩ := hrel
        by_cases hjl : j < k
        · obtain ⟨b, off, rfl, _, hcc⟩ := HX.out.2.2.at (k := j) hjl
          have c1 := hcc j hjl wr hb
          clear hcc
          have hmem : xs.getD j 0 ∈ xs := by
            have h' : j < xs.length := by rw [HL.out]; exact hjl
            simp [List.getD, h']
          have hx0 := HPk.out _ hmem
          have hxs : (xs.getD j 0).toNat ≤ 200 := by
            have h1 := sumN_append (xs.take j) (xs.drop j)
            rw [List.take_append_drop, drop_cons xs j 0 (by rw [HL.out]; exact hjl), sumN] at h1
            have := HPs.out
            omega
          generalize hX1 : xs.getD j 0 = x at *
          have HPn := Lib.hid (prodF_next (M := mult 0 xs) (by rw [HL.out]; exact hjl) hX1)
          have HS1 := Lib.hid (sm_fact' (n := sumN xs) (by have := HPs.out; omega) (prodF_le (xs := xs) (k := j)))
          clear hX1 hmem
          obtain ⟨X, rfl⟩ : ∃ X : Nat, x = X := ⟨x.toNat, by omega⟩
          simp only [Int.toNat_natCast] at HPn hxs
          have HS2 := Lib.hid (sm_fact' hxs (Nat.le_refl (fact X)))
          have H0 := Lib.hid (show fact X ≠ 0 by have := fact_pos X; omega)
          go_wp2_with fail
          refine (product_any 1 X X _ (by omega) (by omega) hxs).mono ?_
          rintro e w2 ⟨v2, rfl, hv2, hb2⟩
          rw [rise_one] at hv2
          have HV2 := Lib.hid hv2
          have HVa := Lib.hid (HV.out.below hb2)
          clear hv2
          go_wp2_with fail
          refine (rdiv_num HVa.out HV2.out HS1.out HS2.out H0.out).mono ?_
          rintro e w3 ⟨v3, v4, rfl, hv3, _, hb3⟩
          rw [HPn.out] at hv3
          have HV3 := Lib.hid hv3
          clear hv3
          have hbn := hb.trans ((hb2.trans (hb3.mono hb2.size)).mono hb.size)
          go_wp2_with fail
          go_roundw
          case rel => exact ⟨j + 1, by omega, by go_num, HV3, hbn⟩
          case measure => simp [intOf]; omega
        · have HE := Lib.hid (show mult 0 xs * prodF (xs.drop j) = mult 0 xs by rw [List.drop_of_length_le (by rw [HL.out]; omega)]; simp [prodF])
          go_wp2_with fail
          go_ret2
          exact ⟨u6, by rw [HF.out]; rfl, by rw [HZ.out, ← HE.out]; exact HV.out, hb⟩

end Go.Proofs.Ytjmdcabbglappaa
