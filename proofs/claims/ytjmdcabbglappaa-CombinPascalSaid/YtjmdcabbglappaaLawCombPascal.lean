/- CombinPascal: the recurrence and the symmetry of binomial coefficients and their relation to factorials hold of the program for all arguments: the law returns true. No condition. -/
import Derived.Test.YtjmdcabbglappaaFrame
import Derived.Test.YtjmdcabbglappaaComb
import Derived.Test.YtjmdcabbglappaaBits
namespace Go.Proofs.Ytjmdcabbglappaa
open Go.ChangeShapes Go.WideShapes Go.ChangeAt Go.RowKit

theorem chI_pascal {N K : Nat} (hN : 1 ≤ N) (hK : K ≤ N) : chI ((N : Int) - 1) ((K : Int) - 1) + chI ((N : Int) - 1) (K : Int) = ch N K := by
  obtain ⟨n, rfl⟩ : ∃ n, N = n + 1 := ⟨N - 1, by omega⟩
  rw [show (((n + 1 : Nat) : Int) - 1) = (n : Int) by omega]
  cases K with
  | zero => rw [chI, if_pos (by omega), chI_nat (by omega), ch_zero, ch_zero]
  | succ k =>
    rw [show (((k + 1 : Nat) : Int) - 1) = (k : Int) by omega, chI_nat (by omega), ch]
    congr 1
    by_cases h : k + 1 ≤ n
    · exact chI_nat h
    · rw [chI, if_pos (by omega), ch_lt n (k + 1) (by omega)]

set_option maxHeartbeats 2000000 in
set_option maxRecDepth 100000 in
theorem combPascal_calls (n k : Int) (w : World) :
    Calls Try.prog 7 #[.int .i64 n, .int .i64 k] w fun e w' => e = .returned (.bool true) ∧ Below w.heap.size w w' := by
  by_cases h1 : n < 0
  · go_enter Try.func7, Try.ntmps7
    go_wp2_with fail
    go_ret
    exact ⟨rfl, Below.refl _ _⟩
  have d1 : decide (n < 0) = false := by simpa using h1
  by_cases h2 : 200 < n
  · go_enter Try.func7, Try.ntmps7
    go_wp2_with fail
    go_ret
    exact ⟨rfl, Below.refl _ _⟩
  have d2 : decide (200 < n) = false := by simpa using h2
  by_cases h3 : k < 0
  · go_enter Try.func7, Try.ntmps7
    go_wp2_with fail
    go_ret
    exact ⟨rfl, Below.refl _ _⟩
  have d3 : decide (k < 0) = false := by simpa using h3
  by_cases h4 : n < k
  · go_enter Try.func7, Try.ntmps7
    go_wp2_with fail
    go_ret
    exact ⟨rfl, Below.refl _ _⟩
  have d4 : decide (n < k) = false := by simpa using h4
  have hnk : (n.toNat : Int) = n := by omega
  obtain ⟨N, hN⟩ : ∃ N : Nat, (N : Int) = n := ⟨n.toNat, by omega⟩
  obtain ⟨K, hK⟩ : ∃ K : Nat, (K : Int) = k := ⟨k.toNat, by omega⟩
  have hNK : K ≤ N := by omega
  have hN2 : N ≤ 200 := by omega
  have HA1 := Lib.hid (show chI n k = ch N K by rw [← hN, ← hK, chI_nat hNK])
  have HA2 := Lib.hid (show chI n (n - k) = ch N K by rw [← hN, ← hK, show ((N : Int) - K) = ((N - K : Nat) : Int) by omega, chI_nat (by omega), ch_sym hNK])
  have HA3 := Lib.hid (show ch N K * (fact K * fact (N - K)) = fact N by rw [← Nat.mul_assoc, ch_fact N K hNK])
  have HA4 := Lib.hid (fun h : 1 ≤ N => show chI (n - 1) (k - 1) + chI (n - 1) k = ch N K by rw [← hN, ← hK]; exact chI_pascal h hNK)
  have HS1 := Lib.hid (sm_fact' hN2 (ch_le_fact (n := N) (k := K)))
  have HS2 := Lib.hid (sm_fact' (n := K) (by omega) (Nat.le_refl _))
  have HS3 := Lib.hid (sm_fact' (n := N - K) (by omega) (Nat.le_refl _))
  have HS4 := Lib.hid (sm_fact' hN2 (Nat.le_refl _))
  have HS5 := Lib.hid (show Sm (fact K * fact (N - K)) from sm_fact' hN2 (by
    rw [← HA3.out]; exact Nat.le_mul_of_pos_left _ (by
      rcases Nat.eq_zero_or_pos (ch N K) with h | h
      · have := HA3.out; rw [h] at this; have := fact_pos N; omega
      · exact h)))
  have HK2 := Lib.hid (show n - k = ((N - K : Nat) : Int) by omega)
  have HNn := Lib.hid hN
  have HKk := Lib.hid hK
  have hbl := blen_ne (n := fact N) (by have := fact_pos N; omega)
  have h5 : 0 ≤ n := by omega
  have h6 : n ≤ 200 := by omega
  have h7 : 0 ≤ k := by omega
  have h8 : k ≤ 200 := by omega
  clear h1 h2 h3 h4 hnk hN hK
  go_enter Try.func7, Try.ntmps7
  go_wp2_with fail
  refine (Choose_any n k _ h5 h6).mono ?_
  rintro e w1 ⟨v1, rfl, hv1, hb1⟩
  rw [HA1.out] at hv1
  have HV1 := Lib.hid hv1
  clear hv1
  go_wp2_with fail
  refine (Choose_any n (n - k) _ h5 h6).mono ?_
  rintro e w2 ⟨v2, rfl, hv2, hb2⟩
  rw [HA2.out] at hv2
  have HV2 := Lib.hid hv2
  have HV1b := Lib.hid (HV1.out.below hb2)
  clear hv2
  go_wp2_with fail
  refine (limbs_same _ _ _ _ HV1b.out HV2.out).mono ?_
  rintro e w3 ⟨rfl, hb3⟩
  have HV1c := Lib.hid (HV1b.out.below hb3)
  have hbA := hb1.trans ((hb2.trans (hb3.mono hb2.size)).mono hb1.size)
  clear HV1 HV1b HV2 hb1 hb2 hb3
  go_wp2_with fail
  rw [← HNn.out]
  refine (Factorial_any N _ hN2).mono ?_
  rintro e w4 ⟨v4, rfl, hv4, hb4⟩
  have HV4 := Lib.hid hv4
  have HV1d := Lib.hid (HV1c.out.below hb4)
  clear hv4 HV1c
  go_wp2_with fail
  rw [← HKk.out]
  refine (Factorial_any K _ (by omega)).mono ?_
  rintro e w5 ⟨v5, rfl, hv5, hb5⟩
  have HV5 := Lib.hid hv5
  have HV1e := Lib.hid (HV1d.out.below hb5)
  have HV4e := Lib.hid (HV4.out.below hb5)
  clear hv5 HV1d HV4
  go_wp2_with fail
  rw [show ((N : Int) - (K : Int)) = ((N - K : Nat) : Int) by omega]
  refine (Factorial_any (N - K) _ (by omega)).mono ?_
  rintro e w6 ⟨v6, rfl, hv6, hb6⟩
  have HV6 := Lib.hid hv6
  have HV1f := Lib.hid (HV1e.out.below hb6)
  have HV4f := Lib.hid (HV4e.out.below hb6)
  have HV5f := Lib.hid (HV5.out.below hb6)
  clear hv6 HV1e HV4e HV5
  go_wp2_with fail
  refine (mul_num HV5f.out HV6.out HS2.out HS3.out).mono ?_
  rintro e w7 ⟨v7, rfl, hv7, hb7⟩
  have HV7 := Lib.hid hv7
  have HV1g := Lib.hid (HV1f.out.below hb7)
  have HV4g := Lib.hid (HV4f.out.below hb7)
  clear hv7 HV1f HV4f HV5f HV6
  go_wp2_with fail
  refine (mul_num HV1g.out HV7.out HS1.out HS5.out).mono ?_
  rintro e w8 ⟨v8, rfl, hv8, hb8⟩
  rw [HA3.out] at hv8
  have HV8 := Lib.hid hv8
  have HV1h := Lib.hid (HV1g.out.below hb8)
  have HV4h := Lib.hid (HV4g.out.below hb8)
  clear hv8 HV1g HV4g HV7
  go_wp2_with fail
  refine (limbs_same _ _ _ _ HV8.out HV4h.out).mono ?_
  rintro e w9 ⟨rfl, hb9⟩
  have HV1i := Lib.hid (HV1h.out.below hb9)
  have HV4i := Lib.hid (HV4h.out.below hb9)
  clear HV8 HV1h HV4h
  have h46 := hb4.trans ((hb5.trans (hb6.mono hb5.size)).mono hb4.size)
  have h79 := hb7.trans ((hb8.trans (hb9.mono hb8.size)).mono hb7.size)
  have h49 := h46.trans (h79.mono h46.size)
  have hbB := hbA.trans (h49.mono hbA.size)
  clear h46 h79 h49 hb4 hb5 hb6 hb7 hb8 hb9 hbA
  go_wp2_with fail
  refine (nbits_num HV4i.out HS4.out).mono ?_
  rintro e w10 ⟨rfl, rfl⟩
  generalize blen (fact N) = bl at *
  have dbl : ((bl : Int) == 0) = false := by simp; omega
  by_cases hz : N = 0
  · have dz : ((N : Int) == 0) = true := by simp [hz]
    clear hz
    go_wp2_with fail
    go_ret
    exact ⟨rfl, hbB⟩
  · have dz : ((N : Int) == 0) = false := by simp [hz]
    have h1N : 1 ≤ N := by omega
    have HP := Lib.hid (HA4.out h1N)
    rw [← HNn.out, ← HKk.out] at HP
    have HSa := Lib.hid (show Sm (chI ((N : Int) - 1) ((K : Int) - 1)) from sm_chI (by omega))
    have HSb := Lib.hid (show Sm (chI ((N : Int) - 1) (K : Int)) from sm_chI (by omega))
    clear hz
    go_wp2_with fail
    refine (Choose_any ((N : Int) - 1) ((K : Int) - 1) _ (by omega) (by omega)).mono ?_
    rintro e w11 ⟨v11, rfl, hv11, hb11⟩
    have HV11 := Lib.hid hv11
    have HV1j := Lib.hid (HV1i.out.below hb11)
    clear hv11
    go_wp2_with fail
    refine (Choose_any ((N : Int) - 1) (K : Int) _ (by omega) (by omega)).mono ?_
    rintro e w12 ⟨v12, rfl, hv12, hb12⟩
    have HV12 := Lib.hid hv12
    have HV11b := Lib.hid (HV11.out.below hb12)
    have HV1k := Lib.hid (HV1j.out.below hb12)
    clear hv12
    go_wp2_with fail
    refine (add_num HV11b.out HV12.out HSa.out HSb.out).mono ?_
    rintro e w13 ⟨v13, rfl, hv13, hb13⟩
    rw [HP.out] at hv13
    have HV13 := Lib.hid hv13
    have HV1l := Lib.hid (HV1k.out.below hb13)
    clear hv13
    go_wp2_with fail
    refine (limbs_same _ _ _ _ HV13.out HV1l.out).mono ?_
    rintro e w14 ⟨rfl, hb14⟩
    have h13 := hb11.trans ((hb12.trans (hb13.mono hb12.size)).mono hb11.size)
    have h14 := h13.trans (hb14.mono h13.size)
    go_wp2_with fail
    go_ret
    exact ⟨rfl, hbB.trans (h14.mono hbB.size)⟩

theorem combinPascal_walk {H : Type} {enc : TypeId × Value → H} (W : World) (base : Nat) (args : Array Value) (ds gs : List (DataW H)) (before : List MemPlace)
    (hval : ∀ (j : Nat) t v, Try.f7.params[j]? = some t → args[j]? = some v → Value.okWide Try.prog W .any base t v)
    (hW : DataW.Whole enc Try.prog Try.f7.params.toList Rows.combinPascalSpec.vars false W args.toList ds gs before)
    (_hsz : (DataW.weightsEach Try.prog (Try.f7.params.toList ++ Rows.combinPascalSpec.plain.varTypes Try.prog) (ds ++ gs)).all (· ≤ reachBytes) = true) :
    Calls Try.prog 7 args W fun e w' => e = .returned (.bool true) ∧ Below W.heap.size W w' := by
  obtain ⟨p, q, hA, hV, -, -, -⟩ := hW
  obtain ⟨rfl, -⟩ := trodVars_none hV
  rw [Try.params7] at hA hval
  obtain ⟨v0, v1, d0, d1, p0, p1, rfl, rfl, rfl, h0, h1⟩ := trodAll_two hA
  obtain ⟨n, rfl, -, -⟩ := open_num Try.underlying3 (hval 0 _ _ rfl rfl) h0
  obtain ⟨k, rfl, -, -⟩ := open_num Try.underlying3 (hval 1 _ _ rfl rfl) h1
  exact combPascal_calls n k W

set_option maxRecDepth 100000 in
theorem combinPascal_lifted (os : Os) (started : os.Started) (H : Type) (enc : TypeId × Value → H) :
    ReturnsInHanded {} Try.checked os 7 .any (Rows.combinPascalSpec.pre6 enc Try.prog Try.f7 Rows.combinPascalRow.domain false) (Rows.combinPascalSpec.post enc Try.prog Try.f7 false true false false) := by
  refine returnsInHanded_of_change_sized (C := Try.checked) own started (by kernel_rfl) Try.func7
    (ChangeSpec.witness6 (enc := enc) (C := Try.checked) false ⟨#[], #[.int .i64 0, .int .i64 0], []⟩ 8 (by kernel_rfl) (by kernel_rfl) (by kernel_rfl) (by kernel_rfl)) ?_
  intro W base args ds gs before hval hW _ hsz _
  exact law_post rfl (by kernel_rfl) (by kernel_rfl) (fun ds h => match ds, h with | [d0, d1], _ => ⟨rfl, rfl, rfl⟩) hW (combinPascal_walk W base args ds gs before hval hW hsz)

theorem combinPascal_over : Rows.combinPascalRow.holds Try.pinned (OpenSpec.ofChange Rows.combinPascalSpec) :=
  OpenClaim.holds_of_wide 7 Try.f7 rfl rfl rfl rfl rfl rfl rfl ⟨rfl, rfl, rfl, rfl, rfl⟩ rfl rfl rfl rfl rfl (by kernel_rfl) Try.func7 (by kernel_rfl)
    (of_decide_eq_true (by kernel_rfl)) (by unfold Func.isWrapper; first | (rw [if_pos (by decide +kernel)]; kernel_rfl) | (rw [if_neg (by decide +kernel)]; exact ⟨rfl, rfl⟩))
    (fun os started H enc _ => combinPascal_lifted os started H enc)

theorem combinPascal_proved : Rows.CombinPascalSaid := combinPascal_over

end Go.Proofs.Ytjmdcabbglappaa
