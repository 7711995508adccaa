/- CombinDivides: for every list of parts the multinomial coefficient is the product of binomial ones, in both orders: the law returns true. No condition. -/
import Derived.Test.YtjmdcabbglappaaFrame
import Derived.Test.YtjmdcabbglappaaCombM
import Derived.Test.YtjmdcabbglappaaBits
namespace Go.Proofs.Ytjmdcabbglappaa
open Go.ChangeShapes Go.WideShapes Go.ChangeAt Go.RowKit

theorem infoInt : (Try.prog.info? 3).map (fun i => (i.zero, i.size, i.bytes)) = some (some (.int .i64 0), 1, 8) := by kernel_rfl
def iv (x : Int) : Value := .int .i64 x
def ivs (xs : List Int) : List Value := xs.map iv
theorem ivs_length (xs : List Int) : (ivs xs).length = xs.length := by simp [ivs]
theorem ivs_append (xs ys : List Int) : ivs (xs ++ ys) = ivs xs ++ ivs ys := by simp [ivs]
theorem Owns.row {w : World} {B : Nat} {e : TypeId} {v : Value} {xs : List Int} (h : Owns w B e v (ivs xs)) (hw : ∀ n ∈ xs, (Lit.int .i64 n).wf = true) : ∃ a n cap, v = .slice a n cap ∧ Row .i64 w a n cap xs := by
  obtain ⟨a, cap, rfl, hc⟩ := h.form
  rw [ivs_length] at hc ⊢
  refine ⟨a, xs.length, cap, rfl, rfl, hw, hc.congr fun i hi => ?_⟩
  simp [ivs, iv, List.getD, hi]
theorem reverse_take_s (xs : List Int) (k : Nat) (h : k < xs.length) : (xs.drop k).reverse = (xs.drop (k + 1)).reverse ++ [xs.getD k 0] := by
  rw [drop_cons xs k 0 h, List.reverse_cons]
theorem multOk_parts {xs : List Int} (h : xs.length ≤ 201) : multOk xs = partsOk 0 xs := multOk_eq h
theorem mult_sm {xs : List Int} (h : multOk xs = true) : Sm (mult 0 xs) := by
  simp only [multOk, Bool.and_eq_true] at h
  have h1 := partsOk_sum 0 xs (by omega) h.2
  have h2 := prodF_le (xs := xs) (k := xs.length)
  rw [List.drop_length, prodF, Nat.mul_one] at h2
  exact sm_fact' (by omega) h2

set_option maxHeartbeats 2000000 in
set_option maxRecDepth 100000 in
theorem combDiv_calls (xs : List Int) (a : Option Addr) (len cap : Nat) (w : World) (h : Row .i64 w a len cap xs) :
    Calls Try.prog 5 #[.slice a len cap] w fun e w' => e = .returned (.bool true) ∧ Below w.heap.size w w' := by
  have HX := Lib.hid h
  have HL := Lib.hid h.1
  have HW := Lib.hid h.2.1
  have hm := h.2.2.1
  have hm2 := h.2.2.2.1
  unfold maxLen at hm2
  clear h
  go_enter Try.func5, Try.ntmps5
  go_wp2_with fail
  refine (Mult_any xs a len cap _ HX.out).mono ?_
  rintro e w1 ⟨v1, rfl, hv1, hb1⟩
  have HV1 := Lib.hid hv1
  clear hv1
  by_cases hlen : len ≤ 201
  case neg =>
    have HF := Lib.hid (multOk_long (xs := xs) (by rw [HL.out]; exact hlen))
    rw [HF.out]
    have hgt : 201 < len := by omega
    clear hlen
    go_wp2_with fail
    go_ret
    exact ⟨rfl, hb1⟩
  have HOk := Lib.hid (multOk_eq (xs := xs) (by rw [HL.out]; exact hlen))
  generalize hob : multOk xs = ob at *
  have HOb := Lib.hid hob
  clear hob
  go_wp2_with fail
  refine (of_any 1 (by omega) _).mono ?_
  rintro e w2 ⟨v2, rfl, hv2, hb2⟩
  have HV2 := Lib.hid hv2
  have HV1b := Lib.hid (HV1.out.below hb2)
  have hb02 := hb1.trans (hb2.mono hb1.size)
  clear hv2 HV1 hb1
  go_wp2_with fail
  go_loopw [5, 6, 7] (fun v s i wr => ∃ (k t p : Nat), k ≤ len ∧ i = .int .i64 k ∧ s = .int .i64 t ∧ t ≤ 200 ∧ Hid (p ≤ fact t) ∧ Hid (p * mult t (xs.drop k) = mult 0 xs) ∧ Hid (ob = partsOk t (xs.drop k)) ∧ Hid (Num wr v p) ∧ Below w2.heap.size w2 wr) (fun _ _ i _ => len - (intOf i).toNat)
  case atStart => exact ⟨0, 0, 1, by omega, rfl, rfl, by omega, Nat.le_refl _, by simp [Hid], by unfold Hid; rw [HOk.out]; rfl, HV2.out, Below.refl _ _⟩
  case round =>
    obtain ⟨k, t, p, hk, rfl, rfl, ht, HPf, HM, HB, HV, hb⟩ := hrel
    by_cases hlt : k < len
    · obtain ⟨b, off, rfl, _, hcc⟩ := HX.out.2.2.at (k := k) hlt
      have HC1 := Lib.hid (hcc k hlt)
      have hb0 := hb02.trans (hb.mono hb02.size)
      have c1 := HC1.out wr hb0
      clear hcc
      generalize hX1 : xs.getD k 0 = x at *
      by_cases hy : 0 ≤ x ∧ x ≤ 200 - (t : Int)
      · have HM1 := Lib.hid (mult_next (by rw [HL.out]; exact hlt) hX1 HM.out)
        have HB1 := Lib.hid (ok_next (by rw [HL.out]; exact hlt) hX1 hy HB.out)
        clear hX1
        obtain ⟨X, rfl⟩ : ∃ X : Nat, x = X := ⟨x.toNat, by omega⟩
        have hX : t + X ≤ 200 := by omega
        have HPf1 := Lib.hid (fact_next (a := X) HPf.out)
        simp only [Int.toNat_natCast] at HM1 HB1
        have HS1 := Lib.hid (sm_fact' ht HPf.out)
        have HS2 := Lib.hid (sm_fact' hX (ch_le_fact (n := t + X) (k := X)))
        have HC := Lib.hid (chI_nat (n := t + X) (k := X) (by omega))
        have d1 : decide ((X : Int) < 0) = false := decide_eq_false (by omega)
        have d2 : decide (200 - (t : Int) < X) = false := decide_eq_false (by omega)
        clear hy
        go_wp2_with fail
        rw [show ((t : Int) + X) = ((t + X : Nat) : Int) by omega]
        refine (Choose_any _ _ _ (by omega) (by omega)).mono ?_
        rintro e w3 ⟨v3, rfl, hv3, hb3⟩
        rw [HC.out] at hv3
        have HV3 := Lib.hid hv3
        have HVa := Lib.hid (HV.out.below hb3)
        clear hv3
        go_wp2_with fail
        refine (mul_num HVa.out HV3.out HS1.out HS2.out).mono ?_
        rintro e w4 ⟨v4, rfl, hv4, hb4⟩
        have HV4 := Lib.hid hv4
        clear hv4
        have hbn := hb.trans ((hb3.trans (hb4.mono hb3.size)).mono hb.size)
        go_wp2_with fail
        go_roundw
        case rel => exact ⟨k + 1, t + X, p * ch (t + X) X, by omega, by go_num, by go_num, hX, HPf1, HM1, HB1, HV4, hbn⟩
        case measure => simp [intOf]; omega
      · have HF := Lib.hid (ok_stop (by rw [HL.out]; exact hlt) hX1 hy HB.out)
        clear hX1
        have hf := HF.out
        subst hf
        by_cases hneg : x < 0
        case' pos =>
          have d1 : decide (x < 0) = true := by simpa using hneg
          clear hy hneg
        case' neg =>
          have d1 : decide (x < 0) = false := by simpa using hneg
          have d2 : decide (200 - (t : Int) < x) = true := decide_eq_true (by omega)
          clear hy hneg
        all_goals
          go_wp2_with fail
          go_ret
          exact ⟨rfl, hb0⟩
    · obtain rfl : k = len := by omega
      have HF := Lib.hid (ok_end (by rw [HL.out]; omega) HB.out)
      have hf := HF.out
      subst hf
      have HP := Lib.hid (show p = mult 0 xs by rw [← HM.out, List.drop_of_length_le (by rw [HL.out]; omega)]; simp [mult])
      have HVp := HV
      rw [HP.out] at HVp
      have HMv := Lib.hid (multV_true HOb.out)
      have HV1c := Lib.hid (HV1b.out.below hb)
      rw [HMv.out] at HV1c
      have hb0 := hb02.trans (hb.mono hb02.size)
      obtain ⟨wa, rfl⟩ : ∃ wa : World, wa = wr := ⟨_, rfl⟩
      clear HV HV1b HV2 HM HB hb
      go_wp2_with fail
      go_loopw [10, 11] (fun v i wr => ∃ j : Nat, j ≤ k ∧ i = .int .i64 ((j : Int) - 1) ∧ Hid (Owns wr wa.heap.size 3 v (ivs (xs.drop j).reverse)) ∧ Below wa.heap.size wa wr) (fun _ i _ => (1 + intOf i).toNat)
      case atStart => exact ⟨k, by omega, rfl, by unfold Hid; rw [List.drop_of_length_le (by rw [HL.out]; omega)]; exact Owns.nil _ _ _, Below.refl _ _⟩
      case round =>
        obtain ⟨j, hj, rfl, HO, hb⟩ := hrel
        have hsz := hb.size
        cases j with
        | succ j =>
          rw [show (((j + 1 : Nat) : Int) - 1) = (j : Int) by omega]
          obtain ⟨b, off, rfl, _, hcc⟩ := HX.out.2.2.at (k := j) (by omega)
          have c1 := hcc j (by omega) wr (hb0.trans (hb.mono hb0.size))
          have HR := Lib.hid (reverse_take_s xs j (by rw [HL.out]; omega))
          have HN := Lib.hid (show ((ivs (xs.drop (j + 1)).reverse).length + 1) * 8 ≤ 140737488355328 ∧ (ivs (xs.drop (j + 1)).reverse).length + 1 ≤ maxLen by
            rw [ivs_length, List.length_reverse, List.length_drop, HL.out]; simp only [maxLen]; omega)
          clear hcc
          generalize xs.getD j 0 = x at *
          go_wp2_with (at_builtin; go_must (refine wpList_app1 rfl _ _ 22 rfl wa.heap.size 3 (.int .i64 0) 8 Try.underlying22 infoInt rfl u10 (ivs (xs.drop (j + 1)).reverse) rfl (.int .i64 x) rfl HO.out rfl HN.out.1 HN.out.2 hsz fun v' w' h1 h2 => ?_))
          have hbn := hb.trans (h2.below hsz HO.out.lt)
          have HO1 := Lib.hid (show Owns w' wa.heap.size 3 v' (ivs (xs.drop j).reverse) by rw [HR.out, ivs_append]; exact h1)
          clear h1 h2
          go_wp2_with fail
          go_roundw
          case rel => exact ⟨j, by omega, rfl, HO1, hbn⟩
          case measure => simp [intOf]; omega
        | zero =>
          have hO := HO.out
          rw [List.drop_zero] at hO
          obtain ⟨a2, n2, c2, rfl, hR⟩ := hO.row (fun n hn => HW.out n (by simpa using hn))
          have HRr := Lib.hid hR
          have HV1d := Lib.hid (HV1c.out.below hb)
          have HVq := Lib.hid (HVp.out.below hb)
          have HOr := Lib.hid (multOk_reverse xs HOb.out)
          have HMr := Lib.hid (show multV xs.reverse = mult 0 xs by rw [multV_true HOr.out, mult_reverse])
          have HSm := Lib.hid (mult_sm HOb.out)
          have hbl := blen_ne (n := mult 0 xs) (by have := mult_pos xs; omega)
          have hb00 := hb0.trans (hb.mono hb0.size)
          clear hO hR HO HV1c HVp hb0
          go_wp2_with fail
          refine (Mult_any xs.reverse _ _ _ _ HRr.out).mono ?_
          rintro e w5 ⟨v5, rfl, hv5, hb5⟩
          rw [HOr.out]
          rw [HMr.out] at hv5
          have HV5 := Lib.hid hv5
          have HV1e := Lib.hid (HV1d.out.below hb5)
          have HVr := Lib.hid (HVq.out.below hb5)
          clear hv5
          go_wp2_with fail
          refine (limbs_same _ _ _ _ HV1e.out HVr.out).mono ?_
          rintro e w6 ⟨rfl, hb6⟩
          have HV5b := Lib.hid (HV5.out.below hb6)
          have HV1f := Lib.hid (HV1e.out.below hb6)
          go_wp2_with fail
          refine (limbs_same _ _ _ _ HV5b.out HV1f.out).mono ?_
          rintro e w7 ⟨rfl, hb7⟩
          have HV1g := Lib.hid (HV1f.out.below hb7)
          have h57 := hb5.trans ((hb6.trans (hb7.mono hb6.size)).mono hb5.size)
          go_wp2_with fail
          refine (nbits_num HV1g.out HSm.out).mono ?_
          rintro e w8 ⟨rfl, rfl⟩
          generalize blen (mult 0 xs) = bl at *
          have dbl : decide (0 < (bl : Int)) = true := decide_eq_true (by omega)
          have dbl2 : 0 < bl := by omega
          go_wp2_with fail
          go_ret
          exact ⟨by first | rfl | simp [dbl2], hb00.trans (h57.mono hb00.size)⟩

theorem combinDivides_walk {H : Type} {enc : TypeId × Value → H} (W : World) (base : Nat) (args : Array Value) (ds gs : List (DataW H)) (before : List MemPlace)
    (hval : ∀ (j : Nat) t v, Try.f5.params[j]? = some t → args[j]? = some v → Value.okWide Try.prog W .any base t v)
    (hW : DataW.Whole enc Try.prog Try.f5.params.toList Rows.combinDividesSpec.vars false W args.toList ds gs before)
    (_hsz : (DataW.weightsEach Try.prog (Try.f5.params.toList ++ Rows.combinDividesSpec.plain.varTypes Try.prog) (ds ++ gs)).all (· ≤ reachBytes) = true) :
    Calls Try.prog 5 args W fun e w' => e = .returned (.bool true) ∧ Below W.heap.size W w' := by
  obtain ⟨p, q, hA, hV, -, -, -⟩ := hW
  obtain ⟨rfl, -⟩ := trodVars_none hV
  rw [Try.params5] at hA hval
  obtain ⟨v0, d0, rfl, rfl, h0⟩ := trodAll_one hA
  obtain ⟨a, len, cap, xs, rfl, hr, -⟩ := open_row Try.underlying22 Try.underlying3 (by kernel_rfl) (hval 0 _ _ rfl rfl) h0
  exact combDiv_calls xs a len cap W hr

set_option maxRecDepth 100000 in
theorem combinDivides_lifted (os : Os) (started : os.Started) (H : Type) (enc : TypeId × Value → H) :
    ReturnsInHanded {} Try.checked os 5 .any (Rows.combinDividesSpec.pre6 enc Try.prog Try.f5 Rows.combinDividesRow.domain false) (Rows.combinDividesSpec.post enc Try.prog Try.f5 false true false false) := by
  refine returnsInHanded_of_change_sized (C := Try.checked) own started (by kernel_rfl) Try.func5
    (ChangeSpec.witness6 (enc := enc) (C := Try.checked) false ⟨#[], #[.slice none 0 0], []⟩ 8 (by kernel_rfl) (by kernel_rfl) (by kernel_rfl) (by kernel_rfl)) ?_
  intro W base args ds gs before hval hW _ hsz _
  exact law_post rfl (by kernel_rfl) (by kernel_rfl) (fun ds h => match ds, h with | [d0], _ => ⟨rfl, rfl, rfl⟩) hW (combinDivides_walk W base args ds gs before hval hW hsz)

theorem combinDivides_over : Rows.combinDividesRow.holds Try.pinned (OpenSpec.ofChange Rows.combinDividesSpec) :=
  OpenClaim.holds_of_wide 5 Try.f5 rfl rfl rfl rfl rfl rfl rfl ⟨rfl, rfl, rfl, rfl, rfl⟩ rfl rfl rfl rfl rfl (by kernel_rfl) Try.func5 (by kernel_rfl)
    (of_decide_eq_true (by kernel_rfl)) (by unfold Func.isWrapper; first | (rw [if_pos (by decide +kernel)]; kernel_rfl) | (rw [if_neg (by decide +kernel)]; exact ⟨rfl, rfl⟩))
    (fun os started H enc _ => combinDivides_lifted os started H enc)

theorem combinDivides_proved : Rows.CombinDividesSaid := combinDivides_over

end Go.Proofs.Ytjmdcabbglappaa
