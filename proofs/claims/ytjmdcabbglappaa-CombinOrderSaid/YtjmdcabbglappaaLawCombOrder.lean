/- CombinOrder: of two subsets of one size the one with the smaller number at the first difference has the smaller rank, for all arguments: the law returns true. No condition. -/
import Derived.Test.YtjmdcabbglappaaFrame
import Derived.Test.YtjmdcabbglappaaCombV
namespace Go.Proofs.Ytjmdcabbglappaa
open Go.ChangeShapes Go.WideShapes Go.ChangeAt Go.RowKit

theorem cmpI_add (s m n : Nat) : cmpI (s + m) (s + n) = cmpI m n := by
  unfold cmpI
  simp
theorem order_same {N lo k x : Nat} {A B : List Nat} (hA : k < A.length) (hB : k < B.length) (hl : A.length = B.length) (hx : A.getD k 0 = x) (hy : B.getD k 0 = x) {c : Int} (h : c = cmpI (rankL N lo (A.drop k)) (rankL N lo (B.drop k))) :
    c = cmpI (rankL N (x + 1) (A.drop (k + 1))) (rankL N (x + 1) (B.drop (k + 1))) := by
  rw [drop_cons A k 0 hA, drop_cons B k 0 hB, hx, hy, rankL, rankL, List.length_drop, List.length_drop, hl, cmpI_add] at h
  exact h
theorem order_less {N lo k x y : Nat} {A B : List Nat} (hA : k < A.length) (hB : k < B.length) (hl : A.length = B.length) (hx : A.getD k 0 = x) (hy : B.getD k 0 = y) (ha : asc N lo (A.drop k)) (h : x < y) : rankL N lo (A.drop k) < rankL N lo (B.drop k) := by
  rw [drop_cons A k 0 hA, hx] at ha ⊢
  rw [drop_cons B k 0 hB, hy]
  exact rankL_less ha (by rw [List.length_drop, List.length_drop, hl]) h

set_option maxHeartbeats 2000000 in
set_option maxRecDepth 100000 in
theorem combOrder_calls (n : Int) (l l' : List Int) (a a' : Option Addr) (len cap len' cap' : Nat) (w : World) (h : Row .i64 w a len cap l) (h' : Row .i64 w a' len' cap' l') :
    Calls Try.prog 8 #[.int .i64 n, .slice a len cap, .slice a' len' cap'] w fun e w' => e = .returned (.bool true) ∧ Below w.heap.size w w' := by
  have HX := Lib.hid h
  have HY := Lib.hid h'
  have hm := h.2.2.1
  have hm2 := h.2.2.2.1
  have hm3 := h'.2.2.1
  have hm4 := h'.2.2.2.1
  unfold maxLen at hm2 hm4
  clear h h'
  by_cases h1 : n < 0
  · go_enter Try.func8, Try.ntmps8
    go_wp2_with fail
    go_ret
    exact ⟨rfl, Below.refl _ _⟩
  have d1 : decide (n < 0) = false := by simpa using h1
  by_cases h2 : 200 < n
  · go_enter Try.func8, Try.ntmps8
    go_wp2_with fail
    go_ret
    exact ⟨rfl, Below.refl _ _⟩
  have d2 : decide (200 < n) = false := by simpa using h2
  by_cases h3 : len = len'
  case neg =>
    have d3 : ((len : Int) != (len' : Int)) = true := by
      have : ¬ (len : Int) = (len' : Int) := by omega
      simpa using this
    have d3' : (len != len') = true := by simpa using h3
    go_enter Try.func8, Try.ntmps8
    go_wp2_with fail
    go_ret
    exact ⟨rfl, Below.refl _ _⟩
  subst h3
  obtain ⟨N, rfl⟩ : ∃ N : Nat, n = N := ⟨n.toNat, by omega⟩
  have hN : N ≤ 200 := by omega
  clear h1 h2
  cases hs1 : subB (N : Int) (-1) l
  · have HS1 := Lib.hid hs1
    clear hs1
    go_enter Try.func8, Try.ntmps8
    go_wp2_with fail
    refine (rising_any (N : Int) l _ _ _ _ HX.out false HS1.out.symm).mono ?_
    rintro e w1 ⟨rfl, hb1⟩
    go_wp2_with fail
    go_ret
    exact ⟨rfl, hb1⟩
  cases hs2 : subB (N : Int) (-1) l'
  · have HS1 := Lib.hid hs1
    have HS2 := Lib.hid hs2
    clear hs1 hs2
    go_enter Try.func8, Try.ntmps8
    go_wp2_with fail
    refine (rising_any (N : Int) l _ _ _ _ HX.out true HS1.out.symm).mono ?_
    rintro e w1 ⟨rfl, hb1⟩
    have HY1 := Lib.hid (HY.out.below hb1)
    go_wp2_with fail
    refine (rising_any (N : Int) l' _ _ _ _ HY1.out false HS2.out.symm).mono ?_
    rintro e w2 ⟨rfl, hb2⟩
    go_wp2_with fail
    go_ret
    exact ⟨rfl, hb1.trans (hb2.mono hb1.size)⟩
  have HS1 := Lib.hid hs1
  have HS2 := Lib.hid hs2
  obtain ⟨A, rfl, hA⟩ := subB_asc 0 l (by simpa using hs1)
  obtain ⟨B, rfl, hB⟩ := subB_asc 0 l' (by simpa using hs2)
  have HA := Lib.hid hA
  have HB := Lib.hid hB
  have HLA := Lib.hid (show A.length = len by rw [← nl_length]; exact HX.out.1)
  have HLB := Lib.hid (show B.length = len by rw [← nl_length]; exact HY.out.1)
  clear hs1 hs2 hA hB
  go_enter Try.func8, Try.ntmps8
  go_wp2_with fail
  refine (rising_any (N : Int) _ _ _ _ _ HX.out true HS1.out.symm).mono ?_
  rintro e w1 ⟨rfl, hb1⟩
  have HX1 := Lib.hid (HX.out.below hb1)
  have HY1 := Lib.hid (HY.out.below hb1)
  go_wp2_with fail
  refine (rising_any (N : Int) _ _ _ _ _ HY1.out true HS2.out.symm).mono ?_
  rintro e w2 ⟨rfl, hb2⟩
  have HX2 := Lib.hid (HX1.out.below hb2)
  have HY2 := Lib.hid (HY1.out.below hb2)
  have h02 := hb1.trans (hb2.mono hb1.size)
  go_wp2_with fail
  refine (Rank_any N A _ _ _ _ HX2.out hN HA.out).mono ?_
  rintro e w3 ⟨v3, rfl, hv3, hb3⟩
  have HV3 := Lib.hid hv3
  have HX3 := Lib.hid (HX2.out.below hb3)
  have HY3 := Lib.hid (HY2.out.below hb3)
  clear hv3
  go_wp2_with fail
  refine (Rank_any N B _ _ _ _ HY3.out hN HB.out).mono ?_
  rintro e w4 ⟨v4, rfl, hv4, hb4⟩
  have HV4 := Lib.hid hv4
  have HV34 := Lib.hid (HV3.out.below hb4)
  have HX4 := Lib.hid (HX3.out.below hb4)
  have HY4 := Lib.hid (HY3.out.below hb4)
  have h03 := h02.trans (hb3.mono h02.size)
  have h04 := h03.trans (hb4.mono h03.size)
  clear hv4 HX HX1 HX2 HX3 HY HY1 HY2 HY3 HV3 hb1 hb2 hb3 hb4 h02 h03
  go_wp2_with fail
  go_loopw [11, 12] (fun t i wr => ∃ (k lo : Nat) (c : Int), k ≤ len ∧ i = .int .i64 k ∧ t = .int .i64 c ∧ (c = 0 ∨ c = -1 ∨ c = 1) ∧ Hid (c ≠ 0 → cmpI (rankL N 0 A) (rankL N 0 B) = c) ∧ Hid (c = 0 → cmpI (rankL N 0 A) (rankL N 0 B) = cmpI (rankL N lo (A.drop k)) (rankL N lo (B.drop k))) ∧ Hid (c = 0 → asc N lo (A.drop k) ∧ asc N lo (B.drop k)) ∧ Below w4.heap.size w4 wr) (fun _ i _ => len - (intOf i).toNat)
  case atStart => exact ⟨0, 0, 0, by omega, rfl, rfl, by omega, fun h => (h rfl).elim, fun _ => rfl, fun _ => ⟨HA.out, HB.out⟩, Below.refl _ _⟩
  case round =>
    obtain ⟨k, lo, c, hk, rfl, rfl, hc, HC1, HC2, HAs, hb⟩ := hrel
    by_cases hend : k < len ∧ c = 0
    · obtain ⟨hlt, rfl⟩ := hend
      obtain ⟨bb, off, rfl, _, hcc⟩ := HX4.out.2.2.at (k := k) hlt
      obtain ⟨bb', off', rfl, _, hcc'⟩ := HY4.out.2.2.at (k := k) hlt
      have c1 := hcc k hlt wr hb
      have c2 := hcc' k hlt wr hb
      rw [nl_at] at c1 c2
      clear hcc hcc' hc
      have hasA := (HAs.out rfl).1
      have hasB := (HAs.out rfl).2
      have hE := HC2.out rfl
      have HLs := Lib.hid (fun h => order_less (N := N) (lo := lo) (by rw [HLA.out]; exact hlt) (by rw [HLB.out]; exact hlt) (by rw [HLA.out, HLB.out]) rfl rfl hasA h)
      have HGs := Lib.hid (fun h => order_less (N := N) (lo := lo) (by rw [HLB.out]; exact hlt) (by rw [HLA.out]; exact hlt) (by rw [HLA.out, HLB.out]) rfl rfl hasB h)
      have HAo := Lib.hid (asc_out (by rw [HLA.out]; exact hlt) rfl hasA)
      have HBo := Lib.hid (asc_out (by rw [HLB.out]; exact hlt) rfl hasB)
      have HSs := Lib.hid (fun h : B.getD k 0 = A.getD k 0 => order_same (by rw [HLA.out]; exact hlt) (by rw [HLB.out]; exact hlt) (by rw [HLA.out, HLB.out]) rfl h hE)
      have HEq := Lib.hid hE
      clear hE hasA hasB HC1 HC2 HAs
      generalize A.getD k 0 = x at *
      generalize B.getD k 0 = y at *
      rcases Nat.lt_trichotomy x y with hxy | hxy | hxy
      · have HF := Lib.hid (show cmpI (rankL N 0 A) (rankL N 0 B) = -1 by rw [HEq.out]; exact cmpI_lt (HLs.out hxy))
        have d3 : decide (x < y) = true := decide_eq_true hxy
        have d4 : decide (y < x) = false := decide_eq_false (by omega)
        go_wp2_with fail
        go_quiet (fail)
        go_wp2_with fail
        go_quiet (fail)
        go_wp2_with fail
        go_roundw
        case rel => exact ⟨k + 1, 0, -1, by omega, by go_num, rfl, by omega, fun _ => HF.out, fun h => by omega, fun h => by omega, by first | exact below_drewN hb _ | exact below_drewN (below_drewN hb _) _⟩
        case measure => simp [intOf]; omega
      · subst hxy
        have HF := Lib.hid (HSs.out rfl)
        have d3 : decide (x < x) = false := decide_eq_false (by omega)
        go_wp2_with fail
        go_quiet (fail)
        go_wp2_with fail
        go_quiet (fail)
        go_wp2_with fail
        go_roundw
        case rel => exact ⟨k + 1, x + 1, 0, by omega, by go_num, rfl, by omega, fun h => (h rfl).elim, fun _ => HF.out, fun _ => ⟨HAo.out.2.2, HBo.out.2.2⟩, by first | exact below_drewN hb _ | exact below_drewN (below_drewN hb _) _⟩
        case measure => simp [intOf]; omega
      · have HF := Lib.hid (show cmpI (rankL N 0 A) (rankL N 0 B) = 1 by rw [HEq.out]; exact cmpI_gt (HGs.out hxy))
        have d3 : decide (x < y) = false := decide_eq_false (by omega)
        have d4 : decide (y < x) = true := decide_eq_true hxy
        go_wp2_with fail
        go_quiet (fail)
        go_wp2_with fail
        go_quiet (fail)
        go_wp2_with fail
        go_roundw
        case rel => exact ⟨k + 1, 0, 1, by omega, by go_num, rfl, by omega, fun _ => HF.out, fun h => by omega, fun h => by omega, by first | exact below_drewN hb _ | exact below_drewN (below_drewN hb _) _⟩
        case measure => simp [intOf]; omega
    · have HF : Hid (cmpI (rankL N 0 A) (rankL N 0 B) = c) := by
        unfold Hid
        by_cases hc0 : c = 0
        · rw [HC2.out hc0, List.drop_of_length_le (by rw [HLA.out]; omega), List.drop_of_length_le (by rw [HLB.out]; omega), hc0]; rfl
        · exact HC1.out hc0
      have HVa := Lib.hid (HV34.out.below hb)
      have HVb := Lib.hid (HV4.out.below hb)
      clear HC1 HC2 HAs hc
      have h0r := h04.trans (hb.mono h04.size)
      by_cases hlt : k < len
      case' pos =>
        have hc0 : ¬ c = 0 := fun h => hend ⟨hlt, h⟩
        have d3 : (c == 0) = false := by simpa using hc0
        clear hc0 hend
      case' neg =>
        have hge : ¬ k < len := hlt
        clear hend
      all_goals
        go_wp2_with fail
        refine (cmp_num HVa.out HVb.out).mono ?_
        rintro e w5 ⟨rfl, hb5⟩
        rw [HF.out]
        have d5 : (c == c) = true := by simp
        go_wp2_with fail
        go_ret
        exact ⟨by first | rfl | simp, h0r.trans (hb5.mono h0r.size)⟩

theorem combinOrder_walk {H : Type} {enc : TypeId × Value → H} (W : World) (base : Nat) (args : Array Value) (ds gs : List (DataW H)) (before : List MemPlace)
    (hval : ∀ (j : Nat) t v, Try.f8.params[j]? = some t → args[j]? = some v → Value.okWide Try.prog W .any base t v)
    (hW : DataW.Whole enc Try.prog Try.f8.params.toList Rows.combinOrderSpec.vars false W args.toList ds gs before)
    (_hsz : (DataW.weightsEach Try.prog (Try.f8.params.toList ++ Rows.combinOrderSpec.plain.varTypes Try.prog) (ds ++ gs)).all (· ≤ reachBytes) = true) :
    Calls Try.prog 8 args W fun e w' => e = .returned (.bool true) ∧ Below W.heap.size W w' := by
  obtain ⟨p, q, hA, hV, -, -, -⟩ := hW
  obtain ⟨rfl, -⟩ := trodVars_none hV
  rw [Try.params8] at hA hval
  obtain ⟨v0, v1, v2, d0, d1, d2, p0, p1, p2, rfl, rfl, rfl, h0, h1, h2⟩ := trodAll_three hA
  obtain ⟨n, rfl, -, -⟩ := open_num Try.underlying3 (hval 0 _ _ rfl rfl) h0
  obtain ⟨a, len, cap, xs, rfl, hr, -⟩ := open_row Try.underlying22 Try.underlying3 (by kernel_rfl) (hval 1 _ _ rfl rfl) h1
  obtain ⟨a', len', cap', xs', rfl, hr', -⟩ := open_row Try.underlying22 Try.underlying3 (by kernel_rfl) (hval 2 _ _ rfl rfl) h2
  exact combOrder_calls n xs xs' a a' len cap len' cap' W hr hr'

set_option maxRecDepth 100000 in
theorem combinOrder_lifted (os : Os) (started : os.Started) (H : Type) (enc : TypeId × Value → H) :
    ReturnsInHanded {} Try.checked os 8 .any (Rows.combinOrderSpec.pre6 enc Try.prog Try.f8 Rows.combinOrderRow.domain false) (Rows.combinOrderSpec.post enc Try.prog Try.f8 false true false false) := by
  refine returnsInHanded_of_change_sized (C := Try.checked) own started (by kernel_rfl) Try.func8
    (ChangeSpec.witness6 (enc := enc) (C := Try.checked) false ⟨#[], #[.int .i64 0, .slice none 0 0, .slice none 0 0], []⟩ 8 (by kernel_rfl) (by kernel_rfl) (by kernel_rfl) (by kernel_rfl)) ?_
  intro W base args ds gs before hval hW _ hsz _
  exact law_post rfl (by kernel_rfl) (by kernel_rfl) (fun ds h => match ds, h with | [d0, d1, d2], _ => ⟨rfl, rfl, rfl⟩) hW (combinOrder_walk W base args ds gs before hval hW hsz)

theorem combinOrder_over : Rows.combinOrderRow.holds Try.pinned (OpenSpec.ofChange Rows.combinOrderSpec) :=
  OpenClaim.holds_of_wide 8 Try.f8 rfl rfl rfl rfl rfl rfl rfl ⟨rfl, rfl, rfl, rfl, rfl⟩ rfl rfl rfl rfl rfl (by kernel_rfl) Try.func8 (by kernel_rfl)
    (of_decide_eq_true (by kernel_rfl)) (by unfold Func.isWrapper; first | (rw [if_pos (by decide +kernel)]; kernel_rfl) | (rw [if_neg (by decide +kernel)]; exact ⟨rfl, rfl⟩))
    (fun os started H enc _ => combinOrder_lifted os started H enc)

theorem combinOrder_proved : Rows.CombinOrderSaid := combinOrder_over

end Go.Proofs.Ytjmdcabbglappaa
