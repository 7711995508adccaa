/- Long division: what nat.estimate, subtract, addBack, shiftLeft and shiftRight do. -/
import Derived.Test.YtahmndacoanfiaaGreatKnuP
import Derived.Test.YtahmndacoanfiaaGreatNatC
import Derived.Test.YtahmndacoanfiaaGreatNatOff
namespace Go.Proofs.YtahmndacoanfiaaGreat
set_option maxRecDepth 100000
open Go.RowKit

theorem div_wrap {t d : Nat} (h : t < 18446744073709551616) : IntKind.u64.wrap ((t : Int) / (d : Int)) = ((t / d : Nat) : Int) := by
  rw [← Int.natCast_ediv, IntKind.wrap_u64]
  have := Nat.div_le_self t d
  generalize t / d = y at *
  omega
theorem mul_wrap {q d : Nat} (h : q * d < 18446744073709551616) : IntKind.u64.wrap ((q : Int) * (d : Int)) = ((q * d : Nat) : Int) := by
  rw [show ((q : Int) * (d : Int)) = ((q * d : Nat) : Int) by simp, IntKind.wrap_u64]
  generalize q * d = y at *
  omega
theorem prod_bound {q d : Nat} (h1 : q < 4294967296) (h2 : d < 4294967296) : q * d < 18446744073709551616 := by
  have : q * d ≤ 4294967295 * 4294967295 := Nat.mul_le_mul (by omega) (by omega)
  omega

set_option maxHeartbeats 2000000 in
theorem est_any (P D : List Nat) (a a' : Option Addr) (n cap cap' : Nat) (w : World) (hx : Limbs w a (n + 1) cap P) (hy : Limbs w a' n cap' D) (hn : 2 ≤ n)
    (hE : Est (P.getD n 0) (P.getD (n - 1) 0) (P.getD (n - 2) 0) (D.getD (n - 1) 0) (D.getD (n - 2) 0)) :
    Calls Tryz.prog 122 #[.slice a (n + 1) cap, .slice a' n cap'] w fun e w' => ∃ q : Nat, e = .returned (.int .u64 (q : Int)) ∧ EstEnd (P.getD n 0) (P.getD (n - 1) 0) (P.getD (n - 2) 0) (D.getD (n - 1) 0) (D.getD (n - 2) 0) q ∧ Below w.heap.size w w' := by
  have hm1 := hx.2.2.1
  have hm2 := hx.2.2.2.1
  unfold maxLen at hm2
  obtain ⟨b, off, rfl, _, hcc⟩ := hx.2.2.at (k := n) (by omega)
  obtain ⟨b', off', rfl, _, hcc'⟩ := hy.2.2.at (k := n - 1) (by omega)
  have HC2 := Lib.hid (hcc n (by omega))
  have HC1 := Lib.hid (hcc (n - 1) (by omega))
  have HC0 := Lib.hid (hcc (n - 2) (by omega))
  have HD1 := Lib.hid (hcc' (n - 1) (by omega))
  have HD0 := Lib.hid (hcc' (n - 2) (by omega))
  clear hcc hcc' hx hy
  have c2 := HC2.out w (Below.refl _ _)
  have c1 := HC1.out w (Below.refl _ _)
  have e1 := HD1.out w (Below.refl _ _)
  generalize P.getD n 0 = p2 at *
  generalize P.getD (n - 1) 0 = p1 at *
  generalize P.getD (n - 2) 0 = p0 at *
  generalize D.getD (n - 1) 0 = d1 at *
  generalize D.getD (n - 2) 0 = d0 at *
  have g1 := hE.h1
  have g2 := hE.h2
  have g0 := hE.h0
  have k1 := hE.k1
  have k0 := hE.k0
  have kn := hE.norm
  obtain ⟨T, hT⟩ : ∃ T, T = p2 * 4294967296 + p1 := ⟨_, rfl⟩
  have HST := Lib.hid (est_start hE)
  rw [← hT] at HST
  have hTb : T < 18446744073709551616 := by omega
  have eT : bits .or .u64 ((p2 : Int) * 4294967296) (p1 : Int) = (T : Int) := by rw [hT]; exact or_shift g2 g1
  have HE := Lib.hid hE
  have HTT := Lib.hid hT
  have HDv := Lib.hid (div_wrap (d := d1) hTb)
  have HMv := Lib.hid (show (T : Int) % (d1 : Int) = ((T % d1 : Nat) : Int) by rw [← Int.natCast_emod])
  clear hE hT
  go_enter Tryz.func122, Tryz.ntmps122
  go_wp2_with fail
  have q1 : IntKind.i64.wrap ((n : Int) - 1) = (n : Int) - 1 := IntWalk.i64_in _ (by omega)
  have q2 : 0 ≤ (n : Int) - 1 := by omega
  have q3 : ((n : Int) - 1).toNat = n - 1 := by omega
  have q4 : (n : Int) - 1 < (n : Int) + 1 := by omega
  have q5 : (n : Int) < (n : Int) + 1 := by omega
  have q6 : IntKind.u64.wrap ((p2 : Int) * 4294967296) = (p2 : Int) * 4294967296 := by rw [IntKind.wrap_u64]; omega
  go_quiet (fail)
  clear q1 q2 q3 q4 q5 q6 eT
  go_wp2_with fail
  go_loopw [7, 8] (fun dg rs wr => ∃ (q r : Nat), dg = .int .u64 (q : Int) ∧ rs = .int .u64 (r : Int) ∧ r < 4294967296 ∧ q ≤ 4294967297 ∧ Hid (EstOk p2 p1 p0 d1 d0 q r) ∧ Below w.heap.size w wr) (fun dg _ _ => (intOf dg).toNat)
  case atStart => exact ⟨T / d1, T % d1, int_eq HDv.out, int_eq HMv.out, HST.out.2, HST.out.1.2.1, HST.out.1, below_drewN (Below.refl _ _) _⟩
  case round =>
    obtain ⟨q, r, rfl, rfl, hr, hq, HO, hb⟩ := hrel
    have c0 := HC0.out wr hb
    have e0 := HD0.out wr hb
    have e1 := HD1.out wr hb
    have q1 : IntKind.i64.wrap ((n : Int) - 2) = (n : Int) - 2 := IntWalk.i64_in _ (by omega)
    have q2 : 0 ≤ (n : Int) - 2 := by omega
    have q3 : ((n : Int) - 2).toNat = n - 2 := by omega
    have q4 : (n : Int) - 2 < (n : Int) + 1 := by omega
    have q5 : (n : Int) - 2 < (n : Int) := by omega
    by_cases hbig : 4294967296 ≤ q
    · have hR := est_round HO.out (.inl hbig)
      have d2 : ((q : Int) / 4294967296 != 0) = true := by
        have : ¬ (q : Int) / 4294967296 = 0 := by omega
        simpa using this
      have hq1 := hR.1
      have HO1 := Lib.hid hR.2
      clear hR
      by_cases hbr : 4294967296 ≤ r + d1
      · have d3 : (((r : Int) + d1) / 4294967296 != 0) = true := by
          have : ¬ ((r : Int) + d1) / 4294967296 = 0 := by omega
          simpa using this
        have hqs := est_small HE.out HO1.out hbr (by omega)
        have HEnd := Lib.hid (est_break HE.out HO1.out hbr hqs)
        go_wp2_with fail
        go_quiet (fail)
        clear q1 q2 q3 q4 q5
        go_wp2_with fail
        go_ret
        exact ⟨q - 1, ret_int (by omega), HEnd.out, below_drewN hb _⟩
      · have d3 : (((r : Int) + d1) / 4294967296 != 0) = false := by
          have : ((r : Int) + d1) / 4294967296 = 0 := by omega
          simpa using this
        go_wp2_with fail
        go_quiet (fail)
        clear q1 q2 q3 q4 q5
        go_wp2_with fail
        go_roundw
        case rel => exact ⟨q - 1, r + d1, int_eq (by omega), by go_num, by omega, by omega, HO1, below_drewN hb _⟩
        case measure => simp [intOf]; omega
    · have d2 : ((q : Int) / 4294967296 != 0) = false := by
        have : (q : Int) / 4294967296 = 0 := by omega
        simpa using this
      have hxb := prod_bound (show q < 4294967296 by omega) k0
      have q6 := mul_wrap hxb
      have q7 : IntKind.u64.wrap ((r : Int) * 4294967296) = (r : Int) * 4294967296 := by rw [IntKind.wrap_u64]; omega
      have q8 : bits .or .u64 ((r : Int) * 4294967296) (p0 : Int) = ((r * 4294967296 + p0 : Nat) : Int) := or_shift hr g0
      have HTest := Lib.hid (fun h => est_test HO.out (by omega) h)
      have HRnd := Lib.hid (fun h => est_round HO.out (.inr h))
      obtain ⟨X, hX⟩ : ∃ X, X = q * d0 := ⟨_, rfl⟩
      obtain ⟨Y, hY⟩ : ∃ Y, Y = r * 4294967296 + p0 := ⟨_, rfl⟩
      rw [← hX] at q6 HTest HRnd hxb
      rw [← hY] at q8 HTest HRnd
      have hYb : Y < 18446744073709551616 := by omega
      clear hX
      by_cases htest : Y < X
      · have dt : decide (Y < X) = true := decide_eq_true htest
        obtain ⟨hq1, hO1⟩ := HRnd.out htest
        have HO1 := Lib.hid hO1
        clear hO1 hY
        by_cases hbr : 4294967296 ≤ r + d1
        · have d3 : (((r : Int) + d1) / 4294967296 != 0) = true := by
            have : ¬ ((r : Int) + d1) / 4294967296 = 0 := by omega
            simpa using this
          have hqs := est_small HE.out HO1.out hbr (by omega)
          have HEnd := Lib.hid (est_break HE.out HO1.out hbr hqs)
          go_wp2_with fail
          go_quiet (fail)
          clear q1 q2 q3 q4 q5 q6 q7 q8
          go_wp2_with fail
          go_ret
          exact ⟨q - 1, ret_int (by omega), HEnd.out, below_drewN hb _⟩
        · have d3 : (((r : Int) + d1) / 4294967296 != 0) = false := by
            have : ((r : Int) + d1) / 4294967296 = 0 := by omega
            simpa using this
          go_wp2_with fail
          go_quiet (fail)
          clear q1 q2 q3 q4 q5 q6 q7 q8
          go_wp2_with fail
          go_roundw
          case rel => exact ⟨q - 1, r + d1, int_eq (by omega), by go_num, by omega, by omega, HO1, below_drewN hb _⟩
          case measure => simp [intOf]; omega
      · have dt : decide (Y < X) = false := decide_eq_false htest
        have HEnd := Lib.hid (HTest.out (by omega))
        clear hY
        go_wp2_with fail
        go_quiet (fail)
        clear q1 q2 q3 q4 q5 q6 q7 q8
        go_wp2_with fail
        go_ret
        exact ⟨q, rfl, HEnd.out, below_drewN hb _⟩

/-! ### A part of an owned row -/
theorem part_at {L N P H : List Nat} {k : Nat} (hN : N.length = k) (hk : k < P.length) : (L ++ (N ++ P.drop k) ++ H).getD (L.length + k) 0 = P.getD k 0 := by
  simp only [List.getD]
  rw [List.getElem?_append_left (by simp; omega), List.getElem?_append_right (by omega), Nat.add_sub_cancel_left, List.getElem?_append_right (by omega), hN, Nat.sub_self, List.getElem?_drop, Nat.add_zero]
theorem part_set {L N P H : List Nat} {k : Nat} (hN : N.length = k) (hk : k < P.length) (y : Nat) : (L ++ (N ++ P.drop k) ++ H).set (L.length + k) y = L ++ ((N ++ [y]) ++ P.drop (k + 1)) ++ H := by
  rw [List.set_append_left _ _ (by simp; omega), List.set_append_right _ _ (by omega), Nat.add_sub_cancel_left, List.set_append_right _ _ (by omega), hN, Nat.sub_self, drop_cons P k 0 hk, List.set_cons_zero]
  simp
theorem bor_form2 {x y c : Nat} (hx : x < 4294967296) (hy : y < 4294967296) (hc : c ≤ 1) : IntKind.u64.wrap (IntKind.u64.wrap ((x : Int) - y) - c) / 9223372036854775808 = (bor x y c : Nat) ∧
    IntKind.u64.wrap (IntKind.u64.wrap ((x : Int) - y) - c) % 4294967296 = (x + 4294967296 * bor x y c - y - c : Nat) := by
  simp only [IntKind.wrap_u64]
  unfold bor
  split <;> omega

theorem subm_end {P D M : List Nat} {k q c b d b' : Nat} (hM : M.length = k) (h : natOf M + q * natOf (D.take k) = natOf (P.take k) + 4294967296 ^ k * (c + b))
    (hd : d + c + b = P.getD k 0 + 4294967296 * b') (hD : D.length ≤ k) (hP : P.length = k + 1) : natOf (M ++ [d]) + q * natOf D = natOf P + 4294967296 ^ (k + 1) * b' := by
  have e := natOf_take_s P k
  rw [List.take_of_length_le (by omega : P.length ≤ k + 1)] at e
  rw [List.take_of_length_le hD] at h
  rw [natOf_snoc, hM, e]
  have e1 : 4294967296 ^ k * (d + c + b) = 4294967296 ^ k * (P.getD k 0 + 4294967296 * b') := by rw [hd]
  rw [Nat.pow_succ, Nat.mul_assoc]
  simp only [Nat.mul_add] at e1 h ⊢
  omega

/-- what subtracting a multiple leaves -/
def SubPost (w : World) (B g N c : Nat) (L P H D : List Nat) (q n : Nat) (e : Ending) (w' : World) : Prop :=
  ∃ (P' : List Nat) (neg : Bool), e = .returned (.bool neg) ∧ P'.length = n + 1 ∧ Lim P' ∧ natOf P' + q * natOf D = natOf P + 4294967296 ^ (n + 1) * (if neg then 1 else 0) ∧
    Owns w' B 67 (.slice (some ⟨g, 0, none⟩) N c) (lvs (L ++ P' ++ H)) ∧ Grew w w' (.slice (some ⟨g, 0, none⟩) N c) (.slice (some ⟨g, 0, none⟩) N c)

set_option maxHeartbeats 2000000 in
theorem subm_any (L P H D : List Nat) (B g N c j n pc cap' q : Nat) (a' : Option Addr) (w : World) (hO : Owns w B 67 (.slice (some ⟨g, 0, none⟩) N c) (lvs (L ++ P ++ H))) (hL : L.length = j) (hP : P.length = n + 1) (hPl : Lim P)
    (hpc : n + 1 ≤ pc) (hpm : pc ≤ 9223372036854775807) (hD : Limbs w a' n cap' D) (hoff : Off g (.slice a' n cap')) (hq : q < 4294967296) :
    Calls Tryz.prog 123 #[.slice (some ⟨g, j, none⟩) (n + 1) pc, .slice a' n cap', .int .u64 (q : Int)] w (SubPost w B g N c L P H D q n) := by
  have HO := Lib.hid hO
  have HPn := Lib.hid hP
  have HPl := Lib.hid hPl
  have HDl := Lib.hid hD
  have HOff := Lib.hid (show ∀ g', (Value.slice (some ⟨g, 0, none⟩) N c).ownBlock = some g' → Off g' (.slice a' n cap') from fun g' h => by cases h; exact hoff)
  have hNl : j + (n + 1) ≤ N := by
    have := hO.len
    rw [lvs_length] at this
    simp at this
    omega
  subst hL
  clear hO hP hPl hD hoff
  go_enter Tryz.func123, Tryz.ntmps123
  go_wp2_with fail
  go_loopw [7, 8, 16] (fun cv bv i wr => ∃ (k cc b : Nat) (M : List Nat), k ≤ n ∧ i = .int .i64 (k : Int) ∧ cv = .int .u64 (cc : Int) ∧ bv = .int .u64 (b : Int) ∧ cc < 4294967296 ∧ b ≤ 1 ∧ Hid (M.length = k) ∧ Hid (Lim M) ∧ Hid (natOf M + q * natOf (D.take k) = natOf (P.take k) + 4294967296 ^ k * (cc + b)) ∧ Hid (Owns wr B 67 (.slice (some ⟨g, 0, none⟩) N c) (lvs (L ++ (M ++ P.drop k) ++ H))) ∧ Hid (Grew w wr (.slice (some ⟨g, 0, none⟩) N c) (.slice (some ⟨g, 0, none⟩) N c))) (fun _ _ i _ => n - (intOf i).toNat)
  case atStart => exact ⟨0, 0, 0, [], by omega, rfl, rfl, rfl, by omega, by omega, rfl, lim_nil, by simp [Hid, natOf], by simpa [Hid] using HO.out, Grew.refl _ _⟩
  case round =>
    obtain ⟨k, cc, b, M, hk, rfl, rfl, rfl, hcc, hbb, HM, HMl, HE, HOk, HG⟩ := hrel
    have HDr := Lib.hid (HDl.out.grew HG.out HOff.out)
    have hp1 := HPl.out.getD k
    have c3 := HOk.out.cell (L.length + k) (by omega)
    have c4 := HOk.out.free (L.length + k)
    rw [lvs_at _ _ (by simp; rw [HM.out, HPn.out]; omega), part_at HM.out (by rw [HPn.out]; omega)] at c3
    unfold lv at c3
    by_cases hlt : k < n
    · obtain ⟨bb, off, rfl, _, hcc'⟩ := HDr.out.2.2.at (k := k) hlt
      have c1 := hcc' k hlt wr (Below.refl _ _)
      clear hcc'
      have hd1 := HDr.out.2.1.getD k
      have hX := mul_carry hq hd1 (show (0 : Nat) < 4294967296 by omega) hcc
      have hxb := prod_bound hq hd1
      have q6 := mul_wrap hxb
      obtain ⟨X, hXX⟩ : ∃ X, X = q * D.getD k 0 := ⟨_, rfl⟩
      rw [← hXX] at q6 hX hxb
      rw [Nat.add_zero] at hX
      obtain ⟨hX1, hX2⟩ := hX
      have hpm1 : (X + cc) % 4294967296 < 4294967296 := Nat.mod_lt _ (by omega)
      have HBE := Lib.hid (bor_eq hp1 hpm1 hbb)
      have HFm := bor_form2 hp1 hpm1 hbb
      have HE1 := Lib.hid (subm_step (p := X + cc) HM.out HE.out (by rw [hXX]) HBE.out.1 rfl)
      have hS := HOk.out.store (L.length + k) (lv (P.getD k 0 + 4294967296 * bor (P.getD k 0) ((X + cc) % 4294967296) b - (X + cc) % 4294967296 - b))
      rw [lvs_set, part_set HM.out (by rw [HPn.out]; omega)] at hS
      have HS1 := Lib.hid hS
      have HG1 := Lib.hid (HG.out.trans (HOk.out.grewSet (L.length + k) (lv (P.getD k 0 + 4294967296 * bor (P.getD k 0) ((X + cc) % 4294967296) b - (X + cc) % 4294967296 - b))))
      have hbl := bor_le (P.getD k 0) ((X + cc) % 4294967296) b
      clear hS hXX
      generalize P.getD k 0 = x at *
      generalize D.getD k 0 = d at *
      rw [show (((X + cc) % 4294967296 : Nat) : Int) = ((X : Int) + cc) % 4294967296 by omega] at HFm
      have HF1 := Lib.hid HFm.1
      have HF2 := Lib.hid HFm.2
      clear HFm
      go_wp2_with fail
      rw [HF1.out, HF2.out]
      go_roundw
      case rel => exact ⟨k + 1, (X + cc) / 4294967296, bor x ((X + cc) % 4294967296) b, M ++ [x + 4294967296 * bor x ((X + cc) % 4294967296) b - (X + cc) % 4294967296 - b], by omega, by go_num, by go_num, rfl, hX2, hbl, by unfold Hid; simp [HM.out], HMl.out.snoc HBE.out.2, HE1, HS1, HG1⟩
      case measure => simp [intOf]; omega
    · obtain rfl : k = n := by omega
      have HBE := Lib.hid (bor_eq hp1 hcc hbb)
      have HFm := Lib.hid (bor_form2 hp1 hcc hbb)
      have HEnd := Lib.hid (subm_end HM.out HE.out HBE.out.1 (by rw [HDr.out.1]; omega) HPn.out)
      have hS := HOk.out.store (L.length + k) (lv (P.getD k 0 + 4294967296 * bor (P.getD k 0) cc b - cc - b))
      rw [lvs_set, part_set HM.out (by rw [HPn.out]; omega), List.drop_of_length_le (by rw [HPn.out]; omega), List.append_nil] at hS
      have HS1 := Lib.hid hS
      have HG1 := Lib.hid (HG.out.trans (HOk.out.grewSet (L.length + k) (lv (P.getD k 0 + 4294967296 * bor (P.getD k 0) cc b - cc - b))))
      clear hS
      generalize P.getD k 0 = x at *
      have HFin := Lib.hid (show ∀ neg : Bool, (if neg then 1 else 0) = bor x cc b → SubPost w B g N c L P H D q k (.returned (.bool neg)) (wr.setCell ⟨g, L.length + k, none⟩ (lv (x + 4294967296 * bor x cc b - cc - b))) from fun neg hneg => ⟨M ++ [x + 4294967296 * bor x cc b - cc - b], neg, rfl, by simp [HM.out], HMl.out.snoc HBE.out.2, by rw [hneg]; exact HEnd.out, HS1.out, HG1.out⟩)
      by_cases hneg : x < cc + b
      · have HB1 := Lib.hid (show bor x cc b = 1 by simp [bor, hneg])
        have d1 : (IntKind.u64.wrap (IntKind.u64.wrap ((x : Int) - cc) - b) / 9223372036854775808 != 0) = true := by rw [HFm.out.1, HB1.out]; rfl
        go_wp2_with fail
        rw [HFm.out.2]
        go_ret
        exact HFin.out true (by rw [HB1.out]; rfl)
      · have HB1 := Lib.hid (show bor x cc b = 0 by simp [bor, hneg])
        have d1 : (((x : Int) - cc - b) / 9223372036854775808 != 0) = false := by
          have : ((x : Int) - cc - b) / 9223372036854775808 = 0 := by omega
          simpa using this
        have HV := Lib.hid (show ((x : Int) - cc - b) = ((x + 4294967296 * bor x cc b - cc - b : Nat) : Int) by rw [HB1.out]; omega)
        go_wp2_with fail
        rw [HV.out]
        go_ret
        exact HFin.out false (by rw [HB1.out]; rfl)

theorem addb_end {P D M : List Nat} {k c : Nat} (hM : M.length = k) (h : natOf M + 4294967296 ^ k * c = natOf (P.take k) + natOf (D.take k)) (hD : D.length ≤ k) (hP : P.length = k + 1) :
    natOf (M ++ [(P.getD k 0 + c) % 4294967296]) + 4294967296 ^ (k + 1) * ((P.getD k 0 + c) / 4294967296) = natOf P + natOf D := by
  have e := natOf_take_s P k
  rw [List.take_of_length_le (by omega : P.length ≤ k + 1)] at e
  rw [List.take_of_length_le hD] at h
  rw [natOf_snoc, hM, e, Nat.pow_succ, Nat.mul_assoc]
  have e1 : 4294967296 ^ k * (P.getD k 0 + c) = 4294967296 ^ k * ((P.getD k 0 + c) % 4294967296) + 4294967296 ^ k * (4294967296 * ((P.getD k 0 + c) / 4294967296)) := by rw [← Nat.mul_add, Nat.mod_add_div]
  rw [Nat.mul_add] at e1
  omega

/-- what adding back leaves -/
def AddPost (w : World) (B g N c : Nat) (L P H D : List Nat) (n : Nat) (e : Ending) (w' : World) : Prop :=
  ∃ (P' : List Nat) (x : Nat), e = .returned (.tuple #[]) ∧ P'.length = n + 1 ∧ Lim P' ∧ natOf P' + 4294967296 ^ (n + 1) * x = natOf P + natOf D ∧
    Owns w' B 67 (.slice (some ⟨g, 0, none⟩) N c) (lvs (L ++ P' ++ H)) ∧ Grew w w' (.slice (some ⟨g, 0, none⟩) N c) (.slice (some ⟨g, 0, none⟩) N c)

set_option maxHeartbeats 2000000 in
theorem addb_any (L P H D : List Nat) (B g N c j n pc cap' : Nat) (a' : Option Addr) (w : World) (hO : Owns w B 67 (.slice (some ⟨g, 0, none⟩) N c) (lvs (L ++ P ++ H))) (hL : L.length = j) (hP : P.length = n + 1) (hPl : Lim P)
    (hpc : n + 1 ≤ pc) (hpm : pc ≤ 9223372036854775807) (hD : Limbs w a' n cap' D) (hoff : Off g (.slice a' n cap')) :
    Calls Tryz.prog 124 #[.slice (some ⟨g, j, none⟩) (n + 1) pc, .slice a' n cap'] w (AddPost w B g N c L P H D n) := by
  have HO := Lib.hid hO
  have HPn := Lib.hid hP
  have HPl := Lib.hid hPl
  have HDl := Lib.hid hD
  have HOff := Lib.hid (show ∀ g', (Value.slice (some ⟨g, 0, none⟩) N c).ownBlock = some g' → Off g' (.slice a' n cap') from fun g' h => by cases h; exact hoff)
  have hNl : j + (n + 1) ≤ N := by
    have := hO.len
    rw [lvs_length] at this
    simp at this
    omega
  subst hL
  clear hO hP hPl hD hoff
  go_enter Tryz.func124, Tryz.ntmps124
  go_wp2_with fail
  go_loopw [4, 10] (fun cv i wr => ∃ (k cc : Nat) (M : List Nat), k ≤ n ∧ i = .int .i64 (k : Int) ∧ cv = .int .u64 (cc : Int) ∧ cc ≤ 1 ∧ Hid (M.length = k) ∧ Hid (Lim M) ∧ Hid (natOf M + 4294967296 ^ k * cc = natOf (P.take k) + natOf (D.take k)) ∧ Hid (Owns wr B 67 (.slice (some ⟨g, 0, none⟩) N c) (lvs (L ++ (M ++ P.drop k) ++ H))) ∧ Hid (Grew w wr (.slice (some ⟨g, 0, none⟩) N c) (.slice (some ⟨g, 0, none⟩) N c))) (fun _ i _ => n - (intOf i).toNat)
  case atStart => exact ⟨0, 0, [], by omega, rfl, rfl, by omega, rfl, lim_nil, by simp [Hid, natOf], by simpa [Hid] using HO.out, Grew.refl _ _⟩
  case round =>
    obtain ⟨k, cc, M, hk, rfl, rfl, hcc, HM, HMl, HE, HOk, HG⟩ := hrel
    have HDr := Lib.hid (HDl.out.grew HG.out HOff.out)
    have hp1 := HPl.out.getD k
    have c3 := HOk.out.cell (L.length + k) (by omega)
    have c4 := HOk.out.free (L.length + k)
    rw [lvs_at _ _ (by simp; rw [HM.out, HPn.out]; omega), part_at HM.out (by rw [HPn.out]; omega)] at c3
    unfold lv at c3
    by_cases hlt : k < n
    · obtain ⟨bb, off, rfl, _, hcc'⟩ := HDr.out.2.2.at (k := k) hlt
      have c1 := hcc' k hlt wr (Below.refl _ _)
      clear hcc'
      have hd1 := HDr.out.2.1.getD k
      have HE1 := Lib.hid (addb_step (t := P.getD k 0 + D.getD k 0 + cc) HM.out HE.out rfl)
      have hS := HOk.out.store (L.length + k) (lv ((P.getD k 0 + D.getD k 0 + cc) % 4294967296))
      rw [lvs_set, part_set HM.out (by rw [HPn.out]; omega)] at hS
      have HS1 := Lib.hid hS
      have HG1 := Lib.hid (HG.out.trans (HOk.out.grewSet (L.length + k) (lv ((P.getD k 0 + D.getD k 0 + cc) % 4294967296))))
      clear hS
      generalize P.getD k 0 = x at *
      generalize D.getD k 0 = d at *
      go_wp2_with fail
      go_roundw
      case rel => exact ⟨k + 1, (x + d + cc) / 4294967296, M ++ [(x + d + cc) % 4294967296], by omega, by go_num, by go_num, by omega, by unfold Hid; simp [HM.out], HMl.out.snoc (by omega), HE1, HS1, HG1⟩
      case measure => simp [intOf]; omega
    · obtain rfl : k = n := by omega
      have HEnd := Lib.hid (addb_end HM.out HE.out (by rw [HDr.out.1]; omega) HPn.out)
      have hS := HOk.out.store (L.length + k) (lv ((P.getD k 0 + cc) % 4294967296))
      rw [lvs_set, part_set HM.out (by rw [HPn.out]; omega), List.drop_of_length_le (by rw [HPn.out]; omega), List.append_nil] at hS
      have HS1 := Lib.hid hS
      have HG1 := Lib.hid (HG.out.trans (HOk.out.grewSet (L.length + k) (lv ((P.getD k 0 + cc) % 4294967296))))
      clear hS
      generalize P.getD k 0 = x at *
      go_wp2_with fail
      go_end0
      exact ⟨M ++ [(x + cc) % 4294967296], (x + cc) / 4294967296, rfl, by simp [HM.out], HMl.out.snoc (by omega), HEnd.out, HS1.out, HG1.out⟩

end Go.Proofs.YtahmndacoanfiaaGreat
