/- Integers of any size: what integer.Make, Of, Sign, Mul and Cmp return. Condition: the limbs can be read, and take at most 2^47 bytes. -/
import Derived.Test.YtahmndacoanfiaaGreatNatC
import Derived.Test.YtahmndacoanfiaaGreatNatOff
import Derived.Test.YtahmndacoanfiaaGreatMix
namespace Go.Proofs.YtahmndacoanfiaaGreat
set_option maxRecDepth 100000
open Go.RowKit

/-- an integer with sign and magnitude -/
def sgn (neg : Bool) (m : Nat) : Int := if neg then -(m : Int) else (m : Int)
/-- an integer in normal form, in new memory -/
def IntN (B : Nat) (w : World) (v : Value) (z : Int) : Prop := ∃ a len cap, v = .agg #[.bool (decide (z < 0)), .slice a len cap] ∧ Limbs w a len cap (digs z.natAbs) ∧ New B (.slice a len cap)
theorem IntN.below {B : Nat} {w w' : World} {v : Value} {z : Int} (h : IntN B w v z) (hb : Below w.heap.size w w') : IntN B w' v z := by
  obtain ⟨a, len, cap, rfl, h, hn⟩ := h
  exact ⟨a, len, cap, rfl, h.below hb, hn⟩
theorem IntN.mono {B B' : Nat} {w : World} {v : Value} {z : Int} (h : IntN B w v z) (hB : B' ≤ B) : IntN B' w v z := by
  obtain ⟨a, len, cap, rfl, h, hn⟩ := h
  exact ⟨a, len, cap, rfl, h, hn.mono hB⟩
theorem sgn_abs (neg : Bool) (m : Nat) : (sgn neg m).natAbs = m := by cases neg <;> simp [sgn]
theorem sgn_neg (neg : Bool) (m : Nat) : decide (sgn neg m < 0) = (neg && decide (0 < m)) := by
  cases neg <;> simp [sgn]
/-- cells and marks of a block that a later world has left alone -/
theorem bcell {W w1 : World} (hb : Below W.heap.size W w1) (g : Nat) (hg : g < W.heap.size) : (∀ o, w1.cell? ⟨g, o, none⟩ = W.cell? ⟨g, o, none⟩) ∧ (∀ o, w1.frozen? ⟨g, o, none⟩ = W.frozen? ⟨g, o, none⟩) :=
  ⟨fun o => hb.cell (p := ⟨g, o, none⟩) hg, fun o => hb.frozen (p := ⟨g, o, none⟩) hg⟩

set_option maxHeartbeats 400000 in
theorem imake_any (neg : Bool) (xs : List Nat) (a : Option Addr) (len cap : Nat) (w : World) (hx : Limbs w a len cap xs) (hm : len * 4 ≤ 140737488355328) :
    Calls Tryz.prog 82 #[.bool neg, .slice a len cap] w fun e w' => ∃ v, e = .returned v ∧ IntN w.heap.size w' v (sgn neg (natOf xs)) ∧ Below w.heap.size w w' := by
  have HX := Lib.hid (hx.below ((Below.refl w.heap.size w).alloc (Nat.le_refl _) (.cells #[.bool false, .slice none 0 0] 26)))
  clear hx
  go_enter Tryz.func82, Tryz.ntmps82
  go_wp2_with fail
  refine (norm_new _ _ _ _ _ HX.out hm).mono ?_
  rintro e w1 ⟨v1, rfl, ⟨⟨a1, n1, c1, rfl, hN⟩, hnew⟩, hb1⟩
  obtain ⟨hc, hf⟩ := bcell hb1 w.heap.size (by simp)
  have HOff := Lib.hid (hnew.off (g := w.heap.size) (by simp))
  have HNew := Lib.hid (hnew.mono (B' := w.heap.size) (by simp))
  have HN := Lib.hid hN
  have HZ := Lib.hid (show decide (0 < n1) = decide (0 < natOf xs) by
    have h1 := hN.1
    have h2 := digs_len_zero (n := natOf xs)
    rw [h1] at h2
    by_cases h : n1 = 0
    · rw [h, h2.1 h]
    · have : natOf xs ≠ 0 := fun h' => h (h2.2 h')
      rw [decide_eq_true (by omega), decide_eq_true (by omega)])
  have HB := Lib.hid (((Below.refl w.heap.size w).alloc (Nat.le_refl _) (.cells #[.bool false, .slice none 0 0] 26)).trans (hb1.mono (by simp)))
  have HFin := Lib.hid (show ∀ b, b = decide (sgn neg (natOf xs) < 0) → IntN w.heap.size ((w1.setCell ⟨w.heap.size, 0, none⟩ (.bool b)).setCell ⟨w.heap.size, 1, none⟩ (.slice a1 n1 c1)) (.agg #[.bool b, .slice a1 n1 c1]) (sgn neg (natOf xs)) from fun b hb => ⟨a1, n1, c1, by rw [hb], by rw [sgn_abs]; exact (HN.out.off HOff.out 0 _).off HOff.out 1 _, HNew.out⟩)
  have HSg := Lib.hid (sgn_neg neg (natOf xs))
  clear hN hnew
  cases neg
  · go_wp2_with fail
    refine bodyPost_ret (v := .agg #[.bool false, .slice a1 n1 c1]) (by simp [results, Tryz.results82, go_sem, hc]) rfl ⟨_, rfl, HFin.out false (by rw [HSg.out]; rfl), (HB.out.setCell (Nat.le_refl _) _).setCell (Nat.le_refl _) _⟩
  · go_wp2_with fail
    refine bodyPost_ret (v := .agg #[.bool (decide (0 < n1)), .slice a1 n1 c1]) (by simp [results, Tryz.results82, go_sem, hc]) rfl ⟨_, rfl, HFin.out _ (by rw [HSg.out, HZ.out]; rfl), (HB.out.setCell (Nat.le_refl _) _).setCell (Nat.le_refl _) _⟩

/-- an integer as it came in -/
def IntR (w : World) (v : Value) (z : Int) (L : Nat) : Prop := ∃ neg a len cap xs, v = .agg #[.bool neg, .slice a len cap] ∧ Limbs w a len cap xs ∧ sgn neg (natOf xs) = z ∧ len ≤ L
theorem IntR.below {w w' : World} {v : Value} {z : Int} {L : Nat} (h : IntR w v z L) (hb : Below w.heap.size w w') : IntR w' v z L := by
  obtain ⟨neg, a, len, cap, xs, rfl, h, hz, hl⟩ := h
  exact ⟨neg, a, len, cap, xs, rfl, h.below hb, hz, hl⟩
theorem IntR.mono {w : World} {v : Value} {z : Int} {L L' : Nat} (h : IntR w v z L) (hL : L ≤ L') : IntR w v z L' := by
  obtain ⟨neg, a, len, cap, xs, rfl, h, hz, hl⟩ := h
  exact ⟨neg, a, len, cap, xs, rfl, h, hz, Nat.le_trans hl hL⟩
theorem IntN.raw {B : Nat} {w : World} {v : Value} {z : Int} (h : IntN B w v z) (L : Nat) (hL : (digs z.natAbs).length ≤ L) : IntR w v z L := by
  obtain ⟨a, len, cap, rfl, h, _⟩ := h
  refine ⟨_, a, len, cap, _, rfl, h, ?_, by rw [← h.1]; exact hL⟩
  rw [natOf_digs]
  unfold sgn
  by_cases hz : z < 0
  · simp [hz]; omega
  · simp [hz]; omega

theorem imake_num (neg : Bool) (v : Value) (n : Nat) (w : World) (hv : Num w v n) (hm : (digs n).length * 4 ≤ 140737488355328) :
    Calls Tryz.prog 82 #[.bool neg, v] w fun e w' => ∃ v, e = .returned v ∧ IntN w.heap.size w' v (sgn neg n) ∧ Below w.heap.size w w' := by
  obtain ⟨a, len, cap, rfl, hv⟩ := hv
  have := imake_any neg _ _ _ _ w hv (by rw [← hv.1]; exact hm)
  rwa [natOf_digs] at this
/-- an integer that is laid into a block that was there before -/
theorem int_store {B B' g : Nat} {w : World} {b : Bool} {a : Option Addr} {n c : Nat} {z : Int} (h : IntN B w (.agg #[.bool b, .slice a n c]) z) (hg : g < B) (hB : B' ≤ B) :
    IntN B' ((w.setCell ⟨g, 0, none⟩ (.bool b)).setCell ⟨g, 1, none⟩ (.slice a n c)) (.agg #[.bool b, .slice a n c]) z := by
  obtain ⟨a', n', c', e, h1, h2⟩ := h
  cases e
  exact ⟨a, n, c, rfl, (h1.off (h2.off hg) 0 _).off (h2.off hg) 1 _, h2.mono hB⟩

set_option maxHeartbeats 400000 in
theorem iof_any (n : Int) (w : World) (h1 : -9223372036854775808 ≤ n) (h2 : n ≤ 9223372036854775807) :
    Calls Tryz.prog 74 #[.int .i64 n] w fun e w' => ∃ v, e = .returned v ∧ IntN w.heap.size w' v n ∧ Below w.heap.size w w' := by
  have hb0 : Below w.heap.size w (w.alloc (.cells #[.bool false, .slice none 0 0] 26)) := (Below.refl _ _).alloc (Nat.le_refl _) _
  by_cases hn : n < 0
  case' pos =>
    obtain ⟨m, hm⟩ : ∃ m : Nat, (m : Int) = -n := ⟨(-n).toNat, by omega⟩
    have HM := Lib.hid (show IntKind.u64.wrap (-(IntKind.u64.wrap n)) = (m : Int) by simp only [IntKind.wrap_u64]; omega)
    have HZ := Lib.hid (show sgn true m = n by simp [sgn]; omega)
    have hm2 : m < 18446744073709551616 := by omega
    clear hm
  case' neg =>
    obtain ⟨m, hm⟩ : ∃ m : Nat, (m : Int) = n := ⟨n.toNat, by omega⟩
    have HM := Lib.hid (show n = (m : Int) by omega)
    have HZ := Lib.hid (show sgn false m = n by simp [sgn]; omega)
    have hm2 : m < 18446744073709551616 := by omega
    clear hm
  all_goals
    go_enter Tryz.func74, Tryz.ntmps74
    go_wp2_with fail
    rw [HM.out]
    refine (of_any m hm2 _).mono ?_
    rintro e w1 ⟨v1, rfl, hv1, hb1⟩
    have HV1 := Lib.hid hv1
    have HLn := Lib.hid (show (digs m).length ≤ 2 from digs_length_le (by simpa using hm2))
    clear hv1
    go_wp2_with fail
    refine (imake_num _ v1 m _ HV1.out (by have := HLn.out; omega)).mono ?_
    rintro e w2 ⟨v2, rfl, hv2, hb2⟩
    rw [HZ.out] at hv2
    obtain ⟨a2, n2, c2, rfl, hl2, hnew2⟩ := hv2
    have hb12 := hb1.trans (hb2.mono hb1.size)
    obtain ⟨hc, hf⟩ := bcell hb12 w.heap.size (by simp)
    have HB := Lib.hid (hb0.trans (hb12.mono (by simp)))
    have HFin := Lib.hid (int_store (B' := w.heap.size) (g := w.heap.size) ⟨a2, n2, c2, rfl, hl2, hnew2⟩ (by have := hb1.size; simp at this; omega) (by have := hb1.size; simp at this; omega))
    clear hl2 hnew2
    generalize decide (n < 0) = dn at *
    go_wp2_with fail
    exact bodyPost_ret (v := .agg #[.bool dn, .slice a2 n2 c2]) (by simp [results, Tryz.results74, go_sem, hc]) rfl ⟨_, rfl, HFin.out, (HB.out.setCell (Nat.le_refl _) _).setCell (Nat.le_refl _) _⟩

theorem sign_cmp (neg : Bool) (m : Nat) : (if neg then -(cmpI m 0) else cmpI m 0) = (sgn neg m).sign := by
  rcases Nat.eq_zero_or_pos m with h | h
  · subst h; cases neg <;> simp [sgn, cmpI]
  · have h1 : cmpI m 0 = 1 := cmpI_gt h
    rw [h1]
    cases neg
    · simp only [sgn, Bool.false_eq_true, if_false]
      rw [Int.sign_eq_one_of_pos (by omega)]
    · simp only [sgn, if_true]
      rw [Int.sign_eq_neg_one_of_neg (by omega)]
set_option maxHeartbeats 400000 in
theorem isign_any (v : Value) (z : Int) (L : Nat) (w : World) (hv : IntR w v z L) :
    Calls Tryz.prog 57 #[v] w fun e w' => e = .returned (.int .i64 z.sign) ∧ Below w.heap.size w w' := by
  obtain ⟨neg, a, len, cap, xs, rfl, hl, rfl, _⟩ := hv
  have hb0 : Below w.heap.size w (w.alloc (.cells #[.bool neg, .slice a len cap] 26)) := (Below.refl _ _).alloc (Nat.le_refl _) _
  have HX := Lib.hid (hl.below hb0)
  have HS := Lib.hid (sign_cmp neg (natOf xs))
  clear hl
  go_enter Tryz.func57, Tryz.ntmps57
  go_wp2_with fail
  refine (cmp_any xs [] _ _ _ _ _ _ _ HX.out (limbs_nil _)).mono ?_
  rintro e w1 ⟨rfl, hb1⟩
  obtain ⟨hc, hf⟩ := bcell hb1 w.heap.size (by simp)
  have hb01 := hb0.trans (hb1.mono (by simp))
  have hcv : -1 ≤ cmpI (natOf xs) 0 ∧ cmpI (natOf xs) 0 ≤ 1 := by rcases cmpI_cases (natOf xs) 0 with h | h | h <;> omega
  have HN0 : natOf [] = 0 := rfl
  rw [HN0]
  generalize cmpI (natOf xs) 0 = cv at *
  obtain ⟨hcv1, hcv2⟩ := hcv
  cases neg
  · have HS' := Lib.hid (show (sgn false (natOf xs)).sign = cv by rw [← HS.out]; rfl)
    go_wp2_with fail
    go_ret
    exact ⟨by rw [HS'.out]; rfl, hb01⟩
  · have HS' := Lib.hid (show (sgn true (natOf xs)).sign = -cv by rw [← HS.out]; rfl)
    go_wp2_with fail
    go_ret
    exact ⟨by rw [HS'.out]; rfl, hb01⟩

theorem sgn_mul (b c : Bool) (m n : Nat) : sgn (!(b == c)) (m * n) = sgn b m * sgn c n := by
  cases b <;> cases c <;> simp [sgn, Int.neg_mul, Int.mul_neg]

set_option maxHeartbeats 1000000 in
theorem imul_any (v u : Value) (y z : Int) (L M : Nat) (w : World) (hv : IntR w v y L) (hu : IntR w u z M) (hm : (L + M) * 4 ≤ 140737488355328) :
    Calls Tryz.prog 52 #[v, u] w fun e w' => ∃ r, e = .returned r ∧ IntN w.heap.size w' r (y * z) ∧ Below w.heap.size w w' := by
  obtain ⟨neg, a, len, cap, xs, rfl, hl, rfl, hlL⟩ := hv
  obtain ⟨neg', a', len', cap', xs', rfl, hl', rfl, hlM⟩ := hu
  go_enter Tryz.func52, Tryz.ntmps52
  go_wp2_with fail
  have hsz : (((w.alloc (.cells #[.bool neg, .slice a len cap] 26)).alloc (.cells #[.bool neg', .slice a' len' cap'] 26)).alloc (.cells #[.bool false, .slice none 0 0] 26)).heap.size = w.heap.size + 3 := by simp
  have hb03 : Below w.heap.size w (((w.alloc (.cells #[.bool neg, .slice a len cap] 26)).alloc (.cells #[.bool neg', .slice a' len' cap'] 26)).alloc (.cells #[.bool false, .slice none 0 0] 26)) := ((((Below.refl _ _).alloc (Nat.le_refl _) _).alloc (by simp) _).alloc (by simp; omega) _)
  have g00 : (((w.alloc (.cells #[.bool neg, .slice a len cap] 26)).alloc (.cells #[.bool neg', .slice a' len' cap'] 26)).alloc (.cells #[.bool false, .slice none 0 0] 26)).cell? ⟨w.heap.size, 0, none⟩ = some (.bool neg) := by go_simp
  have g01 : (((w.alloc (.cells #[.bool neg, .slice a len cap] 26)).alloc (.cells #[.bool neg', .slice a' len' cap'] 26)).alloc (.cells #[.bool false, .slice none 0 0] 26)).cell? ⟨w.heap.size, 1, none⟩ = some (.slice a len cap) := by go_simp
  have g10 : (((w.alloc (.cells #[.bool neg, .slice a len cap] 26)).alloc (.cells #[.bool neg', .slice a' len' cap'] 26)).alloc (.cells #[.bool false, .slice none 0 0] 26)).cell? ⟨w.heap.size + 1, 0, none⟩ = some (.bool neg') := by go_simp
  have g11 : (((w.alloc (.cells #[.bool neg, .slice a len cap] 26)).alloc (.cells #[.bool neg', .slice a' len' cap'] 26)).alloc (.cells #[.bool false, .slice none 0 0] 26)).cell? ⟨w.heap.size + 1, 1, none⟩ = some (.slice a' len' cap') := by go_simp
  have r0 : (((w.alloc (.cells #[.bool neg, .slice a len cap] 26)).alloc (.cells #[.bool neg', .slice a' len' cap'] 26)).alloc (.cells #[.bool false, .slice none 0 0] 26)).cell? ⟨w.heap.size + 1 + 1, 0, none⟩ = some (.bool false) := by go_simp
  have r1 : (((w.alloc (.cells #[.bool neg, .slice a len cap] 26)).alloc (.cells #[.bool neg', .slice a' len' cap'] 26)).alloc (.cells #[.bool false, .slice none 0 0] 26)).cell? ⟨w.heap.size + 1 + 1, 1, none⟩ = some (.slice none 0 0) := by go_simp
  have rf : ∀ o, (((w.alloc (.cells #[.bool neg, .slice a len cap] 26)).alloc (.cells #[.bool neg', .slice a' len' cap'] 26)).alloc (.cells #[.bool false, .slice none 0 0] 26)).frozen? ⟨w.heap.size + 1 + 1, o, none⟩ = false := fun o => by go_simp
  generalize (((w.alloc (.cells #[.bool neg, .slice a len cap] 26)).alloc (.cells #[.bool neg', .slice a' len' cap'] 26)).alloc (.cells #[.bool false, .slice none 0 0] 26)) = w3 at *
  have e00 : ∀ W : Ext (w.heap.size + 2) w3, W.1.cell? ⟨w.heap.size, 0, none⟩ = some (.bool neg) := fun W => by rw [W.2.cell (p := ⟨w.heap.size, 0, none⟩) (by simp)]; exact g00
  have e01 : ∀ W : Ext (w.heap.size + 2) w3, W.1.cell? ⟨w.heap.size, 1, none⟩ = some (.slice a len cap) := fun W => by rw [W.2.cell (p := ⟨w.heap.size, 1, none⟩) (by simp)]; exact g01
  have e10 : ∀ W : Ext (w.heap.size + 2) w3, W.1.cell? ⟨w.heap.size + 1, 0, none⟩ = some (.bool neg') := fun W => by rw [W.2.cell (p := ⟨w.heap.size + 1, 0, none⟩) (by simp)]; exact g10
  have e11 : ∀ W : Ext (w.heap.size + 2) w3, W.1.cell? ⟨w.heap.size + 1, 1, none⟩ = some (.slice a' len' cap') := fun W => by rw [W.2.cell (p := ⟨w.heap.size + 1, 1, none⟩) (by simp)]; exact g11
  have HX := Lib.hid (hl.below hb03.drew)
  have HY := Lib.hid (hl'.below hb03.drew)
  have HSz := Lib.hid hsz
  have HR0 := Lib.hid r0
  have HR1 := Lib.hid r1
  have HRf := Lib.hid rf
  clear hl hl' g00 g01 g10 g11 r0 r1 rf hsz
  refine wp_region_sched [(0, false), (1, false), (2, false), (3, false), (4, false), (5, false), (6, false), (7, false), (8, false), (9, true), (10, true), (11, true)] (fun w' => ∃ W : Ext (w.heap.size + 2) w3, w' = W.1) (by kernel_rfl) (by kernel_rfl) ⟨⟨w3.drew, (Below.refl _ _).drew⟩, rfl⟩ ?_
  repeat (refine wpSched_calm rfl (fun K hK => ?_); go_simp; refine hK _ ?_; clear hK K)
  clear e00 e01 e10 e11
  have HBd := Lib.hid (show Below w3.heap.size w3 w3.drew from (Below.refl _ _).drew)
  generalize w3.drew = wd at *
  refine wpSched_eff rfl rfl (fun K hK => ?_)
  go_simp
  refine (mul_any _ _ _ _ _ _ _ _ _ HX.out HY.out (by omega)).mono ?_
  rintro e w4 ⟨v4, rfl, hv4, hb4⟩
  have HV4 := Lib.hid hv4
  have HB4 := Lib.hid (HBd.out.trans (hb4.mono HBd.out.size))
  refine hK _ _ ⟨⟨w4, HB4.out.mono (by have := HSz.out; omega)⟩, rfl⟩ ?_
  clear hK K hv4 hb4
  have HPl := Lib.hid (show (digs (natOf xs * natOf xs')).length ≤ len + len' by
    refine digs_length_le ?_
    rw [Nat.pow_add]
    have h1 := natOf_lt HX.out.2.1
    have h2 := natOf_lt HY.out.2.1
    rw [HX.out.1] at h1
    rw [HY.out.1] at h2
    exact Nat.mul_lt_mul_of_lt_of_le h1 (Nat.le_of_lt h2) (by omega))
  refine wpSched_eff rfl rfl (fun K hK => ?_)
  go_simp
  refine (imake_num _ _ _ _ HV4.out (by have := HPl.out; omega)).mono ?_
  rintro e w5 ⟨v5, rfl, hv5, hb5⟩
  rw [sgn_mul] at hv5
  obtain ⟨a5, n5, c5, rfl, hl5, hnew5⟩ := hv5
  have hs4 : w.heap.size + 3 ≤ w4.heap.size := by have := HSz.out; have := HB4.out.size; omega
  have HFin := Lib.hid (int_store (B' := w.heap.size) (g := w.heap.size + 1 + 1) ⟨a5, n5, c5, rfl, hl5, hnew5⟩ (by omega) (by omega))
  have hb35 := HB4.out.trans (hb5.mono HB4.out.size)
  obtain ⟨hc, hf⟩ := bcell hb35 (w.heap.size + 1 + 1) (by have := HSz.out; omega)
  have r0 : w5.cell? ⟨w.heap.size + 1 + 1, 0, none⟩ = some (.bool false) := by rw [hc]; exact HR0.out
  have r1 : w5.cell? ⟨w.heap.size + 1 + 1, 1, none⟩ = some (.slice none 0 0) := by rw [hc]; exact HR1.out
  have f0 : w5.frozen? ⟨w.heap.size + 1 + 1, 0, none⟩ = false := by rw [hf]; exact HRf.out 0
  have f1 : w5.frozen? ⟨w.heap.size + 1 + 1, 1, none⟩ = false := by rw [hf]; exact HRf.out 1
  have HB := Lib.hid (hb03.trans (hb35.mono hb03.size))
  have HBx := Lib.hid (show Below (w.heap.size + 2) w3 w5 from hb35.mono (by have := HSz.out; omega))
  refine hK _ _ ⟨⟨w5, HBx.out⟩, rfl⟩ ?_
  clear hK K hl5 hnew5 hb5 hc hf hb35
  generalize decide (sgn neg (natOf xs) * sgn neg' (natOf xs') < 0) = dn at *
  refine wpSched_eff rfl rfl (fun K hK => ?_)
  go_simp
  refine hK _ _ ⟨⟨_, (HBx.out.setCell (p := ⟨w.heap.size + 1 + 1, 0, none⟩) (by simp) _).setCell (p := ⟨w.heap.size + 1 + 1, 1, none⟩) (by simp) _⟩, rfl⟩ ?_
  clear hK K
  refine wpSched_nil ?_
  go_wp2_with fail
  exact bodyPost_ret (v := .agg #[.bool dn, .slice a5 n5 c5]) (by simp [results, Tryz.results52, go_sem, r0, r1]) rfl ⟨_, rfl, HFin.out, (HB.out.setCell (p := ⟨w.heap.size + 1 + 1, 0, none⟩) (by simp; omega) _).setCell (p := ⟨w.heap.size + 1 + 1, 1, none⟩) (by simp; omega) _⟩

theorem sign_lt {y z : Int} (h : y.sign < z.sign) : (y - z).sign = -1 := by
  refine Int.sign_eq_neg_one_of_neg ?_
  rcases Int.lt_trichotomy y 0 with h1 | h1 | h1 <;> rcases Int.lt_trichotomy z 0 with h2 | h2 | h2
  all_goals first | omega | skip
  · rw [Int.sign_eq_neg_one_of_neg h1, Int.sign_eq_neg_one_of_neg h2] at h; omega
  · subst h1; rw [Int.sign_eq_neg_one_of_neg h2] at h; simp at h
  · subst h1; subst h2; simp at h
  · rw [Int.sign_eq_one_of_pos h1, Int.sign_eq_neg_one_of_neg h2] at h; omega
  · subst h2; rw [Int.sign_eq_one_of_pos h1] at h; simp at h
  · rw [Int.sign_eq_one_of_pos h1, Int.sign_eq_one_of_pos h2] at h; omega
theorem sign_sub_swap (y z : Int) : (z - y).sign = -(y - z).sign := by rw [← Int.sign_neg]; congr 1; omega
theorem sign_same (b c : Bool) (m n : Nat) (h : (sgn b m).sign = (sgn c n).sign) : (sgn b m).sign * cmpI m n = (sgn b m - sgn c n).sign := by
  have key : ∀ b : Bool, 0 < m → 0 < n → (sgn b m).sign * cmpI m n = (sgn b m - sgn b n).sign := fun b hm hn => by
    cases b
    · simp only [sgn, Bool.false_eq_true, if_false]
      rw [Int.sign_eq_one_of_pos (by omega)]
      rcases cmpI_cases m n with ⟨h1, h2⟩ | ⟨h1, h2⟩ | ⟨h1, h2⟩
      · rw [h1, Int.sign_eq_neg_one_of_neg (by omega)]; rfl
      · rw [h1, Int.sign_eq_one_of_pos (by omega)]; rfl
      · rw [h1, show (m : Int) - n = 0 by omega]; rfl
    · simp only [sgn, if_true]
      rw [Int.sign_eq_neg_one_of_neg (by omega : (-(m : Int)) < 0)]
      rcases cmpI_cases m n with ⟨h1, h2⟩ | ⟨h1, h2⟩ | ⟨h1, h2⟩
      · rw [h1, Int.sign_eq_one_of_pos (by omega)]; rfl
      · rw [h1, Int.sign_eq_neg_one_of_neg (by omega)]; rfl
      · rw [h1, show -(m : Int) - -(n : Int) = 0 by omega]; rfl
  have zer : ∀ (b : Bool), sgn b 0 = 0 := fun b => by cases b <;> rfl
  have sg : ∀ (b : Bool) (m : Nat), 0 < m → (sgn b m).sign = if b then -1 else 1 := fun b m hm => by
    cases b
    · simp only [sgn, Bool.false_eq_true, if_false]; exact Int.sign_eq_one_of_pos (by omega)
    · simp only [sgn, if_true]; exact Int.sign_eq_neg_one_of_neg (by omega)
  rcases Nat.eq_zero_or_pos m with hm | hm <;> rcases Nat.eq_zero_or_pos n with hn | hn
  · subst hm; subst hn; rw [zer, zer]; rfl
  · subst hm; rw [zer, sg c n hn] at h; cases c <;> simp at h
  · subst hn; rw [zer, sg b m hm] at h; cases b <;> simp at h
  · rw [sg b m hm, sg c n hn] at h
    have hbc : b = c := by cases b <;> cases c <;> simp at h <;> rfl
    subst hbc
    exact key b hm hn
theorem sign_bd (z : Int) : -1 ≤ z.sign ∧ z.sign ≤ 1 := by
  rcases Int.lt_trichotomy z 0 with h | h | h
  · rw [Int.sign_eq_neg_one_of_neg h]; omega
  · subst h; simp
  · rw [Int.sign_eq_one_of_pos h]; omega

theorem wrap_sc {s c : Int} (h1 : -1 ≤ s) (h2 : s ≤ 1) (h3 : -1 ≤ c) (h4 : c ≤ 1) : wrap64 (s * c) = s * c := by
  have h5 : s = -1 ∨ s = 0 ∨ s = 1 := by omega
  have h6 : c = -1 ∨ c = 0 ∨ c = 1 := by omega
  rcases h5 with h | h | h <;> rcases h6 with h' | h' | h' <;> rw [h, h'] <;> unfold wrap64 <;> omega

set_option maxHeartbeats 1000000 in
theorem icmp_any (v u : Value) (y z : Int) (L M : Nat) (w : World) (hv : IntR w v y L) (hu : IntR w u z M) :
    Calls Tryz.prog 58 #[v, u] w fun e w' => e = .returned (.int .i64 (y - z).sign) ∧ Below w.heap.size w w' := by
  have HV := Lib.hid hv
  have HU := Lib.hid hu
  obtain ⟨neg, a, len, cap, xs, rfl, hl, hy, hlL⟩ := hv
  obtain ⟨neg', a', len', cap', xs', rfl, hl', hz, hlM⟩ := hu
  have hb02 : Below w.heap.size w ((w.alloc (.cells #[.bool neg, .slice a len cap] 26)).alloc (.cells #[.bool neg', .slice a' len' cap'] 26)) := (((Below.refl _ _).alloc (Nat.le_refl _) _).alloc (by simp) _)
  have hsz : ((w.alloc (.cells #[.bool neg, .slice a len cap] 26)).alloc (.cells #[.bool neg', .slice a' len' cap'] 26)).heap.size = w.heap.size + 2 := by simp
  have g00 : ((w.alloc (.cells #[.bool neg, .slice a len cap] 26)).alloc (.cells #[.bool neg', .slice a' len' cap'] 26)).cell? ⟨w.heap.size, 0, none⟩ = some (.bool neg) := by go_simp
  have g01 : ((w.alloc (.cells #[.bool neg, .slice a len cap] 26)).alloc (.cells #[.bool neg', .slice a' len' cap'] 26)).cell? ⟨w.heap.size, 1, none⟩ = some (.slice a len cap) := by go_simp
  have g10 : ((w.alloc (.cells #[.bool neg, .slice a len cap] 26)).alloc (.cells #[.bool neg', .slice a' len' cap'] 26)).cell? ⟨w.heap.size + 1, 0, none⟩ = some (.bool neg') := by go_simp
  have g11 : ((w.alloc (.cells #[.bool neg, .slice a len cap] 26)).alloc (.cells #[.bool neg', .slice a' len' cap'] 26)).cell? ⟨w.heap.size + 1, 1, none⟩ = some (.slice a' len' cap') := by go_simp
  have HSame := Lib.hid (fun h => sign_same neg neg' (natOf xs) (natOf xs') h)
  rw [hy, hz] at HSame
  have hs1 := sign_bd y
  have hs2 := sign_bd z
  have HY := Lib.hid hy
  have HZ := Lib.hid hz
  clear hy hz
  go_enter Tryz.func58, Tryz.ntmps58
  go_wp2_with fail
  generalize ((w.alloc (.cells #[.bool neg, .slice a len cap] 26)).alloc (.cells #[.bool neg', .slice a' len' cap'] 26)) = w2 at *
  have HXa := Lib.hid (fun W : Ext w2.heap.size w2 => hl.below (hb02.trans (W.2.mono hb02.size)))
  have HXb := Lib.hid (fun W : Ext w2.heap.size w2 => hl'.below (hb02.trans (W.2.mono hb02.size)))
  have e00 : ∀ W : Ext w2.heap.size w2, W.1.cell? ⟨w.heap.size, 0, none⟩ = some (.bool neg) := fun W => by rw [W.2.cell (p := ⟨w.heap.size, 0, none⟩) (by simp; omega)]; exact g00
  have e01 : ∀ W : Ext w2.heap.size w2, W.1.cell? ⟨w.heap.size, 1, none⟩ = some (.slice a len cap) := fun W => by rw [W.2.cell (p := ⟨w.heap.size, 1, none⟩) (by simp; omega)]; exact g01
  have e10 : ∀ W : Ext w2.heap.size w2, W.1.cell? ⟨w.heap.size + 1, 0, none⟩ = some (.bool neg') := fun W => by rw [W.2.cell (p := ⟨w.heap.size + 1, 0, none⟩) (by simp; omega)]; exact g10
  have e11 : ∀ W : Ext w2.heap.size w2, W.1.cell? ⟨w.heap.size + 1, 1, none⟩ = some (.slice a' len' cap') := fun W => by rw [W.2.cell (p := ⟨w.heap.size + 1, 1, none⟩) (by simp; omega)]; exact g11
  have q1 : ∀ W : Ext w2.heap.size w2, Calls Tryz.prog 57 #[.agg #[.bool neg, .slice a len cap]] W.1 fun e w'' => e = .returned (.int .i64 y.sign) ∧ ∃ W' : Ext w2.heap.size w2, w'' = W'.val := fun W => Calls.ext W (isign_any _ y L _ (HV.out.below (hb02.trans (W.2.mono hb02.size))))
  have q2 : ∀ W : Ext w2.heap.size w2, Calls Tryz.prog 57 #[.agg #[.bool neg', .slice a' len' cap']] W.1 fun e w'' => e = .returned (.int .i64 z.sign) ∧ ∃ W' : Ext w2.heap.size w2, w'' = W'.val := fun W => Calls.ext W (isign_any _ z M _ (HU.out.below (hb02.trans (W.2.mono hb02.size))))
  clear g00 g01 g10 g11 hl hl' hsz
  refine wp_region_ext w2.heap.size w2 (by kernel_rfl) (by kernel_rfl) (Below.refl _ _) ?_
  repeat (first | go_big_quiet_step (first | with_reducible exact q1 _ | with_reducible exact q2 _))
  refine wpQuiet_nil ?_
  intro W
  have hb0W := hb02.trans (W.2.mono hb02.size)
  have c00 := e00 W
  have c01 := e01 W
  have c10 := e10 W
  have c11 := e11 W
  have HXw := Lib.hid (HXa.out W)
  have HYw := Lib.hid (HXb.out W)
  clear q1 q2 e00 e01 e10 e11 HXa HXb
  generalize W.1 = w3 at *
  rcases Int.lt_trichotomy y.sign z.sign with h | h | h
  · have HF := Lib.hid (sign_lt h)
    go_wp2_with fail
    go_ret
    exact ⟨by rw [HF.out]; rfl, hb0W⟩
  · have HF := Lib.hid (HSame.out h)
    have h1 : ¬ y.sign < z.sign := by omega
    have h2 : ¬ z.sign < y.sign := by omega
    generalize y.sign = sy at *
    generalize z.sign = sz at *
    clear h
    go_wp2_with fail
    refine (cmp_any _ _ _ _ _ _ _ _ _ HXw.out HYw.out).mono ?_
    rintro e w4 ⟨rfl, hb4⟩
    have hcv : -1 ≤ cmpI (natOf xs) (natOf xs') ∧ cmpI (natOf xs) (natOf xs') ≤ 1 := by rcases cmpI_cases (natOf xs) (natOf xs') with h | h | h <;> omega
    generalize cmpI (natOf xs) (natOf xs') = cv at *
    obtain ⟨hcv1, hcv2⟩ := hcv
    have HMl := Lib.hid (wrap_sc hs1.1 hs1.2 hcv1 hcv2)
    go_wp2_with fail
    go_ret
    exact ⟨by rw [← HF.out]; exact ret_int HMl.out, hb0W.trans (hb4.mono hb0W.size)⟩
  · have HF := Lib.hid (show (y - z).sign = 1 by rw [sign_sub_swap z y, sign_lt h]; rfl)
    have h1 : ¬ y.sign < z.sign := by omega
    go_wp2_with fail
    go_ret
    exact ⟨by rw [HF.out]; rfl, hb0W⟩

end Go.Proofs.YtahmndacoanfiaaGreat
