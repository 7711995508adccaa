/- Uploads: what numbered, fits, sum, build, check and bytes.Clone, Equal, HasPrefix return. Conditions: as stated. -/
import Derived.Test.YtpdodapdaeochaaUpA
import Derived.Test.YtpdodapdaeochaaTail
import Derived.Test.YtpdodapdaeochaaFloat
import Derived.Test.YtpdodapdaeochaaMix
namespace Go.Proofs.Ytpdodapdaeochaa
set_option maxRecDepth 100000
open Go.RowKit

set_option maxHeartbeats 1000000 in
theorem bclone_any (xs : List UInt8) (a : Option Addr) (len cap : Nat) (w : World) (hx : Bytes w a len cap xs) (hm : len ≤ 140737488355328) :
    Calls Try.prog 32 #[.slice a len cap] w fun e w' => ∃ v, e = .returned v ∧ Owns w' w.heap.size 5 v (bvs xs) ∧ Below w.heap.size w w' := by
  have HX := Lib.hid hx
  have HL := Lib.hid hx.1
  cases a with
  | none =>
    have hc : cap = 0 := hx.2.2.2.1 rfl
    have hl : len = 0 := by have := hx.2.1; omega
    subst hc; subst hl
    have HE := Lib.hid (show xs = [] from List.eq_nil_of_length_eq_zero HL.out)
    clear hx
    have hq := eql_nil (P := Try.prog) w none 0 0 Try.underlying22
    simp only [Option.isNone_none] at hq
    go_enter Try.func32, Try.ntmps32
    go_wp2_with fail
    go_ret
    exact ⟨_, rfl, by rw [HE.out]; exact Owns.nil _ _ _, Below.refl _ _⟩
  | some ad =>
    clear hx
    have hbx : Below w.heap.size w (w.alloc (.cells #[] 5)) := (Below.refl _ _).alloc (Nat.le_refl _) _
    have HX1 := Lib.hid (HX.out.below hbx)
    have hq := eql_nil (P := Try.prog) w (some ad) len cap Try.underlying22
    simp only [Option.isNone_some] at hq
    have HO := Lib.hid (owns_lit w w.heap.size 5 [] (by simp) (Nat.le_refl _))
    have hml := HX.out.2.2.1
    have hmc := HX.out.2.1
    go_enter Try.func32, Try.ntmps32
    go_wp2_with (at_builtin; go_must (refine wpList_app rfl _ _ 22 rfl w.heap.size 5 (.int .u8 0) 1 Try.underlying22 infoByte rfl (.slice (some ⟨w.heap.size, 0, none⟩) 0 0) [] rfl HO.out (some ad) len cap (bvs xs) rfl (by rw [bvs_length]; exact HL.out) HX1.out.vals (bvs_one _) (by simp only [List.length_nil]; omega) (by simp only [List.length_nil]; omega) (by simp) fun v1 w1 h1 h2 => ?_))
    have hb1 := hbx.trans ((h2.below (B := w.heap.size) (by simp) (by simp [Value.ownBlock])))
    have H1 := Lib.hid h1
    clear h1 h2
    go_wp2_with fail
    go_ret
    exact ⟨_, rfl, by simpa using H1.out, hb1⟩
theorem bclone_bytes (xs : List UInt8) (a : Option Addr) (len cap : Nat) (w : World) (hx : Bytes w a len cap xs) (hm : len ≤ 140737488355328) :
    Calls Try.prog 32 #[.slice a len cap] w fun e w' => ∃ b d, e = .returned (.slice b len d) ∧ Bytes w' b len d xs ∧ Under' w.heap.size b len ∧ Below w.heap.size w w' := by
  refine (bclone_any xs a len cap w hx hm).mono ?_
  rintro e w' ⟨v, rfl, h1, h2⟩
  have hlt := h1.lt
  obtain ⟨b, n, d, rfl, hi⟩ := Owns.bytes h1
  obtain rfl : n = len := by rw [← hi.1]; exact hx.1
  refine ⟨b, d, rfl, hi, ?_, h2⟩
  by_cases h0 : n = 0
  · exact .inl h0
  · refine .inr fun x hx => hlt _ ?_
    subst hx
    rcases h1.form2 with ⟨e, -⟩ | ⟨g, c, e, -⟩
    · cases e
    · cases e; rfl

theorem bequal_any (xs ys : List UInt8) (a a2 : Option Addr) (len cap len2 cap2 : Nat) (w : World) (hx : Bytes w a len cap xs) (hy : Bytes w a2 len2 cap2 ys) :
    Calls Try.prog 55 #[.slice a len cap, .slice a2 len2 cap2] w fun e w' => e = .returned (.bool (decide (xs = ys))) ∧ w = w' := by
  have s1 := str_of hx
  have s2 := str_of hy
  clear hx hy
  go_enter Try.func55, Try.ntmps55
  go_wp2_with fail
  go_ret
  exact ⟨congrArg (fun b => Ending.returned (.bool b)) (show (xs == ys) = decide (xs = ys) by rw [Bool.eq_iff_iff]; simp), rfl⟩
/-! ### printed -/
def OkS (s : Int) : Prop := 1 ≤ s ∧ s ≤ 9999999
instance (s : Int) : Decidable (OkS s) := by unfold OkS; infer_instance
def OkP (s a n : Int) : Prop := OkS s ∧ 0 ≤ a ∧ a ≤ 1048576 ∧ 1 ≤ n ∧ n ≤ 2000 ∧ a + n ≤ 1048576
instance (s a n : Int) : Decidable (OkP s a n) := by unfold OkP; infer_instance

theorem numbered_any (s : Int) (w : World) :
    Calls Try.prog 26 #[.int .i64 s] w fun e w' => e = .returned (.bool (decide (OkS s))) ∧ w = w' := by
  by_cases h1 : 1 ≤ s
  rotate_left
  · have HF := Lib.hid (show decide (OkS s) = false by simp only [decide_eq_false_iff_not]; unfold OkS; omega)
    have d0 : decide (1 ≤ s) = false := by simpa using h1
    go_enter Try.func26, Try.ntmps26
    go_wp2_with fail
    go_ret
    exact ⟨by rw [HF.out]; rfl, rfl⟩
  by_cases h2 : s ≤ 9999999
  rotate_left
  · have HF := Lib.hid (show decide (OkS s) = false by simp only [decide_eq_false_iff_not]; unfold OkS; omega)
    have d1 : decide (s ≤ 9999999) = false := by simpa using h2
    have d0 : decide (1 ≤ s) = true := by simpa using h1
    go_enter Try.func26, Try.ntmps26
    go_wp2_with fail
    go_ret
    exact ⟨by rw [HF.out]; rfl, rfl⟩
  have HF := Lib.hid (show decide (OkS s) = true by simp only [decide_eq_true_eq]; unfold OkS; omega)
  have d0 : decide (1 ≤ s) = true := by simpa using h1
  have d1 : decide (s ≤ 9999999) = true := by simpa using h2
  go_enter Try.func26, Try.ntmps26
  go_wp2_with fail
  go_ret
  exact ⟨by rw [HF.out]; rfl, rfl⟩

set_option maxHeartbeats 1000000 in
theorem fits_any (s a n : Int) (w : World) :
    Calls Try.prog 35 #[.int .i64 s, .int .i64 a, .int .i64 n] w fun e w' => e = .returned (.bool (decide (OkP s a n))) ∧ w = w' := by
  by_cases h0 : OkS s
  rotate_left
  · have HF := Lib.hid (show decide (OkP s a n) = false by simp only [decide_eq_false_iff_not]; rintro ⟨q0, q1, q2, q3, q4, q5⟩; first | exact h0 q0 | omega)
    have d0 : decide (OkS s) = false := decide_eq_false h0
    go_enter Try.func35, Try.ntmps35
    go_wp2_with fail
    refine (numbered_any s _).mono ?_
    rintro e w1 ⟨rfl, rfl⟩
    go_wp2_with fail
    go_ret
    exact ⟨by rw [HF.out]; rfl, rfl⟩
  by_cases h1 : 0 ≤ a
  rotate_left
  · have HF := Lib.hid (show decide (OkP s a n) = false by simp only [decide_eq_false_iff_not]; rintro ⟨q0, q1, q2, q3, q4, q5⟩; first | exact h0 q0 | omega)
    have d1 : decide (0 ≤ a) = false := by simpa using h1
    have d0 : decide (OkS s) = true := decide_eq_true h0
    go_enter Try.func35, Try.ntmps35
    go_wp2_with fail
    refine (numbered_any s _).mono ?_
    rintro e w1 ⟨rfl, rfl⟩
    go_wp2_with fail
    go_ret
    exact ⟨by rw [HF.out]; rfl, rfl⟩
  by_cases h2 : a ≤ 1048576
  rotate_left
  · have HF := Lib.hid (show decide (OkP s a n) = false by simp only [decide_eq_false_iff_not]; rintro ⟨q0, q1, q2, q3, q4, q5⟩; first | exact h0 q0 | omega)
    have d2 : decide (a ≤ 1048576) = false := by simpa using h2
    have d0 : decide (OkS s) = true := decide_eq_true h0
    have d1 : decide (0 ≤ a) = true := by simpa using h1
    go_enter Try.func35, Try.ntmps35
    go_wp2_with fail
    refine (numbered_any s _).mono ?_
    rintro e w1 ⟨rfl, rfl⟩
    go_wp2_with fail
    go_ret
    exact ⟨by rw [HF.out]; rfl, rfl⟩
  by_cases h3 : 1 ≤ n
  rotate_left
  · have HF := Lib.hid (show decide (OkP s a n) = false by simp only [decide_eq_false_iff_not]; rintro ⟨q0, q1, q2, q3, q4, q5⟩; first | exact h0 q0 | omega)
    have d3 : decide (1 ≤ n) = false := by simpa using h3
    have d0 : decide (OkS s) = true := decide_eq_true h0
    have d1 : decide (0 ≤ a) = true := by simpa using h1
    have d2 : decide (a ≤ 1048576) = true := by simpa using h2
    go_enter Try.func35, Try.ntmps35
    go_wp2_with fail
    refine (numbered_any s _).mono ?_
    rintro e w1 ⟨rfl, rfl⟩
    go_wp2_with fail
    go_ret
    exact ⟨by rw [HF.out]; rfl, rfl⟩
  by_cases h4 : n ≤ 2000
  rotate_left
  · have HF := Lib.hid (show decide (OkP s a n) = false by simp only [decide_eq_false_iff_not]; rintro ⟨q0, q1, q2, q3, q4, q5⟩; first | exact h0 q0 | omega)
    have d4 : decide (n ≤ 2000) = false := by simpa using h4
    have d0 : decide (OkS s) = true := decide_eq_true h0
    have d1 : decide (0 ≤ a) = true := by simpa using h1
    have d2 : decide (a ≤ 1048576) = true := by simpa using h2
    have d3 : decide (1 ≤ n) = true := by simpa using h3
    go_enter Try.func35, Try.ntmps35
    go_wp2_with fail
    refine (numbered_any s _).mono ?_
    rintro e w1 ⟨rfl, rfl⟩
    go_wp2_with fail
    go_ret
    exact ⟨by rw [HF.out]; rfl, rfl⟩
  by_cases h5 : a + n ≤ 1048576
  rotate_left
  · have HF := Lib.hid (show decide (OkP s a n) = false by simp only [decide_eq_false_iff_not]; rintro ⟨q0, q1, q2, q3, q4, q5⟩; first | exact h0 q0 | omega)
    have d5 : decide (a + n ≤ 1048576) = false := by simpa using h5
    have d0 : decide (OkS s) = true := decide_eq_true h0
    have d1 : decide (0 ≤ a) = true := by simpa using h1
    have d2 : decide (a ≤ 1048576) = true := by simpa using h2
    have d3 : decide (1 ≤ n) = true := by simpa using h3
    have d4 : decide (n ≤ 2000) = true := by simpa using h4
    go_enter Try.func35, Try.ntmps35
    go_wp2_with fail
    refine (numbered_any s _).mono ?_
    rintro e w1 ⟨rfl, rfl⟩
    go_wp2_with fail
    go_ret
    exact ⟨by rw [HF.out]; rfl, rfl⟩
  have HF := Lib.hid (show decide (OkP s a n) = true by simp only [decide_eq_true_eq]; exact ⟨h0, h1, h2, h3, h4, h5⟩)
  have d0 : decide (OkS s) = true := decide_eq_true h0
  have d1 : decide (0 ≤ a) = true := by simpa using h1
  have d2 : decide (a ≤ 1048576) = true := by simpa using h2
  have d3 : decide (1 ≤ n) = true := by simpa using h3
  have d4 : decide (n ≤ 2000) = true := by simpa using h4
  have d5 : decide (a + n ≤ 1048576) = true := by simpa using h5
  go_enter Try.func35, Try.ntmps35
  go_wp2_with fail
  refine (numbered_any s _).mono ?_
  rintro e w1 ⟨rfl, rfl⟩
  go_wp2_with fail
  go_ret
  exact ⟨by rw [HF.out]; rfl, rfl⟩

theorem num_nat (h : UInt64) (k : Nat) (w : World) (hk : k < 18446744073709551616) :
    Calls Try.prog 56 #[.int .u64 h.toNat, .int .u64 (k : Int)] w fun e w' => e = .returned (.int .u64 (digNum h (UInt64.ofNat k)).toNat) ∧ w = w' := by
  have e : (k : Int) = ((UInt64.ofNat k).toNat : Int) := by rw [UInt64.toNat_ofNat']; omega
  rw [e]; exact num_any h _ w
theorem sum_any (s p : Nat) (xs : List UInt8) (a : Option Addr) (len cap : Nat) (w : World) (hs : s ≤ 9223372036854775807) (hp : p ≤ 9223372036854775807) (hx : Bytes w a len cap xs) :
    Calls Try.prog 46 #[.int .i64 s, .int .i64 p, .slice a len cap] w fun e w' => e = .returned (.int .u64 (sumU s p xs).toNat) ∧ w = w' := by
  have HX := Lib.hid hx
  have hw0 : IntKind.u64.wrap (s : Int) = s := by rw [IntKind.wrap_u64]; omega
  have hw1 : IntKind.u64.wrap (p : Int) = p := by rw [IntKind.wrap_u64]; omega
  clear hx
  go_enter Try.func46, Try.ntmps46
  go_wp2_with fail
  refine (of_any [] none 0 0 _ (bytes_nil _)).mono ?_
  rintro e w1 ⟨rfl, rfl⟩
  go_wp2_with fail
  refine (num_nat (digOf []) s _ (by omega)).mono ?_
  rintro e w1 ⟨rfl, rfl⟩
  go_wp2_with fail
  refine (num_nat _ p _ (by omega)).mono ?_
  rintro e w1 ⟨rfl, rfl⟩
  go_wp2_with fail
  refine (chain_any _ xs a len cap _ HX.out).mono ?_
  rintro e w1 ⟨rfl, rfl⟩
  go_wp2_with fail
  go_ret
  exact ⟨rfl, rfl⟩


end Go.Proofs.Ytpdodapdaeochaa
