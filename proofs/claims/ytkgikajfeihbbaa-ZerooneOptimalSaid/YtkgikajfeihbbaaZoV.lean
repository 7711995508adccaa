/- 0-1 programs: feasible assignments and their values, of zeroone and of the reference. No condition beyond 'program and numbers can be read'. -/
import Derived.Test.YtkgikajfeihbbaaZoB
namespace Go.Proofs.Ytkgikajfeihbbaa
set_option maxRecDepth 100000
open Go.RowKit

/-! ### Plain -/
def isBits (xs : List Int) (n : Nat) : Bool := decide (xs.length = n) && !(xs.any (fun v => v != 0 && v != 1))
def dotL : List Int → List Int → Int
  | c :: cs, x :: xs => c * x + dotL cs xs
  | _, _ => 0
def fixL : List Int → List Int → Bool
  | f :: fs, x :: xs => (f == -1 || x == f) && fixL fs xs
  | _, _ => true
def rowOk (xs : List Int) (r : RowM) : Bool := decide (r.mn ≤ dotL r.coef xs) && decide (dotL r.coef xs ≤ r.mx)
def feasOf (p : ProbM) (xs : List Int) : Bool := decide (validOf p = 0) && isBits xs p.val.length && fixL p.fix xs && p.rows.all (rowOk xs)
def valErr (p : ProbM) (xs : List Int) : Int := if validOf p = 0 then (if isBits xs p.val.length then 0 else 1) else validOf p
def valVal (p : ProbM) (xs : List Int) : Int := if validOf p = 0 then (if isBits xs p.val.length then dotL p.val xs else 0) else 0
def Bits01 (xs : List Int) : Prop := ∀ k, k < xs.length → xs.getD k 0 = 0 ∨ xs.getD k 0 = 1
theorem isBits_len {xs : List Int} {n : Nat} (h : isBits xs n = true) : xs.length = n := by simp [isBits] at h; exact h.1
theorem isBits_01 {xs : List Int} {n : Nat} (h : isBits xs n = true) : Bits01 xs := by
  intro k hk
  simp only [isBits, Bool.and_eq_true, Bool.not_eq_true'] at h
  have h2 := h.2
  rw [List.any_eq_false] at h2
  have := h2 (xs.getD k 0) (by simp [List.getD, hk])
  generalize xs.getD k 0 = x at *
  simp at this
  omega
theorem dotL_drop (cs xs : List Int) (k : Nat) (h1 : k < cs.length) (h2 : k < xs.length) : dotL (cs.drop k) (xs.drop k) = cs.getD k 0 * xs.getD k 0 + dotL (cs.drop (k + 1)) (xs.drop (k + 1)) := by
  rw [drop_cons cs k 0 h1, drop_cons xs k 0 h2]; rfl
theorem dotL_end (cs xs : List Int) (k : Nat) (h1 : cs.length ≤ k) : dotL (cs.drop k) (xs.drop k) = 0 := by
  rw [List.drop_of_length_le h1]; rfl
theorem fixL_drop (cs xs : List Int) (k : Nat) (h1 : k < cs.length) (h2 : k < xs.length) : fixL (cs.drop k) (xs.drop k) = ((cs.getD k 0 == -1 || xs.getD k 0 == cs.getD k 0) && fixL (cs.drop (k + 1)) (xs.drop (k + 1))) := by
  rw [drop_cons cs k 0 h1, drop_cons xs k 0 h2]; rfl
theorem fixL_end (cs xs : List Int) (k : Nat) (h1 : cs.length ≤ k) : fixL (cs.drop k) (xs.drop k) = true := by
  rw [List.drop_of_length_le h1]; rfl
theorem all_drop {α : Type} (q : α → Bool) (xs : List α) (k : Nat) (d : α) (hk : k < xs.length) : (xs.drop k).all q = (q (xs.getD k d) && (xs.drop (k + 1)).all q) := by
  rw [drop_cons xs k d hk]; rfl

/-! ### Bits -/
set_option maxHeartbeats 1000000 in
theorem binary_any (xs : List Int) (n : Nat) (a : Option Addr) (l c : Nat) (w : World) (hx : Row .i64 w a l c xs) :
    Calls Try.prog 30 #[.slice a l c, .int .i64 n] w fun e w' => e = .returned (.bool (isBits xs n)) ∧ w = w' := by
  have HX := Lib.hid hx
  have e0 := Lib.hid hx.1
  clear hx
  by_cases hn : l = n
  · have d0 : ((l : Int) == (n : Int)) = true := by simp [hn]
    have HE := Lib.hid (show isBits xs n = !(xs.any (fun v => v != 0 && v != 1)) by simp [isBits, e0.out, hn])
    clear hn
    go_enter Try.func30, Try.ntmps30
    go_wp2_with fail
    refine (containsOther_any (fun v => v != 0 && v != 1) (fun n w => other_any n w) xs _ _ _ _ HX.out).mono ?_
    rintro e w1 ⟨rfl, rfl⟩
    go_wp2_with fail
    go_ret
    exact ⟨by rw [HE.out]; rfl, rfl⟩
  · have d0 : ((l : Int) == (n : Int)) = false := by simp; omega
    have HE := Lib.hid (show isBits xs n = false by simp [isBits, e0.out, hn])
    clear hn
    go_enter Try.func30, Try.ntmps30
    go_wp2_with fail
    go_ret
    exact ⟨by rw [HE.out]; rfl, rfl⟩

set_option maxHeartbeats 1000000 in
theorem bits_any (xs : List Int) (n : Nat) (a : Option Addr) (l c : Nat) (w : World) (hx : Row .i64 w a l c xs) :
    Calls Try.prog 32 #[.slice a l c, .int .i64 n] w fun e w' => e = .returned (.bool (isBits xs n)) ∧ w = w' := by
  have hm : l ≤ 9223372036854775807 := by have h1 := hx.2.2.1; have h2 := hx.2.2.2.1; unfold maxLen at h2; omega
  have HX := Lib.hid hx
  have e0 := Lib.hid hx.1
  clear hx
  by_cases hn : l = n
  rotate_left
  · have d0 : ((l : Int) == (n : Int)) = false := by simp; omega
    have HE := Lib.hid (show isBits xs n = false by simp [isBits, e0.out, hn])
    clear hn
    go_enter Try.func32, Try.ntmps32
    go_wp2_with fail
    go_ret
    exact ⟨by rw [HE.out]; rfl, rfl⟩
  have HE := Lib.hid (show isBits xs n = !(xs.any (fun v => v != 0 && v != 1)) by simp [isBits, e0.out, hn])
  subst hn
  go_enter Try.func32, Try.ntmps32
  go_wp2_with fail
  go_loop [5] (fun i => ∃ (k : Nat), k ≤ l ∧ i = .int .i64 k ∧ Hid (xs.any (fun v => v != 0 && v != 1) = (xs.drop k).any (fun v => v != 0 && v != 1))) (fun i => l - (intOf i).toNat)
  case atStart => exact ⟨0, by omega, rfl, by simp [Hid]⟩
  case round =>
    obtain ⟨k, hk, rfl, HD⟩ := hrel
    by_cases hlt : k < l
    · obtain ⟨b, off, rfl, _, hcc⟩ := HX.out.2.2.at hlt
      have y0 := hcc k hlt _ (Below.refl _ _)
      have HS := Lib.hid (any_drop (fun v : Int => v != 0 && v != 1) xs k 0 (by rw [e0.out]; omega))
      clear hcc
      generalize xs.getD k 0 = x at *
      by_cases x0 : x = 0
      · subst x0
        go_wp2_with fail
        go_round
        case rel => exact ⟨k + 1, by omega, by go_num, by unfold Hid; rw [HD.out, HS.out]; rfl⟩
        case measure => simp [intOf]; omega
      have d1 : (x != 0) = true := by simp [x0]
      by_cases x1 : x = 1
      · subst x1
        go_wp2_with fail
        go_round
        case rel => exact ⟨k + 1, by omega, by go_num, by unfold Hid; rw [HD.out, HS.out]; rfl⟩
        case measure => simp [intOf]; omega
      have d2 : (x != 1) = true := by simp [x1]
      have HZ := Lib.hid (show isBits xs l = false by rw [HE.out, HD.out, HS.out]; simp [x0, x1])
      go_wp2_with fail
      go_ret
      exact ⟨by rw [HZ.out]; rfl, rfl⟩
    · have HZ := Lib.hid (show isBits xs l = true by rw [HE.out, HD.out, List.drop_of_length_le (by rw [e0.out]; omega)]; rfl)
      go_wp2_with fail
      go_ret
      exact ⟨by rw [HZ.out]; rfl, rfl⟩

/-! ### Sums -/
theorem below_drewN {B : Nat} {a w : World} (h : Below B a w) (n : Nat) : Below B a (w.drewN n) := ⟨h.os, h.tape, h.output, h.size, h.block⟩

set_option maxHeartbeats 1000000 in
theorem product_any (cs xs : List Int) (a a' : Option Addr) (l c c' : Nat) (w : World) (hc : Row .i64 w a l c cs) (hx : Row .i64 w a' l c' xs) (hl : l ≤ 24) (hs : Small cs) (hb : Bits01 xs) :
    Calls Try.prog 31 #[.slice a l c, .slice a' l c'] w fun e w' => e = .returned (.int .i64 (dotL cs xs)) ∧ w = w' := by
  have HV := Lib.hid hc
  have HF := Lib.hid hx
  have e0 := Lib.hid hc.1
  have e2 := Lib.hid hx.1
  have HSm := Lib.hid hs
  have HBt := Lib.hid hb
  clear hc hx hs hb
  go_enter Try.func31, Try.ntmps31
  go_wp2_with fail
  go_loop [5, 10] (fun s i => ∃ (k : Nat) (n : Int), k ≤ l ∧ i = .int .i64 k ∧ s = .int .i64 n ∧ -1000000 * (k : Int) ≤ n ∧ n ≤ 1000000 * (k : Int) ∧ Hid (dotL cs xs = n + dotL (cs.drop k) (xs.drop k))) (fun _ i => l - (intOf i).toNat)
  case atStart => exact ⟨0, 0, by omega, rfl, rfl, by omega, by omega, by simp [Hid]⟩
  case round =>
    obtain ⟨k, n, hk, rfl, rfl, hn1, hn2, HD⟩ := hrel
    by_cases hlt : k < l
    · obtain ⟨b, off, rfl, _, hcc⟩ := HV.out.2.2.at hlt
      have y0 := hcc k hlt _ (Below.refl _ _)
      obtain ⟨b', off', rfl, _, hcc'⟩ := HF.out.2.2.at hlt
      have y1 := hcc' k hlt _ (Below.refl _ _)
      have HS := Lib.hid (dotL_drop cs xs k (by rw [e0.out]; omega) (by rw [e2.out]; omega))
      have hs := HSm.out k
      have h01 := HBt.out k (by rw [e2.out]; omega)
      clear hcc hcc'
      generalize cs.getD k 0 = x at *
      generalize xs.getD k 0 = f at *
      rcases h01 with rfl | rfl
      · go_wp2_with fail
        go_round
        case rel => exact ⟨k + 1, n, by omega, by go_num, by go_num, by omega, by omega, by unfold Hid; rw [HD.out, HS.out]; omega⟩
        case measure => simp [intOf]; omega
      · go_wp2_with fail
        go_round
        case rel => exact ⟨k + 1, n + x, by omega, by go_num, by go_num, by omega, by omega, by unfold Hid; rw [HD.out, HS.out]; omega⟩
        case measure => simp [intOf]; omega
    · have HE := Lib.hid (show dotL cs xs = n by rw [HD.out, dotL_end _ _ _ (by rw [e0.out]; omega)]; omega)
      go_wp2_with fail
      go_ret
      exact ⟨by rw [HE.out]; rfl, rfl⟩

set_option maxHeartbeats 1000000 in
theorem dot_any (cs xs : List Int) (a a' : Option Addr) (l c c' : Nat) (w : World) (hc : Row .i64 w a l c cs) (hx : Row .i64 w a' l c' xs) (hl : l ≤ 24) (hs : Small cs) (hb : Bits01 xs) :
    Calls Try.prog 33 #[.slice a l c, .slice a' l c'] w fun e w' => e = .returned (.int .i64 (dotL cs xs)) ∧ Below w.heap.size w w' := by
  have HV := Lib.hid hc
  have HF := Lib.hid hx
  have e0 := Lib.hid hc.1
  have e2 := Lib.hid hx.1
  have HSm := Lib.hid hs
  have HBt := Lib.hid hb
  clear hc hx hs hb
  go_enter Try.func33, Try.ntmps33
  go_wp2_with fail
  go_loopw [5, 6] (fun s i wr => Below w.heap.size w wr ∧ ∃ (k : Nat) (n : Int), k ≤ l ∧ i = .int .i64 k ∧ s = .int .i64 n ∧ -1000000 * (k : Int) ≤ n ∧ n ≤ 1000000 * (k : Int) ∧ Hid (dotL cs xs = n + dotL (cs.drop k) (xs.drop k))) (fun _ i _ => l - (intOf i).toNat)
  case atStart => exact ⟨Below.refl _ _, 0, 0, by omega, rfl, rfl, by omega, by omega, by simp [Hid]⟩
  case round =>
    obtain ⟨hb, k, n, hk, rfl, rfl, hn1, hn2, HD⟩ := hrel
    by_cases hlt : k < l
    · obtain ⟨b, off, rfl, _, hcc⟩ := HV.out.2.2.at hlt
      have y0 := hcc k hlt _ hb
      obtain ⟨b', off', rfl, _, hcc'⟩ := HF.out.2.2.at hlt
      have y1 := hcc' k hlt _ hb
      have HS := Lib.hid (dotL_drop cs xs k (by rw [e0.out]; omega) (by rw [e2.out]; omega))
      have hs := HSm.out k
      have h01 := HBt.out k (by rw [e2.out]; omega)
      clear hcc hcc'
      generalize cs.getD k 0 = x at *
      generalize xs.getD k 0 = f at *
      rcases h01 with rfl | rfl
      · go_wp2_with fail
        go_quiet (fail)
        go_wp2_with fail
        go_round
        case rel => exact ⟨below_drewN hb _, k + 1, n, by omega, by go_num, by go_num, by omega, by omega, by unfold Hid; rw [HD.out, HS.out]; omega⟩
        case measure => simp [intOf]; omega
      · go_wp2_with fail
        go_quiet (fail)
        go_wp2_with fail
        go_round
        case rel => exact ⟨below_drewN hb _, k + 1, n + x, by omega, by go_num, by go_num, by omega, by omega, by unfold Hid; rw [HD.out, HS.out]; omega⟩
        case measure => simp [intOf]; omega
    · have HE := Lib.hid (show dotL cs xs = n by rw [HD.out, dotL_end _ _ _ (by rw [e0.out]; omega)]; omega)
      go_wp2_with fail
      go_ret
      exact ⟨by rw [HE.out]; rfl, hb⟩

/-! ### Values -/
set_option maxHeartbeats 2000000 in
theorem value_any (v : Value) (p : ProbM) (xs : List Int) (a : Option Addr) (l c : Nat) (w : World) (hp : ProbIn w v p) (hx : Row .i64 w a l c xs) :
    Calls Try.prog 14 #[v, .slice a l c] w fun e w' => e = .returned (.tuple #[.int .i64 (valVal p xs), .int .i64 (valErr p xs)]) ∧ Below w.heap.size w w' := by
  obtain ⟨a0, l0, c0, a1, l1, c1, a2, l2, c2, rfl, h0, h1, h2⟩ := hp
  have HP := Lib.hid (show ∀ w0, w0 = w.alloc (.cells #[.slice a0 l0 c0, .slice a1 l1 c1, .slice a2 l2 c2] 25) → ProbIn w0 (.agg #[.slice a0 l0 c0, .slice a1 l1 c1, .slice a2 l2 c2]) p from
    fun w0 h => ⟨_, _, _, _, _, _, _, _, _, rfl, (probBox h0 h1 h2 w0 h).2.1, (probBox h0 h1 h2 w0 h).2.2.1, (probBox h0 h1 h2 w0 h).2.2.2.1⟩)
  have HX := Lib.hid hx
  have e0 := Lib.hid h0.1
  have e3 := Lib.hid hx.1
  have HB := Lib.hid (probBox h0 h1 h2)
  clear h0 h1 h2 hx
  go_enter Try.func14, Try.ntmps14
  go_wp2_with fail
  refine (valid_any _ p _ (HP.out _ rfl)).mono ?_
  rintro e w1 ⟨rfl, hb1⟩
  obtain ⟨hb0, hv0, hr0, hf0, hbox⟩ := HB.out _ rfl
  clear HB HP
  generalize w.alloc (.cells #[.slice a0 l0 c0, .slice a1 l1 c1, .slice a2 l2 c2] 25) = w0 at *
  have hb := hb0.trans (hb1.mono hb0.size)
  have HV := Lib.hid (hv0.below hb1)
  have HX1 := Lib.hid (HX.out.below hb)
  obtain ⟨x0, x1, x2⟩ := hbox w1 hb1
  clear hv0 hr0 hf0 hbox hb0 hb1 HX
  by_cases g : validOf p = 0
  rotate_left
  · have d0 : ((validOf p : Int) == 0) = false := by simp [g]
    have HZ := Lib.hid (show valVal p xs = 0 ∧ valErr p xs = validOf p by unfold valVal valErr; rw [if_neg g, if_neg g]; exact ⟨rfl, rfl⟩)
    go_wp2_with fail
    go_ret2
    exact ⟨by rw [HZ.out.1, HZ.out.2]; rfl, hb⟩
  have V := Lib.hid (validM g)
  have HZ := Lib.hid (show valVal p xs = (if isBits xs p.val.length then dotL p.val xs else 0) ∧ valErr p xs = (if isBits xs p.val.length then 0 else 1) by unfold valVal valErr; rw [if_pos g, if_pos g]; exact ⟨rfl, rfl⟩)
  rw [g]
  clear g
  rw [e0.out] at HZ
  have hn : l0 ≤ 24 := by rw [← e0.out]; exact V.out.n
  go_wp2_with fail
  refine (binary_any xs l0 _ _ _ _ HX1.out).mono ?_
  rintro e w2 ⟨rfl, rfl⟩
  cases hq : isBits xs l0 with
  | false =>
    rw [hq] at HZ
    go_wp2_with fail
    go_ret2
    exact ⟨by rw [HZ.out.1, HZ.out.2]; rfl, hb⟩
  | true =>
    rw [hq] at HZ
    have hll : l = l0 := by rw [← e3.out]; exact isBits_len hq
    subst hll
    go_wp2_with fail
    refine (product_any p.val xs _ _ _ _ _ _ HV.out HX1.out hn V.out.val (isBits_01 hq)).mono ?_
    rintro e w2 ⟨rfl, rfl⟩
    go_wp2_with fail
    go_ret2
    exact ⟨by rw [HZ.out.1, HZ.out.2]; rfl, hb⟩

set_option maxHeartbeats 2000000 in
theorem ref_value_any (v : Value) (p : ProbM) (xs : List Int) (a : Option Addr) (l c : Nat) (w : World) (hp : ProbIn w v p) (hx : Row .i64 w a l c xs) :
    Calls Try.prog 15 #[v, .slice a l c] w fun e w' => e = .returned (.tuple #[.int .i64 (valVal p xs), .int .i64 (valErr p xs)]) ∧ Below w.heap.size w w' := by
  obtain ⟨a0, l0, c0, a1, l1, c1, a2, l2, c2, rfl, h0, h1, h2⟩ := hp
  have HP := Lib.hid (show ∀ w0, w0 = w.alloc (.cells #[.slice a0 l0 c0, .slice a1 l1 c1, .slice a2 l2 c2] 25) → ProbIn w0 (.agg #[.slice a0 l0 c0, .slice a1 l1 c1, .slice a2 l2 c2]) p from
    fun w0 h => ⟨_, _, _, _, _, _, _, _, _, rfl, (probBox h0 h1 h2 w0 h).2.1, (probBox h0 h1 h2 w0 h).2.2.1, (probBox h0 h1 h2 w0 h).2.2.2.1⟩)
  have HX := Lib.hid hx
  have e0 := Lib.hid h0.1
  have e3 := Lib.hid hx.1
  have HB := Lib.hid (probBox h0 h1 h2)
  clear h0 h1 h2 hx
  go_enter Try.func15, Try.ntmps15
  go_wp2_with fail
  refine (ref_valid_any _ p _ (HP.out _ rfl)).mono ?_
  rintro e w1 ⟨rfl, hb1⟩
  obtain ⟨hb0, hv0, hr0, hf0, hbox⟩ := HB.out _ rfl
  clear HB HP
  generalize w.alloc (.cells #[.slice a0 l0 c0, .slice a1 l1 c1, .slice a2 l2 c2] 25) = w0 at *
  have hb := hb0.trans (hb1.mono hb0.size)
  have HV := Lib.hid (hv0.below hb1)
  have HX1 := Lib.hid (HX.out.below hb)
  obtain ⟨x0, x1, x2⟩ := hbox w1 hb1
  clear hv0 hr0 hf0 hbox hb0 hb1 HX
  by_cases g : validOf p = 0
  rotate_left
  · have d0 : ((validOf p : Int) == 0) = false := by simp [g]
    have HZ := Lib.hid (show valVal p xs = 0 ∧ valErr p xs = validOf p by unfold valVal valErr; rw [if_neg g, if_neg g]; exact ⟨rfl, rfl⟩)
    go_wp2_with fail
    go_ret2
    exact ⟨by rw [HZ.out.1, HZ.out.2]; rfl, hb⟩
  have V := Lib.hid (validM g)
  have HZ := Lib.hid (show valVal p xs = (if isBits xs p.val.length then dotL p.val xs else 0) ∧ valErr p xs = (if isBits xs p.val.length then 0 else 1) by unfold valVal valErr; rw [if_pos g, if_pos g]; exact ⟨rfl, rfl⟩)
  rw [g]
  clear g
  rw [e0.out] at HZ
  have hn : l0 ≤ 24 := by rw [← e0.out]; exact V.out.n
  go_wp2_with fail
  refine (bits_any xs l0 _ _ _ _ HX1.out).mono ?_
  rintro e w2 ⟨rfl, rfl⟩
  cases hq : isBits xs l0 with
  | false =>
    rw [hq] at HZ
    go_wp2_with fail
    go_ret2
    exact ⟨by rw [HZ.out.1, HZ.out.2]; rfl, hb⟩
  | true =>
    rw [hq] at HZ
    have hll : l = l0 := by rw [← e3.out]; exact isBits_len hq
    subst hll
    go_wp2_with fail
    refine (dot_any p.val xs _ _ _ _ _ _ HV.out HX1.out hn V.out.val (isBits_01 hq)).mono ?_
    rintro e w2 ⟨rfl, hb2⟩
    go_wp2_with fail
    go_ret2
    exact ⟨by rw [HZ.out.1, HZ.out.2]; rfl, hb.trans (hb2.mono hb.size)⟩

end Go.Proofs.Ytkgikajfeihbbaa
