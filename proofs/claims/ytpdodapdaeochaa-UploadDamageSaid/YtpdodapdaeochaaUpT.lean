/- Uploads, the reference: what within, ranged, sum, copied, Packet, divide, Split, New, agree, Rest return. Conditions: as stated. -/
import Derived.Test.YtpdodapdaeochaaUpO
import Derived.Test.YtpdodapdaeochaaDigR
namespace Go.Proofs.Ytpdodapdaeochaa
set_option maxRecDepth 100000
open Go.RowKit

theorem wi_any (n lo hi : Int) (w : World) :
    Calls Try.prog 42 #[.int .i64 n, .int .i64 lo, .int .i64 hi] w fun e w' => e = .returned (.bool (decide (lo ≤ n ∧ n ≤ hi))) ∧ w = w' := by
  by_cases h1 : lo ≤ n
  · have d0 : decide (lo ≤ n) = true := decide_eq_true h1
    have HF := Lib.hid (show decide (lo ≤ n ∧ n ≤ hi) = decide (n ≤ hi) by simp [h1])
    clear h1
    go_enter Try.func42, Try.ntmps42
    go_wp2_with fail
    go_ret
    exact ⟨by rw [HF.out]; rfl, rfl⟩
  · have d0 : decide (lo ≤ n) = false := decide_eq_false h1
    have HF := Lib.hid (show decide (lo ≤ n ∧ n ≤ hi) = false by simp [h1])
    clear h1
    go_enter Try.func42, Try.ntmps42
    go_wp2_with fail
    go_ret
    exact ⟨by rw [HF.out]; rfl, rfl⟩
theorem wi_s (s : Int) (w : World) :
    Calls Try.prog 42 #[.int .i64 s, .int .i64 1, .int .i64 9999999] w fun e w' => e = .returned (.bool (decide (OkS s))) ∧ w = w' := wi_any s 1 9999999 w
set_option maxHeartbeats 1000000 in
theorem rranged_any (s a n : Int) (w : World) :
    Calls Try.prog 37 #[.int .i64 s, .int .i64 a, .int .i64 n] w fun e w' => e = .returned (.bool (decide (OkP s a n))) ∧ w = w' := by
  by_cases h0 : OkS s
  rotate_left
  · have HF := Lib.hid (show decide (OkP s a n) = false by simp only [decide_eq_false_iff_not]; rintro ⟨q0, q1, q2, q3, q4, q5⟩; first | exact h0 q0 | omega)
    have d0 : decide (OkS s) = false := decide_eq_false h0
    have D0 := Lib.hid d0
    clear d0 h0
    go_enter Try.func37, Try.ntmps37
    go_wp2_with fail
    refine (wi_s s _).mono ?_
    rintro e w1 ⟨rfl, rfl⟩
    rw [D0.out]
    go_wp2_with fail
    go_ret
    exact ⟨by rw [HF.out]; rfl, rfl⟩
  by_cases h1 : 0 ≤ a ∧ a ≤ 1048576
  rotate_left
  · have HF := Lib.hid (show decide (OkP s a n) = false by simp only [decide_eq_false_iff_not]; rintro ⟨q0, q1, q2, q3, q4, q5⟩; first | exact h1 q0 | omega)
    have d0 : decide (OkS s) = true := decide_eq_true h0
    have d1 : decide (0 ≤ a ∧ a ≤ 1048576) = false := decide_eq_false h1
    have D0 := Lib.hid d0
    have D1 := Lib.hid d1
    clear d0 d1 h0 h1
    go_enter Try.func37, Try.ntmps37
    go_wp2_with fail
    refine (wi_s s _).mono ?_
    rintro e w1 ⟨rfl, rfl⟩
    rw [D0.out]
    go_wp2_with fail
    refine (wi_any a 0 1048576 _).mono ?_
    rintro e w1 ⟨rfl, rfl⟩
    rw [D1.out]
    go_wp2_with fail
    go_ret
    exact ⟨by rw [HF.out]; rfl, rfl⟩
  by_cases h2 : 1 ≤ n ∧ n ≤ 2000
  rotate_left
  · have HF := Lib.hid (show decide (OkP s a n) = false by simp only [decide_eq_false_iff_not]; rintro ⟨q0, q1, q2, q3, q4, q5⟩; first | exact h2 q0 | omega)
    have d0 : decide (OkS s) = true := decide_eq_true h0
    have d1 : decide (0 ≤ a ∧ a ≤ 1048576) = true := decide_eq_true h1
    have d2 : decide (1 ≤ n ∧ n ≤ 2000) = false := decide_eq_false h2
    have D0 := Lib.hid d0
    have D1 := Lib.hid d1
    have D2 := Lib.hid d2
    clear d0 d1 d2 h0 h1 h2
    go_enter Try.func37, Try.ntmps37
    go_wp2_with fail
    refine (wi_s s _).mono ?_
    rintro e w1 ⟨rfl, rfl⟩
    rw [D0.out]
    go_wp2_with fail
    refine (wi_any a 0 1048576 _).mono ?_
    rintro e w1 ⟨rfl, rfl⟩
    rw [D1.out]
    go_wp2_with fail
    refine (wi_any n 1 2000 _).mono ?_
    rintro e w1 ⟨rfl, rfl⟩
    rw [D2.out]
    go_wp2_with fail
    go_ret
    exact ⟨by rw [HF.out]; rfl, rfl⟩
  by_cases h3 : a + n ≤ 1048576
  rotate_left
  · have HF := Lib.hid (show decide (OkP s a n) = false by simp only [decide_eq_false_iff_not]; rintro ⟨q0, q1, q2, q3, q4, q5⟩; first | exact h3 q0 | omega)
    have d0 : decide (OkS s) = true := decide_eq_true h0
    have d1 : decide (0 ≤ a ∧ a ≤ 1048576) = true := decide_eq_true h1
    have d2 : decide (1 ≤ n ∧ n ≤ 2000) = true := decide_eq_true h2
    have d3 : decide (a + n ≤ 1048576) = false := decide_eq_false h3
    have D0 := Lib.hid d0
    have D1 := Lib.hid d1
    have D2 := Lib.hid d2
    have b0 := h1.1
    have b1 := h1.2
    have b2 := h2.1
    have b3 := h2.2
    clear d0 d1 d2 h0 h1 h2 h3
    go_enter Try.func37, Try.ntmps37
    go_wp2_with fail
    refine (wi_s s _).mono ?_
    rintro e w1 ⟨rfl, rfl⟩
    rw [D0.out]
    go_wp2_with fail
    refine (wi_any a 0 1048576 _).mono ?_
    rintro e w1 ⟨rfl, rfl⟩
    rw [D1.out]
    go_wp2_with fail
    refine (wi_any n 1 2000 _).mono ?_
    rintro e w1 ⟨rfl, rfl⟩
    rw [D2.out]
    go_wp2_with fail
    go_ret
    exact ⟨by rw [HF.out]; rfl, rfl⟩
  have HF := Lib.hid (show decide (OkP s a n) = true by simp only [decide_eq_true_eq]; exact ⟨h0, h1.1, h1.2, h2.1, h2.2, h3⟩)
  have d0 : decide (OkS s) = true := decide_eq_true h0
  have d1 : decide (0 ≤ a ∧ a ≤ 1048576) = true := decide_eq_true h1
  have d2 : decide (1 ≤ n ∧ n ≤ 2000) = true := decide_eq_true h2
  have d3 : decide (a + n ≤ 1048576) = true := decide_eq_true h3
  have D0 := Lib.hid d0
  have D1 := Lib.hid d1
  have D2 := Lib.hid d2
  have b0 := h1.1
  have b1 := h1.2
  have b2 := h2.1
  have b3 := h2.2
  clear d0 d1 d2 h0 h1 h2 h3
  go_enter Try.func37, Try.ntmps37
  go_wp2_with fail
  refine (wi_s s _).mono ?_
  rintro e w1 ⟨rfl, rfl⟩
  rw [D0.out]
  go_wp2_with fail
  refine (wi_any a 0 1048576 _).mono ?_
  rintro e w1 ⟨rfl, rfl⟩
  rw [D1.out]
  go_wp2_with fail
  refine (wi_any n 1 2000 _).mono ?_
  rintro e w1 ⟨rfl, rfl⟩
  rw [D2.out]
  go_wp2_with fail
  go_ret
  exact ⟨by rw [HF.out]; rfl, rfl⟩
theorem rnum_nat (h : UInt64) (k : Nat) (w : World) (hk : k < 18446744073709551616) :
    Calls Try.prog 52 #[.int .u64 h.toNat, .int .u64 (k : Int)] w fun e w' => e = .returned (.int .u64 (digNum h (UInt64.ofNat k)).toNat) ∧ w = w' := by
  have e : (k : Int) = ((UInt64.ofNat k).toNat : Int) := by rw [UInt64.toNat_ofNat']; omega
  rw [e]; exact ref_num_any h _ w
theorem rsum_any (s p : Nat) (xs : List UInt8) (a : Option Addr) (len cap : Nat) (w : World) (hs : s ≤ 9223372036854775807) (hp : p ≤ 9223372036854775807) (hx : Bytes w a len cap xs) :
    Calls Try.prog 39 #[.int .i64 s, .int .i64 p, .slice a len cap] w fun e w' => e = .returned (.int .u64 (sumU s p xs).toNat) ∧ w = w' := by
  have HX := Lib.hid hx
  have hw0 : IntKind.u64.wrap (s : Int) = s := by rw [IntKind.wrap_u64]; omega
  have hw1 : IntKind.u64.wrap (p : Int) = p := by rw [IntKind.wrap_u64]; omega
  clear hx
  go_enter Try.func39, Try.ntmps39
  go_wp2_with fail
  refine (ref_of_any [] none 0 0 _ (bytes_nil _)).mono ?_
  rintro e w1 ⟨rfl, rfl⟩
  go_wp2_with fail
  refine (rnum_nat (digOf []) s _ (by omega)).mono ?_
  rintro e w1 ⟨rfl, rfl⟩
  go_wp2_with fail
  refine (rnum_nat _ p _ (by omega)).mono ?_
  rintro e w1 ⟨rfl, rfl⟩
  go_wp2_with fail
  refine (ref_chain_any _ xs a len cap _ HX.out).mono ?_
  rintro e w1 ⟨rfl, rfl⟩
  go_wp2_with fail
  go_ret
  exact ⟨rfl, rfl⟩


set_option maxHeartbeats 1000000 in
theorem rnew_ok (s : Nat) (w : World) (h : OkS s) :
    Calls Try.prog 22 #[.int .i64 s] w fun e w' => e = .returned (.tuple #[.agg #[.int .i64 s, .slice none 0 0, .slice none 0 0], .int .i64 0]) ∧ Below w.heap.size w w' := by
  have d0 : decide (OkS s) = true := decide_eq_true h
  go_enter Try.func22, Try.ntmps22
  go_wp2_with fail
  have hbx : Below w.heap.size w (w.alloc (.cells #[.int .i64 0, .slice none 0 0, .slice none 0 0] 28)) := ((Below.refl _ _).alloc (Nat.le_refl _) _)
  generalize hWW : (w.alloc (.cells #[.int .i64 0, .slice none 0 0, .slice none 0 0] 28)) = w0 at *
  have cR0 : w0.cell? ⟨w.heap.size, 0, none⟩ = some (.int .i64 0) := by subst hWW; go_simp
  have fR0 : w0.frozen? ⟨w.heap.size, 0, none⟩ = false := by subst hWW; go_simp
  have cR1 : w0.cell? ⟨w.heap.size, 1, none⟩ = some (.slice none 0 0) := by subst hWW; go_simp
  have fR1 : w0.frozen? ⟨w.heap.size, 1, none⟩ = false := by subst hWW; go_simp
  have cR2 : w0.cell? ⟨w.heap.size, 2, none⟩ = some (.slice none 0 0) := by subst hWW; go_simp
  have fR2 : w0.frozen? ⟨w.heap.size, 2, none⟩ = false := by subst hWW; go_simp
  have ltR : w.heap.size < w0.heap.size := by subst hWW; simp
  have hB := hbx
  clear hbx hWW
  refine (wi_s s _).mono ?_
  rintro e w1 ⟨rfl, rfl⟩
  go_wp2_with fail
  exact bodyPost_ret (v := .tuple #[.agg #[.int .i64 s, .slice none 0 0, .slice none 0 0], .int .i64 0]) (by simp [results, Try.results22, go_sem, cR0, cR1, cR2]) rfl ⟨rfl, (((hB.setCell (p := ⟨w.heap.size, 0, none⟩) (Nat.le_refl _) _).setCell (p := ⟨w.heap.size, 1, none⟩) (Nat.le_refl _) _).setCell (p := ⟨w.heap.size, 2, none⟩) (Nat.le_refl _) _)⟩
set_option maxHeartbeats 1000000 in
theorem rnew_no (s : Int) (w : World) (h : ¬ OkS s) :
    Calls Try.prog 22 #[.int .i64 s] w fun e w' => e = .returned (.tuple #[.agg #[.int .i64 0, .slice none 0 0, .slice none 0 0], .int .i64 3]) ∧ Below w.heap.size w w' := by
  have d0 : decide (OkS s) = false := decide_eq_false h
  go_enter Try.func22, Try.ntmps22
  go_wp2_with fail
  have hbx : Below w.heap.size w (w.alloc (.cells #[.int .i64 0, .slice none 0 0, .slice none 0 0] 28)) := ((Below.refl _ _).alloc (Nat.le_refl _) _)
  generalize hWW : (w.alloc (.cells #[.int .i64 0, .slice none 0 0, .slice none 0 0] 28)) = w0 at *
  have cR0 : w0.cell? ⟨w.heap.size, 0, none⟩ = some (.int .i64 0) := by subst hWW; go_simp
  have fR0 : w0.frozen? ⟨w.heap.size, 0, none⟩ = false := by subst hWW; go_simp
  have cR1 : w0.cell? ⟨w.heap.size, 1, none⟩ = some (.slice none 0 0) := by subst hWW; go_simp
  have fR1 : w0.frozen? ⟨w.heap.size, 1, none⟩ = false := by subst hWW; go_simp
  have cR2 : w0.cell? ⟨w.heap.size, 2, none⟩ = some (.slice none 0 0) := by subst hWW; go_simp
  have fR2 : w0.frozen? ⟨w.heap.size, 2, none⟩ = false := by subst hWW; go_simp
  have ltR : w.heap.size < w0.heap.size := by subst hWW; simp
  have hB := hbx
  clear hbx hWW
  refine (wi_s s _).mono ?_
  rintro e w1 ⟨rfl, rfl⟩
  go_wp2_with fail
  exact bodyPost_ret (v := .tuple #[.agg #[.int .i64 0, .slice none 0 0, .slice none 0 0], .int .i64 3]) (by simp [results, Try.results22, go_sem, cR0, cR1, cR2]) rfl ⟨rfl, (((hB.setCell (p := ⟨w.heap.size, 0, none⟩) (Nat.le_refl _) _).setCell (p := ⟨w.heap.size, 1, none⟩) (Nat.le_refl _) _).setCell (p := ⟨w.heap.size, 2, none⟩) (Nat.le_refl _) _)⟩
set_option maxHeartbeats 1000000 in
theorem rpacket_no (s p : Int) (a : Option Addr) (len cap : Nat) (w : World) (h : ¬ OkP s p len) :
    Calls Try.prog 18 #[.int .i64 s, .int .i64 p, .slice a len cap] w fun e w' => e = .returned (.tuple #[.agg #[.int .i64 0, .int .i64 0, .slice none 0 0, .int .u64 0], .int .i64 3]) ∧ Below w.heap.size w w' := by
  have d0 : decide (OkP s p len) = false := decide_eq_false h
  go_enter Try.func18, Try.ntmps18
  go_wp2_with fail
  have hbx : Below w.heap.size w (w.alloc (.cells #[.int .i64 0, .int .i64 0, .slice none 0 0, .int .u64 0] 35)) := ((Below.refl _ _).alloc (Nat.le_refl _) _)
  generalize hWW : (w.alloc (.cells #[.int .i64 0, .int .i64 0, .slice none 0 0, .int .u64 0] 35)) = w0 at *
  have cR0 : w0.cell? ⟨w.heap.size, 0, none⟩ = some (.int .i64 0) := by subst hWW; go_simp
  have fR0 : w0.frozen? ⟨w.heap.size, 0, none⟩ = false := by subst hWW; go_simp
  have cR1 : w0.cell? ⟨w.heap.size, 1, none⟩ = some (.int .i64 0) := by subst hWW; go_simp
  have fR1 : w0.frozen? ⟨w.heap.size, 1, none⟩ = false := by subst hWW; go_simp
  have cR2 : w0.cell? ⟨w.heap.size, 2, none⟩ = some (.slice none 0 0) := by subst hWW; go_simp
  have fR2 : w0.frozen? ⟨w.heap.size, 2, none⟩ = false := by subst hWW; go_simp
  have cR3 : w0.cell? ⟨w.heap.size, 3, none⟩ = some (.int .u64 0) := by subst hWW; go_simp
  have fR3 : w0.frozen? ⟨w.heap.size, 3, none⟩ = false := by subst hWW; go_simp
  have ltR : w.heap.size < w0.heap.size := by subst hWW; simp
  have hB := hbx
  clear hbx hWW
  have hw0 := ltR
  refine (rranged_any s p len _).mono ?_
  rintro e w1 ⟨rfl, rfl⟩
  go_wp2_with fail
  exact bodyPost_ret (v := .tuple #[.agg #[.int .i64 0, .int .i64 0, .slice none 0 0, .int .u64 0], .int .i64 3]) (by simp [results, Try.results18, go_sem, cR0, cR1, cR2, cR3]) rfl ⟨rfl, ((((hB.setCell (p := ⟨w.heap.size, 0, none⟩) (Nat.le_refl _) _).setCell (p := ⟨w.heap.size, 1, none⟩) (Nat.le_refl _) _).setCell (p := ⟨w.heap.size, 2, none⟩) (Nat.le_refl _) _).setCell (p := ⟨w.heap.size, 3, none⟩) (Nat.le_refl _) _)⟩

set_option maxHeartbeats 400000 in
theorem copied_any (xs : List UInt8) (a : Option Addr) (len cap : Nat) (w : World) (hx : Bytes w a len cap xs) (hm : len ≤ 1048576) :
    Calls Try.prog 38 #[.slice a len cap] w fun e w' => ∃ b d, e = .returned (.slice b len d) ∧ Bytes w' b len d xs ∧ Under' w.heap.size b len ∧ Below w.heap.size w w' := by
  have HX := Lib.hid hx
  clear hx
  go_enter Try.func38, Try.ntmps38
  go_wp2_with fail
  go_loopw [3, 8] (fun u i wr => ∃ k : Nat, k ≤ len ∧ i = .int .i64 k ∧ Hid (Owns wr w.heap.size 5 u (bvs (xs.take k))) ∧ Below w.heap.size w wr) (fun _ i _ => len - (intOf i).toNat)
  case atStart => exact ⟨0, by omega, rfl, Lib.hid (Owns.nil _ _ _), Below.refl _ _⟩
  case round =>
    obtain ⟨k, hk, rfl, HO, hB⟩ := hrel
    by_cases hlt : k < len
    · obtain ⟨b, off, rfl, _, hcc⟩ := HX.out.2.at (k := k) hlt
      have c1 := hcc k hlt wr hB
      have HT := Lib.hid (show bvs (xs.take k) ++ [bv (xs.getD k 0)] = bvs (xs.take (k + 1)) by rw [take_snoc xs k 0 (by rw [HX.out.1]; exact hlt)]; simp [bvs])
      have hl1 : (bvs (xs.take k)).length = k := by rw [bvs_length, List.length_take, HX.out.1]; omega
      have hsz := hB.size
      clear hcc
      generalize hxk : xs.getD k 0 = y at *
      clear hxk
      go_wp2_with (at_builtin; go_must (refine wpList_app1 rfl _ _ 22 rfl w.heap.size 5 (.int .u8 0) 1 Try.underlying22 infoByte rfl u3 (bvs (xs.take k)) rfl (.int .u8 (y.toNat : Int)) rfl HO.out rfl (by rw [hl1]; omega) (by rw [hl1]; simp only [maxLen]; omega) hsz fun v' w' h1 h2 => ?_))
      have H1 := Lib.hid (show Owns w' w.heap.size 5 v' (bvs (xs.take (k + 1))) by rw [← HT.out]; exact h1)
      have hB2 := hB.trans (h2.below hsz HO.out.lt)
      clear h1 h2
      go_wp2_with fail
      go_roundw
      case rel => exact ⟨k + 1, by omega, by go_num, H1, hB2⟩
      case measure => simp [intOf]; omega
    · obtain rfl : k = len := by omega
      have HT := Lib.hid (show xs.take k = xs from List.take_of_length_le (by rw [HX.out.1]; omega))
      have h1 := HO.out
      rw [HT.out] at h1
      obtain ⟨b, n, d, rfl, hb⟩ := h1.bytes
      obtain rfl : n = k := by rw [← hb.1]; exact HX.out.1
      have HB := Lib.hid hb
      have HU := Lib.hid (show Under' w.heap.size b n from .inr fun x hx => h1.lt _ (by subst hx; rfl))
      clear hb h1 HO
      go_wp2_with fail
      go_ret
      exact ⟨b, d, rfl, HB.out, HU.out, hB⟩
set_option maxHeartbeats 1000000 in
theorem rpacket_ok (s p : Nat) (xs : List UInt8) (a : Option Addr) (len cap : Nat) (w : World) (hx : Bytes w a len cap xs) (h : OkP s p len) :
    Calls Try.prog 18 #[.int .i64 s, .int .i64 p, .slice a len cap] w fun e w' => ∃ b d, e = .returned (.tuple #[.agg #[.int .i64 s, .int .i64 p, .slice b len d, .int .u64 (sumU s p xs).toNat], .int .i64 0]) ∧ Bytes w' b len d xs ∧ Under' w.heap.size b len ∧ Below w.heap.size w w' := by
  have d0 : decide (OkP s p len) = true := decide_eq_true h
  have hs : s ≤ 9223372036854775807 := by have := h.1.2; omega
  have hp : p ≤ 9223372036854775807 := by have := h.2.2.1; omega
  have hm : len ≤ 1048576 := by have := h.2.2.2.2.1; omega
  have HX := Lib.hid hx
  clear hx h
  go_enter Try.func18, Try.ntmps18
  go_wp2_with fail
  have hbx : Below w.heap.size w (w.alloc (.cells #[.int .i64 0, .int .i64 0, .slice none 0 0, .int .u64 0] 35)) := ((Below.refl _ _).alloc (Nat.le_refl _) _)
  generalize hWW : (w.alloc (.cells #[.int .i64 0, .int .i64 0, .slice none 0 0, .int .u64 0] 35)) = w0 at *
  replace HX := Lib.hid (HX.out.below hbx)
  have cR0 : w0.cell? ⟨w.heap.size, 0, none⟩ = some (.int .i64 0) := by subst hWW; go_simp
  have fR0 : w0.frozen? ⟨w.heap.size, 0, none⟩ = false := by subst hWW; go_simp
  have cR1 : w0.cell? ⟨w.heap.size, 1, none⟩ = some (.int .i64 0) := by subst hWW; go_simp
  have fR1 : w0.frozen? ⟨w.heap.size, 1, none⟩ = false := by subst hWW; go_simp
  have cR2 : w0.cell? ⟨w.heap.size, 2, none⟩ = some (.slice none 0 0) := by subst hWW; go_simp
  have fR2 : w0.frozen? ⟨w.heap.size, 2, none⟩ = false := by subst hWW; go_simp
  have cR3 : w0.cell? ⟨w.heap.size, 3, none⟩ = some (.int .u64 0) := by subst hWW; go_simp
  have fR3 : w0.frozen? ⟨w.heap.size, 3, none⟩ = false := by subst hWW; go_simp
  have ltR : w.heap.size < w0.heap.size := by subst hWW; simp
  have hB := hbx
  clear hbx hWW
  have hw0 := ltR
  refine (rranged_any s p len _).mono ?_
  rintro e w1 ⟨rfl, rfl⟩
  go_wp2_with fail
  refine (copied_any xs a len cap _ HX.out hm).mono ?_
  rintro e w2 ⟨b, d, rfl, hv, hu, hb⟩
  replace cR0 := bc hb ltR cR0
  replace fR0 := bf hb ltR fR0
  replace cR1 := bc hb ltR cR1
  replace fR1 := bf hb ltR fR1
  replace cR2 := bc hb ltR cR2
  replace fR2 := bf hb ltR fR2
  replace cR3 := bc hb ltR cR3
  replace fR3 := bf hb ltR fR3
  replace ltR := bl hb ltR
  replace HX := Lib.hid (HX.out.below hb)
  replace hB := hB.trans (hb.mono hB.size)
  have HV := Lib.hid hv
  have hu2 : Under' w.heap.size b len := hu.imp id fun h x hx => by have := h x hx; omega
  have ho : OffB w.heap.size b len := hu.off hw0
  clear hv hu
  clear hb
  go_wp2_with fail
  refine (rsum_any s p xs a len cap _ hs hp HX.out).mono ?_
  rintro e w3 ⟨rfl, rfl⟩
  go_wp2_with fail
  exact bodyPost_ret (v := .tuple #[.agg #[.int .i64 s, .int .i64 p, .slice b len d, .int .u64 (sumU s p xs).toNat], .int .i64 0]) (by simp [results, Try.results18, go_sem, cR0, cR1, cR2, cR3]) rfl ⟨b, d, rfl, (((HV.out.set ho 0 _).set ho 1 _).set ho 2 _).set ho 3 _, hu2, ((((hB.setCell (p := ⟨w.heap.size, 0, none⟩) (Nat.le_refl _) _).setCell (p := ⟨w.heap.size, 1, none⟩) (Nat.le_refl _) _).setCell (p := ⟨w.heap.size, 2, none⟩) (Nat.le_refl _) _).setCell (p := ⟨w.heap.size, 3, none⟩) (Nat.le_refl _) _)⟩
set_option maxHeartbeats 1000000 in
theorem rdiv_no (s : Int) (a : Option Addr) (len cap fr : Nat) (size : Int) (w : World) (hlen : len ≤ 140737488355328) (hf : fr ≤ len) (h : ¬ OkC s len fr size) :
    Calls Try.prog 41 #[.int .i64 s, .slice a len cap, .int .i64 fr, .int .i64 size] w fun e w' =>  e = .returned (.tuple #[.slice none 0 0, .int .i64 3]) ∧ w = w' := by
  by_cases h0 : OkS s
  rotate_left
  · have d0 : decide (OkS s) = false := decide_eq_false h0
    clear h
    go_enter Try.func41, Try.ntmps41
    go_wp2_with fail
    refine (wi_s s _).mono ?_
    rintro e w1 ⟨rfl, rfl⟩
    go_wp2_with fail
    go_ret2
    exact ⟨rfl, rfl⟩
  have d0 : decide (OkS s) = true := decide_eq_true h0
  by_cases h1 : 1 ≤ size ∧ size ≤ 2000
  rotate_left
  · have d1 : decide (1 ≤ size ∧ size ≤ 2000) = false := decide_eq_false h1
    have D1 := Lib.hid d1
    clear h d1 h1
    go_enter Try.func41, Try.ntmps41
    go_wp2_with fail
    refine (wi_s s _).mono ?_
    rintro e w1 ⟨rfl, rfl⟩
    go_wp2_with fail
    refine (wi_any size 1 2000 _).mono ?_
    rintro e w1 ⟨rfl, rfl⟩
    rw [D1.out]
    go_wp2_with fail
    go_ret2
    exact ⟨rfl, rfl⟩
  have D1 := Lib.hid (show decide (1 ≤ size ∧ size ≤ 2000) = true from decide_eq_true h1)
  by_cases h3 : (1048576 : Int) < len
  · have d3 : decide ((1048576 : Int) < len) = true := decide_eq_true h3
    clear h h1
    go_enter Try.func41, Try.ntmps41
    go_wp2_with fail
    refine (wi_s s _).mono ?_
    rintro e w1 ⟨rfl, rfl⟩
    go_wp2_with fail
    refine (wi_any size 1 2000 _).mono ?_
    rintro e w1 ⟨rfl, rfl⟩
    rw [D1.out]
    go_wp2_with fail
    go_ret2
    exact ⟨rfl, rfl⟩
  have d3 : decide ((1048576 : Int) < len) = false := decide_eq_false h3
  obtain ⟨sz, rfl⟩ : ∃ sz : Nat, size = (sz : Int) := ⟨size.toNat, by omega⟩
  have h4 : 1024 < cutN len fr sz := by
    have h5 : ¬ cutN len fr sz ≤ 1024 := fun h6 => h ⟨h0, by omega, by omega, by omega, by simpa using h6⟩
    omega
  have hz : (sz : Int) ≠ 0 := by omega
  have hzn : sz ≠ 0 := by omega
  have hs1 := h1.1
  have hs2 := h1.2
  have hq : ((len : Int) - fr + sz - 1) / sz = (cutN len fr sz : Nat) := cutN_int (by omega) hf
  have d4 : decide (1024 < ((len : Int) - fr + sz - 1) / sz) = true := decide_eq_true (by rw [hq]; omega)
  clear h hq h4 h1
  go_enter Try.func41, Try.ntmps41
  go_wp2_with fail
  refine (wi_s s _).mono ?_
  rintro e w1 ⟨rfl, rfl⟩
  go_wp2_with fail
  refine (wi_any (sz : Int) 1 2000 _).mono ?_
  rintro e w1 ⟨rfl, rfl⟩
  rw [D1.out]
  go_wp2_with fail
  go_ret2
  exact ⟨rfl, rfl⟩
set_option maxHeartbeats 2000000 in
theorem rdiv_ok (s : Nat) (log : List UInt8) (a : Option Addr) (len cap fr sz : Nat) (w : World) (hx : Bytes w a len cap log) (hf : fr ≤ len) (h : OkC s len fr sz) :
    Calls Try.prog 41 #[.int .i64 s, .slice a len cap, .int .i64 fr, .int .i64 sz] w fun e w' => ∃ b c, e = .returned (.tuple #[.slice b (cutN len fr sz) c, .int .i64 0]) ∧ PksIn w' b (cutN len fr sz) c (fun i => pk s log (cutP len fr sz i)) ∧ Below w.heap.size w w' := by
  obtain ⟨h0, h1, h2, h3, h4⟩ := h
  simp only [Int.toNat_natCast] at h4
  have d0 : decide (OkS s) = true := decide_eq_true h0
  have D1 := Lib.hid (show decide (1 ≤ (sz : Int) ∧ (sz : Int) ≤ 2000) = true from decide_eq_true ⟨h1, h2⟩)
  have H0 := Lib.hid h0
  have hzn : sz ≠ 0 := by omega
  have d3 : decide ((1048576 : Int) < len) = false := decide_eq_false (by omega)
  have hz : (sz : Int) ≠ 0 := by omega
  have hq : ((len : Int) - fr + sz - 1) / sz = (cutN len fr sz : Nat) := cutN_int (by omega) hf
  have d4 : decide (1024 < ((len : Int) - fr + sz - 1) / sz) = false := decide_eq_false (by rw [hq]; omega)
  have HN := Lib.hid (fun i => cutN_iff (i := i) (show 1 ≤ sz by omega) hf)
  have hs1 : s ≤ 9999999 := by have := h0.2; omega
  generalize hK : cutN len fr sz = K at *
  have HX := Lib.hid hx
  have hcl := hx.2.1
  have hcm := hx.2.2.1
  unfold maxLen at hcm
  have hz1 : 1 ≤ sz := by omega
  have hz2 : sz ≤ 2000 := by omega
  have hl2 : len ≤ 1048576 := by omega
  clear hx hq hK h0 h1 h2 h3
  go_enter Try.func41, Try.ntmps41
  go_wp2_with fail
  refine (wi_s s _).mono ?_
  rintro e w1 ⟨rfl, rfl⟩
  go_wp2_with fail
  refine (wi_any (sz : Int) 1 2000 _).mono ?_
  rintro e w1 ⟨rfl, rfl⟩
  rw [D1.out]
  go_wp2_with fail
  go_loopw [10, 11] (fun u i wr => ∃ k A : Nat, k ≤ K ∧ A = fr + k * sz ∧ i = .int .i64 A ∧ Hid (PU wr w.heap.size u k (fun i => pk s log (cutP len fr sz i))) ∧ Below w.heap.size w wr) (fun _ i _ => len - (intOf i).toNat)
  case atStart => exact ⟨0, fr, by omega, by simp, rfl, Lib.hid (PU.nil _ _ _), Below.refl _ _⟩
  case round =>
    obtain ⟨k, A, hk, hA, rfl, HU, hB⟩ := hrel
    by_cases hlt : k < K
    · have hAl : A < len := by rw [hA]; exact (HN.out k).1 hlt
      have d5 : decide ((A : Int) < len) = true := decide_eq_true (by omega)
      have HA := Lib.hid hA
      obtain ⟨b, off, rfl, -, -⟩ := HX.out.2.at (k := A) (by omega)
      obtain ⟨cs, hO, hC⟩ := HU.out
      have HO := Lib.hid hO
      have HC := Lib.hid hC
      clear hC hO HU hA
      by_cases hend : A + sz ≤ len
      · have d6 : decide ((A : Int) + sz ≤ len) = true := decide_eq_true (by omega)
        have HX1 := Lib.hid (by have h := (HX.out.below hB).sub A (sz) (by omega); rw [if_neg (show ¬ cap = A by omega)] at h; simpa only [Option.map_some, addr_add] using h : Bytes wr (some ⟨b, off + A, none⟩) (sz) (cap - A) ((log.drop A).take (sz)))
        have HP := Lib.hid (show pk s log (cutP len fr sz k) = ⟨s, A, (log.drop A).take (sz), sumU s A ((log.drop A).take (sz))⟩ by
          unfold cutP; rw [← HA.out, show min sz (len - A) = sz by omega]; rfl)
        generalize hdd : (log.drop A).take (sz) = dd at *
        generalize hsu : sumU s A dd = su at *
        have HS := Lib.hid hsu
        clear hdd hsu
        go_wp2_with fail
        refine (rpacket_ok s A dd _ (sz) (cap - A) _ HX1.out ⟨H0.out, by omega, by omega, by omega, by omega, by omega⟩).mono ?_
        rintro e w1 ⟨b1, c1, rfl, hv, hu, hb⟩
        rw [HS.out]
        have hba : Below w1.heap.size w1 (w1.alloc (.cells #[.int .i64 s, .int .i64 A, .slice b1 (sz) c1, .int .u64 su.toNat] 35)) := (Below.refl _ _).alloc (Nat.le_refl _) _
        have HV := Lib.hid (hv.below hba)
        have HU1 := Lib.hid hu
        have HO1 := Lib.hid ((HO.out.later hb).later hba)
        have HC1 := Lib.hid (fun i (hi : i < k) => ((HC.out i hi).later hb).later hba)
        have hB1 := hB.trans ((hb.trans (hba.mono hb.size)).mono hB.size)
        have HLt := Lib.hid (HO.out.in)
        clear hv hu hb hba
        have hsz := hB1.size
        go_wp2_with (at_builtin; go_must (refine wpList_appK1 (w := (w1.alloc (.cells #[.int .i64 s, .int .i64 A, .slice b1 (sz) c1, .int .u64 su.toNat] 35))) rfl _ _ 24 rfl w.heap.size 35 4 (by omega) _ 48 Try.underlying24 infoPacket rfl u10 k cs rfl [.int .i64 s, .int .i64 A, .slice b1 (sz) c1, .int .u64 su.toNat] rfl (by simp [Value.oneCell']) HO1.out (by simp; rfl) (by omega) (by simp only [maxLen]; omega) hsz fun v' w2 g1 g2 => ?_))
        have HU2 := Lib.hid (PU.step (m := ⟨s, A, dd, su⟩) HO1.out HC1.out g2 g1 HV.out (fun g hg => HU1.out.off (HLt.out g hg)) HP.out)
        have HB2 := Lib.hid (hB1.trans (g2.below hB1.size HO1.out.lt))
        clear g1 g2
        go_wp2_with fail
        go_roundw
        case rel => exact ⟨k + 1, A + sz, by omega, by rw [HA.out, Nat.succ_mul, Nat.add_assoc], by go_num, HU2, HB2.out⟩
        case measure => simp [intOf]; omega
      · have d6 : decide ((A : Int) + sz ≤ len) = false := decide_eq_false (by omega)
        have HX1 := Lib.hid (by have h := (HX.out.below hB).sub A (len - A) (by omega); rw [if_neg (show ¬ cap = A by omega)] at h; simpa only [Option.map_some, addr_add] using h : Bytes wr (some ⟨b, off + A, none⟩) (len - A) (cap - A) ((log.drop A).take (len - A)))
        have HP := Lib.hid (show pk s log (cutP len fr sz k) = ⟨s, A, (log.drop A).take (len - A), sumU s A ((log.drop A).take (len - A))⟩ by
          unfold cutP; rw [← HA.out, show min sz (len - A) = len - A by omega]; rfl)
        generalize hdd : (log.drop A).take (len - A) = dd at *
        generalize hsu : sumU s A dd = su at *
        have HS := Lib.hid hsu
        clear hdd hsu
        go_wp2_with fail
        refine (rpacket_ok s A dd _ (len - A) (cap - A) _ HX1.out ⟨H0.out, by omega, by omega, by omega, by omega, by omega⟩).mono ?_
        rintro e w1 ⟨b1, c1, rfl, hv, hu, hb⟩
        rw [HS.out]
        have hba : Below w1.heap.size w1 (w1.alloc (.cells #[.int .i64 s, .int .i64 A, .slice b1 (len - A) c1, .int .u64 su.toNat] 35)) := (Below.refl _ _).alloc (Nat.le_refl _) _
        have HV := Lib.hid (hv.below hba)
        have HU1 := Lib.hid hu
        have HO1 := Lib.hid ((HO.out.later hb).later hba)
        have HC1 := Lib.hid (fun i (hi : i < k) => ((HC.out i hi).later hb).later hba)
        have hB1 := hB.trans ((hb.trans (hba.mono hb.size)).mono hB.size)
        have HLt := Lib.hid (HO.out.in)
        clear hv hu hb hba
        have hsz := hB1.size
        go_wp2_with (at_builtin; go_must (refine wpList_appK1 (w := (w1.alloc (.cells #[.int .i64 s, .int .i64 A, .slice b1 (len - A) c1, .int .u64 su.toNat] 35))) rfl _ _ 24 rfl w.heap.size 35 4 (by omega) _ 48 Try.underlying24 infoPacket rfl u10 k cs rfl [.int .i64 s, .int .i64 A, .slice b1 (len - A) c1, .int .u64 su.toNat] rfl (by simp [Value.oneCell']) HO1.out (by simp; rfl) (by omega) (by simp only [maxLen]; omega) hsz fun v' w2 g1 g2 => ?_))
        have HU2 := Lib.hid (PU.step (m := ⟨s, A, dd, su⟩) HO1.out HC1.out g2 g1 HV.out (fun g hg => HU1.out.off (HLt.out g hg)) HP.out)
        have HB2 := Lib.hid (hB1.trans (g2.below hB1.size HO1.out.lt))
        clear g1 g2
        go_wp2_with fail
        go_roundw
        case rel => exact ⟨k + 1, A + sz, by omega, by rw [HA.out, Nat.succ_mul, Nat.add_assoc], by go_num, HU2, HB2.out⟩
        case measure => simp [intOf]; omega
    · obtain rfl : k = K := by omega
      have hAl : len ≤ A := by have h5 := (HN.out k).2; omega
      obtain ⟨b, c, rfl, hP⟩ := HU.out.in
      have HP := Lib.hid hP
      clear hP HU hA
      go_wp2_with fail
      go_ret2
      exact ⟨b, c, rfl, HP.out, hB⟩

theorem rsplit_no (s : Int) (a : Option Addr) (len cap : Nat) (size : Int) (w : World) (hlen : len ≤ 140737488355328) (h : ¬ OkC s len 0 size) :
    Calls Try.prog 21 #[.int .i64 s, .slice a len cap, .int .i64 size] w fun e w' => e = .returned (.tuple #[.slice none 0 0, .int .i64 3]) ∧ w = w' := by
  go_enter Try.func21, Try.ntmps21
  go_wp2_with fail
  refine (rdiv_no s a len cap 0 size _ hlen (by omega) h).mono ?_
  rintro e w1 ⟨rfl, rfl⟩
  go_wp2_with fail
  go_ret2
  exact ⟨rfl, rfl⟩
theorem rsplit_ok (s : Nat) (log : List UInt8) (a : Option Addr) (len cap sz : Nat) (w : World) (hx : Bytes w a len cap log) (h : OkC s len 0 sz) :
    Calls Try.prog 21 #[.int .i64 s, .slice a len cap, .int .i64 sz] w fun e w' => ∃ b c, e = .returned (.tuple #[.slice b (cutN len 0 sz) c, .int .i64 0]) ∧ PksIn w' b (cutN len 0 sz) c (fun i => pk s log (cutP len 0 sz i)) ∧ Below w.heap.size w w' := by
  have HX := Lib.hid hx
  clear hx
  go_enter Try.func21, Try.ntmps21
  go_wp2_with fail
  refine (rdiv_ok s log a len cap 0 sz _ HX.out (by omega) h).mono ?_
  rintro e w1 ⟨b, c, rfl, h1, hb⟩
  have H1 := Lib.hid h1
  clear h1
  go_wp2_with fail
  go_ret2
  exact ⟨b, c, rfl, H1.out, hb⟩
theorem pre_iff {xs ys : List UInt8} (h : xs.length ≤ ys.length) : xs <+: ys ↔ ∀ j, j < xs.length → xs.getD j 0 = ys.getD j 0 := by
  constructor
  · rintro ⟨zs, rfl⟩ j hj
    simp [List.getD, List.getElem?_append_left hj]
  · intro h1
    refine ⟨ys.drop xs.length, ?_⟩
    have e : xs = ys.take xs.length := by
      refine List.ext_getElem (by simp; omega) fun j h2 h3 => ?_
      have := h1 j h2
      simp [List.getD, h2, show j < ys.length by omega] at this
      simpa using this
    rw (occs := .pos [1]) [e]
    exact List.take_append_drop _ _
set_option maxHeartbeats 1000000 in
theorem ragree_any (xs ys : List UInt8) (a b : Option Addr) (n c m d : Nat) (w : World) (hx : Bytes w a n c xs) (hy : Bytes w b m d ys) (hnm : n ≤ m) :
    Calls Try.prog 44 #[.slice a n c, .int .i64 0, .slice b m d, .int .i64 0] w fun e w' => e = .returned (.bool (decide (xs <+: ys))) ∧ Below w.heap.size w w' := by
  have hmm : m ≤ 9223372036854775807 := by have h3 := hy.2.1; have h4 := hy.2.2.1; unfold maxLen at h4; omega
  have HX := Lib.hid hx
  have HY := Lib.hid hy
  have HI := Lib.hid (pre_iff (xs := xs) (ys := ys) (by rw [hx.1, hy.1]; exact hnm))
  clear hx hy
  go_enter Try.func44, Try.ntmps44
  go_wp2_with fail
  go_loopw [14] (fun i wr => ∃ k : Nat, k ≤ m ∧ i = .int .i64 k ∧ Hid (∀ j, j < k → j < n → xs.getD j 0 = ys.getD j 0) ∧ Below w.heap.size w wr) (fun i _ => m - (intOf i).toNat)
  case atStart => exact ⟨0, by omega, rfl, Lib.hid (fun j hj => by omega), Below.refl _ _⟩
  case round =>
    obtain ⟨k, hk, rfl, HE, hb⟩ := hrel
    by_cases hlt : k < m
    · obtain ⟨b2, off2, rfl, _, hcc2⟩ := HY.out.2.at (k := k) hlt
      have y0 := hcc2 k hlt wr hb
      clear hcc2
      by_cases hkn : k < n
      · obtain ⟨b1, off1, rfl, _, hcc1⟩ := HX.out.2.at (k := k) hkn
        have x0 := hcc1 k hkn wr hb
        clear hcc1
        have dk : decide (k < n) = true := decide_eq_true hkn
        have HK := Lib.hid (show xs.getD k 0 = ys.getD k 0 → ∀ j, j < k + 1 → j < n → xs.getD j 0 = ys.getD j 0 from fun h j hj hjn => by
          by_cases hjk : j = k
          · subst hjk; exact h
          · exact HE.out j (by omega) hjn)
        have HN := Lib.hid (show xs.getD k 0 ≠ ys.getD k 0 → decide (xs <+: ys) = false from fun h => decide_eq_false fun h9 => h (HI.out.1 h9 k (by rw [HX.out.1]; exact hkn)))
        generalize xs.getD k 0 = x at *
        generalize ys.getD k 0 = y at *
        by_cases hxy : x = y
        · have HKy := Lib.hid (HK.out hxy)
          subst hxy
          go_wp2_with fail
          go_roundw
          case rel => exact ⟨k + 1, by omega, by go_num, HKy, hb⟩
          case measure => simp [intOf]; omega
        · have HNy := Lib.hid (HN.out hxy)
          have hne : ((x.toNat : Int) == (y.toNat : Int)) = false := by
            simp only [beq_eq_false_iff_ne, ne_eq, Int.ofNat_inj]
            exact fun h9 => hxy (UInt8.toNat_inj.1 h9)
          have hne2 : x.toNat ≠ y.toNat := fun h9 => hxy (UInt8.toNat_inj.1 h9)
          go_wp2_with fail
          go_ret
          exact ⟨by rw [HNy.out]; rfl, hb⟩
      · have dk : decide (k < n) = false := decide_eq_false hkn
        go_wp2_with fail
        go_roundw
        case rel => exact ⟨k + 1, by omega, by go_num, Lib.hid (fun j hj hjn => HE.out j (by omega) hjn), hb⟩
        case measure => simp [intOf]; omega
    · obtain rfl : k = m := by omega
      have HT := Lib.hid (show decide (xs <+: ys) = true from decide_eq_true (HI.out.2 fun j hj => HE.out j (by rw [HX.out.1] at hj; omega) (by rw [HX.out.1] at hj; exact hj)))
      go_wp2_with fail
      go_ret
      exact ⟨by rw [HT.out]; rfl, hb⟩
set_option maxHeartbeats 1000000 in
theorem rrest_far1 (s : Int) (da log : List UInt8) (a1 a2 a : Option Addr) (n1 c1 n2 c2 len cap : Nat) (sz : Int) (w : World) (hd : Bytes w a1 n1 c1 da) (hx : Bytes w a len cap log) (h : len < n1) :
    Calls Try.prog 25 #[.agg #[.int .i64 s, .slice a1 n1 c1, .slice a2 n2 c2], .slice a len cap, .int .i64 sz] w fun e w' => e = .returned (.tuple #[.slice none 0 0, .int .i64 11]) ∧ Below w.heap.size w w' := by
  have HD := Lib.hid hd
  have HX := Lib.hid hx
  have d0 : decide (len < n1) = true := decide_eq_true h
  clear hd hx
  go_enter Try.func25, Try.ntmps25
  go_wp2_with fail
  have hbx : Below w.heap.size w (w.alloc (.cells #[.int .i64 s, .slice a1 n1 c1, .slice a2 n2 c2] 28)) := ((Below.refl _ _).alloc (Nat.le_refl _) _)
  generalize hWW : (w.alloc (.cells #[.int .i64 s, .slice a1 n1 c1, .slice a2 n2 c2] 28)) = w0 at *
  replace HD := Lib.hid (HD.out.below hbx)
  replace HX := Lib.hid (HX.out.below hbx)
  have cI0 : w0.cell? ⟨w.heap.size, 0, none⟩ = some (.int .i64 s) := by subst hWW; go_simp
  have cI1 : w0.cell? ⟨w.heap.size, 1, none⟩ = some (.slice a1 n1 c1) := by subst hWW; go_simp
  have cI2 : w0.cell? ⟨w.heap.size, 2, none⟩ = some (.slice a2 n2 c2) := by subst hWW; go_simp
  have ltI : w.heap.size < w0.heap.size := by subst hWW; simp
  have hB := hbx
  clear hbx hWW
  go_ret2
  exact ⟨rfl, hB⟩
set_option maxHeartbeats 1000000 in
theorem rrest_far2 (s : Int) (da log : List UInt8) (a1 a2 a : Option Addr) (n1 c1 n2 c2 len cap : Nat) (sz : Int) (w : World) (hd : Bytes w a1 n1 c1 da) (hx : Bytes w a len cap log) (hn : n1 ≤ len) (h : ¬ da <+: log) :
    Calls Try.prog 25 #[.agg #[.int .i64 s, .slice a1 n1 c1, .slice a2 n2 c2], .slice a len cap, .int .i64 sz] w fun e w' => e = .returned (.tuple #[.slice none 0 0, .int .i64 11]) ∧ Below w.heap.size w w' := by
  have HD := Lib.hid hd
  have HX := Lib.hid hx
  have d0 : decide (len < n1) = false := decide_eq_false (by omega)
  have HF := Lib.hid (show decide (da <+: log) = false from decide_eq_false h)
  clear hd hx h
  go_enter Try.func25, Try.ntmps25
  go_wp2_with fail
  have hbx : Below w.heap.size w (w.alloc (.cells #[.int .i64 s, .slice a1 n1 c1, .slice a2 n2 c2] 28)) := ((Below.refl _ _).alloc (Nat.le_refl _) _)
  generalize hWW : (w.alloc (.cells #[.int .i64 s, .slice a1 n1 c1, .slice a2 n2 c2] 28)) = w0 at *
  replace HD := Lib.hid (HD.out.below hbx)
  replace HX := Lib.hid (HX.out.below hbx)
  have cI0 : w0.cell? ⟨w.heap.size, 0, none⟩ = some (.int .i64 s) := by subst hWW; go_simp
  have cI1 : w0.cell? ⟨w.heap.size, 1, none⟩ = some (.slice a1 n1 c1) := by subst hWW; go_simp
  have cI2 : w0.cell? ⟨w.heap.size, 2, none⟩ = some (.slice a2 n2 c2) := by subst hWW; go_simp
  have ltI : w.heap.size < w0.heap.size := by subst hWW; simp
  have hB := hbx
  clear hbx hWW
  refine (ragree_any da log a1 a n1 c1 len cap _ HD.out HX.out hn).mono ?_
  rintro e w1 ⟨rfl, hb⟩
  replace cI0 := bc hb ltI cI0
  replace cI1 := bc hb ltI cI1
  replace cI2 := bc hb ltI cI2
  replace ltI := bl hb ltI
  replace HD := Lib.hid (HD.out.below hb)
  replace HX := Lib.hid (HX.out.below hb)
  replace hB := hB.trans (hb.mono hB.size)
  rw [HF.out]
  clear hb
  go_wp2_with fail
  go_ret2
  exact ⟨rfl, hB⟩
theorem rrest_far (s : Int) (da log : List UInt8) (a1 a2 a : Option Addr) (n1 c1 n2 c2 len cap : Nat) (sz : Int) (w : World) (hd : Bytes w a1 n1 c1 da) (hx : Bytes w a len cap log) (h : ¬ da <+: log) :
    Calls Try.prog 25 #[.agg #[.int .i64 s, .slice a1 n1 c1, .slice a2 n2 c2], .slice a len cap, .int .i64 sz] w fun e w' => e = .returned (.tuple #[.slice none 0 0, .int .i64 11]) ∧ Below w.heap.size w w' := by
  by_cases hn : n1 ≤ len
  · exact rrest_far2 s da log a1 a2 a n1 c1 n2 c2 len cap sz w hd hx hn h
  · exact rrest_far1 s da log a1 a2 a n1 c1 n2 c2 len cap sz w hd hx (by omega)
set_option maxHeartbeats 1000000 in
theorem rrest_no (s : Int) (da log : List UInt8) (a1 a2 a : Option Addr) (n1 c1 n2 c2 len cap : Nat) (sz : Int) (w : World) (hd : Bytes w a1 n1 c1 da) (hx : Bytes w a len cap log) (hlen : len ≤ 140737488355328) (h : da <+: log) (ho : ¬ OkC s len n1 sz) :
    Calls Try.prog 25 #[.agg #[.int .i64 s, .slice a1 n1 c1, .slice a2 n2 c2], .slice a len cap, .int .i64 sz] w fun e w' => e = .returned (.tuple #[.slice none 0 0, .int .i64 3]) ∧ Below w.heap.size w w' := by
  have HD := Lib.hid hd
  have HX := Lib.hid hx
  have hn : n1 ≤ len := by have := h.length_le; rw [hd.1, hx.1] at this; exact this
  have d0 : decide (len < n1) = false := decide_eq_false (by omega)
  have HF := Lib.hid (show decide (da <+: log) = true from decide_eq_true h)
  clear hd hx h
  go_enter Try.func25, Try.ntmps25
  go_wp2_with fail
  have hbx : Below w.heap.size w (w.alloc (.cells #[.int .i64 s, .slice a1 n1 c1, .slice a2 n2 c2] 28)) := ((Below.refl _ _).alloc (Nat.le_refl _) _)
  generalize hWW : (w.alloc (.cells #[.int .i64 s, .slice a1 n1 c1, .slice a2 n2 c2] 28)) = w0 at *
  replace HD := Lib.hid (HD.out.below hbx)
  replace HX := Lib.hid (HX.out.below hbx)
  have cI0 : w0.cell? ⟨w.heap.size, 0, none⟩ = some (.int .i64 s) := by subst hWW; go_simp
  have cI1 : w0.cell? ⟨w.heap.size, 1, none⟩ = some (.slice a1 n1 c1) := by subst hWW; go_simp
  have cI2 : w0.cell? ⟨w.heap.size, 2, none⟩ = some (.slice a2 n2 c2) := by subst hWW; go_simp
  have ltI : w.heap.size < w0.heap.size := by subst hWW; simp
  have hB := hbx
  clear hbx hWW
  refine (ragree_any da log a1 a n1 c1 len cap _ HD.out HX.out hn).mono ?_
  rintro e w1 ⟨rfl, hb⟩
  replace cI0 := bc hb ltI cI0
  replace cI1 := bc hb ltI cI1
  replace cI2 := bc hb ltI cI2
  replace ltI := bl hb ltI
  replace HD := Lib.hid (HD.out.below hb)
  replace HX := Lib.hid (HX.out.below hb)
  replace hB := hB.trans (hb.mono hB.size)
  rw [HF.out]
  clear hb
  go_wp2_with fail
  refine (rdiv_no s a len cap n1 sz _ hlen hn ho).mono ?_
  rintro e w2 ⟨rfl, rfl⟩
  go_wp2_with fail
  go_ret2
  exact ⟨rfl, hB⟩
set_option maxHeartbeats 1000000 in
theorem rrest_ok (s : Nat) (da log : List UInt8) (a1 a2 a : Option Addr) (n1 c1 n2 c2 len cap : Nat) (sz : Nat) (w : World) (hd : Bytes w a1 n1 c1 da) (hx : Bytes w a len cap log) (h : da <+: log) (ho : OkC s len n1 sz) :
    Calls Try.prog 25 #[.agg #[.int .i64 s, .slice a1 n1 c1, .slice a2 n2 c2], .slice a len cap, .int .i64 sz] w fun e w' => ∃ b c, e = .returned (.tuple #[.slice b (cutN len n1 sz) c, .int .i64 0]) ∧ PksIn w' b (cutN len n1 sz) c (fun i => pk s log (cutP len n1 sz i)) ∧ Below w.heap.size w w' := by
  have HD := Lib.hid hd
  have HX := Lib.hid hx
  have hn : n1 ≤ len := by have := h.length_le; rw [hd.1, hx.1] at this; exact this
  have d0 : decide (len < n1) = false := decide_eq_false (by omega)
  have HF := Lib.hid (show decide (da <+: log) = true from decide_eq_true h)
  clear hd hx h
  go_enter Try.func25, Try.ntmps25
  go_wp2_with fail
  have hbx : Below w.heap.size w (w.alloc (.cells #[.int .i64 s, .slice a1 n1 c1, .slice a2 n2 c2] 28)) := ((Below.refl _ _).alloc (Nat.le_refl _) _)
  generalize hWW : (w.alloc (.cells #[.int .i64 s, .slice a1 n1 c1, .slice a2 n2 c2] 28)) = w0 at *
  replace HD := Lib.hid (HD.out.below hbx)
  replace HX := Lib.hid (HX.out.below hbx)
  have cI0 : w0.cell? ⟨w.heap.size, 0, none⟩ = some (.int .i64 s) := by subst hWW; go_simp
  have cI1 : w0.cell? ⟨w.heap.size, 1, none⟩ = some (.slice a1 n1 c1) := by subst hWW; go_simp
  have cI2 : w0.cell? ⟨w.heap.size, 2, none⟩ = some (.slice a2 n2 c2) := by subst hWW; go_simp
  have ltI : w.heap.size < w0.heap.size := by subst hWW; simp
  have hB := hbx
  clear hbx hWW
  refine (ragree_any da log a1 a n1 c1 len cap _ HD.out HX.out hn).mono ?_
  rintro e w1 ⟨rfl, hb⟩
  replace cI0 := bc hb ltI cI0
  replace cI1 := bc hb ltI cI1
  replace cI2 := bc hb ltI cI2
  replace ltI := bl hb ltI
  replace HD := Lib.hid (HD.out.below hb)
  replace HX := Lib.hid (HX.out.below hb)
  replace hB := hB.trans (hb.mono hB.size)
  rw [HF.out]
  clear hb
  go_wp2_with fail
  refine (rdiv_ok s log a len cap n1 sz _ HX.out hn ho).mono ?_
  rintro e w2 ⟨b, c, rfl, hr, hb⟩
  replace cI0 := bc hb ltI cI0
  replace cI1 := bc hb ltI cI1
  replace cI2 := bc hb ltI cI2
  replace ltI := bl hb ltI
  replace HD := Lib.hid (HD.out.below hb)
  replace HX := Lib.hid (HX.out.below hb)
  replace hB := hB.trans (hb.mono hB.size)
  have HR := Lib.hid hr
  clear hr
  clear hb
  go_wp2_with fail
  go_ret2
  exact ⟨b, c, rfl, HR.out, hB⟩

end Go.Proofs.Ytpdodapdaeochaa
