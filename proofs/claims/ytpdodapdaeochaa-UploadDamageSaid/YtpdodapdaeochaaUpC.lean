/- Uploads: what build, check, bytes.HasPrefix, New, Packet return. Conditions: as stated. -/
import Derived.Test.YtpdodapdaeochaaUpB
namespace Go.Proofs.Ytpdodapdaeochaa
set_option maxRecDepth 100000
open Go.RowKit

set_option maxHeartbeats 1000000 in
theorem build_any (s p : Nat) (xs : List UInt8) (a : Option Addr) (len cap : Nat) (w : World) (hs : s ≤ 9223372036854775807) (hp : p ≤ 9223372036854775807) (hm : len ≤ 140737488355328) (hx : Bytes w a len cap xs) :
    Calls Try.prog 36 #[.int .i64 s, .int .i64 p, .slice a len cap] w fun e w' => ∃ b d, e = .returned (.agg #[.int .i64 s, .int .i64 p, .slice b len d, .int .u64 (sumU s p xs).toNat]) ∧ Bytes w' b len d xs ∧ Under' w.heap.size b len ∧ Below w.heap.size w w' := by
  have HX := Lib.hid hx
  clear hx
  go_enter Try.func36, Try.ntmps36
  go_wp2_with fail
  have hbx : Below w.heap.size w (w.alloc (.cells #[.int .i64 0, .int .i64 0, .slice none 0 0, .int .u64 0] 35)) := ((Below.refl _ _).alloc (Nat.le_refl _) _)
  generalize hWW : (w.alloc (.cells #[.int .i64 0, .int .i64 0, .slice none 0 0, .int .u64 0] 35)) = w0 at *
  replace HX := Lib.hid (HX.out.below hbx)
  have cR0 : w0.cell? ⟨w.heap.size, 0, none⟩ = some (.int .i64 0) := by subst hWW; go_simp
  have fR0 : w0.frozen? ⟨w.heap.size, 0, none⟩ = false := by subst hWW; go_simp
  have cR1 : w0.cell? ⟨w.heap.size, 1, none⟩ = some (.int .i64 0) := by subst hWW; go_simp
  have fR1 : w0.frozen? ⟨w.heap.size, 1, none⟩ = false := by subst hWW; go_simp
  have cR2 : w0.cell? ⟨w.heap.size, 2, none⟩ = some (.slice none 0 0) := by subst hWW; go_simp
  have fR2 : w0.frozen? ⟨w.heap.size, 2, none⟩ = false := by subst hWW; go_simp
  have cR3 : w0.cell? ⟨w.heap.size, 3, none⟩ = some (.int .u64 0) := by subst hWW; go_simp
  have fR3 : w0.frozen? ⟨w.heap.size, 3, none⟩ = false := by subst hWW; go_simp
  have ltR : w.heap.size < w0.heap.size := by subst hWW; simp
  have hB := hbx
  clear hbx hWW
  have hw0 := ltR
  refine (bclone_bytes xs a len cap _ HX.out hm).mono ?_
  rintro e w1 ⟨b, d, rfl, hv, hu, hb⟩
  replace cR0 := bc hb ltR cR0
  replace fR0 := bf hb ltR fR0
  replace cR1 := bc hb ltR cR1
  replace fR1 := bf hb ltR fR1
  replace cR2 := bc hb ltR cR2
  replace fR2 := bf hb ltR fR2
  replace cR3 := bc hb ltR cR3
  replace fR3 := bf hb ltR fR3
  replace ltR := bl hb ltR
  replace HX := Lib.hid (HX.out.below hb)
  replace hB := hB.trans (hb.mono hB.size)
  have HV := Lib.hid hv
  have HU := Lib.hid hu
  clear hv hu
  clear hb
  go_wp2_with fail
  refine (sum_any s p xs a len cap _ hs hp HX.out).mono ?_
  rintro e w2 ⟨rfl, rfl⟩
  go_wp2_with fail
  have ho : OffB w.heap.size b len := HU.out.off hw0
  exact bodyPost_ret (v := .agg #[.int .i64 s, .int .i64 p, .slice b len d, .int .u64 (sumU s p xs).toNat]) (by simp [results, Try.results36, go_sem, cR0, cR1, cR2, cR3]) rfl ⟨b, d, rfl, (((HV.out.set ho 0 _).set ho 1 _).set ho 2 _).set ho 3 _, HU.out.imp id (fun h x hx => by have := h x hx; omega), ((((hB.setCell (p := ⟨w.heap.size, 0, none⟩) (Nat.le_refl _) _).setCell (p := ⟨w.heap.size, 1, none⟩) (Nat.le_refl _) _).setCell (p := ⟨w.heap.size, 2, none⟩) (Nat.le_refl _) _).setCell (p := ⟨w.heap.size, 3, none⟩) (Nat.le_refl _) _)⟩
/-- the first rule that a packet violates -/
def chkE (m : PkM) : Int := if OkP m.se m.pos m.da.length then (if m.su = sumU m.se m.pos m.da then 0 else 12) else 3
set_option maxHeartbeats 1000000 in
theorem check_r (m : PkM) (a : Option Addr) (n c : Nat) (w : World) (hx : Bytes w a n c m.da) (ho : ¬ OkP m.se m.pos n) :
    Calls Try.prog 28 #[.agg #[.int .i64 m.se, .int .i64 m.pos, .slice a n c, .int .u64 (m.su.toNat : Int)]] w fun e w' => e = .returned (.int .i64 3) ∧ Below w.heap.size w w' := by
  have HX := Lib.hid hx
  clear hx
  have d0 : decide (OkP m.se m.pos n) = false := decide_eq_false ho
  go_enter Try.func28, Try.ntmps28
  go_wp2_with fail
  have hbx : Below w.heap.size w (w.alloc (.cells #[.int .i64 m.se, .int .i64 m.pos, .slice a n c, .int .u64 (m.su.toNat : Int)] 35)) := ((Below.refl _ _).alloc (Nat.le_refl _) _)
  generalize hWW : (w.alloc (.cells #[.int .i64 m.se, .int .i64 m.pos, .slice a n c, .int .u64 (m.su.toNat : Int)] 35)) = w0 at *
  replace HX := Lib.hid (HX.out.below hbx)
  have cP0 : w0.cell? ⟨w.heap.size, 0, none⟩ = some (.int .i64 m.se) := by subst hWW; go_simp
  have cP1 : w0.cell? ⟨w.heap.size, 1, none⟩ = some (.int .i64 m.pos) := by subst hWW; go_simp
  have cP2 : w0.cell? ⟨w.heap.size, 2, none⟩ = some (.slice a n c) := by subst hWW; go_simp
  have cP3 : w0.cell? ⟨w.heap.size, 3, none⟩ = some (.int .u64 (m.su.toNat : Int)) := by subst hWW; go_simp
  have ltP : w.heap.size < w0.heap.size := by subst hWW; simp
  have hB := hbx
  clear hbx hWW
  refine (fits_any m.se m.pos n _).mono ?_
  rintro e w1 ⟨rfl, rfl⟩
  go_wp2_with fail
  go_ret
  exact ⟨rfl, hB⟩
set_option maxHeartbeats 1000000 in
theorem check_d (m : PkM) (a : Option Addr) (n c : Nat) (w : World) (hx : Bytes w a n c m.da) (ho : OkP m.se m.pos n) (he : m.su ≠ sumU m.se m.pos m.da) :
    Calls Try.prog 28 #[.agg #[.int .i64 m.se, .int .i64 m.pos, .slice a n c, .int .u64 (m.su.toNat : Int)]] w fun e w' => e = .returned (.int .i64 12) ∧ Below w.heap.size w w' := by
  have HX := Lib.hid hx
  clear hx
  have d0 : decide (OkP m.se m.pos n) = true := decide_eq_true ho
  have hs : m.se ≤ 9223372036854775807 := by have := ho.1.2; omega
  have hp : m.pos ≤ 9223372036854775807 := by have := ho.2.2.1; omega
  have d1 : ((m.su.toNat : Int) != ((sumU m.se m.pos m.da).toNat : Int)) = true := by
    rw [bne_iff_ne]; intro h; exact he (UInt64.toNat_inj.1 (by omega))
  have HS := Lib.hid (fun w' (h : Bytes w' a n c m.da) => sum_any m.se m.pos m.da a n c w' hs hp h)
  generalize sumU m.se m.pos m.da = su at *
  clear he
  go_enter Try.func28, Try.ntmps28
  go_wp2_with fail
  have hbx : Below w.heap.size w (w.alloc (.cells #[.int .i64 m.se, .int .i64 m.pos, .slice a n c, .int .u64 (m.su.toNat : Int)] 35)) := ((Below.refl _ _).alloc (Nat.le_refl _) _)
  generalize hWW : (w.alloc (.cells #[.int .i64 m.se, .int .i64 m.pos, .slice a n c, .int .u64 (m.su.toNat : Int)] 35)) = w0 at *
  replace HX := Lib.hid (HX.out.below hbx)
  have cP0 : w0.cell? ⟨w.heap.size, 0, none⟩ = some (.int .i64 m.se) := by subst hWW; go_simp
  have cP1 : w0.cell? ⟨w.heap.size, 1, none⟩ = some (.int .i64 m.pos) := by subst hWW; go_simp
  have cP2 : w0.cell? ⟨w.heap.size, 2, none⟩ = some (.slice a n c) := by subst hWW; go_simp
  have cP3 : w0.cell? ⟨w.heap.size, 3, none⟩ = some (.int .u64 (m.su.toNat : Int)) := by subst hWW; go_simp
  have ltP : w.heap.size < w0.heap.size := by subst hWW; simp
  have hB := hbx
  clear hbx hWW
  refine (fits_any m.se m.pos n _).mono ?_
  rintro e w1 ⟨rfl, rfl⟩
  go_wp2_with fail
  go_quiet (first | (go_at_call 46; exact Calls.quiet_of_same (Calls.flip (HS.out _ (HX.out.below (below_drewN (Below.refl _ _) _))))))
  go_wp2_with fail
  go_ret
  exact ⟨rfl, below_drewN hB _⟩
set_option maxHeartbeats 1000000 in
theorem check_k (m : PkM) (a : Option Addr) (n c : Nat) (w : World) (hx : Bytes w a n c m.da) (ho : OkP m.se m.pos n) (he : m.su = sumU m.se m.pos m.da) :
    Calls Try.prog 28 #[.agg #[.int .i64 m.se, .int .i64 m.pos, .slice a n c, .int .u64 (m.su.toNat : Int)]] w fun e w' => e = .returned (.int .i64 0) ∧ Below w.heap.size w w' := by
  have HX := Lib.hid hx
  clear hx
  have d0 : decide (OkP m.se m.pos n) = true := decide_eq_true ho
  have hs : m.se ≤ 9223372036854775807 := by have := ho.1.2; omega
  have hp : m.pos ≤ 9223372036854775807 := by have := ho.2.2.1; omega
  have d1 : ((m.su.toNat : Int) != ((sumU m.se m.pos m.da).toNat : Int)) = false := by
    rw [he]; simp
  have HS := Lib.hid (fun w' (h : Bytes w' a n c m.da) => sum_any m.se m.pos m.da a n c w' hs hp h)
  generalize sumU m.se m.pos m.da = su at *
  clear he
  go_enter Try.func28, Try.ntmps28
  go_wp2_with fail
  have hbx : Below w.heap.size w (w.alloc (.cells #[.int .i64 m.se, .int .i64 m.pos, .slice a n c, .int .u64 (m.su.toNat : Int)] 35)) := ((Below.refl _ _).alloc (Nat.le_refl _) _)
  generalize hWW : (w.alloc (.cells #[.int .i64 m.se, .int .i64 m.pos, .slice a n c, .int .u64 (m.su.toNat : Int)] 35)) = w0 at *
  replace HX := Lib.hid (HX.out.below hbx)
  have cP0 : w0.cell? ⟨w.heap.size, 0, none⟩ = some (.int .i64 m.se) := by subst hWW; go_simp
  have cP1 : w0.cell? ⟨w.heap.size, 1, none⟩ = some (.int .i64 m.pos) := by subst hWW; go_simp
  have cP2 : w0.cell? ⟨w.heap.size, 2, none⟩ = some (.slice a n c) := by subst hWW; go_simp
  have cP3 : w0.cell? ⟨w.heap.size, 3, none⟩ = some (.int .u64 (m.su.toNat : Int)) := by subst hWW; go_simp
  have ltP : w.heap.size < w0.heap.size := by subst hWW; simp
  have hB := hbx
  clear hbx hWW
  refine (fits_any m.se m.pos n _).mono ?_
  rintro e w1 ⟨rfl, rfl⟩
  go_wp2_with fail
  go_quiet (first | (go_at_call 46; exact Calls.quiet_of_same (Calls.flip (HS.out _ (HX.out.below (below_drewN (Below.refl _ _) _))))))
  go_wp2_with fail
  go_ret
  exact ⟨rfl, below_drewN hB _⟩
theorem check_any (m : PkM) (a : Option Addr) (n c : Nat) (w : World) (hx : Bytes w a n c m.da) :
    Calls Try.prog 28 #[.agg #[.int .i64 m.se, .int .i64 m.pos, .slice a n c, .int .u64 (m.su.toNat : Int)]] w fun e w' => e = .returned (.int .i64 (chkE m)) ∧ Below w.heap.size w w' := by
  unfold chkE
  rw [hx.1]
  split
  · rename_i ho
    split
    · rename_i he; exact check_k m a n c w hx ho he
    · rename_i he; exact check_d m a n c w hx ho he
  · rename_i ho; exact check_r m a n c w hx ho

theorem hasprefix_any (xs ys : List UInt8) (a a2 : Option Addr) (len cap len2 cap2 : Nat) (w : World) (hx : Bytes w a len cap xs) (hy : Bytes w a2 len2 cap2 ys) :
    Calls Try.prog 43 #[.slice a len cap, .slice a2 len2 cap2] w fun e w' => e = .returned (.bool (decide (ys <+: xs))) ∧ w = w' := by
  by_cases h : len2 ≤ len
  · have HF := Lib.hid (show decide (xs.take len2 = ys) = decide (ys <+: xs) by
      refine decide_eq_decide.2 ?_
      rw [List.prefix_iff_eq_take, hy.1]; exact eq_comm)
    have HX := Lib.hid (hx.pre len2 h)
    have HY := Lib.hid hy
    have d0 : decide ((len2 : Int) ≤ (len : Int)) = true := by simpa using h
    have hlc := hx.2.1
    clear hx hy
    go_enter Try.func43, Try.ntmps43
    go_wp2_with fail
    refine (bequal_any _ ys a a2 len2 cap len2 cap2 _ HX.out HY.out).mono ?_
    rintro e w1 ⟨rfl, rfl⟩
    rw [HF.out]
    go_wp2_with fail
    go_ret
    exact ⟨rfl, rfl⟩
  · have HF := Lib.hid (show decide (ys <+: xs) = false by
      rw [decide_eq_false_iff_not]; intro hp; have := hp.length_le; rw [hx.1, hy.1] at this; exact h this)
    have d0 : decide ((len2 : Int) ≤ (len : Int)) = false := by simpa using h
    clear hx hy
    go_enter Try.func43, Try.ntmps43
    go_wp2_with fail
    go_ret
    exact ⟨by rw [HF.out]; rfl, rfl⟩

set_option maxHeartbeats 1000000 in
theorem new_ok (s : Nat) (w : World) (h : OkS s) :
    Calls Try.prog 10 #[.int .i64 s] w fun e w' => e = .returned (.tuple #[.agg #[.int .i64 s, .slice none 0 0, .slice none 0 0], .int .i64 0]) ∧ Below w.heap.size w w' := by
  have d0 : decide (OkS s) = true := decide_eq_true h
  go_enter Try.func10, Try.ntmps10
  go_wp2_with fail
  have hbx : Below w.heap.size w (w.alloc (.cells #[.int .i64 0, .slice none 0 0, .slice none 0 0] 28)) := ((Below.refl _ _).alloc (Nat.le_refl _) _)
  generalize hWW : (w.alloc (.cells #[.int .i64 0, .slice none 0 0, .slice none 0 0] 28)) = w0 at *
  have cR0 : w0.cell? ⟨w.heap.size, 0, none⟩ = some (.int .i64 0) := by subst hWW; go_simp
  have fR0 : w0.frozen? ⟨w.heap.size, 0, none⟩ = false := by subst hWW; go_simp
  have cR1 : w0.cell? ⟨w.heap.size, 1, none⟩ = some (.slice none 0 0) := by subst hWW; go_simp
  have fR1 : w0.frozen? ⟨w.heap.size, 1, none⟩ = false := by subst hWW; go_simp
  have cR2 : w0.cell? ⟨w.heap.size, 2, none⟩ = some (.slice none 0 0) := by subst hWW; go_simp
  have fR2 : w0.frozen? ⟨w.heap.size, 2, none⟩ = false := by subst hWW; go_simp
  have ltR : w.heap.size < w0.heap.size := by subst hWW; simp
  have hB := hbx
  clear hbx hWW
  refine (numbered_any s _).mono ?_
  rintro e w1 ⟨rfl, rfl⟩
  go_wp2_with fail
  exact bodyPost_ret (v := .tuple #[.agg #[.int .i64 s, .slice none 0 0, .slice none 0 0], .int .i64 0]) (by simp [results, Try.results10, go_sem, cR0, cR1, cR2]) rfl ⟨rfl, (((hB.setCell (p := ⟨w.heap.size, 0, none⟩) (Nat.le_refl _) _).setCell (p := ⟨w.heap.size, 1, none⟩) (Nat.le_refl _) _).setCell (p := ⟨w.heap.size, 2, none⟩) (Nat.le_refl _) _)⟩
set_option maxHeartbeats 1000000 in
theorem new_no (s : Int) (w : World) (h : ¬ OkS s) :
    Calls Try.prog 10 #[.int .i64 s] w fun e w' => e = .returned (.tuple #[.agg #[.int .i64 0, .slice none 0 0, .slice none 0 0], .int .i64 3]) ∧ Below w.heap.size w w' := by
  have d0 : decide (OkS s) = false := decide_eq_false h
  go_enter Try.func10, Try.ntmps10
  go_wp2_with fail
  have hbx : Below w.heap.size w (w.alloc (.cells #[.int .i64 0, .slice none 0 0, .slice none 0 0] 28)) := ((Below.refl _ _).alloc (Nat.le_refl _) _)
  generalize hWW : (w.alloc (.cells #[.int .i64 0, .slice none 0 0, .slice none 0 0] 28)) = w0 at *
  have cR0 : w0.cell? ⟨w.heap.size, 0, none⟩ = some (.int .i64 0) := by subst hWW; go_simp
  have fR0 : w0.frozen? ⟨w.heap.size, 0, none⟩ = false := by subst hWW; go_simp
  have cR1 : w0.cell? ⟨w.heap.size, 1, none⟩ = some (.slice none 0 0) := by subst hWW; go_simp
  have fR1 : w0.frozen? ⟨w.heap.size, 1, none⟩ = false := by subst hWW; go_simp
  have cR2 : w0.cell? ⟨w.heap.size, 2, none⟩ = some (.slice none 0 0) := by subst hWW; go_simp
  have fR2 : w0.frozen? ⟨w.heap.size, 2, none⟩ = false := by subst hWW; go_simp
  have ltR : w.heap.size < w0.heap.size := by subst hWW; simp
  have hB := hbx
  clear hbx hWW
  refine (numbered_any s _).mono ?_
  rintro e w1 ⟨rfl, rfl⟩
  go_wp2_with fail
  exact bodyPost_ret (v := .tuple #[.agg #[.int .i64 0, .slice none 0 0, .slice none 0 0], .int .i64 3]) (by simp [results, Try.results10, go_sem, cR0, cR1, cR2]) rfl ⟨rfl, (((hB.setCell (p := ⟨w.heap.size, 0, none⟩) (Nat.le_refl _) _).setCell (p := ⟨w.heap.size, 1, none⟩) (Nat.le_refl _) _).setCell (p := ⟨w.heap.size, 2, none⟩) (Nat.le_refl _) _)⟩
set_option maxHeartbeats 1000000 in
theorem packet_ok (s p : Nat) (xs : List UInt8) (a : Option Addr) (len cap : Nat) (w : World) (hx : Bytes w a len cap xs) (h : OkP s p len) :
    Calls Try.prog 17 #[.int .i64 s, .int .i64 p, .slice a len cap] w fun e w' => ∃ b d, e = .returned (.tuple #[.agg #[.int .i64 s, .int .i64 p, .slice b len d, .int .u64 (sumU s p xs).toNat], .int .i64 0]) ∧ Bytes w' b len d xs ∧ Below w.heap.size w w' := by
  have d0 : decide (OkP s p len) = true := decide_eq_true h
  have hs : s ≤ 9223372036854775807 := by have := h.1.2; omega
  have hp : p ≤ 9223372036854775807 := by have := h.2.2.1; omega
  have hm : len ≤ 140737488355328 := by have := h.2.2.2.2.1; omega
  have HX := Lib.hid hx
  clear hx h
  go_enter Try.func17, Try.ntmps17
  go_wp2_with fail
  have hbx : Below w.heap.size w (w.alloc (.cells #[.int .i64 0, .int .i64 0, .slice none 0 0, .int .u64 0] 35)) := ((Below.refl _ _).alloc (Nat.le_refl _) _)
  generalize hWW : (w.alloc (.cells #[.int .i64 0, .int .i64 0, .slice none 0 0, .int .u64 0] 35)) = w0 at *
  replace HX := Lib.hid (HX.out.below hbx)
  have cR0 : w0.cell? ⟨w.heap.size, 0, none⟩ = some (.int .i64 0) := by subst hWW; go_simp
  have fR0 : w0.frozen? ⟨w.heap.size, 0, none⟩ = false := by subst hWW; go_simp
  have cR1 : w0.cell? ⟨w.heap.size, 1, none⟩ = some (.int .i64 0) := by subst hWW; go_simp
  have fR1 : w0.frozen? ⟨w.heap.size, 1, none⟩ = false := by subst hWW; go_simp
  have cR2 : w0.cell? ⟨w.heap.size, 2, none⟩ = some (.slice none 0 0) := by subst hWW; go_simp
  have fR2 : w0.frozen? ⟨w.heap.size, 2, none⟩ = false := by subst hWW; go_simp
  have cR3 : w0.cell? ⟨w.heap.size, 3, none⟩ = some (.int .u64 0) := by subst hWW; go_simp
  have fR3 : w0.frozen? ⟨w.heap.size, 3, none⟩ = false := by subst hWW; go_simp
  have ltR : w.heap.size < w0.heap.size := by subst hWW; simp
  have hB := hbx
  clear hbx hWW
  have hw0 := ltR
  refine (fits_any s p len _).mono ?_
  rintro e w1 ⟨rfl, rfl⟩
  go_wp2_with fail
  refine (build_any s p xs a len cap _ hs hp hm HX.out).mono ?_
  rintro e w2 ⟨b, d, rfl, hv, hu, hb⟩
  replace cR0 := bc hb ltR cR0
  replace fR0 := bf hb ltR fR0
  replace cR1 := bc hb ltR cR1
  replace fR1 := bf hb ltR fR1
  replace cR2 := bc hb ltR cR2
  replace fR2 := bf hb ltR fR2
  replace cR3 := bc hb ltR cR3
  replace fR3 := bf hb ltR fR3
  replace ltR := bl hb ltR
  replace HX := Lib.hid (HX.out.below hb)
  replace hB := hB.trans (hb.mono hB.size)
  have HV := Lib.hid hv
  have ho : OffB w.heap.size b len := hu.off hw0
  clear hv hu
  clear hb
  go_wp2_with fail
  exact bodyPost_ret (v := .tuple #[.agg #[.int .i64 s, .int .i64 p, .slice b len d, .int .u64 (sumU s p xs).toNat], .int .i64 0]) (by simp [results, Try.results17, go_sem, cR0, cR1, cR2, cR3]) rfl ⟨b, d, rfl, (((HV.out.set ho 0 _).set ho 1 _).set ho 2 _).set ho 3 _, ((((hB.setCell (p := ⟨w.heap.size, 0, none⟩) (Nat.le_refl _) _).setCell (p := ⟨w.heap.size, 1, none⟩) (Nat.le_refl _) _).setCell (p := ⟨w.heap.size, 2, none⟩) (Nat.le_refl _) _).setCell (p := ⟨w.heap.size, 3, none⟩) (Nat.le_refl _) _)⟩
set_option maxHeartbeats 1000000 in
theorem packet_no (s p : Int) (a : Option Addr) (len cap : Nat) (w : World) (h : ¬ OkP s p len) :
    Calls Try.prog 17 #[.int .i64 s, .int .i64 p, .slice a len cap] w fun e w' => e = .returned (.tuple #[.agg #[.int .i64 0, .int .i64 0, .slice none 0 0, .int .u64 0], .int .i64 3]) ∧ Below w.heap.size w w' := by
  have d0 : decide (OkP s p len) = false := decide_eq_false h
  go_enter Try.func17, Try.ntmps17
  go_wp2_with fail
  have hbx : Below w.heap.size w (w.alloc (.cells #[.int .i64 0, .int .i64 0, .slice none 0 0, .int .u64 0] 35)) := ((Below.refl _ _).alloc (Nat.le_refl _) _)
  generalize hWW : (w.alloc (.cells #[.int .i64 0, .int .i64 0, .slice none 0 0, .int .u64 0] 35)) = w0 at *
  have cR0 : w0.cell? ⟨w.heap.size, 0, none⟩ = some (.int .i64 0) := by subst hWW; go_simp
  have fR0 : w0.frozen? ⟨w.heap.size, 0, none⟩ = false := by subst hWW; go_simp
  have cR1 : w0.cell? ⟨w.heap.size, 1, none⟩ = some (.int .i64 0) := by subst hWW; go_simp
  have fR1 : w0.frozen? ⟨w.heap.size, 1, none⟩ = false := by subst hWW; go_simp
  have cR2 : w0.cell? ⟨w.heap.size, 2, none⟩ = some (.slice none 0 0) := by subst hWW; go_simp
  have fR2 : w0.frozen? ⟨w.heap.size, 2, none⟩ = false := by subst hWW; go_simp
  have cR3 : w0.cell? ⟨w.heap.size, 3, none⟩ = some (.int .u64 0) := by subst hWW; go_simp
  have fR3 : w0.frozen? ⟨w.heap.size, 3, none⟩ = false := by subst hWW; go_simp
  have ltR : w.heap.size < w0.heap.size := by subst hWW; simp
  have hB := hbx
  clear hbx hWW
  have hw0 := ltR
  refine (fits_any s p len _).mono ?_
  rintro e w1 ⟨rfl, rfl⟩
  go_wp2_with fail
  exact bodyPost_ret (v := .tuple #[.agg #[.int .i64 0, .int .i64 0, .slice none 0 0, .int .u64 0], .int .i64 3]) (by simp [results, Try.results17, go_sem, cR0, cR1, cR2, cR3]) rfl ⟨rfl, ((((hB.setCell (p := ⟨w.heap.size, 0, none⟩) (Nat.le_refl _) _).setCell (p := ⟨w.heap.size, 1, none⟩) (Nat.le_refl _) _).setCell (p := ⟨w.heap.size, 2, none⟩) (Nat.le_refl _) _).setCell (p := ⟨w.heap.size, 3, none⟩) (Nat.le_refl _) _)⟩

end Go.Proofs.Ytpdodapdaeochaa
