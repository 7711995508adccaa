/- Uploads: what Receive returns for a packet that violates a rule or is of another session. Condition: the inbox is one of a log. -/
import Derived.Test.YtpdodapdaeochaaUpS
import Derived.Test.YtpdodapdaeochaaDigP
namespace Go.Proofs.Ytpdodapdaeochaa
set_option maxRecDepth 100000
open Go.RowKit

set_option maxHeartbeats 2000000 in
theorem receive_chk (m : PkM) (a : Option Addr) (n c : Nat) (w : World) (hx : Bytes w a n c m.da) (ec : Int) (hc : chkE m = ec) (h0 : ec ≠ 0) :
    Calls Try.prog 11 #[.agg #[.int .i64 5, .slice none 0 0, .slice none 0 0], .agg #[.int .i64 m.se, .int .i64 m.pos, .slice a n c, .int .u64 (m.su.toNat : Int)]] w fun e w' => e = .returned (.tuple #[.agg #[.int .i64 0, .slice none 0 0, .slice none 0 0], .int .i64 ec]) ∧ Below w.heap.size w w' := by
  have HX := Lib.hid hx
  have HI := Lib.hid (Inb.of (s := 5) (log := []) (d := 0) (l := []) (by decide) (by simp) (by simp) (by simp) (by simp [Srt]) (by simp))
  have HC := Lib.hid hc
  have d0 : (ec == 0) = false := by simpa using h0
  clear hc
  clear hx
  go_enter Try.func11, Try.ntmps11
  go_wp2_with fail
  have hbx : Below w.heap.size w (((w.alloc (.cells #[.int .i64 5, .slice none 0 0, .slice none 0 0] 28)).alloc (.cells #[.int .i64 m.se, .int .i64 m.pos, .slice a n c, .int .u64 (m.su.toNat : Int)] 35)).alloc (.cells #[.int .i64 0, .slice none 0 0, .slice none 0 0] 28)) := ((((Below.refl _ _).alloc (Nat.le_refl _) _).alloc (by simp) _).alloc (by simp <;> omega) _)
  generalize hWW : (((w.alloc (.cells #[.int .i64 5, .slice none 0 0, .slice none 0 0] 28)).alloc (.cells #[.int .i64 m.se, .int .i64 m.pos, .slice a n c, .int .u64 (m.su.toNat : Int)] 35)).alloc (.cells #[.int .i64 0, .slice none 0 0, .slice none 0 0] 28)) = w0 at *
  replace HX := Lib.hid (HX.out.below hbx)
  have cI0 : w0.cell? ⟨w.heap.size, 0, none⟩ = some (.int .i64 5) := by subst hWW; go_simp
  have cI1 : w0.cell? ⟨w.heap.size, 1, none⟩ = some (.slice none 0 0) := by subst hWW; go_simp
  have cI2 : w0.cell? ⟨w.heap.size, 2, none⟩ = some (.slice none 0 0) := by subst hWW; go_simp
  have ltI : w.heap.size < w0.heap.size := by subst hWW; simp <;> omega
  have cP0 : w0.cell? ⟨w.heap.size + 1, 0, none⟩ = some (.int .i64 m.se) := by subst hWW; go_simp
  have cP1 : w0.cell? ⟨w.heap.size + 1, 1, none⟩ = some (.int .i64 m.pos) := by subst hWW; go_simp
  have cP2 : w0.cell? ⟨w.heap.size + 1, 2, none⟩ = some (.slice a n c) := by subst hWW; go_simp
  have cP3 : w0.cell? ⟨w.heap.size + 1, 3, none⟩ = some (.int .u64 (m.su.toNat : Int)) := by subst hWW; go_simp
  have ltP : w.heap.size + 1 < w0.heap.size := by subst hWW; simp <;> omega
  have cR0 : w0.cell? ⟨w.heap.size + 1 + 1, 0, none⟩ = some (.int .i64 0) := by subst hWW; go_simp
  have fR0 : w0.frozen? ⟨w.heap.size + 1 + 1, 0, none⟩ = false := by subst hWW; go_simp
  have cR1 : w0.cell? ⟨w.heap.size + 1 + 1, 1, none⟩ = some (.slice none 0 0) := by subst hWW; go_simp
  have fR1 : w0.frozen? ⟨w.heap.size + 1 + 1, 1, none⟩ = false := by subst hWW; go_simp
  have cR2 : w0.cell? ⟨w.heap.size + 1 + 1, 2, none⟩ = some (.slice none 0 0) := by subst hWW; go_simp
  have fR2 : w0.frozen? ⟨w.heap.size + 1 + 1, 2, none⟩ = false := by subst hWW; go_simp
  have ltR : w.heap.size + 1 + 1 < w0.heap.size := by subst hWW; simp
  have hB := hbx
  clear hbx hWW
  refine (valid_any 5 [] 0 [] none none 0 0 0 _ HI.out (PksIn.nil _ _) rfl).mono ?_
  rintro e w1 ⟨rfl, hb⟩
  replace cI0 := bc hb ltI cI0
  replace cI1 := bc hb ltI cI1
  replace cI2 := bc hb ltI cI2
  replace ltI := bl hb ltI
  replace cP0 := bc hb ltP cP0
  replace cP1 := bc hb ltP cP1
  replace cP2 := bc hb ltP cP2
  replace cP3 := bc hb ltP cP3
  replace ltP := bl hb ltP
  replace cR0 := bc hb ltR cR0
  replace fR0 := bf hb ltR fR0
  replace cR1 := bc hb ltR cR1
  replace fR1 := bf hb ltR fR1
  replace cR2 := bc hb ltR cR2
  replace fR2 := bf hb ltR fR2
  replace ltR := bl hb ltR
  replace HX := Lib.hid (HX.out.below hb)
  replace hB := hB.trans (hb.mono hB.size)
  clear hb
  go_wp2_with fail
  refine (check_any m a n c _ HX.out).mono ?_
  rintro e w2 ⟨rfl, hb⟩
  replace cI0 := bc hb ltI cI0
  replace cI1 := bc hb ltI cI1
  replace cI2 := bc hb ltI cI2
  replace ltI := bl hb ltI
  replace cP0 := bc hb ltP cP0
  replace cP1 := bc hb ltP cP1
  replace cP2 := bc hb ltP cP2
  replace cP3 := bc hb ltP cP3
  replace ltP := bl hb ltP
  replace cR0 := bc hb ltR cR0
  replace fR0 := bf hb ltR fR0
  replace cR1 := bc hb ltR cR1
  replace fR1 := bf hb ltR fR1
  replace cR2 := bc hb ltR cR2
  replace fR2 := bf hb ltR fR2
  replace ltR := bl hb ltR
  replace HX := Lib.hid (HX.out.below hb)
  replace hB := hB.trans (hb.mono hB.size)
  rw [HC.out]
  clear hb
  go_wp2_with fail
  exact bodyPost_ret (v := .tuple #[.agg #[.int .i64 0, .slice none 0 0, .slice none 0 0], .int .i64 ec]) (by simp [results, Try.results11, go_sem, cR0, cR1, cR2]) rfl ⟨rfl, ((hB.setCell (p := ⟨w.heap.size + 1 + 1, 0, none⟩) (show w.heap.size ≤ w.heap.size + 1 + 1 by omega) (.int .i64 0)).setCell (p := ⟨w.heap.size + 1 + 1, 1, none⟩) (show w.heap.size ≤ w.heap.size + 1 + 1 by omega) (.slice none 0 0)).setCell (p := ⟨w.heap.size + 1 + 1, 2, none⟩) (show w.heap.size ≤ w.heap.size + 1 + 1 by omega) (.slice none 0 0)⟩
set_option maxHeartbeats 2000000 in
theorem receive_ses (m : PkM) (a : Option Addr) (n c : Nat) (w : World) (hx : Bytes w a n c m.da) (hc : chkE m = 0) (h0 : m.se ≠ 5) :
    Calls Try.prog 11 #[.agg #[.int .i64 5, .slice none 0 0, .slice none 0 0], .agg #[.int .i64 m.se, .int .i64 m.pos, .slice a n c, .int .u64 (m.su.toNat : Int)]] w fun e w' => e = .returned (.tuple #[.agg #[.int .i64 0, .slice none 0 0, .slice none 0 0], .int .i64 6]) ∧ Below w.heap.size w w' := by
  have HX := Lib.hid hx
  have HI := Lib.hid (Inb.of (s := 5) (log := []) (d := 0) (l := []) (by decide) (by simp) (by simp) (by simp) (by simp [Srt]) (by simp))
  have HC := Lib.hid hc
  have d0 : (m.se == 5) = false := by simpa using h0
  have d1 : ((m.se : Int) == 5) = false := by simp; omega
  clear hc
  clear hx
  go_enter Try.func11, Try.ntmps11
  go_wp2_with fail
  have hbx : Below w.heap.size w (((w.alloc (.cells #[.int .i64 5, .slice none 0 0, .slice none 0 0] 28)).alloc (.cells #[.int .i64 m.se, .int .i64 m.pos, .slice a n c, .int .u64 (m.su.toNat : Int)] 35)).alloc (.cells #[.int .i64 0, .slice none 0 0, .slice none 0 0] 28)) := ((((Below.refl _ _).alloc (Nat.le_refl _) _).alloc (by simp) _).alloc (by simp <;> omega) _)
  generalize hWW : (((w.alloc (.cells #[.int .i64 5, .slice none 0 0, .slice none 0 0] 28)).alloc (.cells #[.int .i64 m.se, .int .i64 m.pos, .slice a n c, .int .u64 (m.su.toNat : Int)] 35)).alloc (.cells #[.int .i64 0, .slice none 0 0, .slice none 0 0] 28)) = w0 at *
  replace HX := Lib.hid (HX.out.below hbx)
  have cI0 : w0.cell? ⟨w.heap.size, 0, none⟩ = some (.int .i64 5) := by subst hWW; go_simp
  have cI1 : w0.cell? ⟨w.heap.size, 1, none⟩ = some (.slice none 0 0) := by subst hWW; go_simp
  have cI2 : w0.cell? ⟨w.heap.size, 2, none⟩ = some (.slice none 0 0) := by subst hWW; go_simp
  have ltI : w.heap.size < w0.heap.size := by subst hWW; simp <;> omega
  have cP0 : w0.cell? ⟨w.heap.size + 1, 0, none⟩ = some (.int .i64 m.se) := by subst hWW; go_simp
  have cP1 : w0.cell? ⟨w.heap.size + 1, 1, none⟩ = some (.int .i64 m.pos) := by subst hWW; go_simp
  have cP2 : w0.cell? ⟨w.heap.size + 1, 2, none⟩ = some (.slice a n c) := by subst hWW; go_simp
  have cP3 : w0.cell? ⟨w.heap.size + 1, 3, none⟩ = some (.int .u64 (m.su.toNat : Int)) := by subst hWW; go_simp
  have ltP : w.heap.size + 1 < w0.heap.size := by subst hWW; simp <;> omega
  have cR0 : w0.cell? ⟨w.heap.size + 1 + 1, 0, none⟩ = some (.int .i64 0) := by subst hWW; go_simp
  have fR0 : w0.frozen? ⟨w.heap.size + 1 + 1, 0, none⟩ = false := by subst hWW; go_simp
  have cR1 : w0.cell? ⟨w.heap.size + 1 + 1, 1, none⟩ = some (.slice none 0 0) := by subst hWW; go_simp
  have fR1 : w0.frozen? ⟨w.heap.size + 1 + 1, 1, none⟩ = false := by subst hWW; go_simp
  have cR2 : w0.cell? ⟨w.heap.size + 1 + 1, 2, none⟩ = some (.slice none 0 0) := by subst hWW; go_simp
  have fR2 : w0.frozen? ⟨w.heap.size + 1 + 1, 2, none⟩ = false := by subst hWW; go_simp
  have ltR : w.heap.size + 1 + 1 < w0.heap.size := by subst hWW; simp
  have hB := hbx
  clear hbx hWW
  refine (valid_any 5 [] 0 [] none none 0 0 0 _ HI.out (PksIn.nil _ _) rfl).mono ?_
  rintro e w1 ⟨rfl, hb⟩
  replace cI0 := bc hb ltI cI0
  replace cI1 := bc hb ltI cI1
  replace cI2 := bc hb ltI cI2
  replace ltI := bl hb ltI
  replace cP0 := bc hb ltP cP0
  replace cP1 := bc hb ltP cP1
  replace cP2 := bc hb ltP cP2
  replace cP3 := bc hb ltP cP3
  replace ltP := bl hb ltP
  replace cR0 := bc hb ltR cR0
  replace fR0 := bf hb ltR fR0
  replace cR1 := bc hb ltR cR1
  replace fR1 := bf hb ltR fR1
  replace cR2 := bc hb ltR cR2
  replace fR2 := bf hb ltR fR2
  replace ltR := bl hb ltR
  replace HX := Lib.hid (HX.out.below hb)
  replace hB := hB.trans (hb.mono hB.size)
  clear hb
  go_wp2_with fail
  refine (check_any m a n c _ HX.out).mono ?_
  rintro e w2 ⟨rfl, hb⟩
  replace cI0 := bc hb ltI cI0
  replace cI1 := bc hb ltI cI1
  replace cI2 := bc hb ltI cI2
  replace ltI := bl hb ltI
  replace cP0 := bc hb ltP cP0
  replace cP1 := bc hb ltP cP1
  replace cP2 := bc hb ltP cP2
  replace cP3 := bc hb ltP cP3
  replace ltP := bl hb ltP
  replace cR0 := bc hb ltR cR0
  replace fR0 := bf hb ltR fR0
  replace cR1 := bc hb ltR cR1
  replace fR1 := bf hb ltR fR1
  replace cR2 := bc hb ltR cR2
  replace fR2 := bf hb ltR fR2
  replace ltR := bl hb ltR
  replace HX := Lib.hid (HX.out.below hb)
  replace hB := hB.trans (hb.mono hB.size)
  rw [HC.out]
  clear hb
  go_wp2_with fail
  exact bodyPost_ret (v := .tuple #[.agg #[.int .i64 0, .slice none 0 0, .slice none 0 0], .int .i64 6]) (by simp [results, Try.results11, go_sem, cR0, cR1, cR2]) rfl ⟨rfl, ((hB.setCell (p := ⟨w.heap.size + 1 + 1, 0, none⟩) (show w.heap.size ≤ w.heap.size + 1 + 1 by omega) (.int .i64 0)).setCell (p := ⟨w.heap.size + 1 + 1, 1, none⟩) (show w.heap.size ≤ w.heap.size + 1 + 1 by omega) (.slice none 0 0)).setCell (p := ⟨w.heap.size + 1 + 1, 2, none⟩) (show w.heap.size ≤ w.heap.size + 1 + 1 by omega) (.slice none 0 0)⟩
theorem sumU_set (s p : Nat) (da : List UInt8) (k : Nat) (hk : k < da.length) (x : UInt8) : sumU s p da = sumU s p (da.set k x) ↔ da.getD k 0 = x := by
  unfold sumU digChain
  exact digAdd_set _ da k hk x

end Go.Proofs.Ytpdodapdaeochaa
