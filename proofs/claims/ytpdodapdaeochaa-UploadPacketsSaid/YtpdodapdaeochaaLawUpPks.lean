/- UploadPackets: Packet, Split and New return the packets, the inbox or the error that the document defines, for all arguments: the law returns true. Condition: the data take at most 2^47 bytes (true of every argument). -/
import Derived.Test.YtpdodapdaeochaaUpU
namespace Go.Proofs.Ytpdodapdaeochaa
set_option maxRecDepth 100000
open Go.ChangeShapes Go.WideShapes Go.ChangeAt Go.RowKit
set_option maxHeartbeats 2000000 in
theorem upk_000 (s : Int) (at_ : Int) (sz : Int) (da : List UInt8) (a : Option Addr) (len cap : Nat) (w : World) (hx : Bytes w a len cap da) (hlen : len ≤ 140737488355328) (hp : ¬ OkP s at_ len) (hc : ¬ OkC s len 0 sz) (hs : ¬ OkS s) :
    Calls Try.prog 5 #[.int .i64 s, .int .i64 at_, .int .i64 sz, .slice a len cap] w fun e w' => e = .returned (.bool true) ∧ Below w.heap.size w w' := by
  have HX := Lib.hid hx
  clear hx
  go_enter Try.func5, Try.ntmps5
  go_wp2_with fail
  refine (packet_no s at_ a len cap _ hp).mono ?_
  rintro e w1 ⟨rfl, hb⟩
  replace HX := Lib.hid (HX.out.below hb)
  have hB := hb
  clear hb
  have hba : Below w1.heap.size w1 (w1.alloc (.cells #[.int .i64 0, .int .i64 0, .slice none 0 0, .int .u64 0] 35)) := (Below.refl _ _).alloc (Nat.le_refl _) _
  go_wp2_with fail
  clear hba
  have hbx : Below w1.heap.size w1 (w1.alloc (.cells #[.int .i64 0, .int .i64 0, .slice none 0 0, .int .u64 0] 35)) := ((Below.refl _ _).alloc (Nat.le_refl _) _)
  generalize hWW : (w1.alloc (.cells #[.int .i64 0, .int .i64 0, .slice none 0 0, .int .u64 0] 35)) = w2 at *
  replace HX := Lib.hid (HX.out.below hbx)
  have cP0 : w2.cell? ⟨w1.heap.size, 0, none⟩ = some (.int .i64 0) := by subst hWW; go_simp
  have cP1 : w2.cell? ⟨w1.heap.size, 1, none⟩ = some (.int .i64 0) := by subst hWW; go_simp
  have cP2 : w2.cell? ⟨w1.heap.size, 2, none⟩ = some (.slice none 0 0) := by subst hWW; go_simp
  have cP3 : w2.cell? ⟨w1.heap.size, 3, none⟩ = some (.int .u64 0) := by subst hWW; go_simp
  have ltP : w1.heap.size < w2.heap.size := by subst hWW; simp
  replace hB := hB.trans (hbx.mono hB.size)
  clear hbx hWW
  refine (rpacket_no s at_ a len cap _ hp).mono ?_
  rintro e w3 ⟨rfl, hb⟩
  replace cP0 := bc hb ltP cP0
  replace cP1 := bc hb ltP cP1
  replace cP2 := bc hb ltP cP2
  replace cP3 := bc hb ltP cP3
  replace ltP := bl hb ltP
  replace HX := Lib.hid (HX.out.below hb)
  replace hB := hB.trans (hb.mono hB.size)
  clear hb
  have hba : Below w3.heap.size w3 (w3.alloc (.cells #[.int .i64 0, .int .i64 0, .slice none 0 0, .int .u64 0] 35)) := (Below.refl _ _).alloc (Nat.le_refl _) _
  have nP0 := bc hba ltP cP0
  have nP1 := bc hba ltP cP1
  have nP2 := bc hba ltP cP2
  have nP3 := bc hba ltP cP3
  go_wp2_with fail
  clear hba nP0 nP1 nP2 nP3
  have hbx : Below w3.heap.size w3 (w3.alloc (.cells #[.int .i64 0, .int .i64 0, .slice none 0 0, .int .u64 0] 35)) := ((Below.refl _ _).alloc (Nat.le_refl _) _)
  generalize hWW : (w3.alloc (.cells #[.int .i64 0, .int .i64 0, .slice none 0 0, .int .u64 0] 35)) = w4 at *
  replace cP0 := bc hbx ltP cP0
  replace cP1 := bc hbx ltP cP1
  replace cP2 := bc hbx ltP cP2
  replace cP3 := bc hbx ltP cP3
  replace ltP := bl hbx ltP
  replace HX := Lib.hid (HX.out.below hbx)
  have cQ0 : w4.cell? ⟨w3.heap.size, 0, none⟩ = some (.int .i64 0) := by subst hWW; go_simp
  have cQ1 : w4.cell? ⟨w3.heap.size, 1, none⟩ = some (.int .i64 0) := by subst hWW; go_simp
  have cQ2 : w4.cell? ⟨w3.heap.size, 2, none⟩ = some (.slice none 0 0) := by subst hWW; go_simp
  have cQ3 : w4.cell? ⟨w3.heap.size, 3, none⟩ = some (.int .u64 0) := by subst hWW; go_simp
  have ltQ : w3.heap.size < w4.heap.size := by subst hWW; simp
  replace hB := hB.trans (hbx.mono hB.size)
  clear hbx hWW
  refine (samepk_t PkM.zero none none 0 0 0 _ (bytes_nil _) (bytes_nil _)).mono ?_
  rintro e w5 ⟨rfl, hb⟩
  replace cP0 := bc hb ltP cP0
  replace cP1 := bc hb ltP cP1
  replace cP2 := bc hb ltP cP2
  replace cP3 := bc hb ltP cP3
  replace ltP := bl hb ltP
  replace cQ0 := bc hb ltQ cQ0
  replace cQ1 := bc hb ltQ cQ1
  replace cQ2 := bc hb ltQ cQ2
  replace cQ3 := bc hb ltQ cQ3
  replace ltQ := bl hb ltQ
  replace HX := Lib.hid (HX.out.below hb)
  replace hB := hB.trans (hb.mono hB.size)
  clear hb
  go_wp2_with fail
  clear cP0 cP1 cP2 cP3 ltP
  clear cQ0 cQ1 cQ2 cQ3 ltQ
  refine (split_no s a len cap sz _ hlen hc).mono ?_
  rintro e w6 ⟨rfl, rfl⟩
  go_wp2_with fail
  refine (rsplit_no s a len cap sz _ hlen hc).mono ?_
  rintro e w7 ⟨rfl, rfl⟩
  go_wp2_with fail
  refine (new_no s _ hs).mono ?_
  rintro e w8 ⟨rfl, hb⟩
  replace HX := Lib.hid (HX.out.below hb)
  replace hB := hB.trans (hb.mono hB.size)
  clear hb
  have hba : Below w8.heap.size w8 (w8.alloc (.cells #[.int .i64 0, .slice none 0 0, .slice none 0 0] 28)) := (Below.refl _ _).alloc (Nat.le_refl _) _
  go_wp2_with fail
  clear hba
  have hbx : Below w8.heap.size w8 (w8.alloc (.cells #[.int .i64 0, .slice none 0 0, .slice none 0 0] 28)) := ((Below.refl _ _).alloc (Nat.le_refl _) _)
  generalize hWW : (w8.alloc (.cells #[.int .i64 0, .slice none 0 0, .slice none 0 0] 28)) = w9 at *
  replace HX := Lib.hid (HX.out.below hbx)
  have cI0 : w9.cell? ⟨w8.heap.size, 0, none⟩ = some (.int .i64 0) := by subst hWW; go_simp
  have cI1 : w9.cell? ⟨w8.heap.size, 1, none⟩ = some (.slice none 0 0) := by subst hWW; go_simp
  have cI2 : w9.cell? ⟨w8.heap.size, 2, none⟩ = some (.slice none 0 0) := by subst hWW; go_simp
  have ltI : w8.heap.size < w9.heap.size := by subst hWW; simp
  replace hB := hB.trans (hbx.mono hB.size)
  clear hbx hWW
  refine (rnew_no s _ hs).mono ?_
  rintro e w10 ⟨rfl, hb⟩
  replace cI0 := bc hb ltI cI0
  replace cI1 := bc hb ltI cI1
  replace cI2 := bc hb ltI cI2
  replace ltI := bl hb ltI
  replace HX := Lib.hid (HX.out.below hb)
  replace hB := hB.trans (hb.mono hB.size)
  clear hb
  have hba : Below w10.heap.size w10 (w10.alloc (.cells #[.int .i64 0, .slice none 0 0, .slice none 0 0] 28)) := (Below.refl _ _).alloc (Nat.le_refl _) _
  have nI0 := bc hba ltI cI0
  have nI1 := bc hba ltI cI1
  have nI2 := bc hba ltI cI2
  go_wp2_with fail
  clear hba nI0 nI1 nI2
  have hbx : Below w10.heap.size w10 (w10.alloc (.cells #[.int .i64 0, .slice none 0 0, .slice none 0 0] 28)) := ((Below.refl _ _).alloc (Nat.le_refl _) _)
  generalize hWW : (w10.alloc (.cells #[.int .i64 0, .slice none 0 0, .slice none 0 0] 28)) = w11 at *
  replace cI0 := bc hbx ltI cI0
  replace cI1 := bc hbx ltI cI1
  replace cI2 := bc hbx ltI cI2
  replace ltI := bl hbx ltI
  replace HX := Lib.hid (HX.out.below hbx)
  have cJ0 : w11.cell? ⟨w10.heap.size, 0, none⟩ = some (.int .i64 0) := by subst hWW; go_simp
  have cJ1 : w11.cell? ⟨w10.heap.size, 1, none⟩ = some (.slice none 0 0) := by subst hWW; go_simp
  have cJ2 : w11.cell? ⟨w10.heap.size, 2, none⟩ = some (.slice none 0 0) := by subst hWW; go_simp
  have ltJ : w10.heap.size < w11.heap.size := by subst hWW; simp
  replace hB := hB.trans (hbx.mono hB.size)
  clear hbx hWW
  refine (samepks_t (fun _ => PkM.zero) none none 0 0 0 _ (PksIn.nil _ _) (PksIn.nil _ _)).mono ?_
  rintro e w12 ⟨rfl, hb⟩
  replace cI0 := bc hb ltI cI0
  replace cI1 := bc hb ltI cI1
  replace cI2 := bc hb ltI cI2
  replace ltI := bl hb ltI
  replace cJ0 := bc hb ltJ cJ0
  replace cJ1 := bc hb ltJ cJ1
  replace cJ2 := bc hb ltJ cJ2
  replace ltJ := bl hb ltJ
  replace HX := Lib.hid (HX.out.below hb)
  replace hB := hB.trans (hb.mono hB.size)
  clear hb
  go_wp2_with fail
  refine (same_t 0 [] (fun _ => PkM.zero) none none none none 0 0 0 0 0 0 _ (bytes_nil _) (PksIn.nil _ _) (bytes_nil _) (PksIn.nil _ _)).mono ?_
  rintro e w13 ⟨rfl, hb⟩
  replace cI0 := bc hb ltI cI0
  replace cI1 := bc hb ltI cI1
  replace cI2 := bc hb ltI cI2
  replace ltI := bl hb ltI
  replace cJ0 := bc hb ltJ cJ0
  replace cJ1 := bc hb ltJ cJ1
  replace cJ2 := bc hb ltJ cJ2
  replace ltJ := bl hb ltJ
  replace HX := Lib.hid (HX.out.below hb)
  replace hB := hB.trans (hb.mono hB.size)
  clear hb
  go_wp2_with fail
  refine (awake_any _).mono ?_
  rintro e w14 ⟨rfl, hb⟩
  replace cI0 := bc hb ltI cI0
  replace cI1 := bc hb ltI cI1
  replace cI2 := bc hb ltI cI2
  replace ltI := bl hb ltI
  replace cJ0 := bc hb ltJ cJ0
  replace cJ1 := bc hb ltJ cJ1
  replace cJ2 := bc hb ltJ cJ2
  replace ltJ := bl hb ltJ
  replace HX := Lib.hid (HX.out.below hb)
  replace hB := hB.trans (hb.mono hB.size)
  clear hb
  go_wp2_with fail
  go_ret
  exact ⟨rfl, hB⟩
set_option maxHeartbeats 2000000 in
theorem upk_001 (s : Nat) (at_ : Int) (sz : Int) (da : List UInt8) (a : Option Addr) (len cap : Nat) (w : World) (hx : Bytes w a len cap da) (hlen : len ≤ 140737488355328) (hp : ¬ OkP s at_ len) (hc : ¬ OkC s len 0 sz) (hs : OkS s) :
    Calls Try.prog 5 #[.int .i64 s, .int .i64 at_, .int .i64 sz, .slice a len cap] w fun e w' => e = .returned (.bool true) ∧ Below w.heap.size w w' := by
  have HX := Lib.hid hx
  clear hx
  go_enter Try.func5, Try.ntmps5
  go_wp2_with fail
  refine (packet_no s at_ a len cap _ hp).mono ?_
  rintro e w1 ⟨rfl, hb⟩
  replace HX := Lib.hid (HX.out.below hb)
  have hB := hb
  clear hb
  have hba : Below w1.heap.size w1 (w1.alloc (.cells #[.int .i64 0, .int .i64 0, .slice none 0 0, .int .u64 0] 35)) := (Below.refl _ _).alloc (Nat.le_refl _) _
  go_wp2_with fail
  clear hba
  have hbx : Below w1.heap.size w1 (w1.alloc (.cells #[.int .i64 0, .int .i64 0, .slice none 0 0, .int .u64 0] 35)) := ((Below.refl _ _).alloc (Nat.le_refl _) _)
  generalize hWW : (w1.alloc (.cells #[.int .i64 0, .int .i64 0, .slice none 0 0, .int .u64 0] 35)) = w2 at *
  replace HX := Lib.hid (HX.out.below hbx)
  have cP0 : w2.cell? ⟨w1.heap.size, 0, none⟩ = some (.int .i64 0) := by subst hWW; go_simp
  have cP1 : w2.cell? ⟨w1.heap.size, 1, none⟩ = some (.int .i64 0) := by subst hWW; go_simp
  have cP2 : w2.cell? ⟨w1.heap.size, 2, none⟩ = some (.slice none 0 0) := by subst hWW; go_simp
  have cP3 : w2.cell? ⟨w1.heap.size, 3, none⟩ = some (.int .u64 0) := by subst hWW; go_simp
  have ltP : w1.heap.size < w2.heap.size := by subst hWW; simp
  replace hB := hB.trans (hbx.mono hB.size)
  clear hbx hWW
  refine (rpacket_no s at_ a len cap _ hp).mono ?_
  rintro e w3 ⟨rfl, hb⟩
  replace cP0 := bc hb ltP cP0
  replace cP1 := bc hb ltP cP1
  replace cP2 := bc hb ltP cP2
  replace cP3 := bc hb ltP cP3
  replace ltP := bl hb ltP
  replace HX := Lib.hid (HX.out.below hb)
  replace hB := hB.trans (hb.mono hB.size)
  clear hb
  have hba : Below w3.heap.size w3 (w3.alloc (.cells #[.int .i64 0, .int .i64 0, .slice none 0 0, .int .u64 0] 35)) := (Below.refl _ _).alloc (Nat.le_refl _) _
  have nP0 := bc hba ltP cP0
  have nP1 := bc hba ltP cP1
  have nP2 := bc hba ltP cP2
  have nP3 := bc hba ltP cP3
  go_wp2_with fail
  clear hba nP0 nP1 nP2 nP3
  have hbx : Below w3.heap.size w3 (w3.alloc (.cells #[.int .i64 0, .int .i64 0, .slice none 0 0, .int .u64 0] 35)) := ((Below.refl _ _).alloc (Nat.le_refl _) _)
  generalize hWW : (w3.alloc (.cells #[.int .i64 0, .int .i64 0, .slice none 0 0, .int .u64 0] 35)) = w4 at *
  replace cP0 := bc hbx ltP cP0
  replace cP1 := bc hbx ltP cP1
  replace cP2 := bc hbx ltP cP2
  replace cP3 := bc hbx ltP cP3
  replace ltP := bl hbx ltP
  replace HX := Lib.hid (HX.out.below hbx)
  have cQ0 : w4.cell? ⟨w3.heap.size, 0, none⟩ = some (.int .i64 0) := by subst hWW; go_simp
  have cQ1 : w4.cell? ⟨w3.heap.size, 1, none⟩ = some (.int .i64 0) := by subst hWW; go_simp
  have cQ2 : w4.cell? ⟨w3.heap.size, 2, none⟩ = some (.slice none 0 0) := by subst hWW; go_simp
  have cQ3 : w4.cell? ⟨w3.heap.size, 3, none⟩ = some (.int .u64 0) := by subst hWW; go_simp
  have ltQ : w3.heap.size < w4.heap.size := by subst hWW; simp
  replace hB := hB.trans (hbx.mono hB.size)
  clear hbx hWW
  refine (samepk_t PkM.zero none none 0 0 0 _ (bytes_nil _) (bytes_nil _)).mono ?_
  rintro e w5 ⟨rfl, hb⟩
  replace cP0 := bc hb ltP cP0
  replace cP1 := bc hb ltP cP1
  replace cP2 := bc hb ltP cP2
  replace cP3 := bc hb ltP cP3
  replace ltP := bl hb ltP
  replace cQ0 := bc hb ltQ cQ0
  replace cQ1 := bc hb ltQ cQ1
  replace cQ2 := bc hb ltQ cQ2
  replace cQ3 := bc hb ltQ cQ3
  replace ltQ := bl hb ltQ
  replace HX := Lib.hid (HX.out.below hb)
  replace hB := hB.trans (hb.mono hB.size)
  clear hb
  go_wp2_with fail
  clear cP0 cP1 cP2 cP3 ltP
  clear cQ0 cQ1 cQ2 cQ3 ltQ
  refine (split_no s a len cap sz _ hlen hc).mono ?_
  rintro e w6 ⟨rfl, rfl⟩
  go_wp2_with fail
  refine (rsplit_no s a len cap sz _ hlen hc).mono ?_
  rintro e w7 ⟨rfl, rfl⟩
  go_wp2_with fail
  refine (new_ok s _ hs).mono ?_
  rintro e w8 ⟨rfl, hb⟩
  replace HX := Lib.hid (HX.out.below hb)
  replace hB := hB.trans (hb.mono hB.size)
  clear hb
  have hba : Below w8.heap.size w8 (w8.alloc (.cells #[.int .i64 s, .slice none 0 0, .slice none 0 0] 28)) := (Below.refl _ _).alloc (Nat.le_refl _) _
  go_wp2_with fail
  clear hba
  have hbx : Below w8.heap.size w8 (w8.alloc (.cells #[.int .i64 s, .slice none 0 0, .slice none 0 0] 28)) := ((Below.refl _ _).alloc (Nat.le_refl _) _)
  generalize hWW : (w8.alloc (.cells #[.int .i64 s, .slice none 0 0, .slice none 0 0] 28)) = w9 at *
  replace HX := Lib.hid (HX.out.below hbx)
  have cI0 : w9.cell? ⟨w8.heap.size, 0, none⟩ = some (.int .i64 s) := by subst hWW; go_simp
  have cI1 : w9.cell? ⟨w8.heap.size, 1, none⟩ = some (.slice none 0 0) := by subst hWW; go_simp
  have cI2 : w9.cell? ⟨w8.heap.size, 2, none⟩ = some (.slice none 0 0) := by subst hWW; go_simp
  have ltI : w8.heap.size < w9.heap.size := by subst hWW; simp
  replace hB := hB.trans (hbx.mono hB.size)
  clear hbx hWW
  refine (rnew_ok s _ hs).mono ?_
  rintro e w10 ⟨rfl, hb⟩
  replace cI0 := bc hb ltI cI0
  replace cI1 := bc hb ltI cI1
  replace cI2 := bc hb ltI cI2
  replace ltI := bl hb ltI
  replace HX := Lib.hid (HX.out.below hb)
  replace hB := hB.trans (hb.mono hB.size)
  clear hb
  have hba : Below w10.heap.size w10 (w10.alloc (.cells #[.int .i64 s, .slice none 0 0, .slice none 0 0] 28)) := (Below.refl _ _).alloc (Nat.le_refl _) _
  have nI0 := bc hba ltI cI0
  have nI1 := bc hba ltI cI1
  have nI2 := bc hba ltI cI2
  go_wp2_with fail
  clear hba nI0 nI1 nI2
  have hbx : Below w10.heap.size w10 (w10.alloc (.cells #[.int .i64 s, .slice none 0 0, .slice none 0 0] 28)) := ((Below.refl _ _).alloc (Nat.le_refl _) _)
  generalize hWW : (w10.alloc (.cells #[.int .i64 s, .slice none 0 0, .slice none 0 0] 28)) = w11 at *
  replace cI0 := bc hbx ltI cI0
  replace cI1 := bc hbx ltI cI1
  replace cI2 := bc hbx ltI cI2
  replace ltI := bl hbx ltI
  replace HX := Lib.hid (HX.out.below hbx)
  have cJ0 : w11.cell? ⟨w10.heap.size, 0, none⟩ = some (.int .i64 s) := by subst hWW; go_simp
  have cJ1 : w11.cell? ⟨w10.heap.size, 1, none⟩ = some (.slice none 0 0) := by subst hWW; go_simp
  have cJ2 : w11.cell? ⟨w10.heap.size, 2, none⟩ = some (.slice none 0 0) := by subst hWW; go_simp
  have ltJ : w10.heap.size < w11.heap.size := by subst hWW; simp
  replace hB := hB.trans (hbx.mono hB.size)
  clear hbx hWW
  refine (samepks_t (fun _ => PkM.zero) none none 0 0 0 _ (PksIn.nil _ _) (PksIn.nil _ _)).mono ?_
  rintro e w12 ⟨rfl, hb⟩
  replace cI0 := bc hb ltI cI0
  replace cI1 := bc hb ltI cI1
  replace cI2 := bc hb ltI cI2
  replace ltI := bl hb ltI
  replace cJ0 := bc hb ltJ cJ0
  replace cJ1 := bc hb ltJ cJ1
  replace cJ2 := bc hb ltJ cJ2
  replace ltJ := bl hb ltJ
  replace HX := Lib.hid (HX.out.below hb)
  replace hB := hB.trans (hb.mono hB.size)
  clear hb
  go_wp2_with fail
  refine (same_t s [] (fun _ => PkM.zero) none none none none 0 0 0 0 0 0 _ (bytes_nil _) (PksIn.nil _ _) (bytes_nil _) (PksIn.nil _ _)).mono ?_
  rintro e w13 ⟨rfl, hb⟩
  replace cI0 := bc hb ltI cI0
  replace cI1 := bc hb ltI cI1
  replace cI2 := bc hb ltI cI2
  replace ltI := bl hb ltI
  replace cJ0 := bc hb ltJ cJ0
  replace cJ1 := bc hb ltJ cJ1
  replace cJ2 := bc hb ltJ cJ2
  replace ltJ := bl hb ltJ
  replace HX := Lib.hid (HX.out.below hb)
  replace hB := hB.trans (hb.mono hB.size)
  clear hb
  go_wp2_with fail
  refine (awake_any _).mono ?_
  rintro e w14 ⟨rfl, hb⟩
  replace cI0 := bc hb ltI cI0
  replace cI1 := bc hb ltI cI1
  replace cI2 := bc hb ltI cI2
  replace ltI := bl hb ltI
  replace cJ0 := bc hb ltJ cJ0
  replace cJ1 := bc hb ltJ cJ1
  replace cJ2 := bc hb ltJ cJ2
  replace ltJ := bl hb ltJ
  replace HX := Lib.hid (HX.out.below hb)
  replace hB := hB.trans (hb.mono hB.size)
  clear hb
  go_wp2_with fail
  go_ret
  exact ⟨rfl, hB⟩
set_option maxHeartbeats 2000000 in
theorem upk_011 (s : Nat) (at_ : Int) (sz : Nat) (da : List UInt8) (a : Option Addr) (len cap : Nat) (w : World) (hx : Bytes w a len cap da) (_hlen : len ≤ 140737488355328) (hp : ¬ OkP s at_ len) (hc : OkC s len 0 sz) (hs : OkS s) :
    Calls Try.prog 5 #[.int .i64 s, .int .i64 at_, .int .i64 sz, .slice a len cap] w fun e w' => e = .returned (.bool true) ∧ Below w.heap.size w w' := by
  have HX := Lib.hid hx
  clear hx
  go_enter Try.func5, Try.ntmps5
  go_wp2_with fail
  refine (packet_no s at_ a len cap _ hp).mono ?_
  rintro e w1 ⟨rfl, hb⟩
  replace HX := Lib.hid (HX.out.below hb)
  have hB := hb
  clear hb
  have hba : Below w1.heap.size w1 (w1.alloc (.cells #[.int .i64 0, .int .i64 0, .slice none 0 0, .int .u64 0] 35)) := (Below.refl _ _).alloc (Nat.le_refl _) _
  go_wp2_with fail
  clear hba
  have hbx : Below w1.heap.size w1 (w1.alloc (.cells #[.int .i64 0, .int .i64 0, .slice none 0 0, .int .u64 0] 35)) := ((Below.refl _ _).alloc (Nat.le_refl _) _)
  generalize hWW : (w1.alloc (.cells #[.int .i64 0, .int .i64 0, .slice none 0 0, .int .u64 0] 35)) = w2 at *
  replace HX := Lib.hid (HX.out.below hbx)
  have cP0 : w2.cell? ⟨w1.heap.size, 0, none⟩ = some (.int .i64 0) := by subst hWW; go_simp
  have cP1 : w2.cell? ⟨w1.heap.size, 1, none⟩ = some (.int .i64 0) := by subst hWW; go_simp
  have cP2 : w2.cell? ⟨w1.heap.size, 2, none⟩ = some (.slice none 0 0) := by subst hWW; go_simp
  have cP3 : w2.cell? ⟨w1.heap.size, 3, none⟩ = some (.int .u64 0) := by subst hWW; go_simp
  have ltP : w1.heap.size < w2.heap.size := by subst hWW; simp
  replace hB := hB.trans (hbx.mono hB.size)
  clear hbx hWW
  refine (rpacket_no s at_ a len cap _ hp).mono ?_
  rintro e w3 ⟨rfl, hb⟩
  replace cP0 := bc hb ltP cP0
  replace cP1 := bc hb ltP cP1
  replace cP2 := bc hb ltP cP2
  replace cP3 := bc hb ltP cP3
  replace ltP := bl hb ltP
  replace HX := Lib.hid (HX.out.below hb)
  replace hB := hB.trans (hb.mono hB.size)
  clear hb
  have hba : Below w3.heap.size w3 (w3.alloc (.cells #[.int .i64 0, .int .i64 0, .slice none 0 0, .int .u64 0] 35)) := (Below.refl _ _).alloc (Nat.le_refl _) _
  have nP0 := bc hba ltP cP0
  have nP1 := bc hba ltP cP1
  have nP2 := bc hba ltP cP2
  have nP3 := bc hba ltP cP3
  go_wp2_with fail
  clear hba nP0 nP1 nP2 nP3
  have hbx : Below w3.heap.size w3 (w3.alloc (.cells #[.int .i64 0, .int .i64 0, .slice none 0 0, .int .u64 0] 35)) := ((Below.refl _ _).alloc (Nat.le_refl _) _)
  generalize hWW : (w3.alloc (.cells #[.int .i64 0, .int .i64 0, .slice none 0 0, .int .u64 0] 35)) = w4 at *
  replace cP0 := bc hbx ltP cP0
  replace cP1 := bc hbx ltP cP1
  replace cP2 := bc hbx ltP cP2
  replace cP3 := bc hbx ltP cP3
  replace ltP := bl hbx ltP
  replace HX := Lib.hid (HX.out.below hbx)
  have cQ0 : w4.cell? ⟨w3.heap.size, 0, none⟩ = some (.int .i64 0) := by subst hWW; go_simp
  have cQ1 : w4.cell? ⟨w3.heap.size, 1, none⟩ = some (.int .i64 0) := by subst hWW; go_simp
  have cQ2 : w4.cell? ⟨w3.heap.size, 2, none⟩ = some (.slice none 0 0) := by subst hWW; go_simp
  have cQ3 : w4.cell? ⟨w3.heap.size, 3, none⟩ = some (.int .u64 0) := by subst hWW; go_simp
  have ltQ : w3.heap.size < w4.heap.size := by subst hWW; simp
  replace hB := hB.trans (hbx.mono hB.size)
  clear hbx hWW
  refine (samepk_t PkM.zero none none 0 0 0 _ (bytes_nil _) (bytes_nil _)).mono ?_
  rintro e w5 ⟨rfl, hb⟩
  replace cP0 := bc hb ltP cP0
  replace cP1 := bc hb ltP cP1
  replace cP2 := bc hb ltP cP2
  replace cP3 := bc hb ltP cP3
  replace ltP := bl hb ltP
  replace cQ0 := bc hb ltQ cQ0
  replace cQ1 := bc hb ltQ cQ1
  replace cQ2 := bc hb ltQ cQ2
  replace cQ3 := bc hb ltQ cQ3
  replace ltQ := bl hb ltQ
  replace HX := Lib.hid (HX.out.below hb)
  replace hB := hB.trans (hb.mono hB.size)
  clear hb
  go_wp2_with fail
  clear cP0 cP1 cP2 cP3 ltP
  clear cQ0 cQ1 cQ2 cQ3 ltQ
  refine (split_ok s da a len cap sz _ HX.out hc).mono ?_
  rintro e w6 ⟨b3, e3, rfl, h3, hb⟩
  replace HX := Lib.hid (HX.out.below hb)
  replace hB := hB.trans (hb.mono hB.size)
  have H3 := Lib.hid h3
  clear h3
  clear hb
  go_wp2_with fail
  refine (rsplit_ok s da a len cap sz _ HX.out hc).mono ?_
  rintro e w7 ⟨b4, e4, rfl, h4, hb⟩
  replace HX := Lib.hid (HX.out.below hb)
  replace H3 := Lib.hid (H3.out.below hb)
  replace hB := hB.trans (hb.mono hB.size)
  have H4 := Lib.hid h4
  clear h4
  clear hb
  go_wp2_with fail
  refine (new_ok s _ hs).mono ?_
  rintro e w8 ⟨rfl, hb⟩
  replace HX := Lib.hid (HX.out.below hb)
  replace H3 := Lib.hid (H3.out.below hb)
  replace H4 := Lib.hid (H4.out.below hb)
  replace hB := hB.trans (hb.mono hB.size)
  clear hb
  have hba : Below w8.heap.size w8 (w8.alloc (.cells #[.int .i64 s, .slice none 0 0, .slice none 0 0] 28)) := (Below.refl _ _).alloc (Nat.le_refl _) _
  go_wp2_with fail
  clear hba
  have hbx : Below w8.heap.size w8 (w8.alloc (.cells #[.int .i64 s, .slice none 0 0, .slice none 0 0] 28)) := ((Below.refl _ _).alloc (Nat.le_refl _) _)
  generalize hWW : (w8.alloc (.cells #[.int .i64 s, .slice none 0 0, .slice none 0 0] 28)) = w9 at *
  replace HX := Lib.hid (HX.out.below hbx)
  replace H3 := Lib.hid (H3.out.below hbx)
  replace H4 := Lib.hid (H4.out.below hbx)
  have cI0 : w9.cell? ⟨w8.heap.size, 0, none⟩ = some (.int .i64 s) := by subst hWW; go_simp
  have cI1 : w9.cell? ⟨w8.heap.size, 1, none⟩ = some (.slice none 0 0) := by subst hWW; go_simp
  have cI2 : w9.cell? ⟨w8.heap.size, 2, none⟩ = some (.slice none 0 0) := by subst hWW; go_simp
  have ltI : w8.heap.size < w9.heap.size := by subst hWW; simp
  replace hB := hB.trans (hbx.mono hB.size)
  clear hbx hWW
  refine (rnew_ok s _ hs).mono ?_
  rintro e w10 ⟨rfl, hb⟩
  replace cI0 := bc hb ltI cI0
  replace cI1 := bc hb ltI cI1
  replace cI2 := bc hb ltI cI2
  replace ltI := bl hb ltI
  replace HX := Lib.hid (HX.out.below hb)
  replace H3 := Lib.hid (H3.out.below hb)
  replace H4 := Lib.hid (H4.out.below hb)
  replace hB := hB.trans (hb.mono hB.size)
  clear hb
  have hba : Below w10.heap.size w10 (w10.alloc (.cells #[.int .i64 s, .slice none 0 0, .slice none 0 0] 28)) := (Below.refl _ _).alloc (Nat.le_refl _) _
  have nI0 := bc hba ltI cI0
  have nI1 := bc hba ltI cI1
  have nI2 := bc hba ltI cI2
  go_wp2_with fail
  clear hba nI0 nI1 nI2
  have hbx : Below w10.heap.size w10 (w10.alloc (.cells #[.int .i64 s, .slice none 0 0, .slice none 0 0] 28)) := ((Below.refl _ _).alloc (Nat.le_refl _) _)
  generalize hWW : (w10.alloc (.cells #[.int .i64 s, .slice none 0 0, .slice none 0 0] 28)) = w11 at *
  replace cI0 := bc hbx ltI cI0
  replace cI1 := bc hbx ltI cI1
  replace cI2 := bc hbx ltI cI2
  replace ltI := bl hbx ltI
  replace HX := Lib.hid (HX.out.below hbx)
  replace H3 := Lib.hid (H3.out.below hbx)
  replace H4 := Lib.hid (H4.out.below hbx)
  have cJ0 : w11.cell? ⟨w10.heap.size, 0, none⟩ = some (.int .i64 s) := by subst hWW; go_simp
  have cJ1 : w11.cell? ⟨w10.heap.size, 1, none⟩ = some (.slice none 0 0) := by subst hWW; go_simp
  have cJ2 : w11.cell? ⟨w10.heap.size, 2, none⟩ = some (.slice none 0 0) := by subst hWW; go_simp
  have ltJ : w10.heap.size < w11.heap.size := by subst hWW; simp
  replace hB := hB.trans (hbx.mono hB.size)
  clear hbx hWW
  refine (samepks_t _ b3 b4 _ e3 e4 _ H3.out H4.out).mono ?_
  rintro e w12 ⟨rfl, hb⟩
  replace cI0 := bc hb ltI cI0
  replace cI1 := bc hb ltI cI1
  replace cI2 := bc hb ltI cI2
  replace ltI := bl hb ltI
  replace cJ0 := bc hb ltJ cJ0
  replace cJ1 := bc hb ltJ cJ1
  replace cJ2 := bc hb ltJ cJ2
  replace ltJ := bl hb ltJ
  replace HX := Lib.hid (HX.out.below hb)
  replace H3 := Lib.hid (H3.out.below hb)
  replace H4 := Lib.hid (H4.out.below hb)
  replace hB := hB.trans (hb.mono hB.size)
  clear hb
  go_wp2_with fail
  refine (same_t s [] (fun _ => PkM.zero) none none none none 0 0 0 0 0 0 _ (bytes_nil _) (PksIn.nil _ _) (bytes_nil _) (PksIn.nil _ _)).mono ?_
  rintro e w13 ⟨rfl, hb⟩
  replace cI0 := bc hb ltI cI0
  replace cI1 := bc hb ltI cI1
  replace cI2 := bc hb ltI cI2
  replace ltI := bl hb ltI
  replace cJ0 := bc hb ltJ cJ0
  replace cJ1 := bc hb ltJ cJ1
  replace cJ2 := bc hb ltJ cJ2
  replace ltJ := bl hb ltJ
  replace HX := Lib.hid (HX.out.below hb)
  replace H3 := Lib.hid (H3.out.below hb)
  replace H4 := Lib.hid (H4.out.below hb)
  replace hB := hB.trans (hb.mono hB.size)
  clear hb
  go_wp2_with fail
  refine (awake_any _).mono ?_
  rintro e w14 ⟨rfl, hb⟩
  replace cI0 := bc hb ltI cI0
  replace cI1 := bc hb ltI cI1
  replace cI2 := bc hb ltI cI2
  replace ltI := bl hb ltI
  replace cJ0 := bc hb ltJ cJ0
  replace cJ1 := bc hb ltJ cJ1
  replace cJ2 := bc hb ltJ cJ2
  replace ltJ := bl hb ltJ
  replace HX := Lib.hid (HX.out.below hb)
  replace H3 := Lib.hid (H3.out.below hb)
  replace H4 := Lib.hid (H4.out.below hb)
  replace hB := hB.trans (hb.mono hB.size)
  clear hb
  go_wp2_with fail
  go_ret
  exact ⟨rfl, hB⟩
set_option maxHeartbeats 2000000 in
theorem upk_101 (s : Nat) (at_ : Nat) (sz : Int) (da : List UInt8) (a : Option Addr) (len cap : Nat) (w : World) (hx : Bytes w a len cap da) (hlen : len ≤ 140737488355328) (hp : OkP s at_ len) (hc : ¬ OkC s len 0 sz) (hs : OkS s) :
    Calls Try.prog 5 #[.int .i64 s, .int .i64 at_, .int .i64 sz, .slice a len cap] w fun e w' => e = .returned (.bool true) ∧ Below w.heap.size w w' := by
  have HX := Lib.hid hx
  clear hx
  go_enter Try.func5, Try.ntmps5
  go_wp2_with fail
  refine (packet_ok s at_ da a len cap _ HX.out hp).mono ?_
  rintro e w1 ⟨b1, e1, rfl, h1, hb⟩
  replace HX := Lib.hid (HX.out.below hb)
  have hB := hb
  have H1 := Lib.hid h1
  clear h1
  clear hb
  have hba : Below w1.heap.size w1 (w1.alloc (.cells #[.int .i64 s, .int .i64 at_, .slice b1 len e1, .int .u64 ((sumU s at_ da).toNat : Int)] 35)) := (Below.refl _ _).alloc (Nat.le_refl _) _
  go_wp2_with fail
  clear hba
  have hbx : Below w1.heap.size w1 (w1.alloc (.cells #[.int .i64 s, .int .i64 at_, .slice b1 len e1, .int .u64 ((sumU s at_ da).toNat : Int)] 35)) := ((Below.refl _ _).alloc (Nat.le_refl _) _)
  generalize hWW : (w1.alloc (.cells #[.int .i64 s, .int .i64 at_, .slice b1 len e1, .int .u64 ((sumU s at_ da).toNat : Int)] 35)) = w2 at *
  replace HX := Lib.hid (HX.out.below hbx)
  replace H1 := Lib.hid (H1.out.below hbx)
  have cP0 : w2.cell? ⟨w1.heap.size, 0, none⟩ = some (.int .i64 s) := by subst hWW; go_simp
  have cP1 : w2.cell? ⟨w1.heap.size, 1, none⟩ = some (.int .i64 at_) := by subst hWW; go_simp
  have cP2 : w2.cell? ⟨w1.heap.size, 2, none⟩ = some (.slice b1 len e1) := by subst hWW; go_simp
  have cP3 : w2.cell? ⟨w1.heap.size, 3, none⟩ = some (.int .u64 ((sumU s at_ da).toNat : Int)) := by subst hWW; go_simp
  have ltP : w1.heap.size < w2.heap.size := by subst hWW; simp
  replace hB := hB.trans (hbx.mono hB.size)
  clear hbx hWW
  refine (rpacket_ok s at_ da a len cap _ HX.out hp).mono ?_
  rintro e w3 ⟨b2, e2, rfl, h2, -, hb⟩
  replace cP0 := bc hb ltP cP0
  replace cP1 := bc hb ltP cP1
  replace cP2 := bc hb ltP cP2
  replace cP3 := bc hb ltP cP3
  replace ltP := bl hb ltP
  replace HX := Lib.hid (HX.out.below hb)
  replace H1 := Lib.hid (H1.out.below hb)
  replace hB := hB.trans (hb.mono hB.size)
  have H2 := Lib.hid h2
  clear h2
  clear hb
  have hba : Below w3.heap.size w3 (w3.alloc (.cells #[.int .i64 s, .int .i64 at_, .slice b2 len e2, .int .u64 ((sumU s at_ da).toNat : Int)] 35)) := (Below.refl _ _).alloc (Nat.le_refl _) _
  have nP0 := bc hba ltP cP0
  have nP1 := bc hba ltP cP1
  have nP2 := bc hba ltP cP2
  have nP3 := bc hba ltP cP3
  go_wp2_with fail
  clear hba nP0 nP1 nP2 nP3
  have hbx : Below w3.heap.size w3 (w3.alloc (.cells #[.int .i64 s, .int .i64 at_, .slice b2 len e2, .int .u64 ((sumU s at_ da).toNat : Int)] 35)) := ((Below.refl _ _).alloc (Nat.le_refl _) _)
  generalize hWW : (w3.alloc (.cells #[.int .i64 s, .int .i64 at_, .slice b2 len e2, .int .u64 ((sumU s at_ da).toNat : Int)] 35)) = w4 at *
  replace cP0 := bc hbx ltP cP0
  replace cP1 := bc hbx ltP cP1
  replace cP2 := bc hbx ltP cP2
  replace cP3 := bc hbx ltP cP3
  replace ltP := bl hbx ltP
  replace HX := Lib.hid (HX.out.below hbx)
  replace H1 := Lib.hid (H1.out.below hbx)
  replace H2 := Lib.hid (H2.out.below hbx)
  have cQ0 : w4.cell? ⟨w3.heap.size, 0, none⟩ = some (.int .i64 s) := by subst hWW; go_simp
  have cQ1 : w4.cell? ⟨w3.heap.size, 1, none⟩ = some (.int .i64 at_) := by subst hWW; go_simp
  have cQ2 : w4.cell? ⟨w3.heap.size, 2, none⟩ = some (.slice b2 len e2) := by subst hWW; go_simp
  have cQ3 : w4.cell? ⟨w3.heap.size, 3, none⟩ = some (.int .u64 ((sumU s at_ da).toNat : Int)) := by subst hWW; go_simp
  have ltQ : w3.heap.size < w4.heap.size := by subst hWW; simp
  replace hB := hB.trans (hbx.mono hB.size)
  clear hbx hWW
  refine (samepk_t ⟨s, at_, da, sumU s at_ da⟩ b1 b2 len e1 e2 _ H1.out H2.out).mono ?_
  rintro e w5 ⟨rfl, hb⟩
  replace cP0 := bc hb ltP cP0
  replace cP1 := bc hb ltP cP1
  replace cP2 := bc hb ltP cP2
  replace cP3 := bc hb ltP cP3
  replace ltP := bl hb ltP
  replace cQ0 := bc hb ltQ cQ0
  replace cQ1 := bc hb ltQ cQ1
  replace cQ2 := bc hb ltQ cQ2
  replace cQ3 := bc hb ltQ cQ3
  replace ltQ := bl hb ltQ
  replace HX := Lib.hid (HX.out.below hb)
  replace H1 := Lib.hid (H1.out.below hb)
  replace H2 := Lib.hid (H2.out.below hb)
  replace hB := hB.trans (hb.mono hB.size)
  clear hb
  go_wp2_with fail
  clear cP0 cP1 cP2 cP3 ltP
  clear cQ0 cQ1 cQ2 cQ3 ltQ
  refine (split_no s a len cap sz _ hlen hc).mono ?_
  rintro e w6 ⟨rfl, rfl⟩
  go_wp2_with fail
  refine (rsplit_no s a len cap sz _ hlen hc).mono ?_
  rintro e w7 ⟨rfl, rfl⟩
  go_wp2_with fail
  refine (new_ok s _ hs).mono ?_
  rintro e w8 ⟨rfl, hb⟩
  replace HX := Lib.hid (HX.out.below hb)
  replace H1 := Lib.hid (H1.out.below hb)
  replace H2 := Lib.hid (H2.out.below hb)
  replace hB := hB.trans (hb.mono hB.size)
  clear hb
  have hba : Below w8.heap.size w8 (w8.alloc (.cells #[.int .i64 s, .slice none 0 0, .slice none 0 0] 28)) := (Below.refl _ _).alloc (Nat.le_refl _) _
  go_wp2_with fail
  clear hba
  have hbx : Below w8.heap.size w8 (w8.alloc (.cells #[.int .i64 s, .slice none 0 0, .slice none 0 0] 28)) := ((Below.refl _ _).alloc (Nat.le_refl _) _)
  generalize hWW : (w8.alloc (.cells #[.int .i64 s, .slice none 0 0, .slice none 0 0] 28)) = w9 at *
  replace HX := Lib.hid (HX.out.below hbx)
  replace H1 := Lib.hid (H1.out.below hbx)
  replace H2 := Lib.hid (H2.out.below hbx)
  have cI0 : w9.cell? ⟨w8.heap.size, 0, none⟩ = some (.int .i64 s) := by subst hWW; go_simp
  have cI1 : w9.cell? ⟨w8.heap.size, 1, none⟩ = some (.slice none 0 0) := by subst hWW; go_simp
  have cI2 : w9.cell? ⟨w8.heap.size, 2, none⟩ = some (.slice none 0 0) := by subst hWW; go_simp
  have ltI : w8.heap.size < w9.heap.size := by subst hWW; simp
  replace hB := hB.trans (hbx.mono hB.size)
  clear hbx hWW
  refine (rnew_ok s _ hs).mono ?_
  rintro e w10 ⟨rfl, hb⟩
  replace cI0 := bc hb ltI cI0
  replace cI1 := bc hb ltI cI1
  replace cI2 := bc hb ltI cI2
  replace ltI := bl hb ltI
  replace HX := Lib.hid (HX.out.below hb)
  replace H1 := Lib.hid (H1.out.below hb)
  replace H2 := Lib.hid (H2.out.below hb)
  replace hB := hB.trans (hb.mono hB.size)
  clear hb
  have hba : Below w10.heap.size w10 (w10.alloc (.cells #[.int .i64 s, .slice none 0 0, .slice none 0 0] 28)) := (Below.refl _ _).alloc (Nat.le_refl _) _
  have nI0 := bc hba ltI cI0
  have nI1 := bc hba ltI cI1
  have nI2 := bc hba ltI cI2
  go_wp2_with fail
  clear hba nI0 nI1 nI2
  have hbx : Below w10.heap.size w10 (w10.alloc (.cells #[.int .i64 s, .slice none 0 0, .slice none 0 0] 28)) := ((Below.refl _ _).alloc (Nat.le_refl _) _)
  generalize hWW : (w10.alloc (.cells #[.int .i64 s, .slice none 0 0, .slice none 0 0] 28)) = w11 at *
  replace cI0 := bc hbx ltI cI0
  replace cI1 := bc hbx ltI cI1
  replace cI2 := bc hbx ltI cI2
  replace ltI := bl hbx ltI
  replace HX := Lib.hid (HX.out.below hbx)
  replace H1 := Lib.hid (H1.out.below hbx)
  replace H2 := Lib.hid (H2.out.below hbx)
  have cJ0 : w11.cell? ⟨w10.heap.size, 0, none⟩ = some (.int .i64 s) := by subst hWW; go_simp
  have cJ1 : w11.cell? ⟨w10.heap.size, 1, none⟩ = some (.slice none 0 0) := by subst hWW; go_simp
  have cJ2 : w11.cell? ⟨w10.heap.size, 2, none⟩ = some (.slice none 0 0) := by subst hWW; go_simp
  have ltJ : w10.heap.size < w11.heap.size := by subst hWW; simp
  replace hB := hB.trans (hbx.mono hB.size)
  clear hbx hWW
  refine (samepks_t (fun _ => PkM.zero) none none 0 0 0 _ (PksIn.nil _ _) (PksIn.nil _ _)).mono ?_
  rintro e w12 ⟨rfl, hb⟩
  replace cI0 := bc hb ltI cI0
  replace cI1 := bc hb ltI cI1
  replace cI2 := bc hb ltI cI2
  replace ltI := bl hb ltI
  replace cJ0 := bc hb ltJ cJ0
  replace cJ1 := bc hb ltJ cJ1
  replace cJ2 := bc hb ltJ cJ2
  replace ltJ := bl hb ltJ
  replace HX := Lib.hid (HX.out.below hb)
  replace H1 := Lib.hid (H1.out.below hb)
  replace H2 := Lib.hid (H2.out.below hb)
  replace hB := hB.trans (hb.mono hB.size)
  clear hb
  go_wp2_with fail
  refine (same_t s [] (fun _ => PkM.zero) none none none none 0 0 0 0 0 0 _ (bytes_nil _) (PksIn.nil _ _) (bytes_nil _) (PksIn.nil _ _)).mono ?_
  rintro e w13 ⟨rfl, hb⟩
  replace cI0 := bc hb ltI cI0
  replace cI1 := bc hb ltI cI1
  replace cI2 := bc hb ltI cI2
  replace ltI := bl hb ltI
  replace cJ0 := bc hb ltJ cJ0
  replace cJ1 := bc hb ltJ cJ1
  replace cJ2 := bc hb ltJ cJ2
  replace ltJ := bl hb ltJ
  replace HX := Lib.hid (HX.out.below hb)
  replace H1 := Lib.hid (H1.out.below hb)
  replace H2 := Lib.hid (H2.out.below hb)
  replace hB := hB.trans (hb.mono hB.size)
  clear hb
  go_wp2_with fail
  refine (awake_any _).mono ?_
  rintro e w14 ⟨rfl, hb⟩
  replace cI0 := bc hb ltI cI0
  replace cI1 := bc hb ltI cI1
  replace cI2 := bc hb ltI cI2
  replace ltI := bl hb ltI
  replace cJ0 := bc hb ltJ cJ0
  replace cJ1 := bc hb ltJ cJ1
  replace cJ2 := bc hb ltJ cJ2
  replace ltJ := bl hb ltJ
  replace HX := Lib.hid (HX.out.below hb)
  replace H1 := Lib.hid (H1.out.below hb)
  replace H2 := Lib.hid (H2.out.below hb)
  replace hB := hB.trans (hb.mono hB.size)
  clear hb
  go_wp2_with fail
  go_ret
  exact ⟨rfl, hB⟩
set_option maxHeartbeats 2000000 in
theorem upk_111 (s : Nat) (at_ : Nat) (sz : Nat) (da : List UInt8) (a : Option Addr) (len cap : Nat) (w : World) (hx : Bytes w a len cap da) (_hlen : len ≤ 140737488355328) (hp : OkP s at_ len) (hc : OkC s len 0 sz) (hs : OkS s) :
    Calls Try.prog 5 #[.int .i64 s, .int .i64 at_, .int .i64 sz, .slice a len cap] w fun e w' => e = .returned (.bool true) ∧ Below w.heap.size w w' := by
  have HX := Lib.hid hx
  clear hx
  go_enter Try.func5, Try.ntmps5
  go_wp2_with fail
  refine (packet_ok s at_ da a len cap _ HX.out hp).mono ?_
  rintro e w1 ⟨b1, e1, rfl, h1, hb⟩
  replace HX := Lib.hid (HX.out.below hb)
  have hB := hb
  have H1 := Lib.hid h1
  clear h1
  clear hb
  have hba : Below w1.heap.size w1 (w1.alloc (.cells #[.int .i64 s, .int .i64 at_, .slice b1 len e1, .int .u64 ((sumU s at_ da).toNat : Int)] 35)) := (Below.refl _ _).alloc (Nat.le_refl _) _
  go_wp2_with fail
  clear hba
  have hbx : Below w1.heap.size w1 (w1.alloc (.cells #[.int .i64 s, .int .i64 at_, .slice b1 len e1, .int .u64 ((sumU s at_ da).toNat : Int)] 35)) := ((Below.refl _ _).alloc (Nat.le_refl _) _)
  generalize hWW : (w1.alloc (.cells #[.int .i64 s, .int .i64 at_, .slice b1 len e1, .int .u64 ((sumU s at_ da).toNat : Int)] 35)) = w2 at *
  replace HX := Lib.hid (HX.out.below hbx)
  replace H1 := Lib.hid (H1.out.below hbx)
  have cP0 : w2.cell? ⟨w1.heap.size, 0, none⟩ = some (.int .i64 s) := by subst hWW; go_simp
  have cP1 : w2.cell? ⟨w1.heap.size, 1, none⟩ = some (.int .i64 at_) := by subst hWW; go_simp
  have cP2 : w2.cell? ⟨w1.heap.size, 2, none⟩ = some (.slice b1 len e1) := by subst hWW; go_simp
  have cP3 : w2.cell? ⟨w1.heap.size, 3, none⟩ = some (.int .u64 ((sumU s at_ da).toNat : Int)) := by subst hWW; go_simp
  have ltP : w1.heap.size < w2.heap.size := by subst hWW; simp
  replace hB := hB.trans (hbx.mono hB.size)
  clear hbx hWW
  refine (rpacket_ok s at_ da a len cap _ HX.out hp).mono ?_
  rintro e w3 ⟨b2, e2, rfl, h2, -, hb⟩
  replace cP0 := bc hb ltP cP0
  replace cP1 := bc hb ltP cP1
  replace cP2 := bc hb ltP cP2
  replace cP3 := bc hb ltP cP3
  replace ltP := bl hb ltP
  replace HX := Lib.hid (HX.out.below hb)
  replace H1 := Lib.hid (H1.out.below hb)
  replace hB := hB.trans (hb.mono hB.size)
  have H2 := Lib.hid h2
  clear h2
  clear hb
  have hba : Below w3.heap.size w3 (w3.alloc (.cells #[.int .i64 s, .int .i64 at_, .slice b2 len e2, .int .u64 ((sumU s at_ da).toNat : Int)] 35)) := (Below.refl _ _).alloc (Nat.le_refl _) _
  have nP0 := bc hba ltP cP0
  have nP1 := bc hba ltP cP1
  have nP2 := bc hba ltP cP2
  have nP3 := bc hba ltP cP3
  go_wp2_with fail
  clear hba nP0 nP1 nP2 nP3
  have hbx : Below w3.heap.size w3 (w3.alloc (.cells #[.int .i64 s, .int .i64 at_, .slice b2 len e2, .int .u64 ((sumU s at_ da).toNat : Int)] 35)) := ((Below.refl _ _).alloc (Nat.le_refl _) _)
  generalize hWW : (w3.alloc (.cells #[.int .i64 s, .int .i64 at_, .slice b2 len e2, .int .u64 ((sumU s at_ da).toNat : Int)] 35)) = w4 at *
  replace cP0 := bc hbx ltP cP0
  replace cP1 := bc hbx ltP cP1
  replace cP2 := bc hbx ltP cP2
  replace cP3 := bc hbx ltP cP3
  replace ltP := bl hbx ltP
  replace HX := Lib.hid (HX.out.below hbx)
  replace H1 := Lib.hid (H1.out.below hbx)
  replace H2 := Lib.hid (H2.out.below hbx)
  have cQ0 : w4.cell? ⟨w3.heap.size, 0, none⟩ = some (.int .i64 s) := by subst hWW; go_simp
  have cQ1 : w4.cell? ⟨w3.heap.size, 1, none⟩ = some (.int .i64 at_) := by subst hWW; go_simp
  have cQ2 : w4.cell? ⟨w3.heap.size, 2, none⟩ = some (.slice b2 len e2) := by subst hWW; go_simp
  have cQ3 : w4.cell? ⟨w3.heap.size, 3, none⟩ = some (.int .u64 ((sumU s at_ da).toNat : Int)) := by subst hWW; go_simp
  have ltQ : w3.heap.size < w4.heap.size := by subst hWW; simp
  replace hB := hB.trans (hbx.mono hB.size)
  clear hbx hWW
  refine (samepk_t ⟨s, at_, da, sumU s at_ da⟩ b1 b2 len e1 e2 _ H1.out H2.out).mono ?_
  rintro e w5 ⟨rfl, hb⟩
  replace cP0 := bc hb ltP cP0
  replace cP1 := bc hb ltP cP1
  replace cP2 := bc hb ltP cP2
  replace cP3 := bc hb ltP cP3
  replace ltP := bl hb ltP
  replace cQ0 := bc hb ltQ cQ0
  replace cQ1 := bc hb ltQ cQ1
  replace cQ2 := bc hb ltQ cQ2
  replace cQ3 := bc hb ltQ cQ3
  replace ltQ := bl hb ltQ
  replace HX := Lib.hid (HX.out.below hb)
  replace H1 := Lib.hid (H1.out.below hb)
  replace H2 := Lib.hid (H2.out.below hb)
  replace hB := hB.trans (hb.mono hB.size)
  clear hb
  go_wp2_with fail
  clear cP0 cP1 cP2 cP3 ltP
  clear cQ0 cQ1 cQ2 cQ3 ltQ
  refine (split_ok s da a len cap sz _ HX.out hc).mono ?_
  rintro e w6 ⟨b3, e3, rfl, h3, hb⟩
  replace HX := Lib.hid (HX.out.below hb)
  replace H1 := Lib.hid (H1.out.below hb)
  replace H2 := Lib.hid (H2.out.below hb)
  replace hB := hB.trans (hb.mono hB.size)
  have H3 := Lib.hid h3
  clear h3
  clear hb
  go_wp2_with fail
  refine (rsplit_ok s da a len cap sz _ HX.out hc).mono ?_
  rintro e w7 ⟨b4, e4, rfl, h4, hb⟩
  replace HX := Lib.hid (HX.out.below hb)
  replace H1 := Lib.hid (H1.out.below hb)
  replace H2 := Lib.hid (H2.out.below hb)
  replace H3 := Lib.hid (H3.out.below hb)
  replace hB := hB.trans (hb.mono hB.size)
  have H4 := Lib.hid h4
  clear h4
  clear hb
  go_wp2_with fail
  refine (new_ok s _ hs).mono ?_
  rintro e w8 ⟨rfl, hb⟩
  replace HX := Lib.hid (HX.out.below hb)
  replace H1 := Lib.hid (H1.out.below hb)
  replace H2 := Lib.hid (H2.out.below hb)
  replace H3 := Lib.hid (H3.out.below hb)
  replace H4 := Lib.hid (H4.out.below hb)
  replace hB := hB.trans (hb.mono hB.size)
  clear hb
  have hba : Below w8.heap.size w8 (w8.alloc (.cells #[.int .i64 s, .slice none 0 0, .slice none 0 0] 28)) := (Below.refl _ _).alloc (Nat.le_refl _) _
  go_wp2_with fail
  clear hba
  have hbx : Below w8.heap.size w8 (w8.alloc (.cells #[.int .i64 s, .slice none 0 0, .slice none 0 0] 28)) := ((Below.refl _ _).alloc (Nat.le_refl _) _)
  generalize hWW : (w8.alloc (.cells #[.int .i64 s, .slice none 0 0, .slice none 0 0] 28)) = w9 at *
  replace HX := Lib.hid (HX.out.below hbx)
  replace H1 := Lib.hid (H1.out.below hbx)
  replace H2 := Lib.hid (H2.out.below hbx)
  replace H3 := Lib.hid (H3.out.below hbx)
  replace H4 := Lib.hid (H4.out.below hbx)
  have cI0 : w9.cell? ⟨w8.heap.size, 0, none⟩ = some (.int .i64 s) := by subst hWW; go_simp
  have cI1 : w9.cell? ⟨w8.heap.size, 1, none⟩ = some (.slice none 0 0) := by subst hWW; go_simp
  have cI2 : w9.cell? ⟨w8.heap.size, 2, none⟩ = some (.slice none 0 0) := by subst hWW; go_simp
  have ltI : w8.heap.size < w9.heap.size := by subst hWW; simp
  replace hB := hB.trans (hbx.mono hB.size)
  clear hbx hWW
  refine (rnew_ok s _ hs).mono ?_
  rintro e w10 ⟨rfl, hb⟩
  replace cI0 := bc hb ltI cI0
  replace cI1 := bc hb ltI cI1
  replace cI2 := bc hb ltI cI2
  replace ltI := bl hb ltI
  replace HX := Lib.hid (HX.out.below hb)
  replace H1 := Lib.hid (H1.out.below hb)
  replace H2 := Lib.hid (H2.out.below hb)
  replace H3 := Lib.hid (H3.out.below hb)
  replace H4 := Lib.hid (H4.out.below hb)
  replace hB := hB.trans (hb.mono hB.size)
  clear hb
  have hba : Below w10.heap.size w10 (w10.alloc (.cells #[.int .i64 s, .slice none 0 0, .slice none 0 0] 28)) := (Below.refl _ _).alloc (Nat.le_refl _) _
  have nI0 := bc hba ltI cI0
  have nI1 := bc hba ltI cI1
  have nI2 := bc hba ltI cI2
  go_wp2_with fail
  clear hba nI0 nI1 nI2
  have hbx : Below w10.heap.size w10 (w10.alloc (.cells #[.int .i64 s, .slice none 0 0, .slice none 0 0] 28)) := ((Below.refl _ _).alloc (Nat.le_refl _) _)
  generalize hWW : (w10.alloc (.cells #[.int .i64 s, .slice none 0 0, .slice none 0 0] 28)) = w11 at *
  replace cI0 := bc hbx ltI cI0
  replace cI1 := bc hbx ltI cI1
  replace cI2 := bc hbx ltI cI2
  replace ltI := bl hbx ltI
  replace HX := Lib.hid (HX.out.below hbx)
  replace H1 := Lib.hid (H1.out.below hbx)
  replace H2 := Lib.hid (H2.out.below hbx)
  replace H3 := Lib.hid (H3.out.below hbx)
  replace H4 := Lib.hid (H4.out.below hbx)
  have cJ0 : w11.cell? ⟨w10.heap.size, 0, none⟩ = some (.int .i64 s) := by subst hWW; go_simp
  have cJ1 : w11.cell? ⟨w10.heap.size, 1, none⟩ = some (.slice none 0 0) := by subst hWW; go_simp
  have cJ2 : w11.cell? ⟨w10.heap.size, 2, none⟩ = some (.slice none 0 0) := by subst hWW; go_simp
  have ltJ : w10.heap.size < w11.heap.size := by subst hWW; simp
  replace hB := hB.trans (hbx.mono hB.size)
  clear hbx hWW
  refine (samepks_t _ b3 b4 _ e3 e4 _ H3.out H4.out).mono ?_
  rintro e w12 ⟨rfl, hb⟩
  replace cI0 := bc hb ltI cI0
  replace cI1 := bc hb ltI cI1
  replace cI2 := bc hb ltI cI2
  replace ltI := bl hb ltI
  replace cJ0 := bc hb ltJ cJ0
  replace cJ1 := bc hb ltJ cJ1
  replace cJ2 := bc hb ltJ cJ2
  replace ltJ := bl hb ltJ
  replace HX := Lib.hid (HX.out.below hb)
  replace H1 := Lib.hid (H1.out.below hb)
  replace H2 := Lib.hid (H2.out.below hb)
  replace H3 := Lib.hid (H3.out.below hb)
  replace H4 := Lib.hid (H4.out.below hb)
  replace hB := hB.trans (hb.mono hB.size)
  clear hb
  go_wp2_with fail
  refine (same_t s [] (fun _ => PkM.zero) none none none none 0 0 0 0 0 0 _ (bytes_nil _) (PksIn.nil _ _) (bytes_nil _) (PksIn.nil _ _)).mono ?_
  rintro e w13 ⟨rfl, hb⟩
  replace cI0 := bc hb ltI cI0
  replace cI1 := bc hb ltI cI1
  replace cI2 := bc hb ltI cI2
  replace ltI := bl hb ltI
  replace cJ0 := bc hb ltJ cJ0
  replace cJ1 := bc hb ltJ cJ1
  replace cJ2 := bc hb ltJ cJ2
  replace ltJ := bl hb ltJ
  replace HX := Lib.hid (HX.out.below hb)
  replace H1 := Lib.hid (H1.out.below hb)
  replace H2 := Lib.hid (H2.out.below hb)
  replace H3 := Lib.hid (H3.out.below hb)
  replace H4 := Lib.hid (H4.out.below hb)
  replace hB := hB.trans (hb.mono hB.size)
  clear hb
  go_wp2_with fail
  refine (awake_any _).mono ?_
  rintro e w14 ⟨rfl, hb⟩
  replace cI0 := bc hb ltI cI0
  replace cI1 := bc hb ltI cI1
  replace cI2 := bc hb ltI cI2
  replace ltI := bl hb ltI
  replace cJ0 := bc hb ltJ cJ0
  replace cJ1 := bc hb ltJ cJ1
  replace cJ2 := bc hb ltJ cJ2
  replace ltJ := bl hb ltJ
  replace HX := Lib.hid (HX.out.below hb)
  replace H1 := Lib.hid (H1.out.below hb)
  replace H2 := Lib.hid (H2.out.below hb)
  replace H3 := Lib.hid (H3.out.below hb)
  replace H4 := Lib.hid (H4.out.below hb)
  replace hB := hB.trans (hb.mono hB.size)
  clear hb
  go_wp2_with fail
  go_ret
  exact ⟨rfl, hB⟩
theorem uploadPackets_calls (s p sz : Int) (da : List UInt8) (a : Option Addr) (len cap : Nat) (w : World) (hx : Bytes w a len cap da) (hlen : len ≤ 140737488355328) :
    Calls Try.prog 5 #[.int .i64 s, .int .i64 p, .int .i64 sz, .slice a len cap] w fun e w' => e = .returned (.bool true) ∧ Below w.heap.size w w' := by
  by_cases hs : OkS s
  · obtain ⟨s', rfl⟩ : ∃ s' : Nat, s = s' := ⟨s.toNat, by have := hs.1; omega⟩
    by_cases hp : OkP s' p len
    · obtain ⟨p', rfl⟩ : ∃ p' : Nat, p = p' := ⟨p.toNat, by have := hp.2.1; omega⟩
      by_cases hc : OkC s' len 0 sz
      · obtain ⟨z', rfl⟩ : ∃ z' : Nat, sz = z' := ⟨sz.toNat, by have := hc.2.1; omega⟩
        exact upk_111 s' p' z' da a len cap w hx hlen hp hc hs
      · exact upk_101 s' p' sz da a len cap w hx hlen hp hc hs
    · by_cases hc : OkC s' len 0 sz
      · obtain ⟨z', rfl⟩ : ∃ z' : Nat, sz = z' := ⟨sz.toNat, by have := hc.2.1; omega⟩
        exact upk_011 s' p z' da a len cap w hx hlen hp hc hs
      · exact upk_001 s' p sz da a len cap w hx hlen hp hc hs
  · exact upk_000 s p sz da a len cap w hx hlen (fun h => hs h.1) (fun h => hs h.1) hs

theorem uploadPackets_walk {H : Type} {enc : TypeId × Value → H} (W : World) (base : Nat) (args : Array Value) (ds gs : List (DataW H)) (before : List MemPlace)
    (hval : ∀ (j : Nat) t v, Try.f5.params[j]? = some t → args[j]? = some v → Value.okWide Try.prog W .any base t v)
    (hW : DataW.Whole enc Try.prog Try.f5.params.toList Rows.uploadPacketsSpec.vars false W args.toList ds gs before)
    (_hsz : (DataW.weightsEach Try.prog (Try.f5.params.toList ++ Rows.uploadPacketsSpec.plain.varTypes Try.prog) (ds ++ gs)).all (· ≤ reachBytes) = true) :
    Calls Try.prog 5 args W fun e w' => e = .returned (.bool true) ∧ Below W.heap.size W w' := by
  obtain ⟨p, q, hA, hV, -, -, -⟩ := hW
  obtain ⟨rfl, -⟩ := trodVars_none hV
  rw [Try.params5] at hA hval
  obtain ⟨v0, v1, v2, v3, d0, d1, d2, d3, p0, p1, p2, p3, rfl, rfl, rfl, h0, h1, h2, h3⟩ := trodAll_four hA
  obtain ⟨s, rfl, -, -⟩ := open_num Try.underlying3 (hval 0 _ _ rfl rfl) h0
  obtain ⟨p, rfl, -, -⟩ := open_num Try.underlying3 (hval 1 _ _ rfl rfl) h1
  obtain ⟨sz, rfl, -, -⟩ := open_num Try.underlying3 (hval 2 _ _ rfl rfl) h2
  obtain ⟨a, len, cap, zs, rfl, hr, hz⟩ := open_row Try.underlying22 Try.underlying5 (by kernel_rfl) (hval 3 _ _ rfl rfl) h3
  have hreach := reach_row (k := .u8) _hsz 3 (t := 22) (by kernel_rfl) rfl Try.underlying22 hz
  rw [show Try.prog.bytesOf 5 = 1 by kernel_rfl, hr.1] at hreach
  have hm : len ≤ 140737488355328 := by have h9 := Nat.le_trans hreach (show reachBytes ≤ 140737488355328 by decide); omega
  obtain ⟨ys, -, hy⟩ := bytes_of rfl hr
  exact uploadPackets_calls s p sz ys a len cap W hy hm

set_option maxRecDepth 100000 in
theorem uploadPackets_lifted (os : Os) (started : os.Started) (H : Type) (enc : TypeId × Value → H) :
    ReturnsInHanded {} Try.checked os 5 .any (Rows.uploadPacketsSpec.pre6 enc Try.prog Try.f5 Rows.uploadPacketsRow.domain false) (Rows.uploadPacketsSpec.post enc Try.prog Try.f5 false true false false) := by
  refine returnsInHanded_of_change_sized (C := Try.checked) own started (by kernel_rfl) Try.func5
    (ChangeSpec.witness6 (enc := enc) (C := Try.checked) false ⟨#[], #[.int .i64 0, .int .i64 0, .int .i64 0, .slice none 0 0], []⟩ 8 (by kernel_rfl) (by kernel_rfl) (by kernel_rfl) (by kernel_rfl)) ?_
  intro W base args ds gs before hval hW _ hsz _
  exact law_post rfl (by kernel_rfl) (by kernel_rfl) (fun ds h => match ds, h with | [d0, d1, d2, d3], _ => ⟨rfl, rfl, rfl⟩) hW (uploadPackets_walk W base args ds gs before hval hW hsz)

theorem uploadPackets_over : Rows.uploadPacketsRow.holds Try.pinned (OpenSpec.ofChange Rows.uploadPacketsSpec) :=
  OpenClaim.holds_of_wide 5 Try.f5 rfl rfl rfl rfl rfl rfl rfl ⟨rfl, rfl, rfl, rfl, rfl⟩ rfl rfl rfl rfl rfl (by kernel_rfl) Try.func5 (by kernel_rfl)
    (of_decide_eq_true (by kernel_rfl)) (by unfold Func.isWrapper; first | (rw [if_pos (by decide +kernel)]; kernel_rfl) | (rw [if_neg (by decide +kernel)]; exact ⟨rfl, rfl⟩))
    (fun os started H enc _ => uploadPackets_lifted os started H enc)

theorem uploadPackets_proved : Rows.UploadPacketsSaid := uploadPackets_over

end Go.Proofs.Ytpdodapdaeochaa
