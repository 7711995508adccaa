/- The codec: what Decode returns. -/
import Derived.Test.YthbfmioikbphgaaDoorCoG
import Derived.Defers
import Derived.Recover
namespace Go.Proofs.YthbfmioikbphgaaDoor
set_option maxRecDepth 100000
open Go.RowKit

set_option maxHeartbeats 4000000 in
theorem catch_pan (N L E : Nat) (x : Int) (n0 n1 n2 n3 n4 l0 e0 : Value) (older : List PanicEntry) (w : World) (hN : w.heap[N]? = some (.cells #[n0, n1, n2, n3, n4] 25)) (hL : w.heap[L]? = some (.cells #[l0] 3)) (hE : w.heap[E]? = some (.cells #[e0] 26)) (hNL : N < L) (hLE : L < E) :
    CallsD Tryd.prog 66 #[.pointer (some ⟨N, 0, none⟩), .pointer (some ⟨L, 0, none⟩), .pointer (some ⟨E, 0, none⟩)] (.panicking ({ v := .iface 93 (.int .i64 x), recovered := false } :: older)) w fun e u' w' =>
      e = .returned (.tuple #[]) ∧ u' = .panicking ({ v := .iface 93 (.int .i64 x), recovered := true } :: older) ∧
      w' = ((((((w.setCell ⟨N, 0, none⟩ (.int .i64 0)).setCell ⟨N, 1, none⟩ (.int .i64 0)).setCell ⟨N, 2, none⟩ (.int .i64 0)).setCell ⟨N, 3, none⟩ (.string ⟨#[]⟩)).setCell ⟨N, 4, none⟩ (.slice none 0 0)).setCell ⟨L, 0, none⟩ (.int .i64 0)).setCell ⟨E, 0, none⟩ (.int .i64 x) := by
  have z0 := blk_cell hN 0
  have z1 := blk_cell hN 1
  have z2 := blk_cell hN 2
  have z3 := blk_cell hN 3
  have z4 := blk_cell hN 4
  have zl := blk_cell hL 0
  have ze := blk_cell hE 0
  simp at z0 z1 z2 z3 z4 zl ze
  have f0 := blk_free hN 0
  have f1 := blk_free hN 1
  have f2 := blk_free hN 2
  have f3 := blk_free hN 3
  have f4 := blk_free hN 4
  have fl := blk_free hL 0
  have fe := blk_free hE 0
  have hta : ∀ w : World, (Instr.typeAssert (.iface 93 (.int .i64 x)) 20 93 true).run Tryd.prog w = .ok (.tuple #[.int .i64 x, .bool true]) w := fun _ => by kernel_rfl
  have hrep : Array.replicate 10 undef = #[undef, undef, undef, undef, undef, undef, undef, undef, undef, undef] := rfl
  refine callsD_of_wpS Tryd.func66 rfl fun c₀ cs hu => ?_
  apply wpS_seq
  apply wpS_region
  simp [wpOpsS, go_sem, recoverD, hu, Tryd.ntmps66, Exit.thenS, hta, hrep]
  apply wpS_seq
  apply wpS_region
  simp [wpOpsS, go_sem, Exit.thenS]
  refine wpS_cond (t := true) (by simp [Act.eval]) ?_
  simp only [if_true]
  apply wpS_region
  simp [wpOpsS, go_sem, z0, z1, z2, z3, z4, zl, ze, f0, f1, f2, f3, f4, fl, fe, bodyPostS, results, Tryd.results66]

set_option maxHeartbeats 4000000 in
theorem catch_idle (N L E : Nat) (w : World) :
    CallsD Tryd.prog 66 #[.pointer (some ⟨N, 0, none⟩), .pointer (some ⟨L, 0, none⟩), .pointer (some ⟨E, 0, none⟩)] .returning w fun e u' w' => e = .returned (.tuple #[]) ∧ u' = .returning ∧ w' = w := by
  have hta : ∀ w : World, (Instr.typeAssert .nilIface 20 93 true).run Tryd.prog w = .ok (.tuple #[.int .i64 0, .bool false]) w := fun _ => by kernel_rfl
  have hrep : Array.replicate 10 undef = #[undef, undef, undef, undef, undef, undef, undef, undef, undef, undef] := rfl
  refine callsD_of_wpS Tryd.func66 rfl fun c₀ cs hu => ?_
  apply wpS_seq
  apply wpS_region
  simp [wpOpsS, go_sem, recoverD, hu, Tryd.ntmps66, Exit.thenS, hta, hrep]
  apply wpS_seq
  apply wpS_region
  simp [wpOpsS, go_sem, Exit.thenS]
  refine wpS_cond (t := false) (by simp [Act.eval]) ?_
  simp only [Bool.false_eq_true, if_false]
  refine wpS_of_wp (wp_skip ?_)
  cases c₀
  simp_all [bodyPostS, results, Tryd.results66]

/-- what Decode reads -/
def decR (bs : List UInt8) : Except Int (NodeT × List UInt8) := nodeD (if 1048576 < bs.length then 5 else 4) 8 (bs.take 1048576)
/-- what Decode returns -/
def DP (w : World) (n : Nat) : Except Int (NodeT × List UInt8) → Ending → World → Prop
  | .ok (t, l), e, w' => ∃ nv, e = .returned (.tuple #[nv, .int .i64 ((min n 1048576 - l.length : Nat) : Int), .int .i64 0]) ∧ NodeS (fun b => w.heap.size ≤ b) w' t nv ∧ Below w.heap.size w w'
  | .error x, e, w' => e = .returned (.tuple #[.agg #[.int .i64 0, .int .i64 0, .int .i64 0, .string ⟨#[]⟩, .slice none 0 0], .int .i64 0, .int .i64 x]) ∧ Below w.heap.size w w'
theorem rd_make {w : World} {rb : Nat} {a : Option Addr} {len cap : Nat} {bs : List UInt8} {en : Int} (h : Bytes w a len cap bs) (hu : Under a len rb) (hb : w.heap[rb]? = some (.cells #[.slice a len cap, .int .i64 0, .int .i64 en] 96)) : Rd w rb bs en bs := by
  refine ⟨a, len, cap, 0, rfl, by rw [h.1]; omega, h, hu, ?_, ?_, ?_, blk_free hb 1, blk_lt hb⟩
  · rw [blk_cell hb]; rfl
  · rw [blk_cell hb]; rfl
  · rw [blk_cell hb]; rfl

theorem set5_other {w : World} {g b : Nat} (v0 v1 v2 v3 v4 : Value) (hb : b ≠ g) : (((((w.setCell ⟨g, 0, none⟩ v0).setCell ⟨g, 1, none⟩ v1).setCell ⟨g, 2, none⟩ v2).setCell ⟨g, 3, none⟩ v3).setCell ⟨g, 4, none⟩ v4).heap[b]? = w.heap[b]? := by
  rw [heap_setCell_other _ ⟨g, 4, none⟩ b _ hb, heap_setCell_other _ ⟨g, 3, none⟩ b _ hb, heap_setCell_other _ ⟨g, 2, none⟩ b _ hb, heap_setCell_other _ ⟨g, 1, none⟩ b _ hb, heap_setCell_other _ ⟨g, 0, none⟩ b _ hb]
theorem NodeS.vals {S : Nat → Prop} {w : World} {t : NodeT} {v : Value} (h : NodeS S w t v) : ∃ tag kind n s a len cap, v = .agg #[.int .i64 tag, .int .i64 kind, .int .i64 n, .string ⟨(s : List UInt8).toArray⟩, .slice a len cap] := by
  obtain ⟨tag, kind, n, s, kids⟩ := t
  simp only [NodeS] at h
  obtain ⟨a, len, cap, e, -⟩ := h
  exact ⟨_, _, _, _, _, _, _, e⟩
theorem below_set5 {B g : Nat} {w w1 : World} (h : Below B w w1) (hg : B ≤ g) (v0 v1 v2 v3 v4 : Value) : Below B w (((((w1.setCell ⟨g, 0, none⟩ v0).setCell ⟨g, 1, none⟩ v1).setCell ⟨g, 2, none⟩ v2).setCell ⟨g, 3, none⟩ v3).setCell ⟨g, 4, none⟩ v4) :=
  ((((h.setCell (p := ⟨g, 0, none⟩) hg v0).setCell (p := ⟨g, 1, none⟩) hg v1).setCell (p := ⟨g, 2, none⟩) hg v2).setCell (p := ⟨g, 3, none⟩) hg v3).setCell (p := ⟨g, 4, none⟩) hg v4
theorem alloc_at {w : World} {o : Obj} {n : Nat} (h : w.heap.size = n) : (w.alloc o).heap[n]? = some o := by subst h; exact heap_alloc_new w o
theorem below_gb {w w1 w2 : World} {g : Nat} (h : Below w.heap.size w w1) (k : w1.grownBy w2 (some g)) (hg : w.heap.size ≤ g) : Below w.heap.size w w2 :=
  ⟨k.os.trans h.os, k.tape.trans h.tape, k.output.trans h.output, Nat.le_trans h.size k.size, fun i hi => (k.block i (Nat.lt_of_lt_of_le hi h.size) (by simp; omega)).trans (h.block i hi)⟩
set_option maxHeartbeats 8000000 in
theorem decode_any (bs : List UInt8) (a : Option Addr) (len cap : Nat) (w : World) (hb : Bytes w a len cap bs) :
    Calls Tryd.prog 54 #[.slice a len cap] w (DP w len (decR bs)) := by
  have HB := Lib.hid hb
  have hlen : bs.length = len := hb.1
  have hlm : len ≤ 9223372036854775807 := by have := hb.2.1; have := hb.2.2.1; simp only [maxLen] at this; omega
  have hlc := hb.2.1
  clear hb
  have hmf : ∀ (fn : Fn) (first cap : Array Value) (w : World), (Instr.makeFunc fn first cap).run Tryd.prog w = .ok (.func fn first cap) w := fun _ _ _ _ => rfl
  by_cases hbig : 1048576 < len
  · have hd : decide (1048576 < (len : Int)) = true := by simp; omega
    have hdec : decR bs = nodeD 5 8 (bs.take 1048576) := by unfold decR; rw [if_pos (by omega)]
    rw [hdec]
    cases hq : nodeD 5 8 (bs.take 1048576) with
    | error x =>
      have HC : ∀ W, Rd W (w.heap.size + 1 + 1 + 1) (bs.take 1048576) 5 (bs.take 1048576) → Calls Tryd.prog 67 #[.pointer (some ⟨w.heap.size + 1 + 1 + 1, 0, none⟩), .int .i64 1] W fun e w' => e = .panicked (fl x) ∧ W.grownBy w' (some (w.heap.size + 1 + 1 + 1)) := fun W h => by
        have := node_any (w.heap.size + 1 + 1 + 1) (bs.take 1048576) 5 8 1 (bs.take 1048576) W (by omega) (by omega) h
        rw [hq] at this; exact this
      clear hdec hq
      go_enter_defers Tryd.func54, Tryd.ntmps54
      go_wp2_with fail
      have hbA : Below w.heap.size w (((w.alloc (.cells #[.int .i64 0, .int .i64 0, .int .i64 0, .string ⟨#[]⟩, .slice none 0 0] 25)).alloc (.cells #[.int .i64 0] 3)).alloc (.cells #[.int .i64 0] 26)) := (((Below.refl _ _).alloc (Nat.le_refl _) _).alloc (by simp) _).alloc (by simp <;> omega) _
      have HNb := Lib.hid (show (((w.alloc (.cells #[.int .i64 0, .int .i64 0, .int .i64 0, .string ⟨#[]⟩, .slice none 0 0] 25)).alloc (.cells #[.int .i64 0] 3)).alloc (.cells #[.int .i64 0] 26)).heap[w.heap.size]? = some (.cells #[.int .i64 0, .int .i64 0, .int .i64 0, .string ⟨#[]⟩, .slice none 0 0] 25) by rw [heap_alloc_old _ _ (by simp <;> omega), heap_alloc_old _ _ (by simp), heap_alloc_new])
      have HLb := Lib.hid (show (((w.alloc (.cells #[.int .i64 0, .int .i64 0, .int .i64 0, .string ⟨#[]⟩, .slice none 0 0] 25)).alloc (.cells #[.int .i64 0] 3)).alloc (.cells #[.int .i64 0] 26)).heap[w.heap.size + 1]? = some (.cells #[.int .i64 0] 3) by rw [heap_alloc_old _ _ (by simp)]; exact alloc_at (by simp))
      have HEb := Lib.hid (show (((w.alloc (.cells #[.int .i64 0, .int .i64 0, .int .i64 0, .string ⟨#[]⟩, .slice none 0 0] 25)).alloc (.cells #[.int .i64 0] 3)).alloc (.cells #[.int .i64 0] 26)).heap[w.heap.size + 1 + 1]? = some (.cells #[.int .i64 0] 26) from alloc_at (by simp))
      have hsA : (((w.alloc (.cells #[.int .i64 0, .int .i64 0, .int .i64 0, .string ⟨#[]⟩, .slice none 0 0] 25)).alloc (.cells #[.int .i64 0] 3)).alloc (.cells #[.int .i64 0] 26)).heap.size = w.heap.size + 1 + 1 + 1 := by simp
      generalize (((w.alloc (.cells #[.int .i64 0, .int .i64 0, .int .i64 0, .string ⟨#[]⟩, .slice none 0 0] 25)).alloc (.cells #[.int .i64 0] 3)).alloc (.cells #[.int .i64 0] 26)) = wA at *
      have HSA := Lib.hid hsA
      clear hsA
      have hbC : Below wA.heap.size wA (wA.alloc (.cells #[.slice a 1048576 cap, .int .i64 0, .int .i64 5] 96)) := (Below.refl _ _).alloc (Nat.le_refl _) _
      have hRb := heap_alloc_new wA (.cells #[.slice a 1048576 cap, .int .i64 0, .int .i64 5] 96)
      rw [HSA.out] at hRb
      have hb4 : Below w.heap.size w (wA.alloc (.cells #[.slice a 1048576 cap, .int .i64 0, .int .i64 5] 96)) := hbA.trans (hbC.mono hbA.size)
      have HR := Lib.hid (rd_make ((HB.out.below hb4).pre 1048576 (by omega)) (HB.out.under.imp (fun h => by omega) fun h x hx => Nat.lt_trans (h x hx) (by omega)) hRb)
      generalize wA.alloc (.cells #[.slice a 1048576 cap, .int .i64 0, .int .i64 5] 96) = w4 at *
      replace HNb := Lib.hid (show w4.heap[w.heap.size]? = _ from (hbC.block _ (by have := HSA.out; omega)).trans HNb.out)
      replace HLb := Lib.hid (show w4.heap[w.heap.size + 1]? = _ from (hbC.block _ (by have := HSA.out; omega)).trans HLb.out)
      replace HEb := Lib.hid (show w4.heap[w.heap.size + 1 + 1]? = _ from (hbC.block _ (by have := HSA.out; omega)).trans HEb.out)
      clear hRb hbA hbC
      refine (HC _ HR.out).mono ?_
      rintro e w5 ⟨rfl, hg⟩
      have HR4 := HR.out.lt
      have HN5 := Lib.hid (blk_gb HNb.out hg (by omega))
      have HL5 := Lib.hid (blk_gb HLb.out hg (by omega))
      have HE5 := Lib.hid (blk_gb HEb.out hg (by omega))
      have hb5 : Below w.heap.size w w5 := below_gb hb4 hg (by omega)
      clear hg
      go_wp2_with fail
      refine leaves_cons (f := 66) (args := #[.pointer (some ⟨w.heap.size, 0, none⟩), .pointer (some ⟨w.heap.size + 1, 0, none⟩), .pointer (some ⟨w.heap.size + 1 + 1, 0, none⟩)]) (by simp) (by simp [go_sem]) ?_
      refine (catch_pan w.heap.size (w.heap.size + 1) (w.heap.size + 1 + 1) x _ _ _ _ _ _ _ [] w5 HN5.out HL5.out HE5.out (by omega) (by omega)).mono ?_
      rintro e u' w6 ⟨rfl, rfl, rfl⟩
      have z0 := blk_cell HN5.out 0
      have z1 := blk_cell HN5.out 1
      have z2 := blk_cell HN5.out 2
      have z3 := blk_cell HN5.out 3
      have z4 := blk_cell HN5.out 4
      have zl := blk_cell HL5.out 0
      have ze := blk_cell HE5.out 0
      simp at z0 z1 z2 z3 z4 zl ze
      have HFin : Below w.heap.size w (((((((w5.setCell ⟨w.heap.size, 0, none⟩ (.int .i64 0)).setCell ⟨w.heap.size, 1, none⟩ (.int .i64 0)).setCell ⟨w.heap.size, 2, none⟩ (.int .i64 0)).setCell ⟨w.heap.size, 3, none⟩ (.string ⟨#[]⟩)).setCell ⟨w.heap.size, 4, none⟩ (.slice none 0 0)).setCell ⟨w.heap.size + 1, 0, none⟩ (.int .i64 0)).setCell ⟨w.heap.size + 1 + 1, 0, none⟩ (.int .i64 x)) :=
        ((below_set5 hb5 (Nat.le_refl _) _ _ _ _ _).setCell (p := ⟨w.heap.size + 1, 0, none⟩) (Nat.le_succ _) _).setCell (p := ⟨w.heap.size + 1 + 1, 0, none⟩) (by simp; omega) _
      simp [Leaves, settle, results, Tryd.results54, go_sem, z0, z1, z2, z3, z4, zl, ze]
      exact ⟨rfl, HFin⟩
    | ok r =>
      obtain ⟨t, l⟩ := r
      have HC : ∀ W, Rd W (w.heap.size + 1 + 1 + 1) (bs.take 1048576) 5 (bs.take 1048576) → Calls Tryd.prog 67 #[.pointer (some ⟨w.heap.size + 1 + 1 + 1, 0, none⟩), .int .i64 1] W fun e w' => ∃ nv, e = .returned nv ∧ NodeS (fun b => W.heap.size ≤ b) w' t nv ∧ Rd w' (w.heap.size + 1 + 1 + 1) (bs.take 1048576) 5 l ∧ W.grownBy w' (some (w.heap.size + 1 + 1 + 1)) := fun W h => by
        have := node_any (w.heap.size + 1 + 1 + 1) (bs.take 1048576) 5 8 1 (bs.take 1048576) W (by omega) (by omega) h
        rw [hq] at this; exact this
      clear hdec hq
      go_enter_defers Tryd.func54, Tryd.ntmps54
      go_wp2_with fail
      have hbA : Below w.heap.size w (((w.alloc (.cells #[.int .i64 0, .int .i64 0, .int .i64 0, .string ⟨#[]⟩, .slice none 0 0] 25)).alloc (.cells #[.int .i64 0] 3)).alloc (.cells #[.int .i64 0] 26)) := (((Below.refl _ _).alloc (Nat.le_refl _) _).alloc (by simp) _).alloc (by simp <;> omega) _
      have HNb := Lib.hid (show (((w.alloc (.cells #[.int .i64 0, .int .i64 0, .int .i64 0, .string ⟨#[]⟩, .slice none 0 0] 25)).alloc (.cells #[.int .i64 0] 3)).alloc (.cells #[.int .i64 0] 26)).heap[w.heap.size]? = some (.cells #[.int .i64 0, .int .i64 0, .int .i64 0, .string ⟨#[]⟩, .slice none 0 0] 25) by rw [heap_alloc_old _ _ (by simp <;> omega), heap_alloc_old _ _ (by simp), heap_alloc_new])
      have HLb := Lib.hid (show (((w.alloc (.cells #[.int .i64 0, .int .i64 0, .int .i64 0, .string ⟨#[]⟩, .slice none 0 0] 25)).alloc (.cells #[.int .i64 0] 3)).alloc (.cells #[.int .i64 0] 26)).heap[w.heap.size + 1]? = some (.cells #[.int .i64 0] 3) by rw [heap_alloc_old _ _ (by simp)]; exact alloc_at (by simp))
      have HEb := Lib.hid (show (((w.alloc (.cells #[.int .i64 0, .int .i64 0, .int .i64 0, .string ⟨#[]⟩, .slice none 0 0] 25)).alloc (.cells #[.int .i64 0] 3)).alloc (.cells #[.int .i64 0] 26)).heap[w.heap.size + 1 + 1]? = some (.cells #[.int .i64 0] 26) from alloc_at (by simp))
      have hsA : (((w.alloc (.cells #[.int .i64 0, .int .i64 0, .int .i64 0, .string ⟨#[]⟩, .slice none 0 0] 25)).alloc (.cells #[.int .i64 0] 3)).alloc (.cells #[.int .i64 0] 26)).heap.size = w.heap.size + 1 + 1 + 1 := by simp
      generalize (((w.alloc (.cells #[.int .i64 0, .int .i64 0, .int .i64 0, .string ⟨#[]⟩, .slice none 0 0] 25)).alloc (.cells #[.int .i64 0] 3)).alloc (.cells #[.int .i64 0] 26)) = wA at *
      have HSA := Lib.hid hsA
      clear hsA
      have hbC : Below wA.heap.size wA (wA.alloc (.cells #[.slice a 1048576 cap, .int .i64 0, .int .i64 5] 96)) := (Below.refl _ _).alloc (Nat.le_refl _) _
      have hRb := heap_alloc_new wA (.cells #[.slice a 1048576 cap, .int .i64 0, .int .i64 5] 96)
      rw [HSA.out] at hRb
      have hb4 : Below w.heap.size w (wA.alloc (.cells #[.slice a 1048576 cap, .int .i64 0, .int .i64 5] 96)) := hbA.trans (hbC.mono hbA.size)
      have HR := Lib.hid (rd_make ((HB.out.below hb4).pre 1048576 (by omega)) (HB.out.under.imp (fun h => by omega) fun h x hx => Nat.lt_trans (h x hx) (by omega)) hRb)
      generalize wA.alloc (.cells #[.slice a 1048576 cap, .int .i64 0, .int .i64 5] 96) = w4 at *
      replace HNb := Lib.hid (show w4.heap[w.heap.size]? = _ from (hbC.block _ (by have := HSA.out; omega)).trans HNb.out)
      replace HLb := Lib.hid (show w4.heap[w.heap.size + 1]? = _ from (hbC.block _ (by have := HSA.out; omega)).trans HLb.out)
      replace HEb := Lib.hid (show w4.heap[w.heap.size + 1 + 1]? = _ from (hbC.block _ (by have := HSA.out; omega)).trans HEb.out)
      clear hRb hbA hbC
      have HS4 := Lib.hid HR.out.lt
      refine (HC _ HR.out).mono ?_
      rintro e w5 ⟨nv, rfl, hN5, hR5, hg⟩
      obtain ⟨xt, xk, xn, xs, xa, xl, xc, rfl⟩ := hN5.vals
      have HNd := Lib.hid hN5
      have HN5 := Lib.hid (blk_gb HNb.out hg (by omega))
      have HL5 := Lib.hid (blk_gb HLb.out hg (by omega))
      have HE5 := Lib.hid (blk_gb HEb.out hg (by omega))
      have hb5 : Below w.heap.size w w5 := below_gb hb4 hg (by omega)
      obtain ⟨ra, rl, rc, pos, -, hpos, hrb, -, -, r1, -, -, hrlt⟩ := hR5
      have hrlen := hrb.1
      try rw [List.length_take] at hrlen
      clear hg hN5 hrb hb4 HNb HLb HEb HR HC
      have z0 := blk_cell HN5.out 0
      have z1 := blk_cell HN5.out 1
      have z2 := blk_cell HN5.out 2
      have z3 := blk_cell HN5.out 3
      have z4 := blk_cell HN5.out 4
      simp at z0 z1 z2 z3 z4
      have zf0 := blk_free HN5.out 0
      have zf1 := blk_free HN5.out 1
      have zf2 := blk_free HN5.out 2
      have zf3 := blk_free HN5.out 3
      have zf4 := blk_free HN5.out 4
      go_wp2_with fail
      have hN6 := blk_set (o := 4) (blk_set (o := 3) (blk_set (o := 2) (blk_set (o := 1) (blk_set (o := 0) HN5.out (.int .i64 xt)) (.int .i64 xk)) (.int .i64 xn)) (.string ⟨xs.toArray⟩)) (.slice xa xl xc)
      simp at hN6
      have hb56 : Below w.heap.size w5 (((((w5.setCell ⟨w.heap.size, 0, none⟩ (.int .i64 xt)).setCell ⟨w.heap.size, 1, none⟩ (.int .i64 xk)).setCell ⟨w.heap.size, 2, none⟩ (.int .i64 xn)).setCell ⟨w.heap.size, 3, none⟩ (.string ⟨xs.toArray⟩)).setCell ⟨w.heap.size, 4, none⟩ (.slice xa xl xc)) := below_set5 (Below.refl _ _) (Nat.le_refl _) (.int .i64 xt) (.int .i64 xk) (.int .i64 xn) (.string ⟨xs.toArray⟩) (.slice xa xl xc)
      have hoth : ∀ b, b ≠ w.heap.size → ((((((w5.setCell ⟨w.heap.size, 0, none⟩ (.int .i64 xt)).setCell ⟨w.heap.size, 1, none⟩ (.int .i64 xk)).setCell ⟨w.heap.size, 2, none⟩ (.int .i64 xn)).setCell ⟨w.heap.size, 3, none⟩ (.string ⟨xs.toArray⟩)).setCell ⟨w.heap.size, 4, none⟩ (.slice xa xl xc))).heap[b]? = w5.heap[b]? := fun b hb => by
        rw [heap_setCell_other _ ⟨w.heap.size, 4, none⟩ b _ hb, heap_setCell_other _ ⟨w.heap.size, 3, none⟩ b _ hb, heap_setCell_other _ ⟨w.heap.size, 2, none⟩ b _ hb, heap_setCell_other _ ⟨w.heap.size, 1, none⟩ b _ hb, heap_setCell_other _ ⟨w.heap.size, 0, none⟩ b _ hb]
      clear z0 z1 z2 z3 z4 zf0 zf1 zf2 zf3 zf4
      generalize (((((w5.setCell ⟨w.heap.size, 0, none⟩ (.int .i64 xt)).setCell ⟨w.heap.size, 1, none⟩ (.int .i64 xk)).setCell ⟨w.heap.size, 2, none⟩ (.int .i64 xn)).setCell ⟨w.heap.size, 3, none⟩ (.string ⟨xs.toArray⟩)).setCell ⟨w.heap.size, 4, none⟩ (.slice xa xl xc)) = w6 at *
      have hb6 : Below w.heap.size w w6 := hb5.trans hb56
      have HL6 := Lib.hid ((hoth _ (by omega)).trans HL5.out)
      have HE6 := Lib.hid ((hoth _ (by omega)).trans HE5.out)
      have HN6 := Lib.hid hN6
      have q1 : w6.cell? ⟨w.heap.size + 1 + 1 + 1, 1, none⟩ = some (.int .i64 (pos : Int)) := by
        rw [← r1]; simp only [World.cell?, hoth (w.heap.size + 1 + 1 + 1) (by omega)]
      have HNd6 := Lib.hid (NodeS.keep (S' := fun b => w.heap.size + 1 + 1 + 1 < b) (w' := w6) hb56.size (fun b h _ => ⟨by have := HS4.out; omega, hoth b (by have := HS4.out; omega)⟩) t _ HNd.out)
      have hR6 : w.heap.size + 1 + 1 + 1 < w6.heap.size := Nat.lt_of_lt_of_le hrlt hb56.size
      clear hN6 hoth hb56 HL5 HE5 HN5 r1 HNd
      have c0 := blk_cell HN6.out 0
      have c1 := blk_cell HN6.out 1
      have c2 := blk_cell HN6.out 2
      have c3 := blk_cell HN6.out 3
      have c4 := blk_cell HN6.out 4
      simp at c0 c1 c2 c3 c4
      have e0 := box_ext (B := w6.heap.size) c0 (by omega)
      have e1 := box_ext (B := w6.heap.size) c1 (by omega)
      have e2 := box_ext (B := w6.heap.size) c2 (by omega)
      have e3 := box_ext (B := w6.heap.size) c3 (by omega)
      have e4 := box_ext (B := w6.heap.size) c4 (by omega)
      have e5 := box_ext (B := w6.heap.size) q1 (by omega)
      clear e0 e1 e2 e3 e4 e5
      have e5 := GB.cell (g := w.heap.size + 1 + 1 + 1) q1
      refine wp_region_sched [(1, false), (2, false), (0, true), (3, true), (4, true), (5, true)] (fun w' => ∃ W : GB (w.heap.size + 1 + 1 + 1) w6, w' = W.1) (by kernel_rfl) (by kernel_rfl) ⟨⟨w6.drew, rfl⟩, rfl⟩ ?_
      repeat (refine wpSched_calm rfl (fun K hK => ?_); go_simp; refine hK _ ?_; clear hK K)
      clear e5
      have hb7 : Below w.heap.size w w6.drew := hb6.drew
      have HL7 := Lib.hid (show w6.drew.heap[w.heap.size + 1]? = _ from HL6.out)
      have HE7 := Lib.hid (show w6.drew.heap[w.heap.size + 1 + 1]? = _ from HE6.out)
      have HN7 := Lib.hid (show w6.drew.heap[w.heap.size]? = _ from HN6.out)
      have HNd7 := Lib.hid (NodeS.keep (w := w6) (S' := fun b => w.heap.size + 1 + 1 + 1 < b) (w' := w6.drew) (Nat.le_refl _) (fun b h _ => ⟨h, rfl⟩) t _ HNd6.out)
      have HQ7 := Lib.hid (show w6.drew.heap[w.heap.size + 1 + 1 + 1]? = w6.heap[w.heap.size + 1 + 1 + 1]? from rfl)
      generalize w6.drew = w7 at *
      clear c0 c1 c2 c3 c4 q1 HL6 HE6 HN6 HNd6 hb6 hR6
      have z0 := blk_cell HN7.out 0
      have z1 := blk_cell HN7.out 1
      have z2 := blk_cell HN7.out 2
      have z3 := blk_cell HN7.out 3
      have z4 := blk_cell HN7.out 4
      have zl := blk_cell HL7.out 0
      have ze := blk_cell HE7.out 0
      simp at z0 z1 z2 z3 z4 zl ze
      have zf0 := blk_free HN7.out 0
      have zf1 := blk_free HN7.out 1
      have zf2 := blk_free HN7.out 2
      have zf3 := blk_free HN7.out 3
      have zf4 := blk_free HN7.out 4
      have zfl := blk_free HL7.out 0
      have zfe := blk_free HE7.out 0
      refine wpSched_eff rfl rfl (fun K hK => ?_)
      go_simp
      refine hK _ _ ⟨⟨w7, HQ7.out⟩, rfl⟩ ?_
      clear hK K
      have hm5 := (set5_other (w := w7) (g := w.heap.size) (b := w.heap.size + 1 + 1 + 1) (.int .i64 xt) (.int .i64 xk) (.int .i64 xn) (.string ⟨xs.toArray⟩) (.slice xa xl xc) (by omega)).trans HQ7.out
      refine wpSched_eff rfl rfl (fun K hK => ?_)
      go_simp
      refine hK _ _ ⟨⟨_, hm5⟩, rfl⟩ ?_
      clear hK K
      refine wpSched_eff rfl rfl (fun K hK => ?_)
      go_simp
      have hm6 := (heap_setCell_other _ ⟨w.heap.size + 1, 0, none⟩ (w.heap.size + 1 + 1 + 1) (.int .i64 (pos : Int)) (show w.heap.size + 1 + 1 + 1 ≠ w.heap.size + 1 by omega)).trans hm5
      refine hK _ _ ⟨⟨_, hm6⟩, rfl⟩ ?_
      clear hK K
      refine wpSched_eff rfl rfl (fun K hK => ?_)
      go_simp
      refine hK _ _ ⟨⟨_, (heap_setCell_other _ ⟨w.heap.size + 1 + 1, 0, none⟩ (w.heap.size + 1 + 1 + 1) (.int .i64 0) (show w.heap.size + 1 + 1 + 1 ≠ w.heap.size + 1 + 1 by omega)).trans hm6⟩, rfl⟩ ?_
      clear hK K hm5 hm6
      refine wpSched_nil ?_
      go_wp2_with fail
      refine leaves_cons (f := 66) (args := #[.pointer (some ⟨w.heap.size, 0, none⟩), .pointer (some ⟨w.heap.size + 1, 0, none⟩), .pointer (some ⟨w.heap.size + 1 + 1, 0, none⟩)]) (by simp) (by simp [go_sem]) ?_
      refine (catch_idle w.heap.size (w.heap.size + 1) (w.heap.size + 1 + 1) _).mono ?_
      rintro e u' w8 ⟨rfl, rfl, rfl⟩
      have HFin : Below w.heap.size w (((((((w7.setCell ⟨w.heap.size, 0, none⟩ (.int .i64 xt)).setCell ⟨w.heap.size, 1, none⟩ (.int .i64 xk)).setCell ⟨w.heap.size, 2, none⟩ (.int .i64 xn)).setCell ⟨w.heap.size, 3, none⟩ (.string ⟨xs.toArray⟩)).setCell ⟨w.heap.size, 4, none⟩ (.slice xa xl xc)).setCell ⟨w.heap.size + 1, 0, none⟩ (.int .i64 (pos : Int))).setCell ⟨w.heap.size + 1 + 1, 0, none⟩ (.int .i64 0)) := ((below_set5 hb7 (Nat.le_refl _) (.int .i64 xt) (.int .i64 xk) (.int .i64 xn) (.string ⟨xs.toArray⟩) (.slice xa xl xc)).setCell (p := ⟨w.heap.size + 1, 0, none⟩) (Nat.le_succ _) (.int .i64 (pos : Int))).setCell (p := ⟨w.heap.size + 1 + 1, 0, none⟩) (by simp; omega) (.int .i64 0)
      have HNF : NodeS (fun b => w.heap.size ≤ b) (((((((w7.setCell ⟨w.heap.size, 0, none⟩ (.int .i64 xt)).setCell ⟨w.heap.size, 1, none⟩ (.int .i64 xk)).setCell ⟨w.heap.size, 2, none⟩ (.int .i64 xn)).setCell ⟨w.heap.size, 3, none⟩ (.string ⟨xs.toArray⟩)).setCell ⟨w.heap.size, 4, none⟩ (.slice xa xl xc)).setCell ⟨w.heap.size + 1, 0, none⟩ (.int .i64 (pos : Int))).setCell ⟨w.heap.size + 1 + 1, 0, none⟩ (.int .i64 0)) t (.agg #[(.int .i64 xt), (.int .i64 xk), (.int .i64 xn), (.string ⟨xs.toArray⟩), (.slice xa xl xc)]) := NodeS.keep (by simp) (fun b h _ => ⟨by omega, by
        rw [heap_setCell_other _ ⟨w.heap.size + 1 + 1, 0, none⟩ b _ (fun hh => by simp at hh; omega), heap_setCell_other _ ⟨w.heap.size + 1, 0, none⟩ b _ (fun hh => by simp at hh; omega), heap_setCell_other _ ⟨w.heap.size, 4, none⟩ b _ (fun hh => by simp at hh; omega), heap_setCell_other _ ⟨w.heap.size, 3, none⟩ b _ (fun hh => by simp at hh; omega), heap_setCell_other _ ⟨w.heap.size, 2, none⟩ b _ (fun hh => by simp at hh; omega), heap_setCell_other _ ⟨w.heap.size, 1, none⟩ b _ (fun hh => by simp at hh; omega), heap_setCell_other _ ⟨w.heap.size, 0, none⟩ b _ (fun hh => by simp at hh; omega)]⟩) t _ HNd7.out
      have hps : (pos : Int) = ((min len 1048576 - l.length : Nat) : Int) := by omega
      simp [Leaves, settle, results, Tryd.results54, go_sem, z0, z1, z2, z3, z4, zl, ze]
      exact ⟨_, by rw [hps], HNF, HFin⟩
  have hd : decide (1048576 < (len : Int)) = false := by simp; omega
  have hdec : decR bs = nodeD 4 8 bs := by unfold decR; rw [if_neg (by omega), List.take_of_length_le (by omega)]
  rw [hdec]
  cases hq : nodeD 4 8 bs with
  | error x =>
    have HC : ∀ W, Rd W (w.heap.size + 1 + 1 + 1) bs 4 bs → Calls Tryd.prog 67 #[.pointer (some ⟨w.heap.size + 1 + 1 + 1, 0, none⟩), .int .i64 1] W fun e w' => e = .panicked (fl x) ∧ W.grownBy w' (some (w.heap.size + 1 + 1 + 1)) := fun W h => by
      have := node_any (w.heap.size + 1 + 1 + 1) bs 4 8 1 bs W (by omega) (by omega) h
      rw [hq] at this; exact this
    clear hdec hq
    go_enter_defers Tryd.func54, Tryd.ntmps54
    go_wp2_with fail
    have hbA : Below w.heap.size w (((w.alloc (.cells #[.int .i64 0, .int .i64 0, .int .i64 0, .string ⟨#[]⟩, .slice none 0 0] 25)).alloc (.cells #[.int .i64 0] 3)).alloc (.cells #[.int .i64 0] 26)) := (((Below.refl _ _).alloc (Nat.le_refl _) _).alloc (by simp) _).alloc (by simp <;> omega) _
    have HNb := Lib.hid (show (((w.alloc (.cells #[.int .i64 0, .int .i64 0, .int .i64 0, .string ⟨#[]⟩, .slice none 0 0] 25)).alloc (.cells #[.int .i64 0] 3)).alloc (.cells #[.int .i64 0] 26)).heap[w.heap.size]? = some (.cells #[.int .i64 0, .int .i64 0, .int .i64 0, .string ⟨#[]⟩, .slice none 0 0] 25) by rw [heap_alloc_old _ _ (by simp <;> omega), heap_alloc_old _ _ (by simp), heap_alloc_new])
    have HLb := Lib.hid (show (((w.alloc (.cells #[.int .i64 0, .int .i64 0, .int .i64 0, .string ⟨#[]⟩, .slice none 0 0] 25)).alloc (.cells #[.int .i64 0] 3)).alloc (.cells #[.int .i64 0] 26)).heap[w.heap.size + 1]? = some (.cells #[.int .i64 0] 3) by rw [heap_alloc_old _ _ (by simp)]; exact alloc_at (by simp))
    have HEb := Lib.hid (show (((w.alloc (.cells #[.int .i64 0, .int .i64 0, .int .i64 0, .string ⟨#[]⟩, .slice none 0 0] 25)).alloc (.cells #[.int .i64 0] 3)).alloc (.cells #[.int .i64 0] 26)).heap[w.heap.size + 1 + 1]? = some (.cells #[.int .i64 0] 26) from alloc_at (by simp))
    have hsA : (((w.alloc (.cells #[.int .i64 0, .int .i64 0, .int .i64 0, .string ⟨#[]⟩, .slice none 0 0] 25)).alloc (.cells #[.int .i64 0] 3)).alloc (.cells #[.int .i64 0] 26)).heap.size = w.heap.size + 1 + 1 + 1 := by simp
    generalize (((w.alloc (.cells #[.int .i64 0, .int .i64 0, .int .i64 0, .string ⟨#[]⟩, .slice none 0 0] 25)).alloc (.cells #[.int .i64 0] 3)).alloc (.cells #[.int .i64 0] 26)) = wA at *
    have HSA := Lib.hid hsA
    clear hsA
    have hbC : Below wA.heap.size wA (wA.alloc (.cells #[.slice a len cap, .int .i64 0, .int .i64 4] 96)) := (Below.refl _ _).alloc (Nat.le_refl _) _
    have hRb := heap_alloc_new wA (.cells #[.slice a len cap, .int .i64 0, .int .i64 4] 96)
    rw [HSA.out] at hRb
    have hb4 : Below w.heap.size w (wA.alloc (.cells #[.slice a len cap, .int .i64 0, .int .i64 4] 96)) := hbA.trans (hbC.mono hbA.size)
    have HR := Lib.hid (rd_make (HB.out.below hb4) (HB.out.under.imp_right fun h x hx => Nat.lt_trans (h x hx) (by omega)) hRb)
    generalize wA.alloc (.cells #[.slice a len cap, .int .i64 0, .int .i64 4] 96) = w4 at *
    replace HNb := Lib.hid (show w4.heap[w.heap.size]? = _ from (hbC.block _ (by have := HSA.out; omega)).trans HNb.out)
    replace HLb := Lib.hid (show w4.heap[w.heap.size + 1]? = _ from (hbC.block _ (by have := HSA.out; omega)).trans HLb.out)
    replace HEb := Lib.hid (show w4.heap[w.heap.size + 1 + 1]? = _ from (hbC.block _ (by have := HSA.out; omega)).trans HEb.out)
    clear hRb hbA hbC
    refine (HC _ HR.out).mono ?_
    rintro e w5 ⟨rfl, hg⟩
    have HR4 := HR.out.lt
    have HN5 := Lib.hid (blk_gb HNb.out hg (by omega))
    have HL5 := Lib.hid (blk_gb HLb.out hg (by omega))
    have HE5 := Lib.hid (blk_gb HEb.out hg (by omega))
    have hb5 : Below w.heap.size w w5 := below_gb hb4 hg (by omega)
    clear hg
    go_wp2_with fail
    refine leaves_cons (f := 66) (args := #[.pointer (some ⟨w.heap.size, 0, none⟩), .pointer (some ⟨w.heap.size + 1, 0, none⟩), .pointer (some ⟨w.heap.size + 1 + 1, 0, none⟩)]) (by simp) (by simp [go_sem]) ?_
    refine (catch_pan w.heap.size (w.heap.size + 1) (w.heap.size + 1 + 1) x _ _ _ _ _ _ _ [] w5 HN5.out HL5.out HE5.out (by omega) (by omega)).mono ?_
    rintro e u' w6 ⟨rfl, rfl, rfl⟩
    have z0 := blk_cell HN5.out 0
    have z1 := blk_cell HN5.out 1
    have z2 := blk_cell HN5.out 2
    have z3 := blk_cell HN5.out 3
    have z4 := blk_cell HN5.out 4
    have zl := blk_cell HL5.out 0
    have ze := blk_cell HE5.out 0
    simp at z0 z1 z2 z3 z4 zl ze
    have HFin : Below w.heap.size w (((((((w5.setCell ⟨w.heap.size, 0, none⟩ (.int .i64 0)).setCell ⟨w.heap.size, 1, none⟩ (.int .i64 0)).setCell ⟨w.heap.size, 2, none⟩ (.int .i64 0)).setCell ⟨w.heap.size, 3, none⟩ (.string ⟨#[]⟩)).setCell ⟨w.heap.size, 4, none⟩ (.slice none 0 0)).setCell ⟨w.heap.size + 1, 0, none⟩ (.int .i64 0)).setCell ⟨w.heap.size + 1 + 1, 0, none⟩ (.int .i64 x)) :=
      ((below_set5 hb5 (Nat.le_refl _) _ _ _ _ _).setCell (p := ⟨w.heap.size + 1, 0, none⟩) (Nat.le_succ _) _).setCell (p := ⟨w.heap.size + 1 + 1, 0, none⟩) (by simp; omega) _
    simp [Leaves, settle, results, Tryd.results54, go_sem, z0, z1, z2, z3, z4, zl, ze]
    exact ⟨rfl, HFin⟩
  | ok r =>
    obtain ⟨t, l⟩ := r
    have HC : ∀ W, Rd W (w.heap.size + 1 + 1 + 1) bs 4 bs → Calls Tryd.prog 67 #[.pointer (some ⟨w.heap.size + 1 + 1 + 1, 0, none⟩), .int .i64 1] W fun e w' => ∃ nv, e = .returned nv ∧ NodeS (fun b => W.heap.size ≤ b) w' t nv ∧ Rd w' (w.heap.size + 1 + 1 + 1) bs 4 l ∧ W.grownBy w' (some (w.heap.size + 1 + 1 + 1)) := fun W h => by
      have := node_any (w.heap.size + 1 + 1 + 1) bs 4 8 1 bs W (by omega) (by omega) h
      rw [hq] at this; exact this
    clear hdec hq
    go_enter_defers Tryd.func54, Tryd.ntmps54
    go_wp2_with fail
    have hbA : Below w.heap.size w (((w.alloc (.cells #[.int .i64 0, .int .i64 0, .int .i64 0, .string ⟨#[]⟩, .slice none 0 0] 25)).alloc (.cells #[.int .i64 0] 3)).alloc (.cells #[.int .i64 0] 26)) := (((Below.refl _ _).alloc (Nat.le_refl _) _).alloc (by simp) _).alloc (by simp <;> omega) _
    have HNb := Lib.hid (show (((w.alloc (.cells #[.int .i64 0, .int .i64 0, .int .i64 0, .string ⟨#[]⟩, .slice none 0 0] 25)).alloc (.cells #[.int .i64 0] 3)).alloc (.cells #[.int .i64 0] 26)).heap[w.heap.size]? = some (.cells #[.int .i64 0, .int .i64 0, .int .i64 0, .string ⟨#[]⟩, .slice none 0 0] 25) by rw [heap_alloc_old _ _ (by simp <;> omega), heap_alloc_old _ _ (by simp), heap_alloc_new])
    have HLb := Lib.hid (show (((w.alloc (.cells #[.int .i64 0, .int .i64 0, .int .i64 0, .string ⟨#[]⟩, .slice none 0 0] 25)).alloc (.cells #[.int .i64 0] 3)).alloc (.cells #[.int .i64 0] 26)).heap[w.heap.size + 1]? = some (.cells #[.int .i64 0] 3) by rw [heap_alloc_old _ _ (by simp)]; exact alloc_at (by simp))
    have HEb := Lib.hid (show (((w.alloc (.cells #[.int .i64 0, .int .i64 0, .int .i64 0, .string ⟨#[]⟩, .slice none 0 0] 25)).alloc (.cells #[.int .i64 0] 3)).alloc (.cells #[.int .i64 0] 26)).heap[w.heap.size + 1 + 1]? = some (.cells #[.int .i64 0] 26) from alloc_at (by simp))
    have hsA : (((w.alloc (.cells #[.int .i64 0, .int .i64 0, .int .i64 0, .string ⟨#[]⟩, .slice none 0 0] 25)).alloc (.cells #[.int .i64 0] 3)).alloc (.cells #[.int .i64 0] 26)).heap.size = w.heap.size + 1 + 1 + 1 := by simp
    generalize (((w.alloc (.cells #[.int .i64 0, .int .i64 0, .int .i64 0, .string ⟨#[]⟩, .slice none 0 0] 25)).alloc (.cells #[.int .i64 0] 3)).alloc (.cells #[.int .i64 0] 26)) = wA at *
    have HSA := Lib.hid hsA
    clear hsA
    have hbC : Below wA.heap.size wA (wA.alloc (.cells #[.slice a len cap, .int .i64 0, .int .i64 4] 96)) := (Below.refl _ _).alloc (Nat.le_refl _) _
    have hRb := heap_alloc_new wA (.cells #[.slice a len cap, .int .i64 0, .int .i64 4] 96)
    rw [HSA.out] at hRb
    have hb4 : Below w.heap.size w (wA.alloc (.cells #[.slice a len cap, .int .i64 0, .int .i64 4] 96)) := hbA.trans (hbC.mono hbA.size)
    have HR := Lib.hid (rd_make (HB.out.below hb4) (HB.out.under.imp_right fun h x hx => Nat.lt_trans (h x hx) (by omega)) hRb)
    generalize wA.alloc (.cells #[.slice a len cap, .int .i64 0, .int .i64 4] 96) = w4 at *
    replace HNb := Lib.hid (show w4.heap[w.heap.size]? = _ from (hbC.block _ (by have := HSA.out; omega)).trans HNb.out)
    replace HLb := Lib.hid (show w4.heap[w.heap.size + 1]? = _ from (hbC.block _ (by have := HSA.out; omega)).trans HLb.out)
    replace HEb := Lib.hid (show w4.heap[w.heap.size + 1 + 1]? = _ from (hbC.block _ (by have := HSA.out; omega)).trans HEb.out)
    clear hRb hbA hbC
    have HS4 := Lib.hid HR.out.lt
    refine (HC _ HR.out).mono ?_
    rintro e w5 ⟨nv, rfl, hN5, hR5, hg⟩
    obtain ⟨xt, xk, xn, xs, xa, xl, xc, rfl⟩ := hN5.vals
    have HNd := Lib.hid hN5
    have HN5 := Lib.hid (blk_gb HNb.out hg (by omega))
    have HL5 := Lib.hid (blk_gb HLb.out hg (by omega))
    have HE5 := Lib.hid (blk_gb HEb.out hg (by omega))
    have hb5 : Below w.heap.size w w5 := below_gb hb4 hg (by omega)
    obtain ⟨ra, rl, rc, pos, -, hpos, hrb, -, -, r1, -, -, hrlt⟩ := hR5
    have hrlen := hrb.1
    try rw [List.length_take] at hrlen
    clear hg hN5 hrb hb4 HNb HLb HEb HR HC
    have z0 := blk_cell HN5.out 0
    have z1 := blk_cell HN5.out 1
    have z2 := blk_cell HN5.out 2
    have z3 := blk_cell HN5.out 3
    have z4 := blk_cell HN5.out 4
    simp at z0 z1 z2 z3 z4
    have zf0 := blk_free HN5.out 0
    have zf1 := blk_free HN5.out 1
    have zf2 := blk_free HN5.out 2
    have zf3 := blk_free HN5.out 3
    have zf4 := blk_free HN5.out 4
    go_wp2_with fail
    have hN6 := blk_set (o := 4) (blk_set (o := 3) (blk_set (o := 2) (blk_set (o := 1) (blk_set (o := 0) HN5.out (.int .i64 xt)) (.int .i64 xk)) (.int .i64 xn)) (.string ⟨xs.toArray⟩)) (.slice xa xl xc)
    simp at hN6
    have hb56 : Below w.heap.size w5 (((((w5.setCell ⟨w.heap.size, 0, none⟩ (.int .i64 xt)).setCell ⟨w.heap.size, 1, none⟩ (.int .i64 xk)).setCell ⟨w.heap.size, 2, none⟩ (.int .i64 xn)).setCell ⟨w.heap.size, 3, none⟩ (.string ⟨xs.toArray⟩)).setCell ⟨w.heap.size, 4, none⟩ (.slice xa xl xc)) := below_set5 (Below.refl _ _) (Nat.le_refl _) (.int .i64 xt) (.int .i64 xk) (.int .i64 xn) (.string ⟨xs.toArray⟩) (.slice xa xl xc)
    have hoth : ∀ b, b ≠ w.heap.size → ((((((w5.setCell ⟨w.heap.size, 0, none⟩ (.int .i64 xt)).setCell ⟨w.heap.size, 1, none⟩ (.int .i64 xk)).setCell ⟨w.heap.size, 2, none⟩ (.int .i64 xn)).setCell ⟨w.heap.size, 3, none⟩ (.string ⟨xs.toArray⟩)).setCell ⟨w.heap.size, 4, none⟩ (.slice xa xl xc))).heap[b]? = w5.heap[b]? := fun b hb => by
      rw [heap_setCell_other _ ⟨w.heap.size, 4, none⟩ b _ hb, heap_setCell_other _ ⟨w.heap.size, 3, none⟩ b _ hb, heap_setCell_other _ ⟨w.heap.size, 2, none⟩ b _ hb, heap_setCell_other _ ⟨w.heap.size, 1, none⟩ b _ hb, heap_setCell_other _ ⟨w.heap.size, 0, none⟩ b _ hb]
    clear z0 z1 z2 z3 z4 zf0 zf1 zf2 zf3 zf4
    generalize (((((w5.setCell ⟨w.heap.size, 0, none⟩ (.int .i64 xt)).setCell ⟨w.heap.size, 1, none⟩ (.int .i64 xk)).setCell ⟨w.heap.size, 2, none⟩ (.int .i64 xn)).setCell ⟨w.heap.size, 3, none⟩ (.string ⟨xs.toArray⟩)).setCell ⟨w.heap.size, 4, none⟩ (.slice xa xl xc)) = w6 at *
    have hb6 : Below w.heap.size w w6 := hb5.trans hb56
    have HL6 := Lib.hid ((hoth _ (by omega)).trans HL5.out)
    have HE6 := Lib.hid ((hoth _ (by omega)).trans HE5.out)
    have HN6 := Lib.hid hN6
    have q1 : w6.cell? ⟨w.heap.size + 1 + 1 + 1, 1, none⟩ = some (.int .i64 (pos : Int)) := by
      rw [← r1]; simp only [World.cell?, hoth (w.heap.size + 1 + 1 + 1) (by omega)]
    have HNd6 := Lib.hid (NodeS.keep (S' := fun b => w.heap.size + 1 + 1 + 1 < b) (w' := w6) hb56.size (fun b h _ => ⟨by have := HS4.out; omega, hoth b (by have := HS4.out; omega)⟩) t _ HNd.out)
    have hR6 : w.heap.size + 1 + 1 + 1 < w6.heap.size := Nat.lt_of_lt_of_le hrlt hb56.size
    clear hN6 hoth hb56 HL5 HE5 HN5 r1 HNd
    have c0 := blk_cell HN6.out 0
    have c1 := blk_cell HN6.out 1
    have c2 := blk_cell HN6.out 2
    have c3 := blk_cell HN6.out 3
    have c4 := blk_cell HN6.out 4
    simp at c0 c1 c2 c3 c4
    have e0 := box_ext (B := w6.heap.size) c0 (by omega)
    have e1 := box_ext (B := w6.heap.size) c1 (by omega)
    have e2 := box_ext (B := w6.heap.size) c2 (by omega)
    have e3 := box_ext (B := w6.heap.size) c3 (by omega)
    have e4 := box_ext (B := w6.heap.size) c4 (by omega)
    have e5 := box_ext (B := w6.heap.size) q1 (by omega)
    clear e0 e1 e2 e3 e4 e5
    have e5 := GB.cell (g := w.heap.size + 1 + 1 + 1) q1
    refine wp_region_sched [(1, false), (2, false), (0, true), (3, true), (4, true), (5, true)] (fun w' => ∃ W : GB (w.heap.size + 1 + 1 + 1) w6, w' = W.1) (by kernel_rfl) (by kernel_rfl) ⟨⟨w6.drew, rfl⟩, rfl⟩ ?_
    repeat (refine wpSched_calm rfl (fun K hK => ?_); go_simp; refine hK _ ?_; clear hK K)
    clear e5
    have hb7 : Below w.heap.size w w6.drew := hb6.drew
    have HL7 := Lib.hid (show w6.drew.heap[w.heap.size + 1]? = _ from HL6.out)
    have HE7 := Lib.hid (show w6.drew.heap[w.heap.size + 1 + 1]? = _ from HE6.out)
    have HN7 := Lib.hid (show w6.drew.heap[w.heap.size]? = _ from HN6.out)
    have HNd7 := Lib.hid (NodeS.keep (w := w6) (S' := fun b => w.heap.size + 1 + 1 + 1 < b) (w' := w6.drew) (Nat.le_refl _) (fun b h _ => ⟨h, rfl⟩) t _ HNd6.out)
    have HQ7 := Lib.hid (show w6.drew.heap[w.heap.size + 1 + 1 + 1]? = w6.heap[w.heap.size + 1 + 1 + 1]? from rfl)
    generalize w6.drew = w7 at *
    clear c0 c1 c2 c3 c4 q1 HL6 HE6 HN6 HNd6 hb6 hR6
    have z0 := blk_cell HN7.out 0
    have z1 := blk_cell HN7.out 1
    have z2 := blk_cell HN7.out 2
    have z3 := blk_cell HN7.out 3
    have z4 := blk_cell HN7.out 4
    have zl := blk_cell HL7.out 0
    have ze := blk_cell HE7.out 0
    simp at z0 z1 z2 z3 z4 zl ze
    have zf0 := blk_free HN7.out 0
    have zf1 := blk_free HN7.out 1
    have zf2 := blk_free HN7.out 2
    have zf3 := blk_free HN7.out 3
    have zf4 := blk_free HN7.out 4
    have zfl := blk_free HL7.out 0
    have zfe := blk_free HE7.out 0
    refine wpSched_eff rfl rfl (fun K hK => ?_)
    go_simp
    refine hK _ _ ⟨⟨w7, HQ7.out⟩, rfl⟩ ?_
    clear hK K
    have hm5 := (set5_other (w := w7) (g := w.heap.size) (b := w.heap.size + 1 + 1 + 1) (.int .i64 xt) (.int .i64 xk) (.int .i64 xn) (.string ⟨xs.toArray⟩) (.slice xa xl xc) (by omega)).trans HQ7.out
    refine wpSched_eff rfl rfl (fun K hK => ?_)
    go_simp
    refine hK _ _ ⟨⟨_, hm5⟩, rfl⟩ ?_
    clear hK K
    refine wpSched_eff rfl rfl (fun K hK => ?_)
    go_simp
    have hm6 := (heap_setCell_other _ ⟨w.heap.size + 1, 0, none⟩ (w.heap.size + 1 + 1 + 1) (.int .i64 (pos : Int)) (show w.heap.size + 1 + 1 + 1 ≠ w.heap.size + 1 by omega)).trans hm5
    refine hK _ _ ⟨⟨_, hm6⟩, rfl⟩ ?_
    clear hK K
    refine wpSched_eff rfl rfl (fun K hK => ?_)
    go_simp
    refine hK _ _ ⟨⟨_, (heap_setCell_other _ ⟨w.heap.size + 1 + 1, 0, none⟩ (w.heap.size + 1 + 1 + 1) (.int .i64 0) (show w.heap.size + 1 + 1 + 1 ≠ w.heap.size + 1 + 1 by omega)).trans hm6⟩, rfl⟩ ?_
    clear hK K hm5 hm6
    refine wpSched_nil ?_
    go_wp2_with fail
    refine leaves_cons (f := 66) (args := #[.pointer (some ⟨w.heap.size, 0, none⟩), .pointer (some ⟨w.heap.size + 1, 0, none⟩), .pointer (some ⟨w.heap.size + 1 + 1, 0, none⟩)]) (by simp) (by simp [go_sem]) ?_
    refine (catch_idle w.heap.size (w.heap.size + 1) (w.heap.size + 1 + 1) _).mono ?_
    rintro e u' w8 ⟨rfl, rfl, rfl⟩
    have HFin : Below w.heap.size w (((((((w7.setCell ⟨w.heap.size, 0, none⟩ (.int .i64 xt)).setCell ⟨w.heap.size, 1, none⟩ (.int .i64 xk)).setCell ⟨w.heap.size, 2, none⟩ (.int .i64 xn)).setCell ⟨w.heap.size, 3, none⟩ (.string ⟨xs.toArray⟩)).setCell ⟨w.heap.size, 4, none⟩ (.slice xa xl xc)).setCell ⟨w.heap.size + 1, 0, none⟩ (.int .i64 (pos : Int))).setCell ⟨w.heap.size + 1 + 1, 0, none⟩ (.int .i64 0)) := ((below_set5 hb7 (Nat.le_refl _) (.int .i64 xt) (.int .i64 xk) (.int .i64 xn) (.string ⟨xs.toArray⟩) (.slice xa xl xc)).setCell (p := ⟨w.heap.size + 1, 0, none⟩) (Nat.le_succ _) (.int .i64 (pos : Int))).setCell (p := ⟨w.heap.size + 1 + 1, 0, none⟩) (by simp; omega) (.int .i64 0)
    have HNF : NodeS (fun b => w.heap.size ≤ b) (((((((w7.setCell ⟨w.heap.size, 0, none⟩ (.int .i64 xt)).setCell ⟨w.heap.size, 1, none⟩ (.int .i64 xk)).setCell ⟨w.heap.size, 2, none⟩ (.int .i64 xn)).setCell ⟨w.heap.size, 3, none⟩ (.string ⟨xs.toArray⟩)).setCell ⟨w.heap.size, 4, none⟩ (.slice xa xl xc)).setCell ⟨w.heap.size + 1, 0, none⟩ (.int .i64 (pos : Int))).setCell ⟨w.heap.size + 1 + 1, 0, none⟩ (.int .i64 0)) t (.agg #[(.int .i64 xt), (.int .i64 xk), (.int .i64 xn), (.string ⟨xs.toArray⟩), (.slice xa xl xc)]) := NodeS.keep (by simp) (fun b h _ => ⟨by omega, by
      rw [heap_setCell_other _ ⟨w.heap.size + 1 + 1, 0, none⟩ b _ (fun hh => by simp at hh; omega), heap_setCell_other _ ⟨w.heap.size + 1, 0, none⟩ b _ (fun hh => by simp at hh; omega), heap_setCell_other _ ⟨w.heap.size, 4, none⟩ b _ (fun hh => by simp at hh; omega), heap_setCell_other _ ⟨w.heap.size, 3, none⟩ b _ (fun hh => by simp at hh; omega), heap_setCell_other _ ⟨w.heap.size, 2, none⟩ b _ (fun hh => by simp at hh; omega), heap_setCell_other _ ⟨w.heap.size, 1, none⟩ b _ (fun hh => by simp at hh; omega), heap_setCell_other _ ⟨w.heap.size, 0, none⟩ b _ (fun hh => by simp at hh; omega)]⟩) t _ HNd7.out
    have hps : (pos : Int) = ((min len 1048576 - l.length : Nat) : Int) := by omega
    simp [Leaves, settle, results, Tryd.results54, go_sem, z0, z1, z2, z3, z4, zl, ze]
    exact ⟨_, by rw [hps], HNF, HFin⟩

end Go.Proofs.YthbfmioikbphgaaDoor
