/- Uploads: clash, BinarySearchFunc, over packets of one log. Condition: a log of at most 2^20 bytes. -/
import Derived.Test.YtpdodapdaeochaaUpF
namespace Go.Proofs.Ytpdodapdaeochaa
set_option maxRecDepth 100000
open Go.RowKit

/-- a packet of a log -/
structure OfLog (log : List UInt8) (m : PkM) : Prop where
  da : m.da = seg log (m.pos, m.da.length)
  le : m.pos + m.da.length ≤ log.length
theorem differ_any (log : List UInt8) (a1 a2 : Option Addr) (p n c1 q m c2 : Nat) (w : World) (hx : Bytes w a1 n c1 (seg log (p, n))) (hy : Bytes w a2 m c2 (seg log (q, m))) (hp : p + n ≤ 1048576) (hq : q + m ≤ 1048576) :
    Calls Try.prog 47 #[.int .i64 p, .slice a1 n c1, .int .i64 q, .slice a2 m c2] w fun e w' => e = .returned (.bool false) ∧ Below w.heap.size w w' := by
  by_cases h1 : p < q
  · by_cases h2 : p + n ≤ q + m
    · exact differ_0 log a1 a2 p n c1 q m c2 w hx hy (by omega) (by omega) (by omega) (by omega) h1 h2
    · exact differ_1 log a1 a2 p n c1 q m c2 w hx hy (by omega) (by omega) (by omega) (by omega) h1 h2
  · by_cases h2 : p + n ≤ q + m
    · exact differ_2 log a1 a2 p n c1 q m c2 w hx hy (by omega) (by omega) (by omega) (by omega) h1 h2
    · exact differ_3 log a1 a2 p n c1 q m c2 w hx hy (by omega) (by omega) (by omega) (by omega) h1 h2
theorem OfLog.bytes {log : List UInt8} {m : PkM} (h : OfLog log m) {w : World} {a : Option Addr} {n c : Nat} (hx : Bytes w a n c m.da) : Bytes w a n c (seg log (m.pos, n)) := by
  have := hx.1; subst this; rw [← h.da]; exact hx
theorem OfLog.len {log : List UInt8} {m : PkM} (h : OfLog log m) {w : World} {a : Option Addr} {n c : Nat} (hx : Bytes w a n c m.da) : m.pos + n ≤ log.length := by
  have := hx.1; have := h.le; omega
set_option maxHeartbeats 1000000 in
theorem closure_any (log : List UInt8) (m r : PkM) (a : Option Addr) (n c g : Nat) (w : World) (hL : log.length ≤ 1048576) (hm : OfLog log m) (hr : OfLog log r) (hx : Bytes w a n c m.da) (hP : PkAt w g 0 r) (hg : g < w.heap.size) :
    Calls Try.prog 49 #[.agg #[.int .i64 m.se, .int .i64 m.pos, .slice a n c, .int .u64 (m.su.toNat : Int)], .pointer (some ⟨g, 0, none⟩)] w fun e w' => e = .returned (.bool false) ∧ Below w.heap.size w w' := by
  obtain ⟨a2, n2, c2, q0, q1, q2, q3, hy⟩ := hP
  have HX := Lib.hid (hm.bytes hx)
  have HY := Lib.hid (hr.bytes hy)
  have hb1 := hm.len hx
  have hb2 := hr.len hy
  clear hx hy
  have cG0 := q0
  have cG1 := q1
  have cG2 := q2
  have cG3 := q3
  simp only [Nat.zero_add] at cG1 cG2 cG3
  have ltG := hg
  clear q0 q1 q2 q3 hg
  go_enter Try.func49, Try.ntmps49
  go_wp2_with fail
  have hbx : Below w.heap.size w (w.alloc (.cells #[.int .i64 m.se, .int .i64 m.pos, .slice a n c, .int .u64 (m.su.toNat : Int)] 35)) := ((Below.refl _ _).alloc (Nat.le_refl _) _)
  generalize hWW : (w.alloc (.cells #[.int .i64 m.se, .int .i64 m.pos, .slice a n c, .int .u64 (m.su.toNat : Int)] 35)) = w0 at *
  replace cG0 := bc hbx ltG cG0
  replace cG1 := bc hbx ltG cG1
  replace cG2 := bc hbx ltG cG2
  replace cG3 := bc hbx ltG cG3
  replace ltG := bl hbx ltG
  replace HX := Lib.hid (HX.out.below hbx)
  replace HY := Lib.hid (HY.out.below hbx)
  have cP0 : w0.cell? ⟨w.heap.size, 0, none⟩ = some (.int .i64 m.se) := by subst hWW; go_simp
  have cP1 : w0.cell? ⟨w.heap.size, 1, none⟩ = some (.int .i64 m.pos) := by subst hWW; go_simp
  have cP2 : w0.cell? ⟨w.heap.size, 2, none⟩ = some (.slice a n c) := by subst hWW; go_simp
  have cP3 : w0.cell? ⟨w.heap.size, 3, none⟩ = some (.int .u64 (m.su.toNat : Int)) := by subst hWW; go_simp
  have ltP : w.heap.size < w0.heap.size := by subst hWW; simp
  have hB := hbx
  clear hbx hWW
  refine (differ_any log a a2 m.pos n c r.pos n2 c2 _ HX.out HY.out (by omega) (by omega)).mono ?_
  rintro e w1 ⟨rfl, hb⟩
  replace cG0 := bc hb ltG cG0
  replace cG1 := bc hb ltG cG1
  replace cG2 := bc hb ltG cG2
  replace cG3 := bc hb ltG cG3
  replace ltG := bl hb ltG
  replace cP0 := bc hb ltP cP0
  replace cP1 := bc hb ltP cP1
  replace cP2 := bc hb ltP cP2
  replace cP3 := bc hb ltP cP3
  replace ltP := bl hb ltP
  replace HX := Lib.hid (HX.out.below hb)
  replace HY := Lib.hid (HY.out.below hb)
  replace hB := hB.trans (hb.mono hB.size)
  clear hb
  go_wp2_with fail
  go_ret
  exact ⟨rfl, hB⟩
set_option maxHeartbeats 1000000 in
theorem index_any (log : List UInt8) (f : Nat → PkM) (r : PkM) (a : Option Addr) (len cap g : Nat) (w : World) (hL : log.length ≤ 1048576) (hf : ∀ i, i < len → OfLog log (f i)) (hr : OfLog log r) (hx : PksIn w a len cap f) (hP : PkAt w g 0 r) (hg : g < w.heap.size) :
    Calls Try.prog 59 #[.slice a len cap, .func (.func 49) #[] #[.pointer (some ⟨g, 0, none⟩)]] w fun e w' => e = .returned (.int .i64 (-1)) ∧ Below w.heap.size w w' := by
  have hm : len ≤ 9223372036854775807 := by have h1 := hx.1; have h2 := hx.2.1; unfold maxLen at h2; omega
  have HX := Lib.hid hx
  have HP := Lib.hid hP
  have HF := Lib.hid hf
  clear hx hP hf
  go_enter Try.func59, Try.ntmps59
  go_wp2_with fail
  go_loopw [8] (fun i wr => ∃ k : Nat, k ≤ len ∧ i = .int .i64 k ∧ Below w.heap.size w wr) (fun i _ => len - (intOf i).toNat)
  case atStart => exact ⟨0, by omega, rfl, Below.refl _ _⟩
  case round =>
    obtain ⟨k, hk, rfl, hB⟩ := hrel
    by_cases hlt : k < len
    · obtain ⟨b, off, rfl, hbs, hcc⟩ := HX.out.at hlt
      obtain ⟨a1, n1, c1, e0, e1, e2, e3, hb1⟩ := (hcc k hlt).below hbs hB
      have HB1 := Lib.hid hb1
      clear hcc hb1
      generalize hfk : f k = m at *
      have HM := Lib.hid (hfk ▸ HF.out k hlt : OfLog log m)
      clear hfk
      go_wp2_with fail
      refine (closure_any log m r a1 n1 c1 g _ hL HM.out hr HB1.out (HP.out.below hg hB) (bl hB hg)).mono ?_
      rintro e w2 ⟨rfl, hb⟩
      replace hB := hB.trans (hb.mono hB.size)
      clear e0 e1 e2 e3 hb
      go_wp2_with fail
      go_roundw
      case rel => exact ⟨k + 1, by omega, by go_num, hB⟩
      case measure => simp [intOf]; omega
    · go_wp2_with fail
      go_ret
      exact ⟨rfl, hB⟩
theorem contains_any (log : List UInt8) (f : Nat → PkM) (r : PkM) (a : Option Addr) (len cap g : Nat) (w : World) (hL : log.length ≤ 1048576) (hf : ∀ i, i < len → OfLog log (f i)) (hr : OfLog log r) (hx : PksIn w a len cap f) (hP : PkAt w g 0 r) (hg : g < w.heap.size) :
    Calls Try.prog 48 #[.slice a len cap, .func (.func 49) #[] #[.pointer (some ⟨g, 0, none⟩)]] w fun e w' => e = .returned (.bool false) ∧ Below w.heap.size w w' := by
  have HX := Lib.hid hx
  have HP := Lib.hid hP
  have HF := Lib.hid hf
  clear hx hP hf
  go_enter Try.func48, Try.ntmps48
  go_wp2_with fail
  refine (index_any log f r a len cap g _ hL HF.out hr HX.out HP.out hg).mono ?_
  rintro e w1 ⟨rfl, hb⟩
  go_wp2_with fail
  go_ret
  exact ⟨rfl, hb⟩
set_option maxHeartbeats 1000000 in
theorem clash_any (log : List UInt8) (s : Int) (f : Nat → PkM) (r : PkM) (a0 a1 a : Option Addr) (d c0 l c1 n c : Nat) (w : World) (hL : log.length ≤ 1048576) (hd : d ≤ log.length) (h0 : Bytes w a0 d c0 (log.take d)) (hf : ∀ i, i < l → OfLog log (f i)) (hr : OfLog log r) (hx : PksIn w a1 l c1 f) (hy : Bytes w a n c r.da) :
    Calls Try.prog 29 #[.agg #[.int .i64 s, .slice a0 d c0, .slice a1 l c1], .agg #[.int .i64 r.se, .int .i64 r.pos, .slice a n c, .int .u64 (r.su.toNat : Int)]] w fun e w' => e = .returned (.bool false) ∧ Below w.heap.size w w' := by
  have H0 := Lib.hid (show Bytes w a0 d c0 (seg log (0, d)) by unfold seg; simpa using h0)
  have HY := Lib.hid (hr.bytes hy)
  have HR := Lib.hid hy
  have HX := Lib.hid hx
  have HF := Lib.hid hf
  have hb1 := hr.len hy
  clear h0 hy hx hf
  go_enter Try.func29, Try.ntmps29
  go_wp2_with fail
  have hbx : Below w.heap.size w ((w.alloc (.cells #[.int .i64 s, .slice a0 d c0, .slice a1 l c1] 28)).alloc (.cells #[.int .i64 r.se, .int .i64 r.pos, .slice a n c, .int .u64 (r.su.toNat : Int)] 35)) := (((Below.refl _ _).alloc (Nat.le_refl _) _).alloc (by simp) _)
  generalize hWW : ((w.alloc (.cells #[.int .i64 s, .slice a0 d c0, .slice a1 l c1] 28)).alloc (.cells #[.int .i64 r.se, .int .i64 r.pos, .slice a n c, .int .u64 (r.su.toNat : Int)] 35)) = w0 at *
  replace H0 := Lib.hid (H0.out.below hbx)
  replace HY := Lib.hid (HY.out.below hbx)
  replace HX := Lib.hid (HX.out.below hbx)
  replace HR := Lib.hid (HR.out.below hbx)
  have cI0 : w0.cell? ⟨w.heap.size, 0, none⟩ = some (.int .i64 s) := by subst hWW; go_simp
  have cI1 : w0.cell? ⟨w.heap.size, 1, none⟩ = some (.slice a0 d c0) := by subst hWW; go_simp
  have cI2 : w0.cell? ⟨w.heap.size, 2, none⟩ = some (.slice a1 l c1) := by subst hWW; go_simp
  have ltI : w.heap.size < w0.heap.size := by subst hWW; simp <;> omega
  have cP0 : w0.cell? ⟨w.heap.size + 1, 0, none⟩ = some (.int .i64 r.se) := by subst hWW; go_simp
  have cP1 : w0.cell? ⟨w.heap.size + 1, 1, none⟩ = some (.int .i64 r.pos) := by subst hWW; go_simp
  have cP2 : w0.cell? ⟨w.heap.size + 1, 2, none⟩ = some (.slice a n c) := by subst hWW; go_simp
  have cP3 : w0.cell? ⟨w.heap.size + 1, 3, none⟩ = some (.int .u64 (r.su.toNat : Int)) := by subst hWW; go_simp
  have ltP : w.heap.size + 1 < w0.heap.size := by subst hWW; simp
  have hB := hbx
  clear hbx hWW
  refine (differ_any log a0 a 0 d c0 r.pos n c _ H0.out HY.out (by omega) (by omega)).mono ?_
  rintro e w1 ⟨rfl, hb⟩
  replace cI0 := bc hb ltI cI0
  replace cI1 := bc hb ltI cI1
  replace cI2 := bc hb ltI cI2
  replace ltI := bl hb ltI
  replace cP0 := bc hb ltP cP0
  replace cP1 := bc hb ltP cP1
  replace cP2 := bc hb ltP cP2
  replace cP3 := bc hb ltP cP3
  replace ltP := bl hb ltP
  replace H0 := Lib.hid (H0.out.below hb)
  replace HY := Lib.hid (HY.out.below hb)
  replace HX := Lib.hid (HX.out.below hb)
  replace HR := Lib.hid (HR.out.below hb)
  replace hB := hB.trans (hb.mono hB.size)
  clear hb
  go_wp2_with fail
  refine (contains_any log f r a1 l c1 (w.heap.size + 1) _ hL HF.out hr HX.out ⟨a, n, c, cP0, cP1, cP2, cP3, HR.out⟩ ltP).mono ?_
  rintro e w2 ⟨rfl, hb⟩
  replace cI0 := bc hb ltI cI0
  replace cI1 := bc hb ltI cI1
  replace cI2 := bc hb ltI cI2
  replace ltI := bl hb ltI
  replace cP0 := bc hb ltP cP0
  replace cP1 := bc hb ltP cP1
  replace cP2 := bc hb ltP cP2
  replace cP3 := bc hb ltP cP3
  replace ltP := bl hb ltP
  replace H0 := Lib.hid (H0.out.below hb)
  replace HY := Lib.hid (HY.out.below hb)
  replace HX := Lib.hid (HX.out.below hb)
  replace HR := Lib.hid (HR.out.below hb)
  replace hB := hB.trans (hb.mono hB.size)
  clear hb
  go_wp2_with fail
  go_ret
  exact ⟨rfl, hB⟩

end Go.Proofs.Ytpdodapdaeochaa
