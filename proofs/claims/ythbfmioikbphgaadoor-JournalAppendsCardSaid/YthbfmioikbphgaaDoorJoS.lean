/- Journals: the statements' own functions at equal arguments: equal, same, the reference's Equal. -/
import Derived.Test.YthbfmioikbphgaaDoorJoF
import Derived.Test.YthbfmioikbphgaaDoorCoK
import Derived.BigQuiet
namespace Go.Proofs.YthbfmioikbphgaaDoor
set_option maxRecDepth 100000
open Go.RowKit

set_option maxHeartbeats 400000 in
theorem leq_t (xs : List UInt8) (a a2 : Option Addr) (len c c2 : Nat) (w : World) (h1 : Bytes w a len c xs) (h2 : Bytes w a2 len c2 xs) :
    Calls Tryd.prog 11 #[.slice a len c, .slice a2 len c2] w fun e w' => e = .returned (.bool true) ∧ Below w.heap.size w w' := by
  have hm : len ≤ 9223372036854775807 := by have h3 := h1.2.1; have h4 := h1.2.2.1; unfold maxLen at h4; omega
  have H1 := Lib.hid h1
  have H2 := Lib.hid h2
  clear h1 h2
  go_enter Tryd.func11, Tryd.ntmps11
  go_wp2_with fail
  go_loopw [13] (fun i wr => ∃ k : Nat, k ≤ len ∧ i = .int .i64 k ∧ Below w.heap.size w wr) (fun i _ => len - (intOf i).toNat)
  case atStart => exact ⟨0, by omega, rfl, Below.refl _ _⟩
  case round =>
    obtain ⟨k, hk, rfl, hb⟩ := hrel
    by_cases hlt : k < len
    · obtain ⟨b, off, rfl, _, hcc⟩ := H1.out.2.at (k := k) hlt
      obtain ⟨b', off', rfl, _, hcc'⟩ := H2.out.2.at (k := k) hlt
      have c1 := hcc k hlt wr hb
      have c2 := hcc' k hlt wr hb
      clear hcc hcc'
      generalize xs.getD k 0 = x at *
      go_wp2_with fail
      go_quiet (fail)
      go_wp2_with fail
      go_roundw
      case rel => exact ⟨k + 1, by omega, by go_num, below_drewN hb _⟩
      case measure => simp [intOf]; omega
    · go_wp2_with fail
      go_ret
      exact ⟨rfl, hb⟩

set_option maxHeartbeats 4000000 in
theorem requal_t : ∀ (d : Nat) (t : NodeT) (v1 v2 : Value) (w : World), depT t ≤ d → NodeIn w t v1 → NodeIn w t v2 →
    Calls Tryd.prog 43 #[v1, v2] w fun e w' => e = .returned (.bool true) ∧ Below w.heap.size w w' := by
  intro d
  induction d with
  | zero => intro t v1 v2 w hd; obtain ⟨tag, kind, n, s, kids⟩ := t; simp [depT] at hd
  | succ d ih =>
    intro t v1 v2 w hd hN1 hN2
    obtain ⟨tag, kind, n, s, a, len, cap, kids, rfl, rfl, hs, hk⟩ := hN1.form
    obtain ⟨tag2, kind2, n2, s2, a2, len2, cap2, kids2, he, rfl, hs2, hk2⟩ := hN2.form
    cases he
    obtain rfl : len = len2 := by rw [← hk.1, ← hk2.1]
    have hb0 : Below w.heap.size w ((w.alloc (.cells #[.int .i64 tag, .int .i64 kind, .int .i64 n, .string ⟨s.toArray⟩, .slice a len cap] 25)).alloc (.cells #[.int .i64 tag, .int .i64 kind, .int .i64 n, .string ⟨s.toArray⟩, .slice a2 len cap2] 25)) := ((Below.refl _ _).alloc (Nat.le_refl _) _).alloc (by simp) _
    have HK1 := Lib.hid (hk.below hb0)
    have HK2 := Lib.hid (hk2.below hb0)
    have hlm : len ≤ 9223372036854775807 := by have := hk.2.1; have := hk.2.2.1; simp only [maxLen] at this; omega
    have HH : ∀ t, t ∈ kids → ∀ (v1 v2 : Value) (W : World), NodeIn W t v1 → NodeIn W t v2 → Calls Tryd.prog 43 #[v1, v2] W fun e w' => e = .returned (.bool true) ∧ Below W.heap.size W w' := fun t ht v1 v2 W h1 h2 => by
      refine ih t v1 v2 W ?_ h1 h2
      obtain ⟨i, hi, rfl⟩ := List.getElem_of_mem ht
      have := depL_mem hi
      simp only [depT] at hd
      omega
    clear hN1 hN2 hk hk2 ih hd
    go_enter Tryd.func43, Tryd.ntmps43
    go_wp2_with fail
    have ca4 : ((w.alloc (.cells #[.int .i64 tag, .int .i64 kind, .int .i64 n, .string ⟨s.toArray⟩, .slice a len cap] 25)).alloc (.cells #[.int .i64 tag, .int .i64 kind, .int .i64 n, .string ⟨s.toArray⟩, .slice a2 len cap2] 25)).cell? ⟨w.heap.size, 4, none⟩ = some (.slice a len cap) := by go_simp
    have cb4 : ((w.alloc (.cells #[.int .i64 tag, .int .i64 kind, .int .i64 n, .string ⟨s.toArray⟩, .slice a len cap] 25)).alloc (.cells #[.int .i64 tag, .int .i64 kind, .int .i64 n, .string ⟨s.toArray⟩, .slice a2 len cap2] 25)).cell? ⟨w.heap.size + 1, 4, none⟩ = some (.slice a2 len cap2) := by go_simp
    have hsz : w.heap.size + 1 < ((w.alloc (.cells #[.int .i64 tag, .int .i64 kind, .int .i64 n, .string ⟨s.toArray⟩, .slice a len cap] 25)).alloc (.cells #[.int .i64 tag, .int .i64 kind, .int .i64 n, .string ⟨s.toArray⟩, .slice a2 len cap2] 25)).heap.size := by simp
    generalize (w.alloc (.cells #[.int .i64 tag, .int .i64 kind, .int .i64 n, .string ⟨s.toArray⟩, .slice a len cap] 25)).alloc (.cells #[.int .i64 tag, .int .i64 kind, .int .i64 n, .string ⟨s.toArray⟩, .slice a2 len cap2] 25) = w0 at *
    have CA4 := Lib.hid ca4
    have CB4 := Lib.hid cb4
    clear ca4 cb4
    go_loopw [5] (fun i wr => ∃ k : Nat, k ≤ len ∧ i = .int .i64 k ∧ Below w0.heap.size w0 wr) (fun i _ => len - (intOf i).toNat)
    case atStart => exact ⟨0, by omega, rfl, Below.refl _ _⟩
    case round =>
      obtain ⟨k, hk, rfl, hb⟩ := hrel
      have ca4 := bc hb (by omega) CA4.out
      have cb4 := bc hb hsz CB4.out
      by_cases hlt : k < len
      · obtain ⟨b1, o1, rfl, tg, kd, n, s, a', l', c', x0, x1, x2, x3, x4, t, ht, hN1⟩ := (HK1.out.below hb).form hlt
        obtain ⟨b2, o2, rfl, tg2, kd2, n2, s2, a2', l2', c2', y0, y1, y2, y3, y4, u, hu, hN2⟩ := (HK2.out.below hb).form hlt
        obtain rfl : t = u := Option.some.inj (ht.symm.trans hu)
        have HN1 := Lib.hid hN1
        have HN2 := Lib.hid hN2
        have hmem : t ∈ kids := List.mem_of_getElem? ht
        clear hN1 hN2 ht hu
        have hz0 : b1 < wr.heap.size := by
          rcases Nat.lt_or_ge b1 wr.heap.size with h | h
          · exact h
          · simp [World.cell?, Array.getElem?_eq_none h] at x0
        have hz1 : b2 < wr.heap.size := by
          rcases Nat.lt_or_ge b2 wr.heap.size with h | h
          · exact h
          · simp [World.cell?, Array.getElem?_eq_none h] at y0
        have hz2 : w.heap.size + 1 < wr.heap.size := Nat.lt_of_lt_of_le hsz hb.size
        have e0 : ∀ W : Ext wr.heap.size wr, W.val.cell? ⟨b1, o1 + k * 5, none⟩ = some (.int .i64 tg) := fun W => (W.prop.cell (p := ⟨b1, _, none⟩) hz0).trans x0
        have e1 : ∀ W : Ext wr.heap.size wr, W.val.cell? ⟨b1, o1 + k * 5 + 1, none⟩ = some (.int .i64 kd) := fun W => (W.prop.cell (p := ⟨b1, _, none⟩) hz0).trans x1
        have e2 : ∀ W : Ext wr.heap.size wr, W.val.cell? ⟨b1, o1 + k * 5 + 2, none⟩ = some (.int .i64 n) := fun W => (W.prop.cell (p := ⟨b1, _, none⟩) hz0).trans x2
        have e3 : ∀ W : Ext wr.heap.size wr, W.val.cell? ⟨b1, o1 + k * 5 + 3, none⟩ = some (.string ⟨s.toArray⟩) := fun W => (W.prop.cell (p := ⟨b1, _, none⟩) hz0).trans x3
        have e4 : ∀ W : Ext wr.heap.size wr, W.val.cell? ⟨b1, o1 + k * 5 + 4, none⟩ = some (.slice a' l' c') := fun W => (W.prop.cell (p := ⟨b1, _, none⟩) hz0).trans x4
        have f0 : ∀ W : Ext wr.heap.size wr, W.val.cell? ⟨b2, o2 + k * 5, none⟩ = some (.int .i64 tg2) := fun W => (W.prop.cell (p := ⟨b2, _, none⟩) hz1).trans y0
        have f1 : ∀ W : Ext wr.heap.size wr, W.val.cell? ⟨b2, o2 + k * 5 + 1, none⟩ = some (.int .i64 kd2) := fun W => (W.prop.cell (p := ⟨b2, _, none⟩) hz1).trans y1
        have f2 : ∀ W : Ext wr.heap.size wr, W.val.cell? ⟨b2, o2 + k * 5 + 2, none⟩ = some (.int .i64 n2) := fun W => (W.prop.cell (p := ⟨b2, _, none⟩) hz1).trans y2
        have f3 : ∀ W : Ext wr.heap.size wr, W.val.cell? ⟨b2, o2 + k * 5 + 3, none⟩ = some (.string ⟨s2.toArray⟩) := fun W => (W.prop.cell (p := ⟨b2, _, none⟩) hz1).trans y3
        have f4 : ∀ W : Ext wr.heap.size wr, W.val.cell? ⟨b2, o2 + k * 5 + 4, none⟩ = some (.slice a2' l2' c2') := fun W => (W.prop.cell (p := ⟨b2, _, none⟩) hz1).trans y4
        have g0 : ∀ W : Ext wr.heap.size wr, W.val.cell? ⟨w.heap.size, 4, none⟩ = some (.slice (some ⟨b1, o1, none⟩) len cap) := fun W => (W.prop.cell (p := ⟨w.heap.size, 4, none⟩) (show w.heap.size < wr.heap.size by omega)).trans ca4
        have g1 : ∀ W : Ext wr.heap.size wr, W.val.cell? ⟨w.heap.size + 1, 4, none⟩ = some (.slice (some ⟨b2, o2, none⟩) len cap2) := fun W => (W.prop.cell (p := ⟨w.heap.size + 1, 4, none⟩) hz2).trans cb4
        have q1 : ∀ W : Ext wr.heap.size wr, Calls Tryd.prog 43 #[.agg #[.int .i64 tg, .int .i64 kd, .int .i64 n, .string ⟨s.toArray⟩, .slice a' l' c'], .agg #[.int .i64 tg2, .int .i64 kd2, .int .i64 n2, .string ⟨s2.toArray⟩, .slice a2' l2' c2']] W.val fun e w'' => e = .returned (.bool true) ∧ ∃ W' : Ext wr.heap.size wr, w'' = W'.val := fun W => Calls.ext W (HH t hmem _ _ W.val (HN1.out.below W.prop) (HN2.out.below W.prop))
        clear x0 x1 x2 x3 x4 y0 y1 y2 y3 y4
        go_wp2_with fail
        clear ca4 cb4
        refine wp_region_ext wr.heap.size wr (by kernel_rfl) (by kernel_rfl) (Below.refl _ _) ?_
        repeat (first | go_big_quiet_step (first
          | with_reducible exact q1 _))
        refine wpQuiet_nil ?_
        intro W
        have hb5 : Below w0.heap.size w0 W.val := hb.trans (W.prop.mono hb.size)
        generalize W.val = w5 at *
        go_wp2_with fail
        go_roundw
        case rel => exact ⟨k + 1, by omega, by go_num, hb5⟩
        case measure => simp [intOf]; omega
      · go_wp2_with fail
        go_ret
        exact ⟨rfl, hb0.trans (hb.mono hb0.size)⟩

set_option maxHeartbeats 4000000 in
theorem same_t (ts : List NodeT) (a a2 : Option Addr) (len cap cap2 : Nat) (w : World) (h1 : Kids w a len cap ts) (h2 : Kids w a2 len cap2 ts) :
    Calls Tryd.prog 18 #[.slice a len cap, .slice a2 len cap2] w fun e w' => e = .returned (.bool true) ∧ Below w.heap.size w w' := by
  have HK1 := Lib.hid h1
  have HK2 := Lib.hid h2
  have hlm : len ≤ 9223372036854775807 := by have := h1.2.1; have := h1.2.2.1; simp only [maxLen] at this; omega
  clear h1 h2
  go_enter Tryd.func18, Tryd.ntmps18
  go_wp2_with fail
  go_loopw [13] (fun i wr => ∃ k : Nat, k ≤ len ∧ i = .int .i64 k ∧ Below w.heap.size w wr) (fun i _ => len - (intOf i).toNat)
  case atStart => exact ⟨0, by omega, rfl, Below.refl _ _⟩
  case round =>
    obtain ⟨k, hk, rfl, hb⟩ := hrel
    by_cases hlt : k < len
    · obtain ⟨b1, o1, rfl, tg, kd, n, s, a', l', c', x0, x1, x2, x3, x4, t, ht, hN1⟩ := (HK1.out.below hb).form hlt
      obtain ⟨b2, o2, rfl, tg2, kd2, n2, s2, a2', l2', c2', y0, y1, y2, y3, y4, u, hu, hN2⟩ := (HK2.out.below hb).form hlt
      obtain rfl : t = u := Option.some.inj (ht.symm.trans hu)
      have HN1 := Lib.hid hN1
      have HN2 := Lib.hid hN2
      clear hN1 hN2 ht hu
      have hz0 : b1 < wr.heap.size := by
        rcases Nat.lt_or_ge b1 wr.heap.size with h | h
        · exact h
        · simp [World.cell?, Array.getElem?_eq_none h] at x0
      have hz1 : b2 < wr.heap.size := by
        rcases Nat.lt_or_ge b2 wr.heap.size with h | h
        · exact h
        · simp [World.cell?, Array.getElem?_eq_none h] at y0
      have e0 : ∀ W : Ext wr.heap.size wr, W.val.cell? ⟨b1, o1 + k * 5, none⟩ = some (.int .i64 tg) := fun W => (W.prop.cell (p := ⟨b1, _, none⟩) hz0).trans x0
      have e1 : ∀ W : Ext wr.heap.size wr, W.val.cell? ⟨b1, o1 + k * 5 + 1, none⟩ = some (.int .i64 kd) := fun W => (W.prop.cell (p := ⟨b1, _, none⟩) hz0).trans x1
      have e2 : ∀ W : Ext wr.heap.size wr, W.val.cell? ⟨b1, o1 + k * 5 + 2, none⟩ = some (.int .i64 n) := fun W => (W.prop.cell (p := ⟨b1, _, none⟩) hz0).trans x2
      have e3 : ∀ W : Ext wr.heap.size wr, W.val.cell? ⟨b1, o1 + k * 5 + 3, none⟩ = some (.string ⟨s.toArray⟩) := fun W => (W.prop.cell (p := ⟨b1, _, none⟩) hz0).trans x3
      have e4 : ∀ W : Ext wr.heap.size wr, W.val.cell? ⟨b1, o1 + k * 5 + 4, none⟩ = some (.slice a' l' c') := fun W => (W.prop.cell (p := ⟨b1, _, none⟩) hz0).trans x4
      have f0 : ∀ W : Ext wr.heap.size wr, W.val.cell? ⟨b2, o2 + k * 5, none⟩ = some (.int .i64 tg2) := fun W => (W.prop.cell (p := ⟨b2, _, none⟩) hz1).trans y0
      have f1 : ∀ W : Ext wr.heap.size wr, W.val.cell? ⟨b2, o2 + k * 5 + 1, none⟩ = some (.int .i64 kd2) := fun W => (W.prop.cell (p := ⟨b2, _, none⟩) hz1).trans y1
      have f2 : ∀ W : Ext wr.heap.size wr, W.val.cell? ⟨b2, o2 + k * 5 + 2, none⟩ = some (.int .i64 n2) := fun W => (W.prop.cell (p := ⟨b2, _, none⟩) hz1).trans y2
      have f3 : ∀ W : Ext wr.heap.size wr, W.val.cell? ⟨b2, o2 + k * 5 + 3, none⟩ = some (.string ⟨s2.toArray⟩) := fun W => (W.prop.cell (p := ⟨b2, _, none⟩) hz1).trans y3
      have f4 : ∀ W : Ext wr.heap.size wr, W.val.cell? ⟨b2, o2 + k * 5 + 4, none⟩ = some (.slice a2' l2' c2') := fun W => (W.prop.cell (p := ⟨b2, _, none⟩) hz1).trans y4
      have q1 : ∀ W : Ext wr.heap.size wr, Calls Tryd.prog 43 #[.agg #[.int .i64 tg, .int .i64 kd, .int .i64 n, .string ⟨s.toArray⟩, .slice a' l' c'], .agg #[.int .i64 tg2, .int .i64 kd2, .int .i64 n2, .string ⟨s2.toArray⟩, .slice a2' l2' c2']] W.val fun e w'' => e = .returned (.bool true) ∧ ∃ W' : Ext wr.heap.size wr, w'' = W'.val := fun W => Calls.ext W (requal_t (depT t) t _ _ W.val (Nat.le_refl _) (HN1.out.below W.prop) (HN2.out.below W.prop))
      clear x0 x1 x2 x3 x4 y0 y1 y2 y3 y4
      go_wp2_with fail
      refine wp_region_ext wr.heap.size wr (by kernel_rfl) (by kernel_rfl) (Below.refl _ _) ?_
      repeat (first | go_big_quiet_step (first
        | with_reducible exact q1 _))
      refine wpQuiet_nil ?_
      intro W
      have hb5 : Below w.heap.size w W.val := hb.trans (W.prop.mono hb.size)
      generalize W.val = w5 at *
      go_wp2_with fail
      go_roundw
      case rel => exact ⟨k + 1, by omega, by go_num, hb5⟩
      case measure => simp [intOf]; omega
    · go_wp2_with fail
      go_ret
      exact ⟨rfl, hb⟩

/-! ### what the journal's functions return, the plain answer written out -/
theorem read_fix {log : List UInt8} {ts : List NodeT} {n k : Nat} {d : UInt64} {x : Int} (hr : rdJ log = ⟨ts, n, d, x⟩) (hk : ts.length = k) (a : Option Addr) (len cap : Nat) (w : World) (hx : Bytes w a len cap log) (hg : ErrT w) :
    Calls Tryd.prog 17 #[.slice a len cap] w fun e w' => ∃ b c, e = .returned (.tuple #[.slice b k c, .int .i64 (n : Int), .int .i64 x]) ∧ Kids w' b k c ts ∧ Below w.heap.size w w' := by
  have h := read_any log a len cap w hx hg
  rw [hr] at h
  subst hk
  exact h
theorem count_fix {log : List UInt8} {ts : List NodeT} {n k : Nat} {d : UInt64} {x : Int} (hr : rdJ log = ⟨ts, n, d, x⟩) (hk : ts.length = k) (a : Option Addr) (len cap : Nat) (w : World) (hx : Bytes w a len cap log) (hg : ErrT w) :
    Calls Tryd.prog 23 #[.slice a len cap] w fun e w' => e = .returned (.int .i64 (k : Int)) ∧ Below w.heap.size w w' := by
  have h := jcount_any log a len cap w hx hg
  rw [hr] at h
  subst hk
  exact h
theorem last_ok {log : List UInt8} {ts : List NodeT} {n : Nat} {d : UInt64} (hr : rdJ log = ⟨ts, n, d, 0⟩) (a : Option Addr) (len cap : Nat) (w : World) (hx : Bytes w a len cap log) (hg : ErrT w) :
    Calls Tryd.prog 19 #[.slice a len cap] w fun e w' => e = .returned (.tuple #[.int .u64 d.toNat, .int .i64 0]) ∧ Below w.heap.size w w' := by
  have h := last_any log a len cap w hx hg
  have e : lastJ log = d := by unfold lastJ; rw [hr]; rfl
  rw [hr, e] at h
  exact h
theorem last_no {log : List UInt8} {ts : List NodeT} {n : Nat} {d : UInt64} {x : Int} (hr : rdJ log = ⟨ts, n, d, x⟩) (hx0 : x ≠ 0) (a : Option Addr) (len cap : Nat) (w : World) (hx : Bytes w a len cap log) (hg : ErrT w) :
    Calls Tryd.prog 19 #[.slice a len cap] w fun e w' => e = .returned (.tuple #[.int .u64 0, .int .i64 x]) ∧ Below w.heap.size w w' := by
  have h := last_any log a len cap w hx hg
  have e : lastJ log = 0 := by unfold lastJ; rw [hr]; exact if_neg hx0
  rw [hr, e] at h
  exact h
theorem trim_fix {log : List UInt8} {ts : List NodeT} {n : Nat} {d : UInt64} {x : Int} (hr : rdJ log = ⟨ts, n, d, x⟩) (a : Option Addr) (len cap : Nat) (w : World) (hx : Bytes w a len cap log) (hg : ErrT w) :
    Calls Tryd.prog 27 #[.slice a len cap] w fun e w' => ∃ b c, e = .returned (.slice b n c) ∧ Bytes w' b n c (log.take n) ∧ Below w.heap.size w w' := by
  have h := trim_any log a len cap w hx hg
  rw [hr] at h
  exact h
theorem append_own {log out : List UInt8} {t : NodeT} (hr : appJ log t = .ok out) (v : Value) (a : Option Addr) (len cap : Nat) (w : World) (hx : Bytes w a len cap log) (hN : NodeIn w t v) (hi : i64T t) (hg : ErrT w) :
    Calls Tryd.prog 9 #[.slice a len cap, v] w fun e w' => ∃ b c, e = .returned (.tuple #[.slice b out.length c, .int .i64 0]) ∧ Owns w' w.heap.size 5 (.slice b out.length c) (bvs out) ∧ Below w.heap.size w w' := by
  have h := append_any log t v a len cap w hx hN hi hg
  rw [hr] at h
  refine h.mono ?_
  rintro e w' ⟨b, n, c, rfl, hO, hb⟩
  obtain ⟨_, _, _, e, hB⟩ := hO.bytes
  cases e
  obtain rfl := hB.1
  exact ⟨b, c, rfl, hO, hb⟩
theorem append_ok {log out : List UInt8} {t : NodeT} (hr : appJ log t = .ok out) (v : Value) (a : Option Addr) (len cap : Nat) (w : World) (hx : Bytes w a len cap log) (hN : NodeIn w t v) (hi : i64T t) (hg : ErrT w) :
    Calls Tryd.prog 9 #[.slice a len cap, v] w fun e w' => ∃ b c, e = .returned (.tuple #[.slice b out.length c, .int .i64 0]) ∧ Bytes w' b out.length c out ∧ Below w.heap.size w w' := by
  refine (append_own hr v a len cap w hx hN hi hg).mono ?_
  rintro e w' ⟨b, c, rfl, hO, hb⟩
  obtain ⟨_, _, _, e, hB⟩ := hO.bytes
  cases e
  exact ⟨b, c, rfl, hB, hb⟩
end Go.Proofs.YthbfmioikbphgaaDoor
