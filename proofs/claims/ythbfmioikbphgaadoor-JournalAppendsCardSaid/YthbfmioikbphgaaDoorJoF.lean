/- Journals: what Trim, Count, Last, Extends and Append return, in memory. -/
import Derived.Test.YthbfmioikbphgaaDoorJoD
import Derived.Test.YthbfmioikbphgaaDoorJoA
import Derived.Test.YthbfmioikbphgaaDoorCoI
namespace Go.Proofs.YthbfmioikbphgaaDoor
set_option maxRecDepth 100000
open Go.RowKit

theorem eql_nil {P : Program} (w : World) {t e : TypeId} (a : Option Addr) (n c : Nat) (h : P.underlying t = some (.slice e)) : (binOp .eql t (.slice a n c) (.slice none 0 0)).run P w = .ok (.bool a.isNone) w := by
  have h0 : ∀ d : Nat, (Op.equalIn (d + 1) t (.slice a n c) (.slice none 0 0)).run P w = .ok a.isNone w := fun d => by
    cases a <;> simp [Op.equalIn, run_underlying h]
  have h1 : (Op.equal t (.slice a n c) (.slice none 0 0)).run P w = .ok a.isNone w := h0 9999
  simp [binOp, h1]

set_option maxHeartbeats 1000000 in
theorem bclone_any (xs : List UInt8) (a : Option Addr) (len cap : Nat) (w : World) (hx : Bytes w a len cap xs) (hm : len ≤ 140737488355328) :
    Calls Tryd.prog 33 #[.slice a len cap] w fun e w' => ∃ v, e = .returned v ∧ Owns w' w.heap.size 5 v (bvs xs) ∧ Below w.heap.size w w' := by
  have HX := Lib.hid hx
  have HL := Lib.hid hx.1
  cases a with
  | none =>
    have hc : cap = 0 := hx.2.2.2.1 rfl
    have hl : len = 0 := by have := hx.2.1; omega
    subst hc; subst hl
    have HE := Lib.hid (show xs = [] from List.eq_nil_of_length_eq_zero HL.out)
    clear hx
    have hq := eql_nil (P := Tryd.prog) w none 0 0 Tryd.underlying22
    simp only [Option.isNone_none] at hq
    go_enter Tryd.func33, Tryd.ntmps33
    go_wp2_with fail
    go_ret
    exact ⟨_, rfl, by rw [HE.out]; exact Owns.nil _ _ _, Below.refl _ _⟩
  | some ad =>
    clear hx
    have hbx : Below w.heap.size w (w.alloc (.cells #[] 5)) := (Below.refl _ _).alloc (Nat.le_refl _) _
    have HX1 := Lib.hid (HX.out.below hbx)
    have hq := eql_nil (P := Tryd.prog) w (some ad) len cap Tryd.underlying22
    simp only [Option.isNone_some] at hq
    have HO := Lib.hid (owns_lit w w.heap.size 5 [] (by simp) (Nat.le_refl _))
    have hml := HX.out.2.2.1
    have hmc := HX.out.2.1
    go_enter Tryd.func33, Tryd.ntmps33
    go_wp2_with (at_builtin; go_must (refine wpList_app rfl _ _ 22 rfl w.heap.size 5 (.int .u8 0) 1 Tryd.underlying22 infoByte rfl (.slice (some ⟨w.heap.size, 0, none⟩) 0 0) [] rfl HO.out (some ad) len cap (bvs xs) rfl (by rw [bvs_length]; exact HL.out) HX1.out.vals (bvs_one _) (by simp only [List.length_nil]; omega) (by simp only [List.length_nil]; omega) (by simp) fun v1 w1 h1 h2 => ?_))
    have hb1 := hbx.trans ((h2.below (B := w.heap.size) (by simp) (by simp [Value.ownBlock])))
    have H1 := Lib.hid h1
    clear h1 h2
    go_wp2_with fail
    go_ret
    exact ⟨_, rfl, by simpa using H1.out, hb1⟩

theorem bequal_any (xs ys : List UInt8) (a a2 : Option Addr) (len cap len2 cap2 : Nat) (w : World) (hx : Bytes w a len cap xs) (hy : Bytes w a2 len2 cap2 ys) :
    Calls Tryd.prog 53 #[.slice a len cap, .slice a2 len2 cap2] w fun e w' => e = .returned (.bool (decide (xs = ys))) ∧ w = w' := by
  have s1 := str_of hx
  have s2 := str_of hy
  clear hx hy
  go_enter Tryd.func53, Tryd.ntmps53
  go_wp2_with fail
  go_ret
  exact ⟨congrArg (fun b => Ending.returned (.bool b)) (show (xs == ys) = decide (xs = ys) by rw [Bool.eq_iff_iff]; simp), rfl⟩

theorem hasprefix_any (xs ys : List UInt8) (a a2 : Option Addr) (len cap len2 cap2 : Nat) (w : World) (hx : Bytes w a len cap xs) (hy : Bytes w a2 len2 cap2 ys) :
    Calls Tryd.prog 40 #[.slice a len cap, .slice a2 len2 cap2] w fun e w' => e = .returned (.bool (decide (ys <+: xs))) ∧ w = w' := by
  by_cases h : len2 ≤ len
  · have HF := Lib.hid (show decide (xs.take len2 = ys) = decide (ys <+: xs) by
      refine decide_eq_decide.2 ?_
      rw [List.prefix_iff_eq_take, hy.1]; exact eq_comm)
    have HX := Lib.hid (hx.pre len2 h)
    have HY := Lib.hid hy
    have d0 : decide ((len2 : Int) ≤ (len : Int)) = true := by simpa using h
    have hlc := hx.2.1
    clear hx hy
    go_enter Tryd.func40, Tryd.ntmps40
    go_wp2_with fail
    refine (bequal_any _ ys a a2 len2 cap len2 cap2 _ HX.out HY.out).mono ?_
    rintro e w1 ⟨rfl, rfl⟩
    rw [HF.out]
    go_wp2_with fail
    go_ret
    exact ⟨rfl, rfl⟩
  · have HF := Lib.hid (show decide (ys <+: xs) = false by
      rw [decide_eq_false_iff_not]; intro hp; have := hp.length_le; rw [hx.1, hy.1] at this; exact h this)
    have d0 : decide ((len2 : Int) ≤ (len : Int)) = false := by simpa using h
    clear hx hy
    go_enter Tryd.func40, Tryd.ntmps40
    go_wp2_with fail
    go_ret
    exact ⟨by rw [HF.out]; rfl, rfl⟩


theorem extends_any (xs ys : List UInt8) (a a2 : Option Addr) (len cap len2 cap2 : Nat) (w : World) (hx : Bytes w a len cap xs) (hy : Bytes w a2 len2 cap2 ys) :
    Calls Tryd.prog 12 #[.slice a len cap, .slice a2 len2 cap2] w fun e w' => e = .returned (.bool (decide (ys <+: xs))) ∧ w = w' := by
  have HX := Lib.hid hx
  have HY := Lib.hid hy
  clear hx hy
  go_enter Tryd.func12, Tryd.ntmps12
  go_wp2_with fail
  refine (hasprefix_any xs ys _ _ _ _ _ _ _ HX.out HY.out).mono ?_
  rintro e w1 ⟨rfl, rfl⟩
  go_wp2_with fail
  go_ret
  exact ⟨rfl, rfl⟩

theorem jcount_any (log : List UInt8) (a : Option Addr) (len cap : Nat) (w : World) (hx : Bytes w a len cap log) (hg : ErrT w) :
    Calls Tryd.prog 23 #[.slice a len cap] w fun e w' => e = .returned (.int .i64 ((rdJ log).l.length : Nat)) ∧ Below w.heap.size w w' := by
  have HX := Lib.hid hx
  have HG := Lib.hid hg
  clear hx hg
  go_enter Tryd.func23, Tryd.ntmps23
  go_wp2_with fail
  refine (read_any log _ _ _ _ HX.out HG.out).mono ?_
  rintro e w1 ⟨au, cu, rfl, -, hb⟩
  go_wp2_with fail
  go_ret
  exact ⟨rfl, hb⟩

theorem trim_any (log : List UInt8) (a : Option Addr) (len cap : Nat) (w : World) (hx : Bytes w a len cap log) (hg : ErrT w) :
    Calls Tryd.prog 27 #[.slice a len cap] w fun e w' => ∃ b c, e = .returned (.slice b (rdJ log).n c) ∧ Bytes w' b (rdJ log).n c (log.take (rdJ log).n) ∧ Below w.heap.size w w' := by
  have HX := Lib.hid hx
  have HG := Lib.hid hg
  have hl := hx.1
  have hlc := hx.2.1
  have hn : (rdJ log).n ≤ len := by rw [← hl]; exact rd_le log
  have hn2 := rd_bound log
  generalize hnn : (rdJ log).n = n at *
  have HN := Lib.hid hnn
  clear hx hg hnn
  go_enter Tryd.func27, Tryd.ntmps27
  go_wp2_with fail
  refine (read_any log _ _ _ _ HX.out HG.out).mono ?_
  rintro e w1 ⟨au, cu, rfl, -, hb⟩
  rw [HN.out]
  have HX1 := Lib.hid ((HX.out.below hb).pre n hn)
  go_wp2_with fail
  refine (bclone_any _ _ _ _ _ HX1.out (by omega)).mono ?_
  rintro e w2 ⟨v, rfl, hO, hb2⟩
  obtain ⟨b, m, c, rfl, hB⟩ := hO.bytes
  obtain rfl : n = m := by rw [← hB.1, List.length_take]; omega
  have HB := Lib.hid hB
  have hb3 := hb.trans (hb2.mono hb.size)
  clear hO hB
  go_wp2_with fail
  go_ret
  exact ⟨b, c, rfl, HB.out, hb3⟩

/-- what Last returns -/
def lastJ (log : List UInt8) : UInt64 := if (rdJ log).e = 0 then (rdJ log).d else 0
set_option maxHeartbeats 1000000 in
theorem last_any (log : List UInt8) (a : Option Addr) (len cap : Nat) (w : World) (hx : Bytes w a len cap log) (hg : ErrT w) :
    Calls Tryd.prog 19 #[.slice a len cap] w fun e w' => e = .returned (.tuple #[.int .u64 (lastJ log).toNat, .int .i64 (rdJ log).e]) ∧ Below w.heap.size w w' := by
  have HX := Lib.hid hx
  have HG := Lib.hid hg
  clear hx hg
  by_cases h0 : (rdJ log).e = 0
  · have HL := Lib.hid (show lastJ log = endJ log by unfold lastJ; rw [if_pos h0, rd_end h0])
    have HE := Lib.hid h0
    rw [HE.out, HL.out]
    clear h0
    go_enter Tryd.func19, Tryd.ntmps19
    go_wp2_with fail
    refine (read_any log _ _ _ _ HX.out HG.out).mono ?_
    rintro e w1 ⟨au, cu, rfl, -, hb⟩
    rw [HE.out]
    have HX1 := Lib.hid (HX.out.below hb)
    go_wp2_with fail
    refine (end_any log _ _ _ _ HX1.out).mono ?_
    rintro e w2 ⟨rfl, rfl⟩
    go_wp2_with fail
    go_ret2
    exact ⟨rfl, hb⟩
  · have HL := Lib.hid (show lastJ log = 0 by unfold lastJ; rw [if_neg h0])
    rw [HL.out]
    generalize hx : (rdJ log).e = x at *
    have HE := Lib.hid hx
    have d0 : (x != 0) = true := by simpa using h0
    clear hx h0
    go_enter Tryd.func19, Tryd.ntmps19
    go_wp2_with fail
    refine (read_any log _ _ _ _ HX.out HG.out).mono ?_
    rintro e w1 ⟨au, cu, rfl, -, hb⟩
    rw [HE.out]
    go_wp2_with fail
    go_ret2
    exact ⟨rfl, hb⟩

def AP (w : World) : Except Int (List UInt8) → Ending → World → Prop
  | .error x, e, w' => e = .returned (.tuple #[.slice none 0 0, .int .i64 x]) ∧ Below w.heap.size w w'
  | .ok out, e, w' => ∃ b n c, e = .returned (.tuple #[.slice b n c, .int .i64 0]) ∧ Owns w' w.heap.size 5 (.slice b n c) (bvs out) ∧ Below w.heap.size w w'
set_option maxHeartbeats 4000000 in
theorem append_any (log : List UInt8) (t : NodeT) (v : Value) (a : Option Addr) (len cap : Nat) (w : World) (hx : Bytes w a len cap log) (hN : NodeIn w t v) (hi : i64T t) (hg : ErrT w) :
    Calls Tryd.prog 9 #[.slice a len cap, v] w (AP w (appJ log t)) := by
  obtain ⟨tag, kind, n, s, ka, kl, kc, kids, ht, rfl, hs, hk⟩ := hN.form
  have hb0 : Below w.heap.size w (w.alloc (.cells #[.int .i64 tag, .int .i64 kind, .int .i64 n, .string ⟨s.toArray⟩, .slice ka kl kc] 25)) := (Below.refl _ _).alloc (Nat.le_refl _) _
  have HA := Lib.hid (show (w.alloc (.cells #[.int .i64 tag, .int .i64 kind, .int .i64 n, .string ⟨s.toArray⟩, .slice ka kl kc] 25)).heap[w.heap.size]? = some (.cells #[.int .i64 tag, .int .i64 kind, .int .i64 n, .string ⟨s.toArray⟩, .slice ka kl kc] 25) from heap_alloc_new _ _)
  have HX := Lib.hid (hx.below hb0)
  have HG := Lib.hid (hg.below hb0)
  have HN := Lib.hid (hN.below hb0)
  have HI := Lib.hid hi
  have hlx := hx.1
  clear hx hg hN hi hk ht hs
  by_cases h0 : (rdJ log).e = 0
  rotate_left
  · have HE := Lib.hid (show appJ log t = .error (rdJ log).e by unfold appJ; rw [if_pos h0])
    rw [HE.out]
    generalize hx : (rdJ log).e = x at *
    have HX0 := Lib.hid hx
    have d0 : (x != 0) = true := by simpa using h0
    clear hx h0
    go_enter Tryd.func9, Tryd.ntmps9
    go_wp2_with fail
    generalize w.alloc (.cells #[.int .i64 tag, .int .i64 kind, .int .i64 n, .string ⟨s.toArray⟩, .slice ka kl kc] 25) = w0 at *
    refine (read_any log _ _ _ _ HX.out HG.out).mono ?_
    rintro e w1 ⟨au, cu, rfl, -, hb⟩
    rw [HX0.out]
    have hb1 := hb0.trans (hb.mono hb0.size)
    go_wp2_with fail
    go_ret2
    exact ⟨rfl, hb1⟩
  have HR := Lib.hid h0
  by_cases h1 : okT t = true
  rotate_left
  · have h1' : okT t = false := by simpa using h1
    have HO := Lib.hid h1'
    have HE := Lib.hid (show appJ log t = .error 1 by unfold appJ; rw [if_neg (by simpa using h0), if_pos h1'])
    rw [HE.out]
    clear h0 h1 h1'
    go_enter Tryd.func9, Tryd.ntmps9
    go_wp2_with fail
    generalize w.alloc (.cells #[.int .i64 tag, .int .i64 kind, .int .i64 n, .string ⟨s.toArray⟩, .slice ka kl kc] 25) = w0 at *
    refine (read_any log _ _ _ _ HX.out HG.out).mono ?_
    rintro e w1 ⟨au, cu, rfl, -, hb⟩
    rw [HR.out]
    have hb1 := hb0.trans (hb.mono hb0.size)
    have hlw := blk_lt HA.out
    have HA1 := Lib.hid ((hb.block _ hlw).trans HA.out)
    have c0 := blk_cell HA1.out 0
    have c1 := blk_cell HA1.out 1
    have c2 := blk_cell HA1.out 2
    have c3 := blk_cell HA1.out 3
    have c4 := blk_cell HA1.out 4
    simp at c0 c1 c2 c3 c4
    have HN1 := Lib.hid (HN.out.below hb)
    go_wp2_with fail
    refine (valid_any t _ _ HN1.out HI.out).mono ?_
    rintro e w2 ⟨rfl, hb2⟩
    rw [HO.out]
    have hb3 := hb1.trans (hb2.mono hb1.size)
    clear c0 c1 c2 c3 c4
    go_wp2_with fail
    go_ret2
    exact ⟨rfl, hb3⟩
  have HO := Lib.hid h1
  by_cases h2 : 2000 < (encT t).length ∨ 300 ≤ (rdJ log).l.length
  · have HE := Lib.hid (show appJ log t = .error 5 by unfold appJ; rw [if_neg (by simpa using h0), if_neg (by simpa using h1), if_pos h2])
    rw [HE.out]
    generalize hcn : (rdJ log).l.length = cn at *
    have HC := Lib.hid hcn
    clear hcn h0 h1
    go_enter Tryd.func9, Tryd.ntmps9
    go_wp2_with fail
    generalize w.alloc (.cells #[.int .i64 tag, .int .i64 kind, .int .i64 n, .string ⟨s.toArray⟩, .slice ka kl kc] 25) = w0 at *
    refine (read_any log _ _ _ _ HX.out HG.out).mono ?_
    rintro e w1 ⟨au, cu, rfl, -, hb⟩
    rw [HR.out, HC.out]
    have hb1 := hb0.trans (hb.mono hb0.size)
    have hlw := blk_lt HA.out
    have HA1 := Lib.hid ((hb.block _ hlw).trans HA.out)
    have c0 := blk_cell HA1.out 0
    have c1 := blk_cell HA1.out 1
    have c2 := blk_cell HA1.out 2
    have c3 := blk_cell HA1.out 3
    have c4 := blk_cell HA1.out 4
    simp at c0 c1 c2 c3 c4
    have HN1 := Lib.hid (HN.out.below hb)
    go_wp2_with fail
    refine (valid_any t _ _ HN1.out HI.out).mono ?_
    rintro e w2 ⟨rfl, hb2⟩
    rw [HO.out]
    have hb3 := hb1.trans (hb2.mono hb1.size)
    have hlw := blk_lt HA1.out
    clear c0 c1 c2 c3 c4
    have HA2 := Lib.hid ((hb2.block _ hlw).trans HA1.out)
    have c0 := blk_cell HA2.out 0
    have c1 := blk_cell HA2.out 1
    have c2 := blk_cell HA2.out 2
    have c3 := blk_cell HA2.out 3
    have c4 := blk_cell HA2.out 4
    simp at c0 c1 c2 c3 c4
    have HN2 := Lib.hid (HN1.out.below hb2)
    go_wp2_with fail
    refine (encode_ok t _ _ HN2.out HI.out HO.out).mono ?_
    rintro e w3 ⟨ap, np, cp, rfl, hP, hb4⟩
    have hb5 := hb3.trans (hb4.mono hb3.size)
    obtain ⟨_, _, _, hpe, hPB⟩ := hP.bytes
    cases hpe
    have HPB := Lib.hid hPB
    have hpl := hPB.1
    clear c0 c1 c2 c3 c4 hP hPB
    by_cases h3 : 2000 < np
    · have d1 : decide (2000 < (np : Int)) = true := by simp; omega
      have d1' : decide (2000 < np) = true := by simp; omega
      go_wp2_with fail
      go_ret2
      exact ⟨rfl, hb5⟩
    · have d1 : decide (2000 < (np : Int)) = false := by simp; omega
      have d1' : decide (2000 < np) = false := by simp; omega
      have d2 : decide (300 ≤ (cn : Int)) = true := by simp; omega
      have d2' : decide (300 ≤ cn) = true := by simp; omega
      go_wp2_with fail
      go_ret2
      exact ⟨rfl, hb5⟩
  have HE := Lib.hid (show appJ log t = .ok (log ++ entE t (endJ log)) by unfold appJ; rw [if_neg (by simpa using h0), if_neg (by simpa using h1), if_neg h2])
  rw [HE.out]
  have hn1 := rd_zero log
  rw [h0] at hn1
  have hll : log.length ≤ 603600 := by have := rd_bound log; have := hn1.1 rfl; omega
  generalize hcn : (rdJ log).l.length = cn at *
  have HC := Lib.hid hcn
  clear hcn h0 h1 hn1
  go_enter Tryd.func9, Tryd.ntmps9
  go_wp2_with fail
  generalize w.alloc (.cells #[.int .i64 tag, .int .i64 kind, .int .i64 n, .string ⟨s.toArray⟩, .slice ka kl kc] 25) = w0 at *
  refine (read_any log _ _ _ _ HX.out HG.out).mono ?_
  rintro e w1 ⟨au, cu, rfl, -, hb⟩
  rw [HR.out, HC.out]
  have hb1 := hb0.trans (hb.mono hb0.size)
  have hlw := blk_lt HA.out
  have HA1 := Lib.hid ((hb.block _ hlw).trans HA.out)
  have c0 := blk_cell HA1.out 0
  have c1 := blk_cell HA1.out 1
  have c2 := blk_cell HA1.out 2
  have c3 := blk_cell HA1.out 3
  have c4 := blk_cell HA1.out 4
  simp at c0 c1 c2 c3 c4
  have HN1 := Lib.hid (HN.out.below hb)
  go_wp2_with fail
  refine (valid_any t _ _ HN1.out HI.out).mono ?_
  rintro e w2 ⟨rfl, hb2⟩
  rw [HO.out]
  have hb3 := hb1.trans (hb2.mono hb1.size)
  have hlw := blk_lt HA1.out
  clear c0 c1 c2 c3 c4
  have HA2 := Lib.hid ((hb2.block _ hlw).trans HA1.out)
  have c0 := blk_cell HA2.out 0
  have c1 := blk_cell HA2.out 1
  have c2 := blk_cell HA2.out 2
  have c3 := blk_cell HA2.out 3
  have c4 := blk_cell HA2.out 4
  simp at c0 c1 c2 c3 c4
  have HN2 := Lib.hid (HN1.out.below hb2)
  go_wp2_with fail
  refine (encode_ok t _ _ HN2.out HI.out HO.out).mono ?_
  rintro e w3 ⟨ap, np, cp, rfl, hP, hb4⟩
  have hb5 := hb3.trans (hb4.mono hb3.size)
  obtain ⟨_, _, _, hpe, hPB⟩ := hP.bytes
  cases hpe
  have HPB := Lib.hid hPB
  have hpl := hPB.1
  clear c0 c1 c2 c3 c4 hP hPB
  have d1 : decide (2000 < (np : Int)) = false := by simp; omega
  have d1' : decide (2000 < np) = false := by simp; omega
  have d2 : decide (300 ≤ (cn : Int)) = false := by simp; omega
  have d2' : decide (300 ≤ cn) = false := by simp; omega
  have hnp : np ≤ 2000 := by omega
  clear h2
  have hw8 : (UInt64.ofNat np).toNat = np := UInt64.toNat_ofNat_of_lt' (show np < 18446744073709551616 by omega)
  have hp := put_any w3.heap.size (UInt64.ofNat np) 4 (.slice none 0 0) [] w3 (Owns.nil _ _ _) (by omega) (by simp) (Nat.le_refl _)
  rw [hw8] at hp
  have HP := Lib.hid hp
  clear hp
  go_wp2_with fail
  refine (HP.out).mono ?_
  rintro e w4 ⟨v4, rfl, hO4, hG4⟩
  have hb34 : Below w3.heap.size w3 w4 := hG4.below (Nat.le_refl _) (by simp [Value.ownBlock])
  have hb6 := hb5.trans (hb34.mono hb5.size)
  have HO4 := Lib.hid hO4
  have HPB4 := Lib.hid (HPB.out.below hb34)
  have hbl4 := beList_len (UInt64.ofNat np) 4
  have hx4 : w3.heap.size ≤ w4.heap.size := hb34.size
  clear hO4 hG4
  go_wp2_with (at_builtin; go_must (refine wpList_app rfl _ _ 22 rfl w3.heap.size 5 (.int .u8 0) 1 Tryd.underlying22 infoByte rfl v4 (bvs ([] ++ beList (UInt64.ofNat np) 4)) rfl HO4.out ap np cp (bvs (encT t)) rfl (by rw [bvs_length]; exact hpl) HPB4.out.vals (bvs_one _) (by rw [bvs_length, List.nil_append, hbl4]; omega) (by rw [bvs_length, List.nil_append, hbl4]; simp only [maxLen]; omega) hx4 fun v5 w5 h1 h2 => ?_))
  have h1' : Owns w5 w3.heap.size 5 v5 (bvs (bodyE t)) := by rw [← bvs_append, List.nil_append] at h1; unfold bodyE; rw [hpl]; exact h1
  obtain ⟨b5, n5, c5, rfl, hB5⟩ := h1'.bytes
  have HN5 := Lib.hid (show n5 = np + 4 by rw [← hB5.1, bodyE_len, hpl])
  have hb45 : Below w3.heap.size w4 w5 := h2.below hx4 HO4.out.lt
  have hb35 := hb34.trans hb45
  have HX5 := Lib.hid ((((HX.out.below hb).below hb2).below hb4).below hb35)
  have HB5 := Lib.hid hB5
  have hb7 := hb5.trans (hb35.mono hb5.size)
  clear h1 h1' h2 hB5
  refine (bclone_any log _ _ _ _ HX5.out (by omega)).mono ?_
  rintro e w6 ⟨v6, rfl, hO6, hb56⟩
  have HO6 := Lib.hid hO6
  have HB6 := Lib.hid (HB5.out.below hb56)
  have hx6 : w5.heap.size ≤ w6.heap.size := hb56.size
  have hb8 := hb7.trans (hb56.mono hb7.size)
  clear hO6
  go_wp2_with (at_builtin; go_must (refine wpList_app rfl _ _ 22 rfl w5.heap.size 5 (.int .u8 0) 1 Tryd.underlying22 infoByte rfl v6 (bvs log) rfl HO6.out b5 n5 c5 (bvs (bodyE t)) rfl (by rw [bvs_length]; exact HB6.out.1) HB6.out.vals (bvs_one _) (by have := HN5.out; rw [bvs_length]; omega) (by have := HN5.out; rw [bvs_length]; simp only [maxLen]; omega) hx6 fun v7 w7 h1 h2 => ?_))
  have hb67 : Below w5.heap.size w6 w7 := h2.below hx6 HO6.out.lt
  have hb57 := hb56.trans hb67
  have HO7 := Lib.hid (show Owns w7 w5.heap.size 5 v7 (bvs (log ++ bodyE t)) by rw [bvs_append]; exact h1)
  have HX7 := Lib.hid (HX5.out.below hb57)
  have HB7 := Lib.hid (HB5.out.below hb57)
  have hb9 := hb7.trans (hb57.mono hb7.size)
  clear h1 h2
  refine (end_any log _ _ _ _ HX7.out).mono ?_
  rintro e w8 ⟨rfl, rfl⟩
  go_wp2_with fail
  refine (chain_any (endJ log) (bodyE t) _ _ _ _ HB7.out).mono ?_
  rintro e w8 ⟨rfl, rfl⟩
  go_wp2_with fail
  refine (put_any w5.heap.size (digChain (endJ log) (bodyE t)) 8 v7 (log ++ bodyE t) w7 HO7.out (by omega) (by rw [List.length_append, bodyE_len]; omega) hb57.size).mono ?_
  rintro e w8 ⟨v8, rfl, hO8, hG8⟩
  have hb78 : Below w5.heap.size w7 w8 := hG8.below hb57.size HO7.out.lt
  have hb10 := hb9.trans (hb78.mono hb7.size)
  have h8' : Owns w8 w5.heap.size 5 v8 (bvs (log ++ entE t (endJ log))) := by unfold entE be8; rw [← List.append_assoc]; exact hO8
  obtain ⟨b8, n8, c8, rfl, -⟩ := h8'.bytes
  have HB8 := Lib.hid (h8'.mono (hb7.size))
  clear hO8 hG8 h8'
  go_wp2_with fail
  go_ret2
  exact ⟨b8, n8, c8, rfl, HB8.out, hb10⟩
end Go.Proofs.YthbfmioikbphgaaDoor
