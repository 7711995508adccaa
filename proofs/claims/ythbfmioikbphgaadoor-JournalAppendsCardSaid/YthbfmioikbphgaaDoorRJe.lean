/- The reference of the journal: Read, Count, Trim, Last, Append. -/
import Derived.Test.YthbfmioikbphgaaDoorRJd
import Derived.Test.YthbfmioikbphgaaDoorJoQ
import Derived.Test.YthbfmioikbphgaaDoorRCoC
namespace Go.Proofs.YthbfmioikbphgaaDoor
set_option maxRecDepth 100000
open Go.RowKit

theorem rrd_fix {log : List UInt8} {ts : List NodeT} {n k : Nat} {d : UInt64} {x : Int} (hr : rdJ log = ⟨ts, n, d, x⟩) (hk : ts.length = k) (a : Option Addr) (len cap : Nat) (w : World) (hx : Bytes w a len cap log) :
    Calls Tryd.prog 35 #[.slice a len cap] w fun e w' => ∃ b c, e = .returned (.tuple #[.slice b k c, .int .i64 (n : Int), .int .u64 d.toNat, .int .i64 x]) ∧ Kids w' b k c ts ∧ Below w.heap.size w w' := by
  have h := rread_any log a len cap w hx
  rw [hr] at h
  subst hk
  exact h
theorem rRead_fix {log : List UInt8} {ts : List NodeT} {n k : Nat} {d : UInt64} {x : Int} (hr : rdJ log = ⟨ts, n, d, x⟩) (hk : ts.length = k) (a : Option Addr) (len cap : Nat) (w : World) (hx : Bytes w a len cap log) :
    Calls Tryd.prog 25 #[.slice a len cap] w fun e w' => ∃ b c, e = .returned (.tuple #[.slice b k c, .int .i64 (n : Int), .int .i64 x]) ∧ Kids w' b k c ts ∧ Below w.heap.size w w' := by
  have HX := Lib.hid hx
  clear hx
  go_enter Tryd.func25, Tryd.ntmps25
  go_wp2_with fail
  refine (rrd_fix hr hk _ _ _ _ HX.out).mono ?_
  rintro e w1 ⟨b, c, rfl, hK, hb⟩
  go_wp2_with fail
  go_ret3
  exact ⟨b, c, rfl, hK, hb⟩
theorem rcount_fix {log : List UInt8} {ts : List NodeT} {n k : Nat} {d : UInt64} {x : Int} (hr : rdJ log = ⟨ts, n, d, x⟩) (hk : ts.length = k) (a : Option Addr) (len cap : Nat) (w : World) (hx : Bytes w a len cap log) :
    Calls Tryd.prog 29 #[.slice a len cap] w fun e w' => e = .returned (.int .i64 (k : Int)) ∧ Below w.heap.size w w' := by
  have HX := Lib.hid hx
  clear hx
  go_enter Tryd.func29, Tryd.ntmps29
  go_wp2_with fail
  refine (rrd_fix hr hk _ _ _ _ HX.out).mono ?_
  rintro e w1 ⟨b, c, rfl, hK, hb⟩
  go_wp2_with fail
  go_ret
  exact ⟨rfl, hb⟩
theorem rlast_ok {log : List UInt8} {ts : List NodeT} {n : Nat} {d : UInt64} (hr : rdJ log = ⟨ts, n, d, 0⟩) (a : Option Addr) (len cap : Nat) (w : World) (hx : Bytes w a len cap log) :
    Calls Tryd.prog 26 #[.slice a len cap] w fun e w' => e = .returned (.tuple #[.int .u64 d.toNat, .int .i64 0]) ∧ Below w.heap.size w w' := by
  have HX := Lib.hid hx
  clear hx
  go_enter Tryd.func26, Tryd.ntmps26
  go_wp2_with fail
  refine (rrd_fix hr rfl _ _ _ _ HX.out).mono ?_
  rintro e w1 ⟨b, c, rfl, hK, hb⟩
  go_wp2_with fail
  go_ret2
  exact ⟨rfl, hb⟩
theorem rlast_no {log : List UInt8} {ts : List NodeT} {n : Nat} {d : UInt64} {x : Int} (hr : rdJ log = ⟨ts, n, d, x⟩) (hx0 : x ≠ 0) (a : Option Addr) (len cap : Nat) (w : World) (hx : Bytes w a len cap log) :
    Calls Tryd.prog 26 #[.slice a len cap] w fun e w' => e = .returned (.tuple #[.int .u64 0, .int .i64 x]) ∧ Below w.heap.size w w' := by
  have HX := Lib.hid hx
  have dx : (x != 0) = true := by simpa using hx0
  clear hx hx0
  go_enter Tryd.func26, Tryd.ntmps26
  go_wp2_with fail
  refine (rrd_fix hr rfl _ _ _ _ HX.out).mono ?_
  rintro e w1 ⟨b, c, rfl, hK, hb⟩
  go_wp2_with fail
  go_ret2
  exact ⟨rfl, hb⟩
theorem rtrim_fix {log : List UInt8} {ts : List NodeT} {n : Nat} {d : UInt64} {x : Int} (hr : rdJ log = ⟨ts, n, d, x⟩) (a : Option Addr) (len cap : Nat) (w : World) (hx : Bytes w a len cap log) :
    Calls Tryd.prog 28 #[.slice a len cap] w fun e w' => ∃ b c, e = .returned (.slice b n c) ∧ Bytes w' b n c (log.take n) ∧ Below w.heap.size w w' := by
  have HX := Lib.hid hx
  have hl := hx.1
  have hlc := hx.2.1
  have hn : n ≤ len := by have h := rd_le log; rw [hr] at h; rw [← hl]; exact h
  have hn2 : n ≤ 603600 := by have h := rd_bound log; rw [hr] at h; exact h
  clear hx
  go_enter Tryd.func28, Tryd.ntmps28
  go_wp2_with fail
  refine (rrd_fix hr rfl _ _ _ _ HX.out).mono ?_
  rintro e w1 ⟨b, c, rfl, hK, hb⟩
  have HX1 := Lib.hid ((HX.out.below hb).pre n hn)
  go_wp2_with fail
  refine (copied_any _ _ _ _ _ HX1.out (by omega)).mono ?_
  rintro e w2 ⟨b2, c2, rfl, hO, hb2⟩
  obtain ⟨_, _, _, he, hB⟩ := hO.bytes
  cases he
  have HB := Lib.hid hB
  have hb3 := hb.trans (hb2.mono hb.size)
  clear hO hB
  go_wp2_with fail
  go_ret
  exact ⟨b2, c2, rfl, HB.out, hb3⟩

def APr (w : World) : Except Int (List UInt8) → Ending → World → Prop
  | .error x, e, w' => e = .returned (.tuple #[.slice none 0 0, .int .i64 x]) ∧ Below w.heap.size w w'
  | .ok out, e, w' => ∃ b n c, e = .returned (.tuple #[.slice b n c, .int .i64 0]) ∧ Bytes w' b n c out ∧ Below w.heap.size w w'
theorem apr_err {w w' : World} {r : Except Int (List UInt8)} {x : Int} {e : Ending} (h : r = .error x) (h1 : e = .returned (.tuple #[.slice none 0 0, .int .i64 x])) (hb : Below w.heap.size w w') : APr w r e w' := by
  subst h; exact ⟨h1, hb⟩
theorem apr_ok {w w' : World} {r : Except Int (List UInt8)} {out : List UInt8} {b : Option Addr} {n c : Nat} {e : Ending} (h : r = .ok out) (h1 : e = .returned (.tuple #[.slice b n c, .int .i64 0])) (hB : Bytes w' b n c out) (hb : Below w.heap.size w w') : APr w r e w' := by
  subst h; exact ⟨b, n, c, h1, hB, hb⟩
set_option maxHeartbeats 8000000 in
theorem rappend_any (log : List UInt8) (t : NodeT) (v : Value) (a : Option Addr) (len cap : Nat) (w : World) (hx : Bytes w a len cap log) (hN : NodeIn w t v) (hi : i64T t) :
    Calls Tryd.prog 10 #[.slice a len cap, v] w (APr w (appJ log t)) := by
  obtain ⟨tag, kind, n, s, ka, kl, kc, kids, ht, rfl, hs, hk⟩ := hN.form
  have hb0 : Below w.heap.size w (w.alloc (.cells #[.int .i64 tag, .int .i64 kind, .int .i64 n, .string ⟨s.toArray⟩, .slice ka kl kc] 25)) := (Below.refl _ _).alloc (Nat.le_refl _) _
  have HA := Lib.hid (show (w.alloc (.cells #[.int .i64 tag, .int .i64 kind, .int .i64 n, .string ⟨s.toArray⟩, .slice ka kl kc] 25)).heap[w.heap.size]? = some (.cells #[.int .i64 tag, .int .i64 kind, .int .i64 n, .string ⟨s.toArray⟩, .slice ka kl kc] 25) from heap_alloc_new _ _)
  have HX := Lib.hid (hx.below hb0)
  have HN := Lib.hid (hN.below hb0)
  have HI := Lib.hid hi
  have hll : (rdJ log).e = 0 → log.length ≤ 603600 := fun h => by have h1 := (rd_zero log).1 h; have h2 := rd_bound log; omega
  have hend : (rdJ log).e = 0 → endJ log = (rdJ log).d := fun h => rd_end h
  have hap : appJ log t = if (rdJ log).e ≠ 0 then .error (rdJ log).e else if okT t = false then .error 1 else if 2000 < (encT t).length ∨ 300 ≤ (rdJ log).l.length then .error 5 else .ok (log ++ entE t (endJ log)) := rfl
  clear hx hN hi hk ht hs
  generalize hr : rdJ log = R at *
  obtain ⟨ts, m, d, x⟩ := R
  simp only at hll hend hap
  generalize hcn : ts.length = cn at *
  have HCn := Lib.hid hcn
  have HR := Lib.hid hr
  clear hr hcn
  by_cases h0 : x = 0
  rotate_left
  · have HE := Lib.hid (show appJ log t = .error x by rw [hap, if_pos h0])
    have d0 : (x != 0) = true := by simpa using h0
    clear hap h0 hll hend
    go_enter Tryd.func10, Tryd.ntmps10
    go_wp2_with fail
    generalize w.alloc (.cells #[.int .i64 tag, .int .i64 kind, .int .i64 n, .string ⟨s.toArray⟩, .slice ka kl kc] 25) = w0 at *
    refine (rrd_fix HR.out HCn.out _ _ _ _ HX.out).mono ?_
    rintro e w1 ⟨au, cu, rfl, -, hb⟩
    have hb1 := hb0.trans (hb.mono hb0.size)
    go_wp2_with fail
    go_ret2
    exact apr_err HE.out rfl hb1
  subst h0
  rw [if_neg (by simp)] at hap
  have hll := hll rfl
  have hend := hend rfl
  by_cases h1 : okT t = true
  rotate_left
  · have h1' : okT t = false := by simpa using h1
    have HO := Lib.hid h1'
    have HE := Lib.hid (show appJ log t = .error 1 by rw [hap, if_pos h1'])
    clear hap h1 h1' hend
    go_enter Tryd.func10, Tryd.ntmps10
    go_wp2_with fail
    generalize w.alloc (.cells #[.int .i64 tag, .int .i64 kind, .int .i64 n, .string ⟨s.toArray⟩, .slice ka kl kc] 25) = w0 at *
    refine (rrd_fix HR.out HCn.out _ _ _ _ HX.out).mono ?_
    rintro e w1 ⟨au, cu, rfl, -, hb⟩
    have hb1 := hb0.trans (hb.mono hb0.size)
    have hlw := blk_lt HA.out
    have HA1 := Lib.hid ((hb.block _ hlw).trans HA.out)
    have c0 := blk_cell HA1.out 0
    have c1 := blk_cell HA1.out 1
    have c2 := blk_cell HA1.out 2
    have c3 := blk_cell HA1.out 3
    have c4 := blk_cell HA1.out 4
    simp at c0 c1 c2 c3 c4
    have HN1 := Lib.hid (HN.out.below hb)
    go_wp2_with fail
    refine (rencode_no t _ _ HN1.out HI.out HO.out).mono ?_
    rintro e w2 ⟨rfl, hb2⟩
    have hb3 := hb1.trans (hb2.mono hb1.size)
    clear c0 c1 c2 c3 c4
    go_wp2_with fail
    go_ret2
    exact apr_err HE.out rfl hb3
  have HO := Lib.hid h1
  rw [if_neg (by simpa using h1)] at hap
  by_cases h2 : 2000 < (encT t).length ∨ 300 ≤ cn
  · have HE := Lib.hid (show appJ log t = .error 5 by rw [hap, if_pos h2])
    clear hap h1 hend
    go_enter Tryd.func10, Tryd.ntmps10
    go_wp2_with fail
    generalize w.alloc (.cells #[.int .i64 tag, .int .i64 kind, .int .i64 n, .string ⟨s.toArray⟩, .slice ka kl kc] 25) = w0 at *
    refine (rrd_fix HR.out HCn.out _ _ _ _ HX.out).mono ?_
    rintro e w1 ⟨au, cu, rfl, -, hb⟩
    have hb1 := hb0.trans (hb.mono hb0.size)
    have hlw := blk_lt HA.out
    have HA1 := Lib.hid ((hb.block _ hlw).trans HA.out)
    have c0 := blk_cell HA1.out 0
    have c1 := blk_cell HA1.out 1
    have c2 := blk_cell HA1.out 2
    have c3 := blk_cell HA1.out 3
    have c4 := blk_cell HA1.out 4
    simp at c0 c1 c2 c3 c4
    have HN1 := Lib.hid (HN.out.below hb)
    go_wp2_with fail
    refine (rencode_ok t _ _ HN1.out HI.out HO.out).mono ?_
    rintro e w3 ⟨ap, np, cp, rfl, hP, hb4⟩
    have hb5 := hb1.trans (hb4.mono hb1.size)
    obtain ⟨_, _, _, hpe, hPB⟩ := hP.bytes
    cases hpe
    have hpl := hPB.1
    clear c0 c1 c2 c3 c4 hP hPB
    by_cases h3 : 2000 < np
    · have d1 : decide (2000 < (np : Int)) = true := by simp; omega
      have d1' : decide (2000 < np) = true := by simp; omega
      go_wp2_with fail
      go_ret2
      exact apr_err HE.out rfl hb5
    · have d1 : decide (2000 < (np : Int)) = false := by simp; omega
      have d1' : decide (2000 < np) = false := by simp; omega
      have d2 : decide (300 ≤ (cn : Int)) = true := by simp; omega
      have d2' : decide (300 ≤ cn) = true := by simp; omega
      go_wp2_with fail
      go_ret2
      exact apr_err HE.out rfl hb5
  have HE := Lib.hid (show appJ log t = .ok (log ++ entE t d) by rw [hap, if_neg h2, hend])
  clear hap h1 hend
  go_enter Tryd.func10, Tryd.ntmps10
  go_wp2_with fail
  generalize w.alloc (.cells #[.int .i64 tag, .int .i64 kind, .int .i64 n, .string ⟨s.toArray⟩, .slice ka kl kc] 25) = w0 at *
  refine (rrd_fix HR.out HCn.out _ _ _ _ HX.out).mono ?_
  rintro e w1 ⟨au, cu, rfl, -, hb⟩
  have hb1 := hb0.trans (hb.mono hb0.size)
  have hlw := blk_lt HA.out
  have HA1 := Lib.hid ((hb.block _ hlw).trans HA.out)
  have c0 := blk_cell HA1.out 0
  have c1 := blk_cell HA1.out 1
  have c2 := blk_cell HA1.out 2
  have c3 := blk_cell HA1.out 3
  have c4 := blk_cell HA1.out 4
  simp at c0 c1 c2 c3 c4
  have HN1 := Lib.hid (HN.out.below hb)
  go_wp2_with fail
  refine (rencode_ok t _ _ HN1.out HI.out HO.out).mono ?_
  rintro e w3 ⟨ap, np, cp, rfl, hP, hb4⟩
  have hb5 := hb1.trans (hb4.mono hb1.size)
  obtain ⟨_, _, _, hpe, hPB⟩ := hP.bytes
  cases hpe
  have HPB := Lib.hid hPB
  have hpl := hPB.1
  clear c0 c1 c2 c3 c4 hP hPB
  have d1 : decide (2000 < (np : Int)) = false := by simp; omega
  have d1' : decide (2000 < np) = false := by simp; omega
  have d2 : decide (300 ≤ (cn : Int)) = false := by simp; omega
  have d2' : decide (300 ≤ cn) = false := by simp; omega
  have hnp : np ≤ 2000 := by omega
  clear h2
  have hw8 : (UInt64.ofNat np).toNat = np := UInt64.toNat_ofNat_of_lt' (show np < 18446744073709551616 by omega)
  have hp := rbytes_any (UInt64.ofNat np) 4 w3 (by omega) (by omega)
  rw [hw8] at hp
  have HP := Lib.hid hp
  clear hp
  go_wp2_with fail
  refine (HP.out).mono ?_
  rintro e w4 ⟨b4, c4, rfl, hO4, hb34⟩
  have HO4 := Lib.hid hO4
  have HPB4 := Lib.hid (HPB.out.below hb34)
  have hbl4 := beList_len (UInt64.ofNat np) 4
  have hx4 : w3.heap.size ≤ w4.heap.size := hb34.size
  clear hO4
  go_wp2_with (at_builtin; go_must (refine wpList_app rfl _ _ 22 rfl w3.heap.size 5 (.int .u8 0) 1 Tryd.underlying22 infoByte rfl (.slice b4 4 c4) (bvs (beList (UInt64.ofNat np) 4)) rfl HO4.out ap np cp (bvs (encT t)) rfl (by rw [bvs_length]; exact hpl) HPB4.out.vals (bvs_one _) (by rw [bvs_length, hbl4]; omega) (by rw [bvs_length, hbl4]; simp only [maxLen]; omega) hx4 fun v5 w5 h1 h2 => ?_))
  have h1' : Owns w5 w3.heap.size 5 v5 (bvs (bodyE t)) := by rw [← bvs_append] at h1; unfold bodyE; rw [hpl]; exact h1
  obtain ⟨b5, n5, c5, rfl, hB5⟩ := h1'.bytes
  have HN5 := Lib.hid (show n5 = np + 4 by rw [← hB5.1, bodyE_len, hpl])
  have hb45 : Below w3.heap.size w4 w5 := h2.below hx4 HO4.out.lt
  have hb35 := hb34.trans hb45
  have HX5 := Lib.hid (((HX.out.below hb).below hb4).below hb35)
  have HB5 := Lib.hid hB5
  have hb7 := hb5.trans (hb35.mono hb5.size)
  have hlen5 : len ≤ 603600 := by have := HX5.out.1; omega
  clear h1 h1' h2 hB5
  refine (copied_any log _ _ _ _ HX5.out (by omega)).mono ?_
  rintro e w6 ⟨b6, c6, rfl, hO6, hb56⟩
  have HO6 := Lib.hid hO6
  have HB6 := Lib.hid (HB5.out.below hb56)
  have hx6 : w5.heap.size ≤ w6.heap.size := hb56.size
  clear hO6
  go_wp2_with (at_builtin; go_must (refine wpList_app rfl _ _ 22 rfl w5.heap.size 5 (.int .u8 0) 1 Tryd.underlying22 infoByte rfl (.slice b6 len c6) (bvs log) rfl HO6.out b5 n5 c5 (bvs (bodyE t)) rfl (by rw [bvs_length]; exact HB6.out.1) HB6.out.vals (bvs_one _) (by have := HN5.out; rw [bvs_length]; omega) (by have := HN5.out; rw [bvs_length]; simp only [maxLen]; omega) hx6 fun v7 w7 h1 h2 => ?_))
  have hb67 : Below w5.heap.size w6 w7 := h2.below hx6 HO6.out.lt
  have hb57 := hb56.trans hb67
  have HO7 := Lib.hid (show Owns w7 w5.heap.size 5 v7 (bvs (log ++ bodyE t)) by rw [bvs_append]; exact h1)
  have HB7 := Lib.hid (HB5.out.below hb57)
  have hb9 := hb7.trans (hb57.mono hb7.size)
  clear h1 h2
  refine (ref_chain_any d (bodyE t) _ _ _ _ HB7.out).mono ?_
  rintro e w8 ⟨rfl, rfl⟩
  go_wp2_with fail
  refine (rbytes_any (digChain d (bodyE t)) 8 w7 (by omega) (by omega)).mono ?_
  rintro e w8 ⟨b8, c8, rfl, hO8, hb78⟩
  obtain ⟨_, _, _, he8, hB8⟩ := hO8.bytes
  cases he8
  have HB8 := Lib.hid hB8
  have HO78 := Lib.hid (HO7.out.later hb78)
  have hx8 : w5.heap.size ≤ w8.heap.size := Nat.le_trans hb57.size hb78.size
  have hlb : (bodyE t).length = np + 4 := by rw [bodyE_len, hpl]
  have hb10 := hb9.trans (hb78.mono hb9.size)
  clear hO8 hB8
  go_wp2_with (at_builtin; go_must (refine wpList_app rfl _ _ 22 rfl w5.heap.size 5 (.int .u8 0) 1 Tryd.underlying22 infoByte rfl v7 (bvs (log ++ bodyE t)) rfl HO78.out b8 8 c8 (bvs (beList (digChain d (bodyE t)) 8)) rfl (by rw [bvs_length]; exact HB8.out.1) HB8.out.vals (bvs_one _) (by rw [bvs_length, List.length_append, hlb]; omega) (by rw [bvs_length, List.length_append, hlb]; simp only [maxLen]; omega) hx8 fun v9 w9 h1 h2 => ?_))
  have hb89 : Below w5.heap.size w8 w9 := h2.below hx8 HO78.out.lt
  have hb11 := hb10.trans (hb89.mono hb7.size)
  have h9' : Owns w9 w5.heap.size 5 v9 (bvs (log ++ entE t d)) := by unfold entE be8; rw [← List.append_assoc, bvs_append]; exact h1
  obtain ⟨b9, n9, c9, rfl, hB9⟩ := h9'.bytes
  have HB9 := Lib.hid hB9
  clear h1 h2 h9' hB9
  go_wp2_with fail
  go_ret2
  exact apr_ok HE.out rfl HB9.out hb11
end Go.Proofs.YthbfmioikbphgaaDoor
