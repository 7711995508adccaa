/- The reference of the journal: number, bytes, copied, Extends. -/
import Derived.Test.YthbfmioikbphgaaDoorJoA
import Derived.Test.YthbfmioikbphgaaDoorDigR
namespace Go.Proofs.YthbfmioikbphgaaDoor
set_option maxRecDepth 100000
open Go.RowKit

theorem beList_drop (v : UInt64) : ∀ (n j : Nat), j < n → (beList v n).drop j = byteAt v (n - 1 - j) :: (beList v n).drop (j + 1)
  | 0, j, h => by omega
  | n + 1, 0, _ => by simp [beList]
  | n + 1, j + 1, h => by
    have ih := beList_drop v n j (by omega)
    simp only [beList, List.drop_succ_cons]
    rw [ih, show n + 1 - 1 - (j + 1) = n - 1 - j by omega]
theorem fill49 (v : UInt64) (n j : Nat) (h : j < n) : (List.replicate (j + 1) 0 ++ (beList v n).drop (j + 1)).set j (byteAt v (n - 1 - j)) = List.replicate j 0 ++ (beList v n).drop j := by
  rw [beList_drop v n j h, List.replicate_succ', List.append_assoc, List.set_append, if_neg (by simp), List.length_replicate, Nat.sub_self]
  rfl
theorem tdiv49 (n : UInt64) (m : Nat) : IntKind.u64.wrap (((n.toNat : Int) / 2 ^ (8 * m)).tdiv 256) = (n.toNat : Int) / 2 ^ (8 * (m + 1)) := by
  have e1 : ((n.toNat : Int) / 2 ^ (8 * m)) = ((n.toNat / 2 ^ (8 * m) : Nat) : Int) := by simp
  have e2 : ((n.toNat : Int) / 2 ^ (8 * (m + 1))) = ((n.toNat / 2 ^ (8 * m) / 256 : Nat) : Int) := by
    rw [Nat.div_div_eq_div_mul, show 8 * (m + 1) = 8 * m + 8 by omega, Int.pow_add]; simp
  rw [e1, e2, IntKind.wrap_u64]
  have h := n.toNat_lt
  have h2 : n.toNat / 2 ^ (8 * m) ≤ n.toNat := Nat.div_le_self _ _
  generalize n.toNat / 2 ^ (8 * m) = x at *
  rw [Int.tdiv_eq_ediv_of_nonneg (by omega)]
  omega

set_option maxHeartbeats 1000000 in
theorem rbytes_any (v : UInt64) (n : Nat) (w : World) (h8 : n ≤ 8) (hn : 0 < n) :
    Calls Tryd.prog 37 #[.int .u64 v.toNat, .int .i64 (n : Int)] w fun e w' => ∃ b c, e = .returned (.slice b n c) ∧ Owns w' w.heap.size 5 (.slice b n c) (bvs (beList v n)) ∧ Below w.heap.size w w' := by
  go_enter Tryd.func37, Tryd.ntmps37
  go_wp2_with (at_make; refine wpList_mkn rfl _ _ 22 rfl 5 (.int .u8 0) 1 Tryd.underlying22 infoByte rfl _ _ _ _ n rfl rfl rfl rfl (by omega) (by simp only [maxLen]; omega) fun w1 h1 h2 => ?_)
  have HO := Lib.hid h1
  have HB := Lib.hid h2
  clear h1 h2
  go_loopw [0, 6] (fun u i wr => ∃ k : Nat, k ≤ n ∧ i = .int .i64 ((k : Int) - 1) ∧ u = .int .u64 ((v.toNat : Int) / 2 ^ (8 * (n - k))) ∧ Hid (Owns wr w.heap.size 5 (.slice (some ⟨w.heap.size, 0, none⟩) n n) (bvs (List.replicate k 0 ++ (beList v n).drop k))) ∧ Below w.heap.size w wr) (fun _ i _ => (intOf i + 1).toNat)
  case atStart => exact ⟨n, by omega, rfl, by simp, by
    rw [List.drop_of_length_le (by rw [beList_len]; exact Nat.le_refl _), List.append_nil]
    have e : bvs (List.replicate n 0) = List.replicate n (.int .u8 0) := by simp [bvs, bv]
    rw [e]; exact HO, HB.out⟩
  case round =>
    obtain ⟨k, hk, rfl, rfl, HOr, hb⟩ := hrel
    cases k with
    | succ j =>
      rw [show (((j + 1 : Nat) : Int) - 1) = (j : Int) by omega]
      have c1 := HOr.out.cell j (by omega)
      have c2 := HOr.out.free j
      have HS := Lib.hid (HOr.out.store j (bv (byteAt v (n - 1 - j))))
      rw [bvs_set, fill49 v n j (by omega)] at HS
      rw [show n - (j + 1) = n - 1 - j by omega]
      have hq0 : 0 ≤ (v.toNat : Int) / 2 ^ (8 * (n - 1 - j)) := by exact Int.ediv_nonneg (by omega) (by exact Int.pow_nonneg (by decide))
      generalize (bvs (List.replicate (j + 1) 0 ++ (beList v n).drop (j + 1))).getD j .nilFunc = old at *
      have hjn : j < n := by omega
      go_wp2
      rw [byteAt_mod]
      refine ⟨⟨j, by omega, rfl, int_eq ?_, HS.out, hb.setCell (Nat.le_refl _) _⟩, by simp [intOf]⟩
      rw [tdiv49, show n - 1 - j + 1 = n - j by omega]
    | zero =>
      go_wp2
      go_ret
      exact ⟨_, _, rfl, by simpa using HOr.out, hb⟩

set_option maxHeartbeats 1000000 in
theorem rnum49_any (xs : List UInt8) (n : Nat) (a : Option Addr) (len cap : Nat) (w : World) (hx : Bytes w a len cap xs) (h8 : n ≤ 8) (hn : n ≤ len) :
    Calls Tryd.prog 62 #[.slice a len cap, .int .i64 (n : Int)] w fun e w' => e = .returned (.int .u64 (beN (xs.take n) : Nat)) ∧ w = w' := by
  have HL := Lib.hid hx.1
  have HC := Lib.hid hx.2
  clear hx
  go_enter Tryd.func62, Tryd.ntmps62
  go_wp2_with fail
  go_loop [5, 6] (fun g i => ∃ (k u : Nat), k ≤ n ∧ i = .int .i64 k ∧ g = .int .u64 u ∧ Hid (u = beN (xs.take k)) ∧ u < 256 ^ k) (fun _ i => n - (intOf i).toNat)
  case atStart => exact ⟨0, 0, by omega, rfl, rfl, Lib.hid rfl, by simp⟩
  case round =>
    obtain ⟨k, u, hk, rfl, rfl, HV, hv⟩ := hrel
    by_cases hlt : k < n
    · obtain ⟨b, off, rfl, _, hcc⟩ := HC.out.at (k := k) (by omega)
      have c1 := hcc k (by omega) w (Below.refl _ _)
      have HS := Lib.hid (beN_take (xs := xs) (k := k) (by rw [HL.out]; omega))
      have hp : 256 ^ k ≤ 72057594037927936 := by
        have : (256 : Nat) ^ k ≤ 256 ^ 7 := Nat.pow_le_pow_right (by omega) (by omega)
        exact this
      have hcl := (xs.getD k 0).toNat_lt
      have hnx : u * 256 + (xs.getD k 0).toNat < 256 ^ (k + 1) := by rw [Nat.pow_succ]; omega
      have hkl : k < len := by omega
      clear hcc
      generalize xs.getD k 0 = x at *
      go_wp2_with fail
      go_round
      case rel => exact ⟨k + 1, u * 256 + x.toNat, by omega, by go_num, by go_num, by unfold Hid; rw [HS.out, HV.out], hnx⟩
      case measure => simp [intOf]; omega
    · have HF := Lib.hid (show u = beN (xs.take n) by rw [HV.out, show k = n by omega])
      clear hv
      go_wp2_with fail
      go_ret
      exact ⟨ret_int (by rw [HF.out]), rfl⟩

set_option maxHeartbeats 1000000 in
theorem copied_any (xs : List UInt8) (a : Option Addr) (len cap : Nat) (w : World) (hx : Bytes w a len cap xs) (hm : len ≤ 140737488355000) :
    Calls Tryd.prog 38 #[.slice a len cap] w fun e w' => ∃ b c, e = .returned (.slice b len c) ∧ Owns w' w.heap.size 5 (.slice b len c) (bvs xs) ∧ Below w.heap.size w w' := by
  have HX := Lib.hid hx
  have HL := Lib.hid hx.1
  clear hx
  go_enter Tryd.func38, Tryd.ntmps38
  go_wp2_with fail
  go_loopw [3, 8] (fun u i wr => ∃ k : Nat, k ≤ len ∧ i = .int .i64 k ∧ Hid (Owns wr w.heap.size 5 u (bvs (xs.take k))) ∧ Below w.heap.size w wr) (fun _ i _ => len - (intOf i).toNat)
  case atStart => exact ⟨0, by omega, rfl, Lib.hid (Owns.nil _ _ _), Below.refl _ _⟩
  case round =>
    obtain ⟨k, hk, rfl, HO, hb⟩ := hrel
    by_cases hlt : k < len
    · obtain ⟨b, off, rfl, _, hcc⟩ := HX.out.2.at hlt
      have c1 := hcc k hlt wr hb
      have HT := Lib.hid (take_snoc xs k 0 (by rw [HL.out]; exact hlt))
      have HN := Lib.hid (show ((bvs (xs.take k)).length + 1) * 1 ≤ 140737488355328 ∧ (bvs (xs.take k)).length + 1 ≤ maxLen by
        rw [bvs_length, List.length_take, HL.out]; simp only [maxLen]; omega)
      have hsz := hb.size
      clear hcc
      generalize xs.getD k 0 = q at *
      go_wp2_with (at_builtin; go_must (refine wpList_app1 rfl _ _ 22 rfl w.heap.size 5 (.int .u8 0) 1 Tryd.underlying22 infoByte rfl u3 (bvs (xs.take k)) rfl (.int .u8 q.toNat) rfl HO.out rfl HN.out.1 HN.out.2 hsz fun v' w' h1 h2 => ?_))
      have HO3 := Lib.hid (show Owns w' w.heap.size 5 v' (bvs (xs.take (k + 1))) by rw [HT.out, bvs_append]; exact h1)
      have hb3 := hb.trans (h2.below hsz HO.out.lt)
      clear h1 h2
      go_roundw
      case rel => exact ⟨k + 1, by omega, by go_num, HO3, hb3⟩
      case measure => simp [intOf]; omega
    · have HF := Lib.hid (show Owns wr w.heap.size 5 u3 (bvs xs) by have h := HO.out; rw [List.take_of_length_le (by rw [HL.out]; omega)] at h; exact h)
      obtain ⟨av, mv, cv, rfl, hB⟩ := HF.out.bytes
      obtain rfl : len = mv := by rw [← hB.1, HL.out]
      clear hB HO
      go_wp2_with fail
      go_ret
      exact ⟨_, _, rfl, HF.out, hb⟩

set_option maxHeartbeats 1000000 in
theorem rextends_any (xs ys : List UInt8) (a a2 : Option Addr) (len cap len2 cap2 : Nat) (w : World) (hx : Bytes w a len cap xs) (hy : Bytes w a2 len2 cap2 ys) :
    Calls Tryd.prog 13 #[.slice a len cap, .slice a2 len2 cap2] w fun e w' => e = .returned (.bool (decide (ys <+: xs))) ∧ w = w' := by
  have HX := Lib.hid hx
  have HY := Lib.hid hy
  have hlx := hx.1
  have hly := hy.1
  have hm2 : len2 ≤ 9223372036854775807 := by have h3 := hy.2.1; have h4 := hy.2.2.1; unfold maxLen at h4; omega
  clear hx hy
  by_cases h : len2 ≤ len
  rotate_left
  · have HF := Lib.hid (show decide (ys <+: xs) = false by
      rw [decide_eq_false_iff_not]; intro hp; have := hp.length_le; omega)
    have d0 : decide ((len : Int) < (len2 : Int)) = true := by simp; omega
    go_enter Tryd.func13, Tryd.ntmps13
    go_wp2_with fail
    go_ret
    exact ⟨by rw [HF.out]; rfl, rfl⟩
  have d0 : decide ((len : Int) < (len2 : Int)) = false := by simp; omega
  go_enter Tryd.func13, Tryd.ntmps13
  go_wp2_with fail
  go_loop [14] (fun i => ∃ k : Nat, k ≤ len2 ∧ i = .int .i64 k ∧ Hid (xs.take k = ys.take k)) (fun i => len2 - (intOf i).toNat)
  case atStart => exact ⟨0, by omega, rfl, Lib.hid rfl⟩
  case round =>
    obtain ⟨k, hk, rfl, HT⟩ := hrel
    by_cases hlt : k < len2
    · obtain ⟨b, off, rfl, _, hcc⟩ := HX.out.2.at (k := k) (by omega)
      obtain ⟨b2, off2, rfl, _, hcc2⟩ := HY.out.2.at hlt
      have c1 := hcc k (by omega) w (Below.refl _ _)
      have c2 := hcc2 k hlt w (Below.refl _ _)
      have hkl : k < len := by omega
      have HT1 := Lib.hid (take_snoc xs k 0 (by omega))
      have HT2 := Lib.hid (take_snoc ys k 0 (by omega))
      clear hcc hcc2
      by_cases he : xs.getD k 0 = ys.getD k 0
      · have HT3 := Lib.hid (show xs.take (k + 1) = ys.take (k + 1) by rw [HT1.out, HT2.out, HT.out, he])
        rw [he] at c1
        clear he HT1 HT2
        generalize ys.getD k 0 = q at *
        go_wp2_with fail
        go_round
        case rel => exact ⟨k + 1, by omega, by go_num, HT3⟩
        case measure => simp [intOf]; omega
      · have HF := Lib.hid (show decide (ys <+: xs) = false by
          rw [decide_eq_false_iff_not, List.prefix_iff_eq_take, hly]
          intro hp
          apply he
          have h1 : ys.getD k 0 = (xs.take len2).getD k 0 := congrArg (fun l => l.getD k 0) hp
          rw [h1, List.getD, List.getD, List.getElem?_take_of_lt hlt])
        have hne : xs.getD k 0 ≠ ys.getD k 0 := he
        generalize xs.getD k 0 = q1 at *
        generalize ys.getD k 0 = q2 at *
        have dv : ((q1.toNat : Int) != (q2.toNat : Int)) = true := by simp; exact fun h => hne (UInt8.toNat_inj.1 (by omega))
        have dv' : (q1.toNat != q2.toNat) = true := by simp; exact fun h => hne (UInt8.toNat_inj.1 (by omega))
        clear he hne HT1 HT2
        go_wp2_with fail
        go_ret
        exact ⟨by rw [HF.out]; rfl, rfl⟩
    · have HF := Lib.hid (show decide (ys <+: xs) = true by
        rw [decide_eq_true_eq, List.prefix_iff_eq_take, hly]
        have h := HT.out
        rw [show k = len2 by omega] at h
        rw [h, List.take_of_length_le (by omega)])
      go_wp2_with fail
      go_ret
      exact ⟨by rw [HF.out]; rfl, rfl⟩
end Go.Proofs.YthbfmioikbphgaaDoor
