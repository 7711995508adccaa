/- Natural numbers: what the reference's Sub, Mul and short return, for all limbs. Condition: the limbs can be read, and take at most 2^46 bytes. -/
import Derived.Test.YtahmndacoanfiaaGreatNatR
namespace Go.Proofs.YtahmndacoanfiaaGreat
set_option maxRecDepth 100000
open Go.RowKit

theorem rsub_less (X Y : List Nat) (a a' : Option Addr) (len cap len' cap' : Nat) (w : World) (hx : Limbs w a len cap X) (hy : Limbs w a' len' cap' Y) (hlt : natOf X < natOf Y) :
    Calls Tryz.prog 98 #[.slice a len cap, .slice a' len' cap'] w fun e w' => e = .returned (.tuple #[.slice none 0 0, .bool false]) ∧ w = w' := by
  have HX := Lib.hid hx
  have HY := Lib.hid hy
  have HC := Lib.hid (cmpI_lt hlt)
  clear hx hy
  go_enter Tryz.func98, Tryz.ntmps98
  go_wp2_with fail
  refine (rcmp_any _ _ _ _ _ _ _ _ _ HX.out HY.out).mono ?_
  rintro e w1 ⟨rfl, rfl⟩
  rw [HC.out]
  go_wp2_with fail
  go_ret2
  exact ⟨rfl, rfl⟩

theorem rsub_end {P Q zs : List Nat} {n c : Nat} (hz : Lim zs) (hzl : zs.length = n) (hP : P.length = n) (hle : natOf Q ≤ natOf P) (hPl : Lim P) (h : natOf zs + natOf (Q.take n) = natOf (P.take n) + 4294967296 ^ n * c) :
    natOf (zs ++ List.replicate (n - n) 0) = natOf P - natOf Q := by
  rw [Nat.sub_self, List.replicate_zero, List.append_nil]
  have h1 := natOf_lt hPl
  rw [hP] at h1
  have e := natOf_append (Q.take n) (Q.drop n)
  rw [List.take_append_drop, List.length_take] at e
  have hQn : natOf (Q.take n) = natOf Q := by
    by_cases hn : n ≤ Q.length
    · rw [Nat.min_eq_left hn] at e
      rcases Nat.eq_zero_or_pos (natOf (Q.drop n)) with h0 | h0
      · rw [h0] at e; omega
      · have : 4294967296 ^ n * 1 ≤ 4294967296 ^ n * natOf (Q.drop n) := Nat.mul_le_mul_left _ h0
        omega
    · rw [List.take_of_length_le (by omega)]
  rw [hQn, List.take_of_length_le (by omega)] at h
  have h2 := natOf_lt hz
  rw [hzl] at h2
  rcases Nat.eq_zero_or_pos c with h0 | h0
  · subst h0; omega
  · have : 4294967296 ^ n * 1 ≤ 4294967296 ^ n * c := Nat.mul_le_mul_left _ h0
    omega

set_option maxHeartbeats 1000000 in
theorem rsub_new (P Q : List Nat) (a a' : Option Addr) (len cap len' cap' : Nat) (w : World) (hx : Limbs w a len cap P) (hy : Limbs w a' len' cap' Q) (hm1 : len * 4 ≤ 140737488355328) (hge : natOf Q ≤ natOf P) :
    Calls Tryz.prog 98 #[.slice a len cap, .slice a' len' cap'] w fun e w' => ∃ v, e = .returned (.tuple #[v, .bool true]) ∧ (Num w' v (natOf P - natOf Q) ∧ New w.heap.size v) ∧ Below w.heap.size w w' := by
  have HX := Lib.hid hx
  have HY := Lib.hid hy
  have HC := Lib.hid (show decide (cmpI (natOf P) (natOf Q) < 0) = false by
    rcases cmpI_cases (natOf P) (natOf Q) with ⟨h, h'⟩ | ⟨h, h'⟩ | ⟨h, h'⟩
    · omega
    · rw [h]; rfl
    · rw [h]; rfl)
  have HG := Lib.hid hge
  clear hx hy hge
  go_enter Tryz.func98, Tryz.ntmps98
  go_wp2_with fail
  refine (rcmp_any _ _ _ _ _ _ _ _ _ HX.out HY.out).mono ?_
  rintro e w1 ⟨rfl, rfl⟩
  have hcn := HC.out
  generalize cmpI (natOf P) (natOf Q) = cv at *
  go_wp2_with (at_make; refine wpList_mkn rfl _ _ 24 rfl 67 (.int .u32 0) 4 Tryz.underlying24 infoLimb rfl _ _ _ _ len rfl rfl rfl rfl (by omega) (by simp only [maxLen]; omega) fun w1 h1 h2 => ?_)
  have HO := Lib.hid h1
  clear h1 hcn
  go_wp2_with fail
  go_loopw [7, 8] (fun c i wr => ∃ (k cc : Nat) (zs : List Nat), k ≤ len ∧ i = .int .i64 k ∧ c = .int .u64 cc ∧ cc ≤ 1 ∧ Hid (zs.length = k) ∧ Hid (Lim zs) ∧ Hid (natOf zs + natOf (Q.take k) = natOf (P.take k) + 4294967296 ^ k * cc) ∧ Hid (Owns wr w.heap.size 67 (.slice (some ⟨w.heap.size, 0, none⟩) len len) (lvs (zs ++ List.replicate (len - k) 0))) ∧ Below w.heap.size w wr) (fun _ i _ => len - (intOf i).toNat)
  case atStart => exact ⟨0, 0, [], by omega, rfl, rfl, by omega, rfl, lim_nil, by simp [Hid, natOf], by have := HO.out; simpa [Hid, lvs, lv] using this, h2⟩
  case round =>
    obtain ⟨k, cc, zs, hk, rfl, rfl, hcc1, HZ, HZl, HE, HOk, hb⟩ := hrel
    by_cases hlt : k < len
    · have c4 := HOk.out.free k
      have c3 := HOk.out.cell k (by omega)
      have hx1 := HX.out.2.1.getD k
      have hy1 := HY.out.2.1.getD k
      have hS := HOk.out.store k (lv (P.getD k 0 + 4294967296 * bor (P.getD k 0) (Q.getD k 0) cc - Q.getD k 0 - cc))
      rw [lvs_set] at hS
      have e1 := lset_fill zs (len - k - 1) (P.getD k 0 + 4294967296 * bor (P.getD k 0) (Q.getD k 0) cc - Q.getD k 0 - cc)
      rw [HZ.out, show len - k - 1 + 1 = len - k by omega] at e1
      rw [e1, show len - k - 1 = len - (k + 1) by omega] at hS
      have HS1 := Lib.hid hS
      have HBE := Lib.hid (bor_eq hx1 hy1 hcc1)
      have HE1 := Lib.hid (sub_step HZ.out HE.out HBE.out.1)
      have HBs := Lib.hid (fun v => hb.setCell (p := ⟨w.heap.size, k, none⟩) (Nat.le_refl _) v)
      have HXr := Lib.hid (HX.out.below hb)
      have HYr := Lib.hid (HY.out.below hb)
      clear hS e1
      generalize (lvs (zs ++ List.replicate (len - k) 0)).getD k .nilFunc = old at *
      generalize hX1 : P.getD k 0 = x at *
      generalize hY1 : Q.getD k 0 = y at *
      have HX1 := Lib.hid hX1
      have HY1 := Lib.hid hY1
      clear hX1 hY1
      go_wp2_with fail
      refine (rlimb_any P _ _ _ k x _ HXr.out HX1.out).mono ?_
      rintro e w1 ⟨rfl, rfl⟩
      go_wp2_with fail
      refine (rlimb_any Q _ _ _ k y _ HYr.out HY1.out).mono ?_
      rintro e w1 ⟨rfl, rfl⟩
      by_cases hb1 : x < y + cc
      · have HB1 := Lib.hid (show bor x y cc = 1 by simp [bor, hb1])
        rw [HB1.out] at HS1 HE1 HBE
        have HFm := Lib.hid (show ((x : Int) + 4294967296 - (y + cc)) = (x + 4294967296 * 1 - y - cc : Nat) by omega)
        go_wp2_with fail
        rw [HFm.out]
        go_roundw
        case rel => exact ⟨k + 1, 1, zs ++ [x + 4294967296 * 1 - y - cc], by omega, by go_num, rfl, by omega, by unfold Hid; simp [HZ.out], HZl.out.snoc HBE.out.2, HE1, HS1, HBs.out _⟩
        case measure => simp [intOf]; omega
      · have HB1 := Lib.hid (show bor x y cc = 0 by simp [bor, hb1])
        rw [HB1.out] at HS1 HE1 HBE
        have HFm := Lib.hid (show ((x : Int) - (y + cc)) = (x + 4294967296 * 0 - y - cc : Nat) by omega)
        go_wp2_with fail
        rw [HFm.out]
        go_roundw
        case rel => exact ⟨k + 1, 0, zs ++ [x + 4294967296 * 0 - y - cc], by omega, by go_num, rfl, by omega, by unfold Hid; simp [HZ.out], HZl.out.snoc HBE.out.2, HE1, HS1, HBs.out _⟩
        case measure => simp [intOf]; omega
    · obtain rfl : k = len := by omega
      have HL := Lib.hid (HOk.out.limbs' (HZl.out.append (lim_replicate _)))
      have HEnd := Lib.hid (rsub_end HZl.out HZ.out HX.out.1 HG.out HX.out.2.1 HE.out)
      generalize zs ++ List.replicate (k - k) 0 = Z at *
      go_wp2_with fail
      refine (rnorm_numN _ _ _ _ _ _ w.heap.size HL.out HEnd.out (by omega) hb.size).mono ?_
      rintro e w2 ⟨v, rfl, hN, hb2⟩
      have HNum := Lib.hid hN
      clear hN
      go_wp2_with fail
      go_ret2
      exact ⟨v, rfl, HNum.out, hb.trans (hb2.mono hb.size)⟩

theorem rsub_any (P Q : List Nat) (a a' : Option Addr) (len cap len' cap' : Nat) (w : World) (hx : Limbs w a len cap P) (hy : Limbs w a' len' cap' Q) (hm1 : len * 4 ≤ 140737488355328) (hge : natOf Q ≤ natOf P) :
    Calls Tryz.prog 98 #[.slice a len cap, .slice a' len' cap'] w fun e w' => ∃ v, e = .returned (.tuple #[v, .bool true]) ∧ Num w' v (natOf P - natOf Q) ∧ Below w.heap.size w w' :=
  (rsub_new P Q a a' len cap len' cap' w hx hy hm1 hge).mono fun _ _ ⟨v, h1, h2, h3⟩ => ⟨v, h1, h2.1, h3⟩

set_option maxHeartbeats 1000000 in
theorem rmul_any (P Q : List Nat) (a a' : Option Addr) (n cap m cap' : Nat) (w : World) (hx : Limbs w a n cap P) (hy : Limbs w a' m cap' Q) (hbn : (n + m) * 4 ≤ 281474976710656) :
    Calls Tryz.prog 69 #[.slice a n cap, .slice a' m cap'] w fun e w' => ∃ v, e = .returned v ∧ Num w' v (natOf P * natOf Q) ∧ Below w.heap.size w w' := by
  have HXT := Lib.hid hx
  have HYT := Lib.hid hy
  have HP := Lib.hid hx.1
  have HQ := Lib.hid hy.1
  have HPl := Lib.hid hx.2.1
  have HQl := Lib.hid hy.2.1
  clear hx hy
  go_enter Tryz.func69, Tryz.ntmps69
  go_wp2_with (at_make; refine wpList_mkn rfl _ _ 24 rfl 67 (.int .u32 0) 4 Tryz.underlying24 infoLimb rfl _ _ _ _ (n + m) rfl rfl rfl rfl (by omega) (by simp only [maxLen]; omega) fun w1 h1 h2 => ?_)
  have HO := Lib.hid h1
  clear h1
  go_wp2_with fail
  go_loopw [6] (fun i wr => ∃ (k : Nat) (R : List Nat), k ≤ n ∧ i = .int .i64 k ∧ Hid (R.length = n + m) ∧ Hid (Lim R) ∧ Hid (∀ t, k + m ≤ t → R.getD t 0 = 0) ∧ Hid (natOf R = natOf (P.take k) * natOf Q) ∧ Hid (Owns wr w.heap.size 67 (.slice (some ⟨w.heap.size, 0, none⟩) (n + m) (n + m)) (lvs R)) ∧ Below w.heap.size w wr) (fun i _ => n - (intOf i).toNat)
  case atStart => exact ⟨0, List.replicate (n + m) 0, by omega, rfl, by simp [Hid], lim_replicate _, fun t _ => by simp [List.getD, List.getElem?_replicate]; split <;> rfl, by simp [Hid, natOf, natOf_replicate], by have := HO.out; simpa [Hid, lvs, lv] using this, h2⟩
  case round =>
    obtain ⟨k, R, hk, rfl, HR, HRl, HR0, HE, HOk, hb⟩ := hrel
    by_cases hlt : k < n
    · obtain ⟨b, off, rfl, _, hcc⟩ := HXT.out.2.2.at (k := k) hlt
      have HC1 := Lib.hid (hcc k hlt)
      clear hcc
      have hx1 := HPl.out.getD k
      have HRow := Lib.hid (mul_rows (xs := P) (zs := Q) (i := k))
      generalize P.getD k 0 = x at *
      obtain ⟨wo, rfl⟩ : ∃ wo : World, wo = wr := ⟨_, rfl⟩
      go_wp2_with fail
      go_loopw [7, 8] (fun c i wr => ∃ (j cc : Nat) (S : List Nat), j ≤ m ∧ i = .int .i64 j ∧ c = .int .u64 cc ∧ cc < 4294967296 ∧ Hid (S.length = n + m) ∧ Hid (Lim S) ∧ Hid (∀ t, k + m ≤ t → S.getD t 0 = 0) ∧ Hid (natOf S + 4294967296 ^ (k + j) * cc = natOf R + 4294967296 ^ k * (x * natOf (Q.take j))) ∧ Hid (Owns wr w.heap.size 67 (.slice (some ⟨w.heap.size, 0, none⟩) (n + m) (n + m)) (lvs S)) ∧ Below w.heap.size w wr) (fun _ i _ => m - (intOf i).toNat)
      case atStart => exact ⟨0, 0, R, by omega, rfl, rfl, by omega, HR, HRl, HR0, by simp [Hid, natOf], HOk, hb⟩
      case round =>
        obtain ⟨j, cc, S, hj, rfl, rfl, hcc1, HSn, HSl, HS0, HE1, HOj, hb'⟩ := hrel
        by_cases hjl : j < m
        · obtain ⟨b', off', rfl, _, hcc⟩ := HYT.out.2.2.at (k := j) hjl
          have c2 := hcc j hjl wr hb'
          clear hcc
          have c1 := HC1.out wr hb'
          have hy1 := HQl.out.getD j
          have hp1 := HSl.out.getD (k + j)
          have c3 := HOj.out.cell (k + j) (by omega)
          rw [lvs_at S (k + j) (by rw [HSn.out]; omega)] at c3
          unfold lv at c3
          have c4 := HOj.out.free (k + j)
          have HO4 := Lib.hid (fun nq : Nat => show Owns (wr.drewN nq) w.heap.size 67 (.slice (some ⟨w.heap.size, 0, none⟩) (n + m) (n + m)) (lvs S) from HOj.out.later (below_drewN (Below.refl _ _) nq))
          have hBd := fun nq => below_drewN hb' nq
          have HBd := Lib.hid hBd
          have hS := fun nq => (HO4.out nq).store (k + j) (lv ((x * Q.getD j 0 + S.getD (k + j) 0 + cc) % 4294967296))
          rw [lvs_set] at hS
          rw [show x * Q.getD j 0 + S.getD (k + j) 0 + cc = S.getD (k + j) 0 + x * Q.getD j 0 + cc by omega] at hS
          have HS1 := Lib.hid hS
          have HE2 := Lib.hid (mul_step (t := S.getD (k + j) 0 + x * Q.getD j 0 + cc) (by rw [HSn.out]; omega) (by omega) rfl HE1.out)
          have HBs := Lib.hid (fun nq v => (HBd.out nq).setCell (p := ⟨w.heap.size, k + j, none⟩) (Nat.le_refl _) v)
          have HM := mul_carry hx1 hy1 hp1 hcc1
          rw [show x * Q.getD j 0 + S.getD (k + j) 0 + cc = S.getD (k + j) 0 + x * Q.getD j 0 + cc by omega] at HM
          obtain ⟨q3, q4⟩ := HM
          obtain ⟨q1, q2, _⟩ := mul_bound hx1 hy1 hp1 hcc1
          clear hS hBd
          have HSn' := Lib.hid (show (S.set (k + j) ((S.getD (k + j) 0 + x * Q.getD j 0 + cc) % 4294967296)).length = n + m by rw [List.length_set]; exact HSn.out)
          have HSl' := Lib.hid (HSl.out.set (k + j) ((S.getD (k + j) 0 + x * Q.getD j 0 + cc) % 4294967296) (by omega))
          have HS0' := Lib.hid (show ∀ t, k + m ≤ t → (S.set (k + j) ((S.getD (k + j) 0 + x * Q.getD j 0 + cc) % 4294967296)).getD t 0 = 0 from fun t ht => by rw [getD_set_ne' _ _ _ _ (by omega)]; exact HS0.out t ht)
          generalize S.getD (k + j) 0 = z at *
          generalize Q.getD j 0 = y at *
          go_wp2_with fail
          have p1 : IntKind.i64.wrap ((k : Int) + j) = (k : Int) + j := IntWalk.i64_in _ (by omega)
          have p2 : 0 ≤ (k : Int) + j := by omega
          have p3 : ((k : Int) + j).toNat = k + j := by omega
          have p4 : (k : Int) + j < (n : Int) + m := by omega
          have p5 : IntKind.u64.wrap ((x : Int) * y) = ((x * y : Nat) : Int) := by rw [IntKind.wrap_u64]; omega
          go_quiet (fail)
          clear p1 p2 p3 p4 p5
          go_wp2_with fail
          go_roundw
          case rel => exact ⟨j + 1, (z + x * y + cc) / 4294967296, S.set (k + j) ((z + x * y + cc) % 4294967296), by omega, by go_num, by go_num, q4, HSn', HSl', HS0', HE2, HS1.out _, HBs.out _ _⟩
          case measure => simp [intOf]; omega
        · obtain rfl : j = m := by omega
          have c3 := HOj.out.cell (k + j) (by omega)
          have c4 := HOj.out.free (k + j)
          have hS := HOj.out.store (k + j) (lv cc)
          rw [lvs_set] at hS
          have HS1 := Lib.hid hS
          have HE2 := Lib.hid (mul_row (by rw [HSn.out]; omega) (by rw [HQ.out]; omega) (HS0.out (k + j) (Nat.le_refl _)) HE1.out)
          have HBs := Lib.hid (fun v => hb'.setCell (p := ⟨w.heap.size, k + j, none⟩) (Nat.le_refl _) v)
          have HSn' := Lib.hid (show (S.set (k + j) cc).length = n + j by rw [List.length_set]; exact HSn.out)
          have HSl' := Lib.hid (HSl.out.set (k + j) cc hcc1)
          have HS0' := Lib.hid (show ∀ t, k + 1 + j ≤ t → (S.set (k + j) cc).getD t 0 = 0 from fun t ht => by rw [getD_set_ne' _ _ _ _ (by omega)]; exact HS0.out t (by omega))
          have HE3 := Lib.hid (show natOf (S.set (k + j) cc) = natOf (P.take (k + 1)) * natOf Q by rw [HE2.out, HE.out, HRow.out])
          clear hS
          generalize (lvs S).getD (k + j) .nilFunc = old at *
          go_wp2_with fail
          exact ⟨⟨k + 1, S.set (k + j) cc, by omega, by go_num, HSn', HSl', HS0', HE3, HS1, HBs.out _⟩, by simp [intOf]; omega⟩
    · obtain rfl : k = n := by omega
      have HL := Lib.hid (HOk.out.limbs' HRl.out)
      have HEnd := Lib.hid (show natOf R = natOf P * natOf Q by rw [HE.out, List.take_of_length_le (by rw [HP.out]; omega)])
      go_wp2_with fail
      refine (rnorm_num _ _ _ _ _ _ HL.out HEnd.out (by omega)).mono ?_
      rintro e w2 ⟨v, rfl, hN, hb2⟩
      have HNum := Lib.hid hN
      clear hN
      go_wp2_with fail
      go_ret
      exact ⟨v, rfl, HNum.out, hb.trans (hb2.mono hb.size)⟩

theorem rdiv_forms {t d : Nat} (h : t / d < 4294967296) : (t : Int) / (d : Int) % 4294967296 = ((t / d : Nat) : Int) ∧ (t : Int) % (d : Int) = ((t % d : Nat) : Int) := by
  constructor
  · rw [← Int.natCast_ediv]; generalize t / d = q at *; omega
  · rw [← Int.natCast_emod]

set_option maxHeartbeats 1000000 in
theorem rshort_new (xs : List Nat) (a : Option Addr) (len cap d : Nat) (w : World) (hx : Limbs w a len cap xs) (hd0 : 0 < d) (hd : d < 4294967296) (hbn : len * 4 ≤ 140737488355328) :
    Calls Tryz.prog 114 #[.slice a len cap, .int .u64 (d : Int)] w fun e w' => ∃ v, e = .returned (.tuple #[v, .int .u64 ((natOf xs % d : Nat) : Int)]) ∧ (Num w' v (natOf xs / d) ∧ New w.heap.size v) ∧ Below w.heap.size w w' := by
  have HX := Lib.hid hx
  have HL := Lib.hid hx.1
  have HXl := Lib.hid hx.2.1
  clear hx
  go_enter Tryz.func114, Tryz.ntmps114
  go_wp2_with (at_make; refine wpList_mkn rfl _ _ 24 rfl 67 (.int .u32 0) 4 Tryz.underlying24 infoLimb rfl _ _ _ _ len rfl rfl rfl rfl (by omega) (by simp only [maxLen]; omega) fun w1 h1 h2 => ?_)
  have HO := Lib.hid h1
  clear h1
  go_wp2_with fail
  go_loopw [7, 8] (fun c i wr => ∃ (k r : Nat) (Q : List Nat), k ≤ len ∧ i = .int .i64 ((k : Int) - 1) ∧ c = .int .u64 r ∧ r < d ∧ Hid (Q.length = len) ∧ Hid (Lim Q) ∧ Hid (natOf (xs.drop k) = natOf (Q.drop k) * d + r) ∧ Hid (Owns wr w.heap.size 67 (.slice (some ⟨w.heap.size, 0, none⟩) len len) (lvs Q)) ∧ Below w.heap.size w wr) (fun _ i _ => (1 + intOf i).toNat)
  case atStart => exact ⟨len, 0, List.replicate len 0, by omega, rfl, rfl, hd0, by simp [Hid], lim_replicate _, by unfold Hid; rw [List.drop_of_length_le (by rw [HL.out]; omega), List.drop_of_length_le (by simp)]; simp [natOf], by have := HO.out; simpa [Hid, lvs, lv] using this, h2⟩
  case round =>
    obtain ⟨k, r, Q, hk, rfl, rfl, hr, HQ, HQl, HE, HOk, hb⟩ := hrel
    cases k with
    | zero =>
      have HD := Lib.hid (div_end hr (show natOf xs = natOf Q * d + r by have := HE.out; simpa using this))
      have HLQ := Lib.hid (HOk.out.limbs' HQl.out)
      go_wp2_with fail
      refine (rnorm_numN _ _ _ _ _ _ w.heap.size HLQ.out HD.out.1 (by omega) hb.size).mono ?_
      rintro e w2 ⟨v, rfl, hN, hb2⟩
      have HNum := Lib.hid hN
      clear hN
      go_wp2_with fail
      go_ret2
      exact ⟨v, by rw [← HD.out.2]; rfl, HNum.out, hb.trans (hb2.mono hb.size)⟩
    | succ j =>
      rw [show (((j + 1 : Nat) : Int) - 1) = (j : Int) by omega]
      obtain ⟨b, off, rfl, _, hcc⟩ := HX.out.2.2.at (k := j) (by omega)
      have c1 := hcc j (by omega) wr hb
      clear hcc
      have hx1 := HXl.out.getD j
      have c3 := HOk.out.cell j (by omega)
      have c4 := HOk.out.free j
      have hS := HOk.out.store j (lv ((r * 4294967296 + xs.getD j 0) / d))
      rw [lvs_set] at hS
      have HS1 := Lib.hid hS
      have HBs := Lib.hid (fun v => hb.setCell (p := ⟨w.heap.size, j, none⟩) (Nat.le_refl _) v)
      have HE1 := Lib.hid (div_step (t := r * 4294967296 + xs.getD j 0) (k := j) (by rw [HQ.out]; omega) rfl HE.out)
      have hT := div_digit hd hr hx1 rfl
      have HQ' := Lib.hid (show (Q.set j ((r * 4294967296 + xs.getD j 0) / d)).length = len by rw [List.length_set]; exact HQ.out)
      have HQl' := Lib.hid (HQl.out.set j ((r * 4294967296 + xs.getD j 0) / d) hT.1)
      clear hS
      generalize (lvs Q).getD j .nilFunc = old at *
      generalize xs.getD j 0 = x at *
      obtain ⟨hT1, hT2⟩ := hT
      have HFd := Lib.hid (show (((r * 4294967296 + x : Nat) : Int) / (d : Int) % 4294967296 = (((r * 4294967296 + x) / d : Nat) : Int)) ∧ ((r * 4294967296 + x : Nat) : Int) % (d : Int) = (((r * 4294967296 + x) % d : Nat) : Int) from rdiv_forms hT1)
      have hT3 : (r * 4294967296 + x) % d < d := Nat.mod_lt _ hd0
      have HFo := Lib.hid (show ((r : Int) * 4294967296 + x) = ((r * 4294967296 + x : Nat) : Int) by simp)
      go_wp2_with fail
      rw [HFo.out, HFd.out.1, HFd.out.2]
      go_roundw
      case rel => exact ⟨j, (r * 4294967296 + x) % d, Q.set j ((r * 4294967296 + x) / d), by omega, rfl, rfl, hT3, HQ', HQl', HE1, HS1, HBs.out _⟩
      case measure => simp [intOf]; omega

theorem rshort_any (xs : List Nat) (a : Option Addr) (len cap d : Nat) (w : World) (hx : Limbs w a len cap xs) (hd0 : 0 < d) (hd : d < 4294967296) (hbn : len * 4 ≤ 140737488355328) :
    Calls Tryz.prog 114 #[.slice a len cap, .int .u64 (d : Int)] w fun e w' => ∃ v, e = .returned (.tuple #[v, .int .u64 ((natOf xs % d : Nat) : Int)]) ∧ Num w' v (natOf xs / d) ∧ Below w.heap.size w w' :=
  (rshort_new xs a len cap d w hx hd0 hd hbn).mono fun _ _ ⟨v, h1, h2, h3⟩ => ⟨v, h1, h2.1, h3⟩

end Go.Proofs.YtahmndacoanfiaaGreat
