/- Natural numbers: what nat.Mul and divLimb return, for all limbs. Condition: the limbs can be read, and take at most 2^46 bytes. -/
import Derived.Test.YtahmndacoanfiaaGreatNatB
namespace Go.Proofs.YtahmndacoanfiaaGreat
set_option maxRecDepth 100000
open Go.RowKit

theorem getD_set_ne' (l : List Nat) (i j v : Nat) (h : i ≠ j) : (l.set i v).getD j 0 = l.getD j 0 := by simp [List.getD, h]

set_option maxHeartbeats 1000000 in
theorem mul_new (xs ys : List Nat) (a a' : Option Addr) (len cap len' cap' : Nat) (w : World) (hx : Limbs w a len cap xs) (hy : Limbs w a' len' cap' ys) (hm1 : (len + len') * 4 ≤ 281474976710656) :
    Calls Tryz.prog 55 #[.slice a len cap, .slice a' len' cap'] w fun e w' => ∃ v, e = .returned v ∧ (Num w' v (natOf xs * natOf ys) ∧ New w.heap.size v) ∧ Below w.heap.size w w' := by
  have HX := Lib.hid hx
  have HY := Lib.hid hy
  have HXT := Lib.hid hx.trim
  have HYT := Lib.hid hy.trim
  have hl1 := digs_length_of hx.2.1
  have hl2 := digs_length_of hy.2.1
  rw [hx.1] at hl1
  rw [hy.1] at hl2
  clear hx hy
  go_enter Tryz.func55, Tryz.ntmps55
  go_wp2_with fail
  refine (trim_any xs a len cap _ HX.out).mono ?_
  rintro e w1 ⟨rfl, rfl⟩
  go_wp2_with fail
  refine (trim_any ys a' len' cap' _ HY.out).mono ?_
  rintro e w1 ⟨rfl, rfl⟩
  clear HX HY
  have HS := Lib.hid (show natOf xs * natOf ys = natOf (digs (natOf xs)) * natOf (digs (natOf ys)) by rw [natOf_digs, natOf_digs])
  generalize hn : (digs (natOf xs)).length = n at *
  generalize hn' : (digs (natOf ys)).length = m at *
  have HP := Lib.hid hn
  have HQ := Lib.hid hn'
  clear hn hn'
  have HPl := Lib.hid (lim_digs (natOf xs))
  have HQl := Lib.hid (lim_digs (natOf ys))
  generalize digs (natOf xs) = P at *
  generalize digs (natOf ys) = Q at *
  have hbn : (n + m) * 4 ≤ 281474976710656 := by omega
  clear hl1 hl2 hm1
  go_wp2_with (at_make; refine wpList_mkn rfl _ _ 24 rfl 67 (.int .u32 0) 4 Tryz.underlying24 infoLimb rfl _ _ _ _ (n + m) rfl rfl rfl rfl (by omega) (by simp only [maxLen]; omega) fun w1 h1 h2 => ?_)
  have HO := Lib.hid h1
  clear h1
  go_wp2_with fail
  go_loopw [24] (fun i wr => ∃ (k : Nat) (R : List Nat), k ≤ n ∧ i = .int .i64 k ∧ Hid (R.length = n + m) ∧ Hid (Lim R) ∧ Hid (∀ t, k + m ≤ t → R.getD t 0 = 0) ∧ Hid (natOf R = natOf (P.take k) * natOf Q) ∧ Hid (Owns wr w.heap.size 67 (.slice (some ⟨w.heap.size, 0, none⟩) (n + m) (n + m)) (lvs R)) ∧ Below w.heap.size w wr) (fun i _ => n - (intOf i).toNat)
  case atStart => exact ⟨0, List.replicate (n + m) 0, by omega, rfl, by simp [Hid], lim_replicate _, fun t _ => by simp [List.getD, List.getElem?_replicate]; split <;> rfl, by simp [Hid, natOf, natOf_replicate], by have := HO.out; simpa [Hid, lvs, lv] using this, h2⟩
  case round =>
    obtain ⟨k, R, hk, rfl, HR, HRl, HR0, HE, HOk, hb⟩ := hrel
    by_cases hlt : k < n
    · obtain ⟨b, off, rfl, _, hcc⟩ := HXT.out.2.2.at (k := k) hlt
      have c1 := hcc k hlt wr hb
      clear hcc
      have hx1 := HPl.out.getD k
      have HRow := Lib.hid (mul_rows (xs := P) (zs := Q) (i := k))
      generalize P.getD k 0 = x at *
      obtain ⟨wo, rfl⟩ : ∃ wo : World, wo = wr := ⟨_, rfl⟩
      go_wp2_with fail
      go_loopw [8, 31] (fun c i wr => ∃ (j cc : Nat) (S : List Nat), j ≤ m ∧ i = .int .i64 j ∧ c = .int .u64 cc ∧ cc < 4294967296 ∧ Hid (S.length = n + m) ∧ Hid (Lim S) ∧ Hid (∀ t, k + m ≤ t → S.getD t 0 = 0) ∧ Hid (natOf S + 4294967296 ^ (k + j) * cc = natOf R + 4294967296 ^ k * (x * natOf (Q.take j))) ∧ Hid (Owns wr w.heap.size 67 (.slice (some ⟨w.heap.size, 0, none⟩) (n + m) (n + m)) (lvs S)) ∧ Below w.heap.size w wr) (fun _ i _ => m - (intOf i).toNat)
      case atStart => exact ⟨0, 0, R, by omega, rfl, rfl, by omega, HR, HRl, HR0, by simp [Hid, natOf], HOk, hb⟩
      case round =>
        obtain ⟨j, cc, S, hj, rfl, rfl, hcc1, HSn, HSl, HS0, HE1, HOj, hb'⟩ := hrel
        by_cases hjl : j < m
        · obtain ⟨b', off', rfl, _, hcc⟩ := HYT.out.2.2.at (k := j) hjl
          have c2 := hcc j hjl wr hb'
          clear hcc
          have hy1 := HQl.out.getD j
          have hp1 := HSl.out.getD (k + j)
          have c3 := HOj.out.cell (k + j) (by omega)
          rw [lvs_at S (k + j) (by rw [HSn.out]; omega)] at c3
          unfold lv at c3
          have c4 := HOj.out.free (k + j)
          have hS := HOj.out.store (k + j) (lv ((x * Q.getD j 0 + S.getD (k + j) 0 + cc) % 4294967296))
          rw [lvs_set] at hS
          have HS1 := Lib.hid hS
          have HE2 := Lib.hid (mul_step (t := x * Q.getD j 0 + S.getD (k + j) 0 + cc) (by rw [HSn.out]; omega) rfl rfl HE1.out)
          have HBs := Lib.hid (fun v => hb'.setCell (p := ⟨w.heap.size, k + j, none⟩) (Nat.le_refl _) v)
          have HM := Lib.hid (mul_carry hx1 hy1 hp1 hcc1)
          obtain ⟨q1, q2, q3⟩ := mul_bound hx1 hy1 hp1 hcc1
          clear hS
          have HSn' := Lib.hid (show (S.set (k + j) ((x * Q.getD j 0 + S.getD (k + j) 0 + cc) % 4294967296)).length = n + m by rw [List.length_set]; exact HSn.out)
          have HSl' := Lib.hid (HSl.out.set (k + j) ((x * Q.getD j 0 + S.getD (k + j) 0 + cc) % 4294967296) (by omega))
          have HS0' := Lib.hid (show ∀ t, k + m ≤ t → (S.set (k + j) ((x * Q.getD j 0 + S.getD (k + j) 0 + cc) % 4294967296)).getD t 0 = 0 from fun t ht => by rw [getD_set_ne' _ _ _ _ (by omega)]; exact HS0.out t ht)
          generalize S.getD (k + j) 0 = z at *
          generalize Q.getD j 0 = y at *
          go_wp2_with fail
          go_roundw
          case rel => exact ⟨j + 1, (x * y + z + cc) / 4294967296, S.set (k + j) ((x * y + z + cc) % 4294967296), by omega, by go_num, by go_num, HM.out.2, HSn', HSl', HS0', HE2, HS1, HBs.out _⟩
          case measure => simp [intOf]; omega
        · obtain rfl : j = m := by omega
          have c3 := HOj.out.cell (k + j) (by omega)
          have c4 := HOj.out.free (k + j)
          have hS := HOj.out.store (k + j) (lv cc)
          rw [lvs_set] at hS
          have HS1 := Lib.hid hS
          have HE2 := Lib.hid (mul_row (by rw [HSn.out]; omega) (by rw [HQ.out]; omega) (HS0.out (k + j) (Nat.le_refl _)) HE1.out)
          have HBs := Lib.hid (fun v => hb'.setCell (p := ⟨w.heap.size, k + j, none⟩) (Nat.le_refl _) v)
          have HSn' := Lib.hid (show (S.set (k + j) cc).length = n + j by rw [List.length_set]; exact HSn.out)
          have HSl' := Lib.hid (HSl.out.set (k + j) cc hcc1)
          have HS0' := Lib.hid (show ∀ t, k + 1 + j ≤ t → (S.set (k + j) cc).getD t 0 = 0 from fun t ht => by rw [getD_set_ne' _ _ _ _ (by omega)]; exact HS0.out t (by omega))
          have HE3 := Lib.hid (show natOf (S.set (k + j) cc) = natOf (P.take (k + 1)) * natOf Q by rw [HE2.out, HE.out, HRow.out])
          clear hS
          generalize (lvs S).getD (k + j) .nilFunc = old at *
          go_wp2_with fail
          exact ⟨⟨k + 1, S.set (k + j) cc, by omega, by go_num, HSn', HSl', HS0', HE3, HS1, HBs.out _⟩, by simp [intOf]; omega⟩
    · obtain rfl : k = n := by omega
      have HL := Lib.hid (HOk.out.limbs' HRl.out)
      have HEnd := Lib.hid (show natOf R = natOf xs * natOf ys by rw [HE.out, HS.out, List.take_of_length_le (by rw [HP.out]; omega)])
      go_wp2_with fail
      refine (trim_numN _ _ _ _ _ _ w.heap.size HL.out HEnd.out (fun x hx => by cases hx; exact Nat.le_refl _)).mono ?_
      rintro e w2 ⟨v, rfl, hN, rfl⟩
      have HNum := Lib.hid hN
      clear hN
      go_wp2_with fail
      go_ret
      exact ⟨v, rfl, HNum.out, hb⟩

theorem mul_any (xs ys : List Nat) (a a' : Option Addr) (len cap len' cap' : Nat) (w : World) (hx : Limbs w a len cap xs) (hy : Limbs w a' len' cap' ys) (hm1 : (len + len') * 4 ≤ 281474976710656) :
    Calls Tryz.prog 55 #[.slice a len cap, .slice a' len' cap'] w fun e w' => ∃ v, e = .returned v ∧ Num w' v (natOf xs * natOf ys) ∧ Below w.heap.size w w' :=
  (mul_new xs ys a a' len cap len' cap' w hx hy hm1).mono fun _ _ ⟨v, h1, h2, h3⟩ => ⟨v, h1, h2.1, h3⟩

theorem or_shift {r x : Nat} (hr : r < 4294967296) (hx : x < 4294967296) : bits .or .u64 ((r : Int) * 4294967296) (x : Int) = ((r * 4294967296 + x : Nat) : Int) := by
  rw [show ((r : Int) * 4294967296) = ((r * 4294967296 : Nat) : Int) by simp, bits_or_u64_nat _ _ (by omega) (by omega)]
  have h := Nat.two_pow_add_eq_or_of_lt (i := 32) (b := x) (by omega) r
  rw [show 2 ^ 32 * r = r * 4294967296 by omega] at h
  rw [h]
theorem div_forms {t d : Nat} (h : t / d < 4294967296) : IntKind.u64.wrap ((t : Int).tdiv (d : Int)) % 4294967296 = ((t / d : Nat) : Int) ∧ (t : Int).tmod (d : Int) = ((t % d : Nat) : Int) := by
  constructor
  · rw [← Int.ofNat_tdiv, IntKind.wrap_u64]; generalize t / d = q at *; omega
  · rw [← Int.ofNat_tmod]

set_option maxHeartbeats 1000000 in
theorem divLimb_new (xs : List Nat) (a : Option Addr) (len cap d : Nat) (w : World) (hx : Limbs w a len cap xs) (hd0 : 0 < d) (hd : d < 4294967296) (hbn : len * 4 ≤ 140737488355328) :
    Calls Tryz.prog 112 #[.slice a len cap, .int .u32 (d : Int)] w fun e w' => ∃ v, e = .returned (.tuple #[v, .int .u32 ((natOf xs % d : Nat) : Int)]) ∧ (Num w' v (natOf xs / d) ∧ New w.heap.size v) ∧ Below w.heap.size w w' := by
  have HX := Lib.hid hx
  have HL := Lib.hid hx.1
  have HXl := Lib.hid hx.2.1
  clear hx
  go_enter Tryz.func112, Tryz.ntmps112
  go_wp2_with (at_make; refine wpList_mkn rfl _ _ 24 rfl 67 (.int .u32 0) 4 Tryz.underlying24 infoLimb rfl _ _ _ _ len rfl rfl rfl rfl (by omega) (by simp only [maxLen]; omega) fun w1 h1 h2 => ?_)
  have HO := Lib.hid h1
  clear h1
  go_wp2_with fail
  go_loopw [7, 8] (fun c i wr => ∃ (k r : Nat) (Q : List Nat), k ≤ len ∧ i = .int .i64 ((k : Int) - 1) ∧ c = .int .u64 r ∧ r < d ∧ Hid (Q.length = len) ∧ Hid (Lim Q) ∧ Hid (natOf (xs.drop k) = natOf (Q.drop k) * d + r) ∧ Hid (Owns wr w.heap.size 67 (.slice (some ⟨w.heap.size, 0, none⟩) len len) (lvs Q)) ∧ Below w.heap.size w wr) (fun _ i _ => (1 + intOf i).toNat)
  case atStart => exact ⟨len, 0, List.replicate len 0, by omega, rfl, rfl, hd0, by simp [Hid], lim_replicate _, by unfold Hid; rw [List.drop_of_length_le (by rw [HL.out]; omega), List.drop_of_length_le (by simp)]; simp [natOf], by have := HO.out; simpa [Hid, lvs, lv] using this, h2⟩
  case round =>
    obtain ⟨k, r, Q, hk, rfl, rfl, hr, HQ, HQl, HE, HOk, hb⟩ := hrel
    cases k with
    | zero =>
      have HD := Lib.hid (div_end hr (show natOf xs = natOf Q * d + r by have := HE.out; simpa using this))
      have HLQ := Lib.hid (HOk.out.limbs' HQl.out)
      go_wp2_with fail
      refine (trim_numN _ _ _ _ _ _ w.heap.size HLQ.out HD.out.1 (fun x hx => by cases hx; exact Nat.le_refl _)).mono ?_
      rintro e w2 ⟨v, rfl, hN, rfl⟩
      have HNum := Lib.hid hN
      clear hN
      go_wp2_with fail
      go_ret2
      exact ⟨v, by rw [← HD.out.2]; rfl, HNum.out, hb⟩
    | succ j =>
      rw [show (((j + 1 : Nat) : Int) - 1) = (j : Int) by omega]
      obtain ⟨b, off, rfl, _, hcc⟩ := HX.out.2.2.at (k := j) (by omega)
      have c1 := hcc j (by omega) wr hb
      clear hcc
      have hx1 := HXl.out.getD j
      have c3 := HOk.out.cell j (by omega)
      have c4 := HOk.out.free j
      have hS := HOk.out.store j (lv ((r * 4294967296 + xs.getD j 0) / d))
      rw [lvs_set] at hS
      have HS1 := Lib.hid hS
      have HBs := Lib.hid (fun v => hb.setCell (p := ⟨w.heap.size, j, none⟩) (Nat.le_refl _) v)
      have HE1 := Lib.hid (div_step (t := r * 4294967296 + xs.getD j 0) (k := j) (by rw [HQ.out]; omega) rfl HE.out)
      have hT := div_digit hd hr hx1 rfl
      have HQ' := Lib.hid (show (Q.set j ((r * 4294967296 + xs.getD j 0) / d)).length = len by rw [List.length_set]; exact HQ.out)
      have HQl' := Lib.hid (HQl.out.set j ((r * 4294967296 + xs.getD j 0) / d) hT.1)
      clear hS
      generalize (lvs Q).getD j .nilFunc = old at *
      generalize xs.getD j 0 = x at *
      obtain ⟨hT1, hT2⟩ := hT
      have HFo := Lib.hid (or_shift (r := r) (by omega) hx1)
      have HFd := Lib.hid (div_forms hT1)
      have hT3 : (r * 4294967296 + x) % d < d := Nat.mod_lt _ hd0
      go_wp2_with fail
      rw [HFo.out, HFd.out.1, HFd.out.2]
      go_roundw
      case rel => exact ⟨j, (r * 4294967296 + x) % d, Q.set j ((r * 4294967296 + x) / d), by omega, rfl, rfl, hT3, HQ', HQl', HE1, HS1, HBs.out _⟩
      case measure => simp [intOf]; omega

theorem divLimb_any (xs : List Nat) (a : Option Addr) (len cap d : Nat) (w : World) (hx : Limbs w a len cap xs) (hd0 : 0 < d) (hd : d < 4294967296) (hbn : len * 4 ≤ 140737488355328) :
    Calls Tryz.prog 112 #[.slice a len cap, .int .u32 (d : Int)] w fun e w' => ∃ v, e = .returned (.tuple #[v, .int .u32 ((natOf xs % d : Nat) : Int)]) ∧ Num w' v (natOf xs / d) ∧ Below w.heap.size w w' :=
  (divLimb_new xs a len cap d w hx hd0 hd hbn).mono fun _ _ ⟨v, h1, h2, h3⟩ => ⟨v, h1, h2.1, h3⟩

theorem divmod_zero (xs ys : List Nat) (a a' : Option Addr) (len cap len' cap' : Nat) (w : World) (hx : Limbs w a len cap xs) (hy : Limbs w a' len' cap' ys) (h0 : natOf ys = 0) :
    Calls Tryz.prog 86 #[.slice a len cap, .slice a' len' cap'] w fun e w' => e = .returned (.tuple #[.slice none 0 0, .slice none 0 0, .bool false]) ∧ w = w' := by
  have HX := Lib.hid hx
  have HY := Lib.hid hy
  have HZ := Lib.hid (show (digs (natOf ys)).length = 0 by rw [h0, digs_zero]; rfl)
  clear hx hy h0
  go_enter Tryz.func86, Tryz.ntmps86
  go_wp2_with fail
  refine (trim_any xs a len cap _ HX.out).mono ?_
  rintro e w1 ⟨rfl, rfl⟩
  go_wp2_with fail
  refine (trim_any ys a' len' cap' _ HY.out).mono ?_
  rintro e w1 ⟨rfl, rfl⟩
  rw [HZ.out]
  go_wp2_with fail
  go_ret3
  exact ⟨rfl, rfl⟩

/-- a quotient whose divisor is greater, or has one limb -/
theorem divmod_cond_new (xs ys : List Nat) (a a' : Option Addr) (len cap len' cap' : Nat) (w : World) (hx : Limbs w a len cap xs) (hy : Limbs w a' len' cap' ys) (hbn : len * 4 ≤ 140737488355328) (h0 : natOf ys ≠ 0)
    (hc : natOf xs < natOf ys ∨ natOf ys < 4294967296) :
    Calls Tryz.prog 86 #[.slice a len cap, .slice a' len' cap'] w fun e w' => ∃ v u, e = .returned (.tuple #[v, u, .bool true]) ∧ (Num w' v (natOf xs / natOf ys) ∧ New w.heap.size v) ∧ (Num w' u (natOf xs % natOf ys) ∧ New w.heap.size u) ∧ Below w.heap.size w w' := by
  have HX := Lib.hid hx
  have HY := Lib.hid hy
  have HXT := Lib.hid hx.trim
  have HYT := Lib.hid hy.trim
  have hl1 := digs_length_of hx.2.1
  rw [hx.1] at hl1
  clear hx hy
  go_enter Tryz.func86, Tryz.ntmps86
  go_wp2_with fail
  refine (trim_any xs a len cap _ HX.out).mono ?_
  rintro e w1 ⟨rfl, rfl⟩
  go_wp2_with fail
  refine (trim_any ys a' len' cap' _ HY.out).mono ?_
  rintro e w1 ⟨rfl, rfl⟩
  have hz : (digs (natOf ys)).length ≠ 0 := fun h => h0 (digs_len_zero.1 h)
  have HCmp := Lib.hid (cmp_any _ _ _ _ _ _ _ _ w HXT.out HYT.out)
  rw [natOf_digs, natOf_digs] at HCmp
  by_cases hlt : natOf xs < natOf ys
  · rw [cmpI_lt hlt] at HCmp
    have HNm := Lib.hid (norm_new _ _ _ _ w HXT.out (by omega))
    rw [natOf_digs] at HNm
    have HQ := Lib.hid (show natOf xs / natOf ys = 0 from Nat.div_eq_of_lt hlt)
    have HR := Lib.hid (show natOf xs % natOf ys = natOf xs from Nat.mod_eq_of_lt hlt)
    have HB := Lib.hid (fun w1 (hb : Below w.heap.size w w1) => norm_new _ _ _ _ w1 (HXT.out.below hb) (by omega))
    rw [natOf_digs] at HB
    clear HX HY HXT HYT hc h0 hlt
    generalize (digs (natOf xs)).length = n at *
    generalize (digs (natOf ys)).length = m at *
    have d0 : ((m : Int) == 0) = false := by simp; omega
    go_wp2_with fail
    refine HCmp.out.mono ?_
    rintro e w1 ⟨rfl, hb1⟩
    go_wp2_with fail
    refine (HB.out w1 hb1).mono ?_
    rintro e w2 ⟨u, rfl, ⟨hu, hnu⟩, hb2⟩
    have HNu := Lib.hid (hnu.mono hb1.size)
    clear hnu
    have HU := Lib.hid hu
    clear hu
    go_wp2_with fail
    go_ret3
    exact ⟨.slice none 0 0, u, rfl, ⟨by rw [HQ.out]; exact num_nil _, fun x l c e => by cases e⟩, ⟨by rw [HR.out]; exact HU.out, HNu.out⟩, hb1.trans (hb2.mono hb1.size)⟩
  · have hys : natOf ys < 4294967296 := by omega
    have hge : natOf ys ≤ natOf xs := by omega
    have HCf := Lib.hid (show decide (cmpI (natOf xs) (natOf ys) < 0) = false by
      rcases cmpI_cases (natOf xs) (natOf ys) with ⟨h, h'⟩ | ⟨h, h'⟩ | ⟨h, h'⟩
      · omega
      · rw [h]; rfl
      · rw [h]; rfl)
    have HD1 := Lib.hid (show digs (natOf ys) = [natOf ys] by rw [digs_pos h0, Nat.mod_eq_of_lt hys, Nat.div_eq_of_lt hys, digs_zero])
    have HB := Lib.hid (fun w1 (hb : Below w.heap.size w w1) => divLimb_new _ _ _ _ (natOf ys) w1 (HXT.out.below hb) (by omega) hys (by omega))
    rw [natOf_digs] at HB
    rw [HD1.out] at HYT ⊢
    simp only [List.length_cons, List.length_nil, Nat.zero_add] at HYT ⊢
    obtain ⟨b, off, rfl, _, hcc⟩ := HYT.out.2.2.at (k := 0) (by omega)
    have HCell := Lib.hid (fun w' hb => hcc 0 (by omega) w' hb)
    clear hcc HX HY HYT hc hlt
    have hml := Nat.mod_lt (natOf xs) (show 0 < natOf ys by omega)
    generalize hY : natOf ys = y at *
    have HYy := Lib.hid hY
    clear hY
    generalize (digs (natOf xs)).length = n at *
    have d0 := HCf.out
    rw [HD1.out] at HCmp
    simp only [List.length_cons, List.length_nil, Nat.zero_add] at HCmp
    generalize cmpI (natOf xs) y = cv at *
    go_wp2_with fail
    refine HCmp.out.mono ?_
    rintro e w1 ⟨rfl, hb1⟩
    have c1 := HCell.out w1 hb1
    simp only [Nat.add_zero, List.getD_cons_zero] at c1
    go_wp2_with fail
    refine (HB.out w1 hb1).mono ?_
    rintro e w2 ⟨v, rfl, ⟨hv, hnv⟩, hb2⟩
    have HNv := Lib.hid (hnv.mono hb1.size)
    clear hnv
    have HV := Lib.hid hv
    clear hv
    generalize hR : natOf xs % y = r at *
    have HRr := Lib.hid hR
    clear hR
    go_wp2_with fail
    refine (of_new r (by omega) _).mono ?_
    rintro e w3 ⟨u, rfl, ⟨hu, hnu⟩, hb3⟩
    have HNu := Lib.hid (hnu.mono (Nat.le_trans hb1.size hb2.size))
    clear hnu
    have HU := Lib.hid hu
    have HV3 := Lib.hid (HV.out.below hb3)
    clear hu
    go_wp2_with fail
    go_ret3
    exact ⟨v, u, rfl, ⟨by rw [HYy.out]; exact HV3.out, HNv.out⟩, ⟨by rw [HYy.out, HRr.out]; exact HU.out, HNu.out⟩, hb1.trans ((hb2.mono hb1.size).trans (hb3.mono (Nat.le_trans hb1.size hb2.size)))⟩

theorem divmod_cond (xs ys : List Nat) (a a' : Option Addr) (len cap len' cap' : Nat) (w : World) (hx : Limbs w a len cap xs) (hy : Limbs w a' len' cap' ys) (hbn : len * 4 ≤ 140737488355328) (h0 : natOf ys ≠ 0)
    (hc : natOf xs < natOf ys ∨ natOf ys < 4294967296) :
    Calls Tryz.prog 86 #[.slice a len cap, .slice a' len' cap'] w fun e w' => ∃ v u, e = .returned (.tuple #[v, u, .bool true]) ∧ Num w' v (natOf xs / natOf ys) ∧ Num w' u (natOf xs % natOf ys) ∧ Below w.heap.size w w' :=
  (divmod_cond_new xs ys a a' len cap len' cap' w hx hy hbn h0 hc).mono fun _ _ ⟨v, u, h1, h2, h3, h4⟩ => ⟨v, u, h1, h2.1, h3.1, h4⟩

end Go.Proofs.YtahmndacoanfiaaGreat
