/- Natural numbers: what nat.Add and Sub return, for all limbs. Condition: the limbs can be read, and take at most 2^47 bytes. -/
import Derived.Test.YtahmndacoanfiaaGreatNatA
namespace Go.Proofs.YtahmndacoanfiaaGreat
set_option maxRecDepth 100000
open Go.RowKit

theorem natOf_snoc_lim {zs : List Nat} (h : Lim zs) {c : Nat} (hc : c ≤ 1) : Lim (zs ++ [c]) := h.snoc (by omega)
theorem Owns.limbs' {w : World} {B : Nat} {e : TypeId} {a : Option Addr} {n cap : Nat} {xs : List Nat} (h : Owns w B e (.slice a n cap) (lvs xs)) (hl : Lim xs) : Limbs w a n cap xs := by
  obtain ⟨a', n', cap', e, h'⟩ := h.limbs hl
  cases e
  exact h'

set_option maxHeartbeats 1000000 in
theorem add_new (xs ys : List Nat) (a a' : Option Addr) (len cap len' cap' : Nat) (w : World) (hx : Limbs w a len cap xs) (hy : Limbs w a' len' cap' ys) (hm1 : len * 4 ≤ 140737488355328) (hm2 : len' * 4 ≤ 140737488355328) :
    Calls Tryz.prog 83 #[.slice a len cap, .slice a' len' cap'] w fun e w' => ∃ v, e = .returned v ∧ (Num w' v (natOf xs + natOf ys) ∧ New w.heap.size v) ∧ Below w.heap.size w w' := by
  have HX := Lib.hid hx
  have HY := Lib.hid hy
  have HXT := Lib.hid hx.trim
  have HYT := Lib.hid hy.trim
  have hl1 := digs_length_of hx.2.1
  have hl2 := digs_length_of hy.2.1
  rw [hx.1] at hl1
  rw [hy.1] at hl2
  clear hx hy
  go_enter Tryz.func83, Tryz.ntmps83
  go_wp2_with fail
  refine (trim_any xs a len cap _ HX.out).mono ?_
  rintro e w1 ⟨rfl, rfl⟩
  go_wp2_with fail
  refine (trim_any ys a' len' cap' _ HY.out).mono ?_
  rintro e w1 ⟨rfl, rfl⟩
  clear HX HY
  have HS := Lib.hid (show natOf xs + natOf ys = natOf (digs (natOf xs)) + natOf (digs (natOf ys)) by rw [natOf_digs, natOf_digs])
  generalize hn : (digs (natOf xs)).length = n at *
  generalize hn' : (digs (natOf ys)).length = n' at *
  have HN := Lib.hid hn
  have HN' := Lib.hid hn'
  clear hn hn'
  have HXl := Lib.hid (lim_digs (natOf xs))
  have HYl := Lib.hid (lim_digs (natOf ys))
  generalize digs (natOf xs) = X at *
  generalize digs (natOf ys) = Y at *
  have hbig : n * 4 ≤ 140737488355328 ∧ n' * 4 ≤ 140737488355328 := ⟨by omega, by omega⟩
  clear hl1 hl2 hm1 hm2
  obtain ⟨hbx, hby⟩ := hbig
  by_cases hsw : n < n'
  case' pos =>
    go_wp2_with (at_make; refine wpList_mkn rfl _ _ 24 rfl 67 (.int .u32 0) 4 Tryz.underlying24 infoLimb rfl _ _ _ _ (n' + 1) rfl rfl rfl rfl (by omega) (by simp only [maxLen]; omega) fun w1 h1 h2 => ?_)
    have hnm : n ≤ n' := by omega
    have HS' := Lib.hid (show natOf xs + natOf ys = natOf Y + natOf X by rw [HS.out, Nat.add_comm])
    obtain ⟨p, rfl⟩ : ∃ p, p = a' := ⟨_, rfl⟩
    obtain ⟨q, rfl⟩ : ∃ p, p = a := ⟨_, rfl⟩
    obtain ⟨m, rfl⟩ : ∃ p, p = n := ⟨_, rfl⟩
    obtain ⟨n, rfl⟩ : ∃ p, p = n' := ⟨_, rfl⟩
    obtain ⟨P, rfl⟩ : ∃ p, p = Y := ⟨_, rfl⟩
    obtain ⟨Q, rfl⟩ : ∃ p, p = X := ⟨_, rfl⟩
    have HPT := HYT
    have HQT := HXT
    have HPl := HYl
    have HQl := HXl
    have HP := HN'
    have HQ := HN
    have hbn := hby
    clear HYT HXT HYl HXl HN HN' HS hbx hby hsw
  case' neg =>
    go_wp2_with (at_make; refine wpList_mkn rfl _ _ 24 rfl 67 (.int .u32 0) 4 Tryz.underlying24 infoLimb rfl _ _ _ _ (n + 1) rfl rfl rfl rfl (by omega) (by simp only [maxLen]; omega) fun w1 h1 h2 => ?_)
    have hnm : n' ≤ n := by omega
    have HS' := HS
    obtain ⟨p, rfl⟩ : ∃ p, p = a := ⟨_, rfl⟩
    obtain ⟨q, rfl⟩ : ∃ p, p = a' := ⟨_, rfl⟩
    obtain ⟨m, rfl⟩ : ∃ p, p = n' := ⟨_, rfl⟩
    obtain ⟨P, rfl⟩ : ∃ p, p = X := ⟨_, rfl⟩
    obtain ⟨Q, rfl⟩ : ∃ p, p = Y := ⟨_, rfl⟩
    have HPT := HXT
    have HQT := HYT
    have HPl := HXl
    have HQl := HYl
    have HP := HN
    have HQ := HN'
    have hbn := hbx
    clear HYT HXT HYl HXl HN HN' HS hbx hby hsw
  all_goals
    have HO := Lib.hid h1
    clear h1
    go_wp2_with fail
    go_loopw [6, 26] (fun c i wr => ∃ (k cc : Nat) (zs : List Nat), k ≤ n ∧ i = .int .i64 k ∧ c = .int .u64 cc ∧ cc ≤ 1 ∧ Hid (zs.length = k) ∧ Hid (Lim zs) ∧ Hid (natOf zs + 4294967296 ^ k * cc = natOf (P.take k) + natOf (Q.take k)) ∧ Hid (Owns wr w.heap.size 67 (.slice (some ⟨w.heap.size, 0, none⟩) (n + 1) (n + 1)) (lvs (zs ++ List.replicate (n + 1 - k) 0))) ∧ Below w.heap.size w wr) (fun _ i _ => n - (intOf i).toNat)
    case atStart => exact ⟨0, 0, [], by omega, rfl, rfl, by omega, rfl, lim_nil, by simp [Hid, natOf], by have := HO.out; simpa [Hid, lvs, lv] using this, h2⟩
    case round =>
      obtain ⟨k, cc, zs, hk, rfl, rfl, hcc1, HZ, HZl, HE, HOk, hb⟩ := hrel
      have c4 := HOk.out.free k
      have c3 := HOk.out.cell k (by omega)
      by_cases hlt : k < n
      · obtain ⟨b, off, rfl, _, hcc⟩ := HPT.out.2.2.at (k := k) (by omega)
        have c1 := hcc k hlt wr hb
        clear hcc
        have hx1 := HPl.out.getD k
        have hy1 := HQl.out.getD k
        have hS := HOk.out.store k (lv ((P.getD k 0 + cc + Q.getD k 0) % 4294967296))
        rw [lvs_set] at hS
        have e1 := lset_fill zs (n - k) ((P.getD k 0 + cc + Q.getD k 0) % 4294967296)
        rw [HZ.out, show n - k + 1 = n + 1 - k by omega] at e1
        rw [e1, show n - k = n + 1 - (k + 1) by omega] at hS
        have HS1 := Lib.hid hS
        have HE1 := Lib.hid (add_step (t := P.getD k 0 + cc + Q.getD k 0) HZ.out HE.out rfl)
        have HBs := Lib.hid (fun v => hb.setCell (p := ⟨w.heap.size, k, none⟩) (Nat.le_refl _) v)
        clear hS e1
        generalize (lvs (zs ++ List.replicate (n + 1 - k) 0)).getD k .nilFunc = old at *
        by_cases hq : k < m
        · obtain ⟨b', off', rfl, _, hcc⟩ := HQT.out.2.2.at (k := k) (by omega)
          have c2 := hcc k hq wr hb
          clear hcc
          generalize P.getD k 0 = x at *
          generalize Q.getD k 0 = y at *
          go_wp2_with fail
          go_roundw
          case rel => exact ⟨k + 1, (x + cc + y) / 4294967296, zs ++ [(x + cc + y) % 4294967296], by omega, by go_num, by go_num, by omega, by unfold Hid; simp [HZ.out], HZl.out.snoc (by omega), HE1, HS1, HBs.out _⟩
          case measure => simp [intOf]; omega
        · have HY0 := Lib.hid (show Q.getD k 0 = 0 by simp [List.getD, List.getElem?_eq_none (show Q.length ≤ k by rw [HQ.out]; omega)])
          rw [HY0.out] at HS1 HE1
          generalize P.getD k 0 = x at *
          go_wp2_with fail
          go_roundw
          case rel => exact ⟨k + 1, (x + cc + 0) / 4294967296, zs ++ [(x + cc + 0) % 4294967296], by omega, by go_num, by go_num, by omega, by unfold Hid; simp [HZ.out], HZl.out.snoc (by omega), HE1, HS1, HBs.out _⟩
          case measure => simp [intOf]; omega
      · obtain rfl : k = n := by omega
        have hS := HOk.out.store k (lv cc)
        rw [lvs_set] at hS
        have e1 := lset_fill zs 0 cc
        rw [HZ.out, show 0 + 1 = k + 1 - k by omega] at e1
        rw [e1] at hS
        have hL := hS.limbs' (((HZl.out.snoc (by omega)).append (lim_replicate 0)))
        have HBs := Lib.hid (fun v => hb.setCell (p := ⟨w.heap.size, k, none⟩) (Nat.le_refl _) v)
        have HEnd := Lib.hid (show natOf (zs ++ [cc] ++ List.replicate 0 0) = natOf xs + natOf ys by
          rw [HS'.out, List.replicate_zero, List.append_nil, natOf_snoc, HZ.out, HE.out, List.take_of_length_le (by rw [HP.out]; omega), List.take_of_length_le (by rw [HQ.out]; omega)])
        have HL := Lib.hid hL
        clear hS e1 hL
        generalize (lvs (zs ++ List.replicate (k + 1 - k) 0)).getD k .nilFunc = old at *
        go_wp2_with fail
        refine (trim_numN _ _ _ _ _ _ w.heap.size HL.out HEnd.out (fun x hx => by cases hx; exact Nat.le_refl _)).mono ?_
        rintro e w2 ⟨v, rfl, hN, rfl⟩
        have HNum := Lib.hid hN
        clear hN
        go_wp2_with fail
        go_ret
        exact ⟨v, rfl, HNum.out, HBs.out _⟩

theorem add_any (xs ys : List Nat) (a a' : Option Addr) (len cap len' cap' : Nat) (w : World) (hx : Limbs w a len cap xs) (hy : Limbs w a' len' cap' ys) (hm1 : len * 4 ≤ 140737488355328) (hm2 : len' * 4 ≤ 140737488355328) :
    Calls Tryz.prog 83 #[.slice a len cap, .slice a' len' cap'] w fun e w' => ∃ v, e = .returned v ∧ Num w' v (natOf xs + natOf ys) ∧ Below w.heap.size w w' :=
  (add_new xs ys a a' len cap len' cap' w hx hy hm1 hm2).mono fun _ _ ⟨v, h1, h2, h3⟩ => ⟨v, h1, h2.1, h3⟩

/-- the borrow of one limb -/
def bor (x y c : Nat) : Nat := if x < y + c then 1 else 0
theorem bor_le (x y c : Nat) : bor x y c ≤ 1 := by unfold bor; split <;> omega
theorem bor_eq {x y c : Nat} (hx : x < 4294967296) (hy : y < 4294967296) (hc : c ≤ 1) : (x + 4294967296 * bor x y c - y - c) + y + c = x + 4294967296 * bor x y c ∧ x + 4294967296 * bor x y c - y - c < 4294967296 := by
  unfold bor; split <;> omega

theorem bor_form {x y c : Nat} (hx : x < 4294967296) (hy : y < 4294967296) (hc : c ≤ 1) : IntKind.u64.wrap (IntKind.u64.wrap ((x : Int) - c) - y) / 9223372036854775808 = (bor x y c : Nat) ∧
    IntKind.u64.wrap (IntKind.u64.wrap ((x : Int) - c) - y) % 4294967296 = (x + 4294967296 * bor x y c - y - c : Nat) := by
  simp only [IntKind.wrap_u64]
  unfold bor
  split <;> omega
theorem bor_form0 {x c : Nat} (hx : x < 4294967296) (hc : c ≤ 1) : IntKind.u64.wrap ((x : Int) - c) / 9223372036854775808 = (bor x 0 c : Nat) ∧
    IntKind.u64.wrap ((x : Int) - c) % 4294967296 = (x + 4294967296 * bor x 0 c - 0 - c : Nat) := by
  simp only [IntKind.wrap_u64]
  unfold bor
  split <;> omega

theorem sub_less (xs ys : List Nat) (a a' : Option Addr) (len cap len' cap' : Nat) (w : World) (hx : Limbs w a len cap xs) (hy : Limbs w a' len' cap' ys) (hlt : natOf xs < natOf ys) :
    Calls Tryz.prog 84 #[.slice a len cap, .slice a' len' cap'] w fun e w' => e = .returned (.tuple #[.slice none 0 0, .bool false]) ∧ Below w.heap.size w w' := by
  have HX := Lib.hid hx
  have HY := Lib.hid hy
  have HXT := Lib.hid hx.trim
  have HYT := Lib.hid hy.trim
  have HC := Lib.hid (show cmpI (natOf (digs (natOf xs))) (natOf (digs (natOf ys))) = -1 by rw [natOf_digs, natOf_digs]; exact cmpI_lt hlt)
  clear hx hy
  go_enter Tryz.func84, Tryz.ntmps84
  go_wp2_with fail
  refine (trim_any xs a len cap _ HX.out).mono ?_
  rintro e w1 ⟨rfl, rfl⟩
  go_wp2_with fail
  refine (trim_any ys a' len' cap' _ HY.out).mono ?_
  rintro e w1 ⟨rfl, rfl⟩
  go_wp2_with fail
  refine (cmp_any _ _ _ _ _ _ _ _ _ HXT.out HYT.out).mono ?_
  rintro e w1 ⟨rfl, hb1⟩
  rw [HC.out]
  go_wp2_with fail
  go_ret2
  exact ⟨rfl, hb1⟩

set_option maxHeartbeats 1000000 in
theorem sub_new (xs ys : List Nat) (a a' : Option Addr) (len cap len' cap' : Nat) (w : World) (hx : Limbs w a len cap xs) (hy : Limbs w a' len' cap' ys) (hm1 : len * 4 ≤ 140737488355328) (hge : natOf ys ≤ natOf xs) :
    Calls Tryz.prog 84 #[.slice a len cap, .slice a' len' cap'] w fun e w' => ∃ v, e = .returned (.tuple #[v, .bool true]) ∧ (Num w' v (natOf xs - natOf ys) ∧ New w.heap.size v) ∧ Below w.heap.size w w' := by
  have HX := Lib.hid hx
  have HY := Lib.hid hy
  have HXT := Lib.hid hx.trim
  have HYT := Lib.hid hy.trim
  have HC := Lib.hid (show decide (cmpI (natOf (digs (natOf xs))) (natOf (digs (natOf ys))) < 0) = false by
    rw [natOf_digs, natOf_digs]
    rcases cmpI_cases (natOf xs) (natOf ys) with ⟨h, h'⟩ | ⟨h, h'⟩ | ⟨h, h'⟩
    · omega
    · rw [h]; rfl
    · rw [h]; rfl)
  have hl1 := digs_length_of hx.2.1
  rw [hx.1] at hl1
  clear hx hy
  go_enter Tryz.func84, Tryz.ntmps84
  go_wp2_with fail
  refine (trim_any xs a len cap _ HX.out).mono ?_
  rintro e w1 ⟨rfl, rfl⟩
  go_wp2_with fail
  refine (trim_any ys a' len' cap' _ HY.out).mono ?_
  rintro e w1 ⟨rfl, rfl⟩
  go_wp2_with fail
  refine (cmp_any _ _ _ _ _ _ _ _ _ HXT.out HYT.out).mono ?_
  rintro e w1 ⟨rfl, hb1⟩
  clear HX HY
  have hcn := HC.out
  have HLe := Lib.hid (show (digs (natOf ys)).length ≤ (digs (natOf xs)).length by
    rcases Nat.lt_or_ge (digs (natOf xs)).length (digs (natOf ys)).length with h | h
    · have := lt_of_len h; omega
    · exact h)
  have HS := Lib.hid (show natOf (digs (natOf ys)) ≤ natOf (digs (natOf xs)) by rw [natOf_digs, natOf_digs]; exact hge)
  have HS' := Lib.hid (show natOf xs - natOf ys = natOf (digs (natOf xs)) - natOf (digs (natOf ys)) by rw [natOf_digs, natOf_digs])
  clear hge
  generalize hn : (digs (natOf xs)).length = n at *
  generalize hn' : (digs (natOf ys)).length = m at *
  have HP := Lib.hid hn
  have HQ := Lib.hid hn'
  clear hn hn'
  have HPl := Lib.hid (lim_digs (natOf xs))
  have HQl := Lib.hid (lim_digs (natOf ys))
  generalize digs (natOf xs) = P at *
  generalize digs (natOf ys) = Q at *
  have HPT := Lib.hid (HXT.out.below hb1)
  have HQT := Lib.hid (HYT.out.below hb1)
  have hbn : n * 4 ≤ 140737488355328 := by omega
  clear hl1 hm1 HXT HYT HC
  generalize cmpI (natOf P) (natOf Q) = cv at *
  go_wp2_with (at_make; refine wpList_mkn rfl _ _ 24 rfl 67 (.int .u32 0) 4 Tryz.underlying24 infoLimb rfl _ _ _ _ n rfl rfl rfl rfl (by omega) (by simp only [maxLen]; omega) fun w2 h1 h2 => ?_)
  have HO := Lib.hid h1
  clear h1 hcn
  go_wp2_with fail
  go_loopw [7, 23] (fun c i wr => ∃ (k cc : Nat) (zs : List Nat), k ≤ n ∧ i = .int .i64 k ∧ c = .int .u64 cc ∧ cc ≤ 1 ∧ Hid (zs.length = k) ∧ Hid (Lim zs) ∧ Hid (natOf zs + natOf (Q.take k) = natOf (P.take k) + 4294967296 ^ k * cc) ∧ Hid (Owns wr w1.heap.size 67 (.slice (some ⟨w1.heap.size, 0, none⟩) n n) (lvs (zs ++ List.replicate (n - k) 0))) ∧ Below w1.heap.size w1 wr) (fun _ i _ => n - (intOf i).toNat)
  case atStart => exact ⟨0, 0, [], by omega, rfl, rfl, by omega, rfl, lim_nil, by simp [Hid, natOf], by have := HO.out; simpa [Hid, lvs, lv] using this, h2⟩
  case round =>
    obtain ⟨k, cc, zs, hk, rfl, rfl, hcc1, HZ, HZl, HE, HOk, hb⟩ := hrel
    by_cases hlt : k < n
    · have c4 := HOk.out.free k
      have c3 := HOk.out.cell k (by omega)
      obtain ⟨b, off, rfl, _, hcc⟩ := HPT.out.2.2.at (k := k) (by omega)
      have c1 := hcc k hlt wr hb
      clear hcc
      have hx1 := HPl.out.getD k
      have hy1 := HQl.out.getD k
      have hS := HOk.out.store k (lv (P.getD k 0 + 4294967296 * bor (P.getD k 0) (Q.getD k 0) cc - Q.getD k 0 - cc))
      rw [lvs_set] at hS
      have e1 := lset_fill zs (n - k - 1) (P.getD k 0 + 4294967296 * bor (P.getD k 0) (Q.getD k 0) cc - Q.getD k 0 - cc)
      rw [HZ.out, show n - k - 1 + 1 = n - k by omega] at e1
      rw [e1, show n - k - 1 = n - (k + 1) by omega] at hS
      have HS1 := Lib.hid hS
      have HBE := Lib.hid (bor_eq hx1 hy1 hcc1)
      have HE1 := Lib.hid (sub_step HZ.out HE.out HBE.out.1)
      have HBs := Lib.hid (fun v => hb.setCell (p := ⟨w1.heap.size, k, none⟩) (Nat.le_refl _) v)
      clear hS e1
      generalize (lvs (zs ++ List.replicate (n - k) 0)).getD k .nilFunc = old at *
      by_cases hq : k < m
      · obtain ⟨b', off', rfl, _, hcc⟩ := HQT.out.2.2.at (k := k) (by omega)
        have c2 := hcc k hq wr hb
        clear hcc
        generalize P.getD k 0 = x at *
        generalize Q.getD k 0 = y at *
        have HFm := Lib.hid (bor_form hx1 hy1 hcc1)
        go_wp2_with fail
        rw [HFm.out.1, HFm.out.2]
        go_roundw
        case rel => exact ⟨k + 1, bor x y cc, zs ++ [x + 4294967296 * bor x y cc - y - cc], by omega, by go_num, rfl, bor_le _ _ _, by unfold Hid; simp [HZ.out], HZl.out.snoc HBE.out.2, HE1, HS1, HBs.out _⟩
        case measure => simp [intOf]; omega
      · have HY0 := Lib.hid (show Q.getD k 0 = 0 by simp [List.getD, List.getElem?_eq_none (show Q.length ≤ k by rw [HQ.out]; omega)])
        rw [HY0.out] at HS1 HE1 HBE
        generalize P.getD k 0 = x at *
        have HFm := Lib.hid (bor_form0 hx1 hcc1)
        go_wp2_with fail
        rw [HFm.out.1, HFm.out.2]
        go_roundw
        case rel => exact ⟨k + 1, bor x 0 cc, zs ++ [x + 4294967296 * bor x 0 cc - 0 - cc], by omega, by go_num, rfl, bor_le _ _ _, by unfold Hid; simp [HZ.out], HZl.out.snoc HBE.out.2, HE1, HS1, HBs.out _⟩
        case measure => simp [intOf]; omega
    · obtain rfl : k = n := by omega
      have HL := Lib.hid (HOk.out.limbs' (HZl.out.append (lim_replicate _)))
      have HEnd := Lib.hid (show natOf (zs ++ List.replicate (k - k) 0) = natOf xs - natOf ys by
        rw [HS'.out, Nat.sub_self, List.replicate_zero, List.append_nil]
        exact sub_end HZl.out HZ.out HP.out (by rw [HQ.out]; exact HLe.out) HS.out HE.out)
      go_wp2_with fail
      refine (trim_numN _ _ _ _ _ _ w.heap.size HL.out HEnd.out (fun x hx => by cases hx; exact hb1.size)).mono ?_
      rintro e w2 ⟨v, rfl, hN, rfl⟩
      have HNum := Lib.hid hN
      clear hN
      go_wp2_with fail
      go_ret2
      exact ⟨v, rfl, HNum.out, hb1.trans (hb.mono hb1.size)⟩

theorem sub_any (xs ys : List Nat) (a a' : Option Addr) (len cap len' cap' : Nat) (w : World) (hx : Limbs w a len cap xs) (hy : Limbs w a' len' cap' ys) (hm1 : len * 4 ≤ 140737488355328) (hge : natOf ys ≤ natOf xs) :
    Calls Tryz.prog 84 #[.slice a len cap, .slice a' len' cap'] w fun e w' => ∃ v, e = .returned (.tuple #[v, .bool true]) ∧ Num w' v (natOf xs - natOf ys) ∧ Below w.heap.size w w' :=
  (sub_new xs ys a a' len cap len' cap' w hx hy hm1 hge).mono fun _ _ ⟨v, h1, h2, h3⟩ => ⟨v, h1, h2.1, h3⟩

end Go.Proofs.YtahmndacoanfiaaGreat
