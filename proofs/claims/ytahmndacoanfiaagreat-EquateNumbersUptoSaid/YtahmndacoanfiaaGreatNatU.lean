/- Natural numbers: what the reference's DivMod returns, for all limbs. Condition: the limbs can be read, and take at most 2^46 bytes. -/
import Derived.Test.YtahmndacoanfiaaGreatNatT
import Derived.Test.YtahmndacoanfiaaGreatNatOff
namespace Go.Proofs.YtahmndacoanfiaaGreat
set_option maxRecDepth 100000
open Go.RowKit

theorem Num.len_le {w : World} {a : Option Addr} {len cap n k : Nat} (h : Limbs w a len cap (digs n)) (hk : n < 4294967296 ^ k) : len ≤ k := by rw [← h.1]; exact digs_length_le hk

theorem rdivmod_zero (xs ys : List Nat) (a a' : Option Addr) (len cap len' cap' : Nat) (w : World) (hx : Limbs w a len cap xs) (hy : Limbs w a' len' cap' ys) (h0 : natOf ys = 0) (hm1 : len * 4 ≤ 140737488355328) (hm2 : len' * 4 ≤ 140737488355328) :
    Calls Tryz.prog 95 #[.slice a len cap, .slice a' len' cap'] w fun e w' => e = .returned (.tuple #[.slice none 0 0, .slice none 0 0, .bool false]) ∧ Below w.heap.size w w' := by
  have HX := Lib.hid hx
  have HY := Lib.hid hy
  have HZ := Lib.hid h0
  clear hx hy h0
  go_enter Tryz.func95, Tryz.ntmps95
  go_wp2_with fail
  refine (rnorm_any xs a len cap _ HX.out (by omega)).mono ?_
  rintro e w1 ⟨v1, rfl, _, hb1⟩
  have HY1 := Lib.hid (HY.out.below hb1)
  go_wp2_with fail
  refine (rnorm_any ys a' len' cap' _ HY1.out (by omega)).mono ?_
  rintro e w2 ⟨v2, rfl, ⟨a2, n2, c2, rfl, hN2⟩, hb2⟩
  have hn2 : n2 = 0 := by rw [← hN2.1, HZ.out, digs_zero]; rfl
  subst hn2
  clear hN2
  go_wp2_with fail
  go_ret3
  exact ⟨rfl, hb1.trans (hb2.mono hb1.size)⟩

theorem rdm_size {X Y k n : Nat} (hk : k ≤ blen X - blen Y) (hle : blen Y ≤ blen X) (hX : (digs X).length ≤ n) : Y * 2 ^ k < 4294967296 ^ n := by
  have h1 := lt_blen Y
  have h2 := blen_le_len hX
  have h3 : Y * 2 ^ k < 2 ^ blen Y * 2 ^ k := Nat.mul_lt_mul_of_pos_right h1 (Nat.pow_pos (by omega))
  rw [← Nat.pow_add] at h3
  rw [pow32]
  exact Nat.lt_of_lt_of_le h3 (Nat.pow_le_pow_right (by omega) (by omega))

theorem or_bit {z j : Nat} (hz : z < 4294967296) : bits .or .u32 (z : Int) (2 ^ (j % 32) % 4294967296) = ((z ||| 2 ^ (j % 32) : Nat) : Int) := by
  have hpow : 2 ^ (j % 32) < 4294967296 := Nat.pow_lt_pow_right (m := j % 32) (n := 32) (a := 2) (by omega) (by omega)
  rw [show ((2 : Int) ^ (j % 32)) = ((2 ^ (j % 32) : Nat) : Int) by simp]
  rw [or_u32 hz, Nat.mod_eq_of_lt hpow]

set_option maxHeartbeats 2000000 in
theorem rdivmod_new (xs ys : List Nat) (a a' : Option Addr) (len cap len' cap' : Nat) (w : World) (hx : Limbs w a len cap xs) (hy : Limbs w a' len' cap' ys) (h0 : natOf ys ≠ 0) (hm1 : len * 4 ≤ 140737488355328) (hm2 : len' * 4 ≤ 140737488355328) :
    Calls Tryz.prog 95 #[.slice a len cap, .slice a' len' cap'] w fun e w' => ∃ v u, e = .returned (.tuple #[v, u, .bool true]) ∧ (Num w' v (natOf xs / natOf ys) ∧ New w.heap.size v) ∧ Num w' u (natOf xs % natOf ys) ∧ Below w.heap.size w w' := by
  have HX := Lib.hid hx
  have HY := Lib.hid hy
  have hl1 := digs_length_of hx.2.1
  have hl2 := digs_length_of hy.2.1
  rw [hx.1] at hl1
  rw [hy.1] at hl2
  clear hx hy
  go_enter Tryz.func95, Tryz.ntmps95
  go_wp2_with fail
  refine (rnorm_any xs a len cap _ HX.out (by omega)).mono ?_
  rintro e w1 ⟨v1, rfl, ⟨a1, n1, c1, rfl, hN1⟩, hb1⟩
  have HY1 := Lib.hid (HY.out.below hb1)
  go_wp2_with fail
  refine (rnorm_any ys a' len' cap' _ HY1.out (by omega)).mono ?_
  rintro e w2 ⟨v2, rfl, ⟨a2, n2, c2, rfl, hN2⟩, hb2⟩
  have hb02 := hb1.trans (hb2.mono hb1.size)
  have hn1 : n1 ≤ len := by rw [← hN1.1]; exact hl1
  have hn2 : n2 ≤ len' := by rw [← hN2.1]; exact hl2
  have hn20 : n2 ≠ 0 := by rw [← hN2.1]; exact fun h => h0 (digs_len_zero.1 h)
  have HN1 := Lib.hid (hN1.below hb2)
  have HN2 := Lib.hid hN2
  have HN1l := Lib.hid hN1.1
  clear hN1 hN2 HX HY HY1 hl1 hl2 hb1 hb2
  generalize hX : natOf xs = X at *
  generalize hY : natOf ys = Y at *
  have HXX := Lib.hid hX
  have HYY := Lib.hid hY
  clear hX hY
  by_cases h1 : n2 = 1
  · subst h1
    have hYl := Nat.pow_one 4294967296 ▸ lt_of_digs_length (n := Y) (k := 1) (by rw [HN2.out.1]; omega)
    have HD1 := Lib.hid (show digs Y = [Y] by rw [digs_pos h0, Nat.mod_eq_of_lt hYl, Nat.div_eq_of_lt hYl, digs_zero])
    rw [HD1.out] at HN2
    obtain ⟨b, off, rfl, _, hcc⟩ := HN2.out.2.2.at (k := 0) (by omega)
    have c1' := hcc 0 (by omega) w2 (Below.refl _ _)
    simp only [Nat.add_zero, List.getD_cons_zero] at c1'
    have HSh := Lib.hid (rshort_new _ _ _ _ Y _ HN1.out (by omega) hYl (by omega))
    rw [natOf_digs] at HSh
    have hml := Nat.mod_lt X (show 0 < Y by omega)
    clear hcc hn20
    go_wp2_with fail
    refine HSh.out.mono ?_
    rintro e w3 ⟨v3, rfl, hv3, hb3⟩
    generalize hR : X % Y = r at *
    have HR := Lib.hid hR
    have HV3 := Lib.hid hv3.1
    have HW3 := Lib.hid (hv3.2.mono hb02.size)
    clear hR hv3
    go_wp2_with fail
    refine (rof_any r (by omega) _).mono ?_
    rintro e w4 ⟨v4, rfl, hv4, hb4⟩
    have HV4 := Lib.hid hv4
    have HV3' := Lib.hid (HV3.out.below hb4)
    clear hv4
    go_wp2_with fail
    go_ret3
    exact ⟨v3, v4, rfl, ⟨by rw [HXX.out, HYY.out]; exact HV3'.out, HW3.out⟩, by rw [HXX.out, HYY.out, HR.out]; exact HV4.out, hb02.trans ((hb3.mono hb02.size).trans (hb4.mono (Nat.le_trans hb02.size hb3.size)))⟩
  · have d0 : ((n2 : Int) == 0) = false := by simp; omega
    have d1 : ((n2 : Int) == 1) = false := by simp; omega
    clear h1
    have HBX := Lib.hid (rbits_any _ _ _ _ _ HN1.out (by omega))
    rw [natOf_digs] at HBX
    have HBY := Lib.hid (fun w' (hb : Below w2.heap.size w2 w') => rbits_any _ _ _ _ w' (HN2.out.below hb) (by omega))
    rw [natOf_digs] at HBY
    have hbx := blen_le_len (n := X) (k := n1) (by rw [HN1l.out]; omega)
    have hby := blen_le_len (n := Y) (k := n2) (by rw [HN2.out.1]; omega)
    have hby2 : 32 * (n2 - 1) ≤ blen Y := by rw [blen_digs h0, HN2.out.1]; omega
    go_wp2_with fail
    refine HBX.out.mono ?_
    rintro e w3 ⟨rfl, hb3⟩
    go_wp2_with fail
    refine (HBY.out w3 hb3).mono ?_
    rintro e w4 ⟨rfl, hb4⟩
    have hb24 := hb3.trans (hb4.mono hb3.size)
    have HN1' := Lib.hid (HN1.out.below hb24)
    have HN2' := Lib.hid (HN2.out.below hb24)
    have hb04 := hb02.trans (hb24.mono hb02.size)
    clear HN1 HN2 HBX HBY
    by_cases hlt : blen X < blen Y
    · have hXY := dm_small hlt
      generalize blen X = bx at *
      generalize blen Y = by' at *
      have HQ := Lib.hid (show X / Y = 0 from Nat.div_eq_of_lt hXY)
      have HR := Lib.hid (show X % Y = X from Nat.mod_eq_of_lt hXY)
      clear hXY h0
      go_wp2_with fail
      go_ret3
      exact ⟨.slice none 0 0, .slice a1 n1 c1, rfl, ⟨by rw [HXX.out, HYY.out, HQ.out]; exact num_nil _, fun x l c e => by cases e⟩, by rw [HXX.out, HYY.out, HR.out]; exact ⟨_, _, _, rfl, HN1'.out⟩, hb04⟩
    · obtain ⟨n, hn⟩ : ∃ n, n = blen X - blen Y := ⟨_, rfl⟩
      have HSt := Lib.hid (dm_start h0 (by omega : blen Y ≤ blen X))
      rw [← hn] at HSt
      have HSz := Lib.hid (fun k (hk : k ≤ n) => rdm_size (X := X) (Y := Y) (k := k) (n := n1) (by omega) (by omega) (by rw [HN1l.out]; omega))
      have hsub : (blen X : Int) - (blen Y : Int) = (n : Int) := by omega
      have hbn : n ≤ 32 * n1 := by omega
      have hnle : blen Y ≤ blen X := by omega
      clear hn
      generalize blen X = bx at *
      generalize blen Y = by' at *
      clear hlt
      have HShift := Lib.hid (fun w' (hb : Below w4.heap.size w4 w') => rshift_new _ _ _ _ n w' (HN2'.out.below hb) (by omega))
      rw [natOf_digs] at HShift
      go_wp2_with (at_make; refine wpList_mkn rfl _ _ 24 rfl 67 (.int .u32 0) 4 Tryz.underlying24 infoLimb rfl _ _ _ _ (n / 32 + 1) rfl rfl (by omega) (by omega) (by omega) (by simp only [maxLen]; omega) fun w5 h1 h2 => ?_)
      have HO := Lib.hid h1
      clear hsub
      refine (HShift.out w5 h2).mono ?_
      rintro e w6 ⟨v6, rfl, ⟨hv6, hnew6⟩, hb6⟩
      have HOf6 := Lib.hid (hnew6.off (g := w4.heap.size) (Owns.in h1 _ rfl))
      have HOf1 := Lib.hid (HN1'.out.offOld (Nat.le_refl _))
      clear hnew6 h1
      have hb46 := h2.trans (hb6.mono h2.size)
      have HO6 := Lib.hid (HO.out.later hb6)
      have HV6 := Lib.hid hv6
      have HN1'' := Lib.hid (HN1'.out.below hb46)
      clear hv6 HShift HN1' HN2' HO
      go_wp2_with fail
      go_loopw [0, 11, 12] (fun va vd vi wr => ∃ (k A D : Nat) (R : List Nat), k ≤ n + 1 ∧ vi = .int .i64 ((k : Int) - 1) ∧ Hid (Num wr va A) ∧ Hid (Num wr vd D) ∧ Hid (Off w4.heap.size va) ∧ Hid (Off w4.heap.size vd) ∧ Hid (∀ j, k = j + 1 → D = Y * 2 ^ j) ∧ Hid (X = A + Y * natOf R) ∧ Hid (A < Y * 2 ^ k) ∧ Hid (natOf R % 2 ^ k = 0) ∧ Hid (R.length = n / 32 + 1) ∧ Hid (Lim R) ∧ Hid (Owns wr w4.heap.size 67 (.slice (some ⟨w4.heap.size, 0, none⟩) (n / 32 + 1) (n / 32 + 1)) (lvs R)) ∧ Below w4.heap.size w4 wr) (fun _ _ vi _ => (1 + intOf vi).toNat)
      case atStart =>
        refine ⟨n + 1, X, Y * 2 ^ n, List.replicate (n / 32 + 1) 0, Nat.le_refl _, by go_num, ⟨_, _, _, rfl, HN1''.out⟩, HV6.out, HOf1.out, HOf6.out, fun j hj => by rw [show j = n by omega], by simp [Hid, natOf_replicate], HSt, by simp [Hid, natOf_replicate], by simp [Hid], lim_replicate _, ?_, hb46⟩
        have := HO6.out
        simpa [Hid, lvs, lv] using this
      case round =>
        obtain ⟨k, A, D, R, hk, rfl, HA, HD, HOA, HOD, HDk, HE, HAl, HRm, HR, HRl, HOk, hb⟩ := hrel
        cases k with
        | zero =>
          have HEnd := Lib.hid (dm_end HE.out (by have := HAl.out; simpa using this))
          have HL := Lib.hid (HOk.out.limbs' HRl.out)
          go_wp2_with fail
          refine (rnorm_numN _ _ _ _ _ _ w.heap.size HL.out HEnd.out.1 (by omega) (Nat.le_trans hb04.size hb.size)).mono ?_
          rintro e w7 ⟨v7, rfl, hN7, hb7⟩
          have HN7 := Lib.hid hN7
          have HA7 := Lib.hid (HA.out.below hb7)
          clear hN7
          go_wp2_with fail
          go_ret3
          exact ⟨v7, u0, rfl, ⟨by rw [HXX.out, HYY.out]; exact HN7.out.1, HN7.out.2⟩, by rw [HXX.out, HYY.out, ← HEnd.out.2]; exact HA7.out, hb04.trans ((hb.trans (hb7.mono hb.size)).mono hb04.size)⟩
        | succ j =>
          rw [show (((j + 1 : Nat) : Int) - 1) = (j : Int) by omega]
          have HDj := Lib.hid (HDk.out j rfl)
          have HDl := Lib.hid (HSz.out j (by omega))
          rw [← HDj.out] at HDl
          have HAX := Lib.hid (show A < 4294967296 ^ n1 from Nat.lt_of_le_of_lt (show A ≤ X by have := HE.out; omega) (lt_of_digs_length (by rw [HN1l.out]; omega)))
          obtain ⟨aa, na, ca, rfl, hLA⟩ := HA.out
          obtain ⟨ad, nd, cd, rfl, hLD⟩ := HD.out
          have hna : na ≤ n1 := Num.len_le hLA HAX.out
          have hnd : nd ≤ n1 := Num.len_le hLD HDl.out
          have HLA := Lib.hid hLA
          have HLD := Lib.hid hLD
          clear hLA hLD HA HD HDk HSz
          have HCmp := Lib.hid (rcmp_any _ _ _ _ _ _ _ _ _ HLA.out HLD.out)
          rw [natOf_digs, natOf_digs] at HCmp
          have HHalf := Lib.hid (fun w' (h' : Limbs w' ad nd cd (digs D)) => rhalf_new _ _ _ _ w' h' (by omega))
          rw [natOf_digs] at HHalf
          have hgw : w4.heap.size < wr.heap.size := Owns.in HOk.out _ rfl
          have HD2 := Lib.hid (show ∀ i, j = i + 1 → D / 2 = Y * 2 ^ i from fun i hi => by rw [HDj.out, hi, Nat.pow_succ, ← Nat.mul_assoc, Nat.mul_div_cancel _ (by omega)])
          by_cases hge : D ≤ A
          · have HSub := Lib.hid (rsub_new _ _ _ _ _ _ _ _ _ HLA.out HLD.out (by omega) (by rw [natOf_digs, natOf_digs]; exact hge))
            rw [natOf_digs, natOf_digs] at HSub
            have hcp : decide (0 ≤ cmpI A D) = true := by
              rcases cmpI_cases A D with ⟨h, h'⟩ | ⟨h, h'⟩ | ⟨h, h'⟩
              · omega
              · rw [h]; rfl
              · rw [h]; rfl
            have HYes := Lib.hid (dm_yes HDj.out HE.out HAl.out hge)
            have HBit := Lib.hid (bit_or HRl.out (by rw [HR.out]; omega) HRm.out)
            have HM2 := Lib.hid (mod_pow_add HRm.out).1
            generalize cmpI A D = cv at *
            go_wp2_with fail
            refine HCmp.out.mono ?_
            rintro e w7 ⟨rfl, rfl⟩
            go_wp2_with fail
            refine HSub.out.mono ?_
            rintro e w7 ⟨v7, rfl, ⟨hv7, hnew7⟩, hb7⟩
            have HO7 := Lib.hid (HOk.out.later hb7)
            have HOf7 := Lib.hid (hnew7.off hgw)
            have HV7 := Lib.hid hv7
            have hb47 := hb.trans (hb7.mono hb.size)
            have hp1 := HRl.out.getD (j / 32)
            have c3 := HO7.out.cell (j / 32) (by omega)
            rw [lvs_at R _ (by rw [HR.out]; omega)] at c3
            unfold lv at c3
            have c4 := HO7.out.free (j / 32)
            have hS := HO7.out.store (j / 32) (lv (R.getD (j / 32) 0 ||| 2 ^ (j % 32)))
            rw [lvs_set] at hS
            have HS1 := Lib.hid hS
            have HBs := Lib.hid (fun v => hb47.setCell (p := ⟨w4.heap.size, j / 32, none⟩) (Nat.le_refl _) v)
            have HLD7 := Lib.hid ((HLD.out.below hb7).off HOD.out (j / 32))
            have HV8 := Lib.hid (HV7.out.off HOf7.out (j / 32))
            have hs7 : w4.heap.size < w7.heap.size := Nat.lt_of_lt_of_le hgw hb7.size
            clear hv7 hS HCmp HSub hnew7
            have hjn : j / 32 < n / 32 + 1 := by omega
            have HRl2 := Lib.hid (HRl.out.set (j / 32) _ HBit.out.2)
            have HR2 := Lib.hid (show (R.set (j / 32) (R.getD (j / 32) 0 ||| 2 ^ (j % 32))).length = n / 32 + 1 by rw [List.length_set]; exact HR.out)
            have HE2 := Lib.hid (show X = A - D + Y * natOf (R.set (j / 32) (R.getD (j / 32) 0 ||| 2 ^ (j % 32))) by rw [HBit.out.1]; exact HYes.out.1)
            have HM3 := Lib.hid (show natOf (R.set (j / 32) (R.getD (j / 32) 0 ||| 2 ^ (j % 32))) % 2 ^ j = 0 by rw [HBit.out.1]; exact HM2.out)
            generalize hRR : R.getD (j / 32) 0 = z at *
            clear hRR HBit
            have HF := Lib.hid (or_bit (j := j) hp1)
            generalize z ||| 2 ^ (j % 32) = u at *
            go_wp2_with fail
            rw [HF.out]
            refine (HHalf.out _ (HLD7.out _)).mono ?_
            rintro e w8 ⟨v8, rfl, ⟨hv8, hnew8⟩, hb8⟩
            have HV88 := Lib.hid hv8
            have HOf8 := Lib.hid (hnew8.off (g := w4.heap.size) (by simpa using hs7))
            have HS8 := Lib.hid (Owns.later HS1.out hb8)
            have HV78 := Lib.hid ((HV8.out _).below hb8)
            have HBn := Lib.hid ((HBs.out _).trans (hb8.mono (by have := (HBs.out (.int .u32 u)).size; simpa using this)))
            clear hv8 hnew8
            go_wp2_with fail
            go_roundw
            case rel => exact ⟨j, A - D, D / 2, R.set (j / 32) u, by omega, rfl, HV78, HV88, HOf7, HOf8, HD2, HE2, HYes.out.2, HM3, HR2, HRl2, HS8, HBn.out⟩
            case measure => simp [intOf]; omega
          · have hcp : decide (0 ≤ cmpI A D) = false := by rw [cmpI_lt (by omega)]; rfl
            have HA2 := Lib.hid (show A < Y * 2 ^ j by rw [← HDj.out]; omega)
            have HM2 := Lib.hid (mod_pow_add HRm.out).2
            generalize cmpI A D = cv at *
            go_wp2_with fail
            refine HCmp.out.mono ?_
            rintro e w7 ⟨rfl, rfl⟩
            go_wp2_with fail
            refine (HHalf.out _ HLD.out).mono ?_
            rintro e w8 ⟨v8, rfl, ⟨hv8, hnew8⟩, hb8⟩
            have HV88 := Lib.hid hv8
            have HOf8 := Lib.hid (hnew8.off hgw)
            have HO8 := Lib.hid (HOk.out.later hb8)
            have HA8 := Lib.hid (show Num w8 (.slice aa na ca) A from ⟨_, _, _, rfl, HLA.out.below hb8⟩)
            have HBn := Lib.hid (hb.trans (hb8.mono hb.size))
            clear hv8 hnew8
            go_wp2_with fail
            go_roundw
            case rel => exact ⟨j, A, D / 2, R, by omega, rfl, HA8, HV88, HOA, HOf8, HD2, HE, HA2, HM2, HR, HRl, HO8, HBn.out⟩
            case measure => simp [intOf]; omega

theorem rdivmod_any (xs ys : List Nat) (a a' : Option Addr) (len cap len' cap' : Nat) (w : World) (hx : Limbs w a len cap xs) (hy : Limbs w a' len' cap' ys) (h0 : natOf ys ≠ 0) (hm1 : len * 4 ≤ 140737488355328) (hm2 : len' * 4 ≤ 140737488355328) :
    Calls Tryz.prog 95 #[.slice a len cap, .slice a' len' cap'] w fun e w' => ∃ v u, e = .returned (.tuple #[v, u, .bool true]) ∧ Num w' v (natOf xs / natOf ys) ∧ Num w' u (natOf xs % natOf ys) ∧ Below w.heap.size w w' :=
  (rdivmod_new xs ys a a' len cap len' cap' w hx hy h0 hm1 hm2).mono fun _ _ ⟨v, u, h1, h2, h3, h4⟩ => ⟨v, u, h1, h2.1, h3, h4⟩

end Go.Proofs.YtahmndacoanfiaaGreat
