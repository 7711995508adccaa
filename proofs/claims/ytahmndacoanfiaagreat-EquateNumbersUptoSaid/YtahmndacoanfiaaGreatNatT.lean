/- Natural numbers: what the reference's Bits, Shift, half and DivMod return, for all limbs. Condition: the limbs can be read, and take at most 2^46 bytes. -/
import Derived.Test.YtahmndacoanfiaaGreatNatS
import Derived.Test.YtahmndacoanfiaaGreatNatQ
namespace Go.Proofs.YtahmndacoanfiaaGreat
set_option maxRecDepth 100000
open Go.RowKit

set_option maxHeartbeats 400000 in
theorem rbits_any (xs : List Nat) (a : Option Addr) (len cap : Nat) (w : World) (hx : Limbs w a len cap xs) (hm : len * 4 ≤ 140737488355328) :
    Calls Tryz.prog 91 #[.slice a len cap] w fun e w' => e = .returned (.int .i64 ((blen (natOf xs) : Nat) : Int)) ∧ Below w.heap.size w w' := by
  have HX := Lib.hid hx
  have hl := digs_length_of hx.2.1
  rw [hx.1] at hl
  clear hx
  go_enter Tryz.func91, Tryz.ntmps91
  go_wp2_with fail
  refine (rnorm_any xs a len cap _ HX.out (by omega)).mono ?_
  rintro e w1 ⟨v, rfl, ⟨a1, n1, c1, rfl, hN⟩, hb1⟩
  have hn1 : n1 ≤ len := by rw [← hN.1]; exact hl
  have HN := Lib.hid hN
  clear hN hl
  by_cases h0 : n1 = 0
  · have HZ := Lib.hid (show natOf xs = 0 from digs_len_zero.1 (by rw [HN.out.1]; exact h0))
    have d0 : ((n1 : Int) == 0) = true := by simp [h0]
    clear h0
    go_wp2_with fail
    go_ret
    exact ⟨by rw [HZ.out, blen_zero]; rfl, hb1⟩
  · have hz : natOf xs ≠ 0 := fun h => h0 (by rw [← HN.out.1]; exact digs_len_zero.2 h)
    have HB := Lib.hid (blen_digs hz)
    have HBl := Lib.hid (blen_le_len (n := natOf xs) (k := n1) (by rw [HN.out.1]; omega))
    rw [HN.out.1] at HB
    obtain ⟨b, off, rfl, _, hcc⟩ := HN.out.2.2.at (k := n1 - 1) (by omega)
    have c1 := hcc (n1 - 1) (by omega) w1 (Below.refl _ _)
    have ht1 := HN.out.2.1.getD (n1 - 1)
    clear hcc hz
    generalize (digs (natOf xs)).getD (n1 - 1) 0 = t0 at *
    have hn0 : 1 ≤ n1 := by omega
    have d0 : ((n1 : Int) == 0) = false := by simp; omega
    clear h0
    go_wp2_with fail
    go_loop [3, 4] (fun c x => ∃ (k t : Nat), c = .int .i64 (k : Int) ∧ x = .int .u32 (t : Int) ∧ t < 4294967296 ∧ k ≤ 32 * n1 ∧ Hid (k + blen t = blen (natOf xs))) (fun _ x => (intOf x).toNat)
    case atStart => exact ⟨32 * (n1 - 1), t0, by go_num, rfl, ht1, by omega, by unfold Hid; exact HB.out.symm⟩
    case round =>
      obtain ⟨k, t, rfl, rfl, ht, hk, HE⟩ := hrel
      by_cases h0 : t = 0
      · subst h0
        have HF := Lib.hid (show blen (natOf xs) = k by rw [← HE.out, blen_zero]; rfl)
        go_wp2_with fail
        go_ret
        exact ⟨by rw [HF.out]; rfl, hb1⟩
      · have HE1 := Lib.hid (show k + 1 + blen (t / 2) = blen (natOf xs) by rw [← HE.out, blen_pos h0]; omega)
        have hk1 : k + 1 ≤ 32 * n1 := by have h1 := HE1.out; have h2 := HBl.out; omega
        have h1 : 0 < t := by omega
        clear h0
        go_wp2_with fail
        go_round
        case rel => exact ⟨k + 1, t / 2, by go_num, by go_num, by omega, hk1, HE1⟩
        case measure => simp [intOf]; omega

set_option maxHeartbeats 1000000 in
theorem rhalf_new (xs : List Nat) (a : Option Addr) (len cap : Nat) (w : World) (hx : Limbs w a len cap xs) (hm : len * 4 ≤ 140737488355328) :
    Calls Tryz.prog 116 #[.slice a len cap] w fun e w' => ∃ v, e = .returned v ∧ (Num w' v (natOf xs / 2) ∧ New w.heap.size v) ∧ Below w.heap.size w w' := by
  have HX := Lib.hid hx
  clear hx
  go_enter Tryz.func116, Tryz.ntmps116
  go_wp2_with (at_make; refine wpList_mkn rfl _ _ 24 rfl 67 (.int .u32 0) 4 Tryz.underlying24 infoLimb rfl _ _ _ _ len rfl rfl rfl rfl (by omega) (by simp only [maxLen]; omega) fun w1 h1 h2 => ?_)
  have HO := Lib.hid h1
  clear h1
  go_wp2_with fail
  go_loopw [4] (fun i wr => ∃ (k : Nat) (zs : List Nat), k ≤ len ∧ i = .int .i64 k ∧ Hid (zs.length = k) ∧ Hid (Lim zs) ∧ Hid (2 * natOf zs + xs.getD 0 0 % 2 = natOf (xs.take k) + 4294967296 ^ k * (xs.getD k 0 % 2)) ∧ Hid (Owns wr w.heap.size 67 (.slice (some ⟨w.heap.size, 0, none⟩) len len) (lvs (zs ++ List.replicate (len - k) 0))) ∧ Below w.heap.size w wr) (fun i _ => len - (intOf i).toNat)
  case atStart => exact ⟨0, [], by omega, rfl, rfl, lim_nil, by simp [Hid, natOf], by have := HO.out; simpa [Hid, lvs, lv] using this, h2⟩
  case round =>
    obtain ⟨k, zs, hk, rfl, HZ, HZl, HE, HOk, hb⟩ := hrel
    by_cases hlt : k < len
    · obtain ⟨b, off, rfl, _, hcc⟩ := HX.out.2.2.at (k := k) hlt
      have c1 := hcc k hlt wr hb
      clear hcc
      have hx1 := HX.out.2.1.getD k
      have hy1 := HX.out.2.1.getD (k + 1)
      have c3 := HOk.out.cell k (by omega)
      have c4 := HOk.out.free k
      have HXr := Lib.hid (HX.out.below hb)
      have HE1 := Lib.hid (half_step (y := (xs.getD (k + 1) 0 * 4294967296 + xs.getD k 0) / 2 % 4294967296) HZ.out (half_limb hx1) HE.out)
      have hS := HOk.out.store k (lv ((xs.getD (k + 1) 0 * 4294967296 + xs.getD k 0) / 2 % 4294967296))
      rw [lvs_set] at hS
      have e1 := lset_fill zs (len - k - 1) ((xs.getD (k + 1) 0 * 4294967296 + xs.getD k 0) / 2 % 4294967296)
      rw [HZ.out, show len - k - 1 + 1 = len - k by omega] at e1
      rw [e1, show len - k - 1 = len - (k + 1) by omega] at hS
      have HS1 := Lib.hid hS
      have HBs := Lib.hid (fun v => hb.setCell (p := ⟨w.heap.size, k, none⟩) (Nat.le_refl _) v)
      clear hS e1
      generalize (lvs (zs ++ List.replicate (len - k) 0)).getD k .nilFunc = old at *
      generalize hX1 : xs.getD k 0 = x at *
      generalize hY1 : xs.getD (k + 1) 0 = y at *
      have HY1 := Lib.hid hY1
      clear hX1 hY1
      go_wp2_with fail
      have q1 : IntKind.i64.wrap ((k : Int) + 1) = ((k + 1 : Nat) : Int) := IntWalk.i64_in _ (by omega)
      refine wp_region_still_tail 16 (by kernel_rfl) (by kernel_rfl) ?_
      simp only [List.take_succ_cons, List.take_zero, List.drop_succ_cons, List.drop_zero]
      repeat still_step
      still_call (Calls.flip (rlimb_any xs _ _ _ (k + 1) y _ (HXr.out.below (Below.refl _ _).drew) HY1.out))
      repeat still_step
      refine wpStill_nil ?_
      clear q1
      change wpList _ _ _ _ _ wr.drew
      go_wp2_with fail
      go_roundw
      case rel => exact ⟨k + 1, zs ++ [(y * 4294967296 + x) / 2 % 4294967296], by omega, by go_num, by unfold Hid; simp [HZ.out], HZl.out.snoc (by omega), by unfold Hid; rw [HY1.out]; exact HE1.out, Owns.drew HS1.out, (HBs.out _).drew⟩
      case measure => simp [intOf]; omega
    · obtain rfl : k = len := by omega
      have HL := Lib.hid (HOk.out.limbs' (HZl.out.append (lim_replicate _)))
      have HEnd := Lib.hid (show natOf (zs ++ List.replicate (k - k) 0) = natOf xs / 2 by
        rw [Nat.sub_self, List.replicate_zero, List.append_nil]; exact half_end (by rw [HX.out.1]; omega) HE.out)
      generalize zs ++ List.replicate (k - k) 0 = Z at *
      go_wp2_with fail
      refine (rnorm_numN _ _ _ _ _ _ w.heap.size HL.out HEnd.out (by omega) hb.size).mono ?_
      rintro e w2 ⟨v, rfl, hN, hb2⟩
      have HNum := Lib.hid hN
      clear hN
      go_wp2_with fail
      go_ret
      exact ⟨v, rfl, HNum.out, hb.trans (hb2.mono hb.size)⟩

theorem rhalf_any (xs : List Nat) (a : Option Addr) (len cap : Nat) (w : World) (hx : Limbs w a len cap xs) (hm : len * 4 ≤ 140737488355328) :
    Calls Tryz.prog 116 #[.slice a len cap] w fun e w' => ∃ v, e = .returned v ∧ Num w' v (natOf xs / 2) ∧ Below w.heap.size w w' :=
  (rhalf_new xs a len cap w hx hm).mono fun _ _ ⟨v, h1, h2, h3⟩ => ⟨v, h1, h2.1, h3⟩

theorem bits_or_u32_nat (a b : Nat) (ha : a < 4294967296) (hb : b < 4294967296) : bits .or .u32 (a : Int) (b : Int) = ((a ||| b : Nat) : Int) := by
  have hx : a ||| b < 2 ^ 32 := Nat.or_lt_two_pow (by omega) (by omega)
  have h1 : (BitVec.ofInt 32 (a : Int)).toNat = a := by
    rw [BitVec.ofInt_natCast, BitVec.toNat_ofNat]; exact Nat.mod_eq_of_lt (by omega)
  have h2 : (BitVec.ofInt 32 (b : Int)).toNat = b := by
    rw [BitVec.ofInt_natCast, BitVec.toNat_ofNat]; exact Nat.mod_eq_of_lt (by omega)
  show IntKind.u32.wrap ((BitVec.ofInt 32 (a : Int) ||| BitVec.ofInt 32 (b : Int)).toNat : Int) = _
  rw [BitVec.toNat_or, h1, h2]
  simp [IntKind.wrap, IntKind.bits, IntKind.signed]
  omega
theorem or_u32 {z y : Nat} (hz : z < 4294967296) : bits .or .u32 (z : Int) ((y : Int) % 4294967296) = ((z ||| y % 4294967296 : Nat) : Int) := by
  rw [show ((y : Int) % 4294967296) = ((y % 4294967296 : Nat) : Int) by omega]
  exact bits_or_u32_nat _ _ hz (by omega)
theorem wrap_shl {x n : Nat} (h : x * 2 ^ n < 18446744073709551616) : IntKind.u64.wrap ((x : Int) * 2 ^ n) = ((x * 2 ^ n : Nat) : Int) := by
  rw [show ((x : Int) * 2 ^ n) = ((x * 2 ^ n : Nat) : Int) by simp, IntKind.wrap_u64]
  omega

set_option maxHeartbeats 1000000 in
theorem rshift_new (xs : List Nat) (a : Option Addr) (len cap n : Nat) (w : World) (hx : Limbs w a len cap xs) (hm : (len + n / 32 + 1) * 4 ≤ 281474976710656) :
    Calls Tryz.prog 115 #[.slice a len cap, .int .i64 (n : Int)] w fun e w' => ∃ v, e = .returned v ∧ (Num w' v (natOf xs * 2 ^ n) ∧ New w.heap.size v) ∧ Below w.heap.size w w' := by
  have HX := Lib.hid hx
  clear hx
  have hn' : n ≤ 9223372036854775807 := by omega
  go_enter Tryz.func115, Tryz.ntmps115
  go_wp2_with (at_make; refine wpList_mkn rfl _ _ 24 rfl 67 (.int .u32 0) 4 Tryz.underlying24 infoLimb rfl _ _ _ _ (len + n / 32 + 1) rfl rfl (by omega) (by omega) (by omega) (by simp only [maxLen]; omega) fun w1 h1 h2 => ?_)
  have HO := Lib.hid h1
  clear h1
  go_wp2_with fail
  go_loopw [6] (fun i wr => ∃ (k : Nat) (R : List Nat), k ≤ len ∧ i = .int .i64 k ∧ Hid (R.length = len + n / 32 + 1) ∧ Hid (Lim R) ∧ Hid (R.getD (k + n / 32) 0 < 2 ^ (n % 32)) ∧ Hid (∀ t, k + n / 32 < t → R.getD t 0 = 0) ∧ Hid (natOf R = natOf (xs.take k) * 2 ^ n) ∧ Hid (Owns wr w.heap.size 67 (.slice (some ⟨w.heap.size, 0, none⟩) (len + n / 32 + 1) (len + n / 32 + 1)) (lvs R)) ∧ Below w.heap.size w wr) (fun i _ => len - (intOf i).toNat)
  case atStart => 
    have hz : ∀ t, (List.replicate (len + n / 32 + 1) 0).getD t 0 = 0 := fun t => by simp [List.getD, List.getElem?_replicate]; split <;> rfl
    exact ⟨0, List.replicate (len + n / 32 + 1) 0, by omega, rfl, by simp [Hid], lim_replicate _, by unfold Hid; rw [hz]; exact Nat.pow_pos (by omega), fun t _ => hz t, by simp [Hid, natOf, natOf_replicate], by have := HO.out; simpa [Hid, lvs, lv] using this, h2⟩
  case round =>
    obtain ⟨k, R, hk, rfl, HR, HRl, HRp, HR0, HE, HOk, hb⟩ := hrel
    by_cases hlt : k < len
    · obtain ⟨b, off, rfl, _, hcc⟩ := HX.out.2.2.at (k := k) hlt
      have c1 := hcc k hlt wr hb
      clear hcc
      have hx1 := HX.out.2.1.getD k
      have hp1 := HRl.out.getD (k + n / 32)
      have c3 := HOk.out.cell (k + n / 32) (by omega)
      rw [lvs_at R _ (by rw [HR.out]; omega)] at c3
      unfold lv at c3
      have c4 := HOk.out.free (k + n / 32)
      have HStep := Lib.hid (shl_step (R := R) (i := k) (q := n / 32) (s := n % 32) (x := xs.getD k 0) (n := n) (by rw [HR.out]; omega) (by omega) (pow_split n) HRp.out (HR0.out _ (by omega)) HE.out)
      rw [show natOf (xs.take k) + 4294967296 ^ k * xs.getD k 0 = natOf (xs.take (k + 1)) by rw [natOf_take_s]] at HStep
      have hS := (HOk.out.store (k + n / 32) (lv (R.getD (k + n / 32) 0 ||| (xs.getD k 0 * 2 ^ (n % 32)) % 4294967296)))
      rw [lvs_set] at hS
      have HS1 := Lib.hid hS
      have hb1 := hb.setCell (p := ⟨w.heap.size, k + n / 32, none⟩) (Nat.le_refl _) (lv (R.getD (k + n / 32) 0 ||| (xs.getD k 0 * 2 ^ (n % 32)) % 4294967296))
      have c5 := hS.cell (k + n / 32 + 1) (by omega)
      have c6 := hS.free (k + n / 32 + 1)
      have hS2 := hS.store (k + n / 32 + 1) (lv ((xs.getD k 0 * 2 ^ (n % 32)) / 4294967296))
      rw [lvs_set] at hS2
      have HS2 := Lib.hid hS2
      have hb2 := hb1.setCell (p := ⟨w.heap.size, k + n / 32 + 1, none⟩) (Nat.le_refl _) (lv ((xs.getD k 0 * 2 ^ (n % 32)) / 4294967296))
      have HB2 := Lib.hid hb2
      have hpow : 2 ^ (n % 32) < 4294967296 := Nat.pow_lt_pow_right (m := n % 32) (n := 32) (a := 2) (by omega) (by omega)
      have hxs : xs.getD k 0 * 2 ^ (n % 32) < 18446744073709551616 := Nat.lt_of_lt_of_le (Nat.mul_lt_mul_of_lt_of_le hx1 (Nat.le_of_lt hpow) (by omega)) (by omega)
      have hhi := shl_hi (s := n % 32) hx1
      generalize hW : (((R.set (k + n / 32) (R.getD (k + n / 32) 0 ||| (xs.getD k 0 * 2 ^ (n % 32)) % 4294967296)).set (k + n / 32 + 1) ((xs.getD k 0 * 2 ^ (n % 32)) / 4294967296))) = R2 at *
      have HR' := Lib.hid (show R2.length = len + n / 32 + 1 by rw [← hW, List.length_set, List.length_set]; exact HR.out)
      have HRl' : Hid (Lim R2) := by
        unfold Hid
        rw [← hW]
        exact (HRl.out.set _ _ (Nat.or_lt_two_pow (n := 32) hp1 (by omega))).set _ _ (by omega)
      have HRp' : Hid (R2.getD (k + 1 + n / 32) 0 < 2 ^ (n % 32)) := by
        unfold Hid
        rw [← hW, show k + 1 + n / 32 = k + n / 32 + 1 by omega]
        simp only [List.getD]
        rw [List.getElem?_set_self (by rw [List.length_set, HR.out]; omega)]
        exact hhi
      have HR0' : Hid (∀ t, k + 1 + n / 32 < t → R2.getD t 0 = 0) := by
        intro t ht
        rw [← hW, getD_set_ne' _ _ _ _ (by omega), getD_set_ne' _ _ _ _ (by omega)]
        exact HR0.out t (by omega)
      clear hS hS2 hb1 hb2 hW hhi HR HRl HRp HR0 HE HOk
      generalize (lvs (R.set (k + n / 32) (R.getD (k + n / 32) 0 ||| (xs.getD k 0 * 2 ^ (n % 32)) % 4294967296))).getD (k + n / 32 + 1) .nilFunc = old at *
      generalize R.getD (k + n / 32) 0 = z at *
      generalize xs.getD k 0 = x at *
      have e1 : IntKind.u64.wrap ((x : Int) * 2 ^ (n % 32)) = ((x * 2 ^ (n % 32) : Nat) : Int) := wrap_shl hxs
      generalize x * 2 ^ (n % 32) = y at *
      have e2 : bits .or .u32 (z : Int) ((y : Int) % 4294967296) = ((z ||| y % 4294967296 : Nat) : Int) := or_u32 hp1
      generalize z ||| y % 4294967296 = u at *
      unfold lv at c5 c6
      go_wp2_with fail
      clear e1 e2
      go_roundw
      case rel => exact ⟨k + 1, R2, by omega, by go_num, HR', HRl', HRp', HR0', HStep, HS2, HB2.out⟩
      case measure => simp [intOf]; omega
    · obtain rfl : k = len := by omega
      have HL := Lib.hid (HOk.out.limbs' HRl.out)
      have HEnd := Lib.hid (show natOf R = natOf xs * 2 ^ n by rw [HE.out, List.take_of_length_le (by rw [HX.out.1]; omega)])
      go_wp2_with fail
      refine (rnorm_numN _ _ _ _ _ _ w.heap.size HL.out HEnd.out (by omega) hb.size).mono ?_
      rintro e w2 ⟨v, rfl, hN, hb2⟩
      have HNum := Lib.hid hN
      clear hN
      go_wp2_with fail
      go_ret
      exact ⟨v, rfl, HNum.out, hb.trans (hb2.mono hb.size)⟩

theorem rshift_any (xs : List Nat) (a : Option Addr) (len cap n : Nat) (w : World) (hx : Limbs w a len cap xs) (hm : (len + n / 32 + 1) * 4 ≤ 281474976710656) :
    Calls Tryz.prog 115 #[.slice a len cap, .int .i64 (n : Int)] w fun e w' => ∃ v, e = .returned v ∧ Num w' v (natOf xs * 2 ^ n) ∧ Below w.heap.size w w' :=
  (rshift_new xs a len cap n w hx hm).mono fun _ _ ⟨v, h1, h2, h3⟩ => ⟨v, h1, h2.1, h3⟩

end Go.Proofs.YtahmndacoanfiaaGreat
