/- Long division: what nat.shiftLeft, shiftRight and LeadingZeros32 return. -/
import Derived.Test.YtahmndacoanfiaaGreatKnu
import Derived.Test.YtahmndacoanfiaaGreatNatT
namespace Go.Proofs.YtahmndacoanfiaaGreat
set_option maxRecDepth 100000
open Go.RowKit

theorem shr_step {xs zs : List Nat} {k y m M : Nat} (hm : 4294967296 = m * M) (hz : zs.length = k) (hy : y = xs.getD k 0 / m + xs.getD (k + 1) 0 % m * M)
    (h : m * natOf zs + xs.getD 0 0 % m = natOf (xs.take k) + 4294967296 ^ k * (xs.getD k 0 % m)) :
    m * natOf (zs ++ [y]) + xs.getD 0 0 % m = natOf (xs.take (k + 1)) + 4294967296 ^ (k + 1) * (xs.getD (k + 1) 0 % m) := by
  rw [natOf_snoc, natOf_take_s, hz, hy, Nat.mul_add, Nat.pow_succ]
  have e : m * (4294967296 ^ k * (xs.getD k 0 / m + xs.getD (k + 1) 0 % m * M)) = 4294967296 ^ k * (m * (xs.getD k 0 / m)) + 4294967296 ^ k * 4294967296 * (xs.getD (k + 1) 0 % m) := by
    rw [Nat.mul_left_comm, Nat.mul_assoc, ← Nat.mul_add]
    congr 1
    rw [Nat.mul_add]
    congr 1
    rw [hm, Nat.mul_comm (xs.getD (k + 1) 0 % m) M, Nat.mul_assoc]
  have e2 : 4294967296 ^ k * (m * (xs.getD k 0 / m)) + 4294967296 ^ k * (xs.getD k 0 % m) = 4294967296 ^ k * xs.getD k 0 := by
    rw [← Nat.mul_add, Nat.div_add_mod]
  omega
theorem shr_end {xs zs : List Nat} {k m : Nat} (hm : 0 < m) (hk : xs.length ≤ k) (h : m * natOf zs + xs.getD 0 0 % m = natOf (xs.take k) + 4294967296 ^ k * (xs.getD k 0 % m)) : natOf zs = natOf xs / m := by
  rw [List.take_of_length_le hk, show xs.getD k 0 = 0 by simp [List.getD, List.getElem?_eq_none hk]] at h
  rw [Nat.zero_mod, Nat.mul_zero, Nat.add_zero] at h
  have h2 := Nat.mod_lt (xs.getD 0 0) hm
  exact (div_end h2 (X := natOf xs) (Q := natOf zs) (by rw [← h, Nat.mul_comm])).1
theorem shr_limb {x y m M : Nat} (hm : 4294967296 = m * M) (hm0 : 0 < m) (hx : x < 4294967296) : (y * 4294967296 + x) / m % 4294967296 = x / m + y % m * M ∧ x / m + y % m * M < 4294967296 := by
  have e1 : (y * 4294967296 + x) / m = y * M + x / m := by
    rw [hm, Nat.mul_left_comm, Nat.add_comm, Nat.add_mul_div_left _ _ hm0, Nat.add_comm]
  have h1 : x / m < M := Nat.div_lt_of_lt_mul (by rw [← hm]; exact hx)
  have e2 : y * M = m * M * (y / m) + y % m * M := by
    have := Nat.div_add_mod y m
    calc y * M = (m * (y / m) + y % m) * M := by rw [this]
      _ = m * M * (y / m) + y % m * M := by rw [Nat.add_mul, Nat.mul_right_comm]
  have h2 : y % m * M + M ≤ m * M := by
    have h3 := Nat.mod_lt y hm0
    have : (y % m + 1) * M ≤ m * M := Nat.mul_le_mul_right _ h3
    rwa [Nat.add_mul, Nat.one_mul] at this
  have h3 : x / m + y % m * M < 4294967296 := by rw [hm]; omega
  refine ⟨?_, h3⟩
  rw [e1, e2, ← hm, Nat.add_assoc, Nat.mul_add_mod, Nat.add_comm, Nat.mod_eq_of_lt (by omega)]
theorem pow_parts {s : Nat} (hs : s < 32) : 4294967296 = 2 ^ s * 2 ^ (32 - s) := by rw [← Nat.pow_add, show s + (32 - s) = 32 by omega]

theorem or_shift' {y x : Nat} (hy : y < 4294967296) (hx : x < 4294967296) : bits .or .u64 (x : Int) ((y : Int) * 4294967296) = ((y * 4294967296 + x : Nat) : Int) := by
  rw [show ((y : Int) * 4294967296) = ((y * 4294967296 : Nat) : Int) by simp, bits_or_u64_nat _ _ (by omega) (by omega), Nat.or_comm]
  have h := Nat.two_pow_add_eq_or_of_lt (i := 32) (b := x) (by omega) y
  rw [show 2 ^ 32 * y = y * 4294967296 by omega] at h
  rw [h]
theorem shr_form {t : Nat} (s : Nat) : (t : Int) / 2 ^ s % 4294967296 = ((t / 2 ^ s % 4294967296 : Nat) : Int) := by simp

set_option maxHeartbeats 2000000 in
theorem shl_any (xs : List Nat) (a : Option Addr) (len cap s : Nat) (w : World) (hx : Limbs w a len cap xs) (hs : s < 32) (hm : (len + 1) * 4 ≤ 281474976710656) :
    Calls Tryz.prog 121 #[.slice a len cap, .int .i64 (s : Int)] w fun e w' => ∃ R : List Nat, e = .returned (.slice (some ⟨w.heap.size, 0, none⟩) (len + 1) (len + 1)) ∧ Lim R ∧ natOf R = natOf xs * 2 ^ s ∧ Owns w' w.heap.size 67 (.slice (some ⟨w.heap.size, 0, none⟩) (len + 1) (len + 1)) (lvs R) ∧ Below w.heap.size w w' := by
  have HX := Lib.hid hx
  clear hx
  go_enter Tryz.func121, Tryz.ntmps121
  go_wp2_with (at_make; refine wpList_mkn rfl _ _ 24 rfl 67 (.int .u32 0) 4 Tryz.underlying24 infoLimb rfl _ _ _ _ (len + 1) rfl rfl (by omega) (by omega) (by omega) (by simp only [maxLen]; omega) fun w1 h1 h2 => ?_)
  have HO := Lib.hid h1
  clear h1
  go_wp2_with fail
  go_loopw [15] (fun i wr => ∃ (k : Nat) (R : List Nat), k ≤ len ∧ i = .int .i64 k ∧ Hid (R.length = len + 1) ∧ Hid (Lim R) ∧ Hid (R.getD k 0 < 2 ^ s) ∧ Hid (∀ t, k < t → R.getD t 0 = 0) ∧ Hid (natOf R = natOf (xs.take k) * 2 ^ s) ∧ Hid (Owns wr w.heap.size 67 (.slice (some ⟨w.heap.size, 0, none⟩) (len + 1) (len + 1)) (lvs R)) ∧ Below w.heap.size w wr) (fun i _ => len - (intOf i).toNat)
  case atStart =>
    have hz : ∀ t, (List.replicate (len + 1) 0).getD t 0 = 0 := fun t => by simp [List.getD, List.getElem?_replicate]; split <;> rfl
    exact ⟨0, List.replicate (len + 1) 0, by omega, rfl, by simp [Hid], lim_replicate _, by unfold Hid; rw [hz]; exact Nat.pow_pos (by omega), fun t _ => hz t, by simp [Hid, natOf, natOf_replicate], by have := HO.out; simpa [Hid, lvs, lv] using this, h2⟩
  case round =>
    obtain ⟨k, R, hk, rfl, HR, HRl, HRp, HR0, HE, HOk, hb⟩ := hrel
    by_cases hlt : k < len
    · obtain ⟨b, off, rfl, _, hcc⟩ := HX.out.2.2.at (k := k) hlt
      have c1 := hcc k hlt wr hb
      clear hcc
      have hx1 := HX.out.2.1.getD k
      have hp1 := HRl.out.getD k
      have c3 := HOk.out.cell k (by omega)
      rw [lvs_at R _ (by rw [HR.out]; omega)] at c3
      unfold lv at c3
      have c4 := HOk.out.free k
      have HStep := Lib.hid (shl_step (R := R) (i := k) (q := 0) (s := s) (x := xs.getD k 0) (n := s) (by rw [HR.out]; omega) hs (by simp) HRp.out (HR0.out _ (by omega)) HE.out)
      rw [show natOf (xs.take k) + 4294967296 ^ k * xs.getD k 0 = natOf (xs.take (k + 1)) by rw [natOf_take_s]] at HStep
      simp only [Nat.add_zero] at HStep
      have hS := (HOk.out.store k (lv (R.getD k 0 ||| (xs.getD k 0 * 2 ^ s) % 4294967296)))
      rw [lvs_set] at hS
      have hb1 := hb.setCell (p := ⟨w.heap.size, k, none⟩) (Nat.le_refl _) (lv (R.getD k 0 ||| (xs.getD k 0 * 2 ^ s) % 4294967296))
      have c5 := hS.cell (k + 1) (by omega)
      have c6 := hS.free (k + 1)
      have hS2 := hS.store (k + 1) (lv ((xs.getD k 0 * 2 ^ s) / 4294967296))
      rw [lvs_set] at hS2
      have HS2 := Lib.hid hS2
      have hb2 := hb1.setCell (p := ⟨w.heap.size, k + 1, none⟩) (Nat.le_refl _) (lv ((xs.getD k 0 * 2 ^ s) / 4294967296))
      have HB2 := Lib.hid hb2
      have hpow : 2 ^ s < 4294967296 := Nat.pow_lt_pow_right (m := s) (n := 32) (a := 2) (by omega) hs
      have hxs : xs.getD k 0 * 2 ^ s < 18446744073709551616 := Nat.lt_of_lt_of_le (Nat.mul_lt_mul_of_lt_of_le hx1 (Nat.le_of_lt hpow) (by omega)) (by omega)
      have hhi := shl_hi (s := s) hx1
      generalize hW : (((R.set k (R.getD k 0 ||| (xs.getD k 0 * 2 ^ s) % 4294967296)).set (k + 1) ((xs.getD k 0 * 2 ^ s) / 4294967296))) = R2 at *
      have HR' := Lib.hid (show R2.length = len + 1 by rw [← hW, List.length_set, List.length_set]; exact HR.out)
      have HRl' : Hid (Lim R2) := by
        unfold Hid
        rw [← hW]
        exact (HRl.out.set _ _ (Nat.or_lt_two_pow (n := 32) hp1 (by omega))).set _ _ (by omega)
      have HRp' : Hid (R2.getD (k + 1) 0 < 2 ^ s) := by
        unfold Hid
        rw [← hW]
        simp only [List.getD]
        rw [List.getElem?_set_self (by rw [List.length_set, HR.out]; omega)]
        exact hhi
      have HR0' : Hid (∀ t, k + 1 < t → R2.getD t 0 = 0) := by
        intro t ht
        rw [← hW, getD_set_ne' _ _ _ _ (by omega), getD_set_ne' _ _ _ _ (by omega)]
        exact HR0.out t (by omega)
      clear hS hS2 hb1 hb2 hW hhi HR HRl HRp HR0 HE HOk
      generalize (lvs (R.set k (R.getD k 0 ||| (xs.getD k 0 * 2 ^ s) % 4294967296))).getD (k + 1) .nilFunc = old at *
      generalize R.getD k 0 = z at *
      generalize xs.getD k 0 = x at *
      have e1 : IntKind.u64.wrap ((x : Int) * 2 ^ s) = ((x * 2 ^ s : Nat) : Int) := wrap_shl hxs
      generalize x * 2 ^ s = y at *
      have e2 : bits .or .u32 (z : Int) ((y : Int) % 4294967296) = ((z ||| y % 4294967296 : Nat) : Int) := or_u32 hp1
      generalize z ||| y % 4294967296 = u at *
      unfold lv at c5 c6
      go_wp2_with fail
      clear e1 e2
      go_roundw
      case rel => exact ⟨k + 1, R2, by omega, by go_num, HR', HRl', HRp', HR0', HStep, HS2, HB2.out⟩
      case measure => simp [intOf]; omega
    · obtain rfl : k = len := by omega
      have HEnd := Lib.hid (show natOf R = natOf xs * 2 ^ s by rw [HE.out, List.take_of_length_le (by rw [HX.out.1]; omega)])
      go_wp2_with fail
      go_ret
      exact ⟨R, rfl, HRl.out, HEnd.out, HOk.out, hb⟩

set_option maxHeartbeats 2000000 in
theorem shr_any (xs : List Nat) (a : Option Addr) (len cap s : Nat) (w : World) (hx : Limbs w a len cap xs) (hs : s < 32) (hm : len * 4 ≤ 281474976710656) :
    Calls Tryz.prog 125 #[.slice a len cap, .int .i64 (s : Int)] w fun e w' => ∃ R : List Nat, e = .returned (.slice (some ⟨w.heap.size, 0, none⟩) len len) ∧ Limbs w' (some ⟨w.heap.size, 0, none⟩) len len R ∧ natOf R = natOf xs / 2 ^ s ∧ Below w.heap.size w w' := by
  have HX := Lib.hid hx
  have HMM := Lib.hid (pow_parts hs)
  have HM0 := Lib.hid (show 0 < 2 ^ s from Nat.pow_pos (by omega))
  clear hx
  go_enter Tryz.func125, Tryz.ntmps125
  go_wp2_with (at_make; refine wpList_mkn rfl _ _ 24 rfl 67 (.int .u32 0) 4 Tryz.underlying24 infoLimb rfl _ _ _ _ len rfl rfl rfl rfl (by omega) (by simp only [maxLen]; omega) fun w1 h1 h2 => ?_)
  have HO := Lib.hid h1
  clear h1
  go_wp2_with fail
  go_loopw [14] (fun i wr => ∃ (k : Nat) (zs : List Nat), k ≤ len ∧ i = .int .i64 k ∧ Hid (zs.length = k) ∧ Hid (Lim zs) ∧ Hid (2 ^ s * natOf zs + xs.getD 0 0 % 2 ^ s = natOf (xs.take k) + 4294967296 ^ k * (xs.getD k 0 % 2 ^ s)) ∧ Hid (Owns wr w.heap.size 67 (.slice (some ⟨w.heap.size, 0, none⟩) len len) (lvs (zs ++ List.replicate (len - k) 0))) ∧ Below w.heap.size w wr) (fun i _ => len - (intOf i).toNat)
  case atStart => exact ⟨0, [], by omega, rfl, rfl, lim_nil, by simp [Hid, natOf], by have := HO.out; simpa [Hid, lvs, lv] using this, h2⟩
  case round =>
    obtain ⟨k, zs, hk, rfl, HZ, HZl, HE, HOk, hb⟩ := hrel
    by_cases hlt : k < len
    · obtain ⟨b, off, rfl, _, hcc⟩ := HX.out.2.2.at (k := k) hlt
      have c1 := hcc k hlt wr hb
      have HCn := Lib.hid (fun h : k + 1 < len => hcc (k + 1) h wr hb)
      clear hcc
      have hx1 := HX.out.2.1.getD k
      have hy1 := HX.out.2.1.getD (k + 1)
      have HYz := Lib.hid (fun h : ¬ k + 1 < len => show xs.getD (k + 1) 0 = 0 by simp [List.getD, List.getElem?_eq_none (show xs.length ≤ k + 1 by rw [HX.out.1]; omega)])
      have c3 := HOk.out.cell k (by omega)
      have c4 := HOk.out.free k
      have hLm := shr_limb (y := xs.getD (k + 1) 0) HMM.out HM0.out hx1
      have HE1 := Lib.hid (shr_step (y := (xs.getD (k + 1) 0 * 4294967296 + xs.getD k 0) / 2 ^ s % 4294967296) HMM.out HZ.out hLm.1 HE.out)
      have hS := HOk.out.store k (lv ((xs.getD (k + 1) 0 * 4294967296 + xs.getD k 0) / 2 ^ s % 4294967296))
      rw [lvs_set] at hS
      have e1 := lset_fill zs (len - k - 1) ((xs.getD (k + 1) 0 * 4294967296 + xs.getD k 0) / 2 ^ s % 4294967296)
      rw [HZ.out, show len - k - 1 + 1 = len - k by omega] at e1
      rw [e1, show len - k - 1 = len - (k + 1) by omega] at hS
      have HS1 := Lib.hid hS
      have HBs := Lib.hid (fun v => hb.setCell (p := ⟨w.heap.size, k, none⟩) (Nat.le_refl _) v)
      clear hS e1 hLm
      generalize (lvs (zs ++ List.replicate (len - k) 0)).getD k .nilFunc = old at *
      generalize hX1 : xs.getD k 0 = x at *
      generalize hY1 : xs.getD (k + 1) 0 = y at *
      have HY1 := Lib.hid hY1
      clear hX1 hY1
      by_cases hnx : k + 1 < len
      · have c2 := HCn.out hnx
        have q8 : bits .or .u64 (x : Int) ((y : Int) * 4294967296) = ((y * 4294967296 + x : Nat) : Int) := or_shift' hy1 hx1
        have HV := Lib.hid (shr_form (t := y * 4294967296 + x) s)
        generalize hT : y * 4294967296 + x = T at *
        have hTb : T < 18446744073709551616 := by omega
        clear hT
        go_wp2_with fail
        rw [HV.out]
        go_roundw
        case rel => exact ⟨k + 1, zs ++ [T / 2 ^ s % 4294967296], by omega, by go_num, by unfold Hid; simp [HZ.out], HZl.out.snoc (Nat.mod_lt _ (by omega)), by unfold Hid; rw [HY1.out]; exact HE1.out, HS1, HBs.out _⟩
        case measure => simp [intOf]; omega
      · have HYy := Lib.hid (HYz.out hnx)
        rw [HYy.out, Nat.zero_mul, Nat.zero_add] at HE1 HS1
        have HV := Lib.hid (shr_form (t := x) s)
        go_wp2_with fail
        rw [HV.out]
        go_roundw
        case rel => exact ⟨k + 1, zs ++ [x / 2 ^ s % 4294967296], by omega, by go_num, by unfold Hid; simp [HZ.out], HZl.out.snoc (Nat.mod_lt _ (by omega)), by unfold Hid; rw [HY1.out, HYy.out]; exact HE1.out, HS1, HBs.out _⟩
        case measure => simp [intOf]; omega
    · obtain rfl : k = len := by omega
      have HL := Lib.hid (HOk.out.limbs' (HZl.out.append (lim_replicate _)))
      have HEnd := Lib.hid (show natOf (zs ++ List.replicate (k - k) 0) = natOf xs / 2 ^ s by
        rw [Nat.sub_self, List.replicate_zero, List.append_nil]; exact shr_end HM0.out (by rw [HX.out.1]; omega) HE.out)
      generalize zs ++ List.replicate (k - k) 0 = Z at *
      go_wp2_with fail
      go_ret
      exact ⟨Z, rfl, HL.out, HEnd.out, hb⟩

end Go.Proofs.YtahmndacoanfiaaGreat
