/- The reference's decoder (at most 1048576 bytes): need, number, text. -/
import Derived.Test.YthbfmioikbphgaaDoorCoH
import Derived.Test.YthbfmioikbphgaaDoorCoK
import Derived.Test.YthbfmioikbphgaaDoorWalkB
namespace Go.Proofs.YthbfmioikbphgaaDoor
set_option maxRecDepth 100000
open Go.RowKit

theorem need_ok (at0 n len cap : Nat) (a : Option Addr) (w : World) (hl : len ≤ 1048576) (ha : at0 ≤ len) (h : at0 + n ≤ len) :
    Calls Tryd.prog 79 #[.slice a len cap, .int .i64 (at0 : Int), .int .i64 (n : Int)] w fun e w' => e = .returned (.int .i64 0) ∧ w = w' := by
  have hm : min (len : Int) 1048576 = (len : Int) := by omega
  have d0 : decide ((n : Int) ≤ (len : Int) - (at0 : Int)) = true := by simp; omega
  go_enter Tryd.func79, Tryd.ntmps79
  go_wp2_with fail
  go_ret
  exact ⟨rfl, rfl⟩
theorem need_no (at0 n len cap : Nat) (a : Option Addr) (w : World) (hl : len ≤ 1048576) (ha : at0 ≤ len) (h : ¬ at0 + n ≤ len) :
    Calls Tryd.prog 79 #[.slice a len cap, .int .i64 (at0 : Int), .int .i64 (n : Int)] w fun e w' => e = .returned (.int .i64 4) ∧ w = w' := by
  have hm : min (len : Int) 1048576 = (len : Int) := by omega
  have d0 : decide ((n : Int) ≤ (len : Int) - (at0 : Int)) = false := by simp; omega
  have d1 : decide (1048576 < (len : Int)) = false := by simp; omega
  go_enter Tryd.func79, Tryd.ntmps79
  go_wp2_with fail
  go_ret
  exact ⟨rfl, rfl⟩

theorem add_val {acc m i : Nat} (hi : i ≤ 9) (h : acc < 128 ^ i) (hm : m < 128) (h9 : i = 9 → m ≤ 1) : IntKind.u64.wrap ((acc : Int) + IntKind.u64.wrap ((m : Int) * 2 ^ (7 * i))) = ((acc + m * 128 ^ i : Nat) : Int) := by
  have hb : (128 : Nat) ^ i ≤ 128 ^ 9 := Nat.pow_le_pow_right (by omega) hi
  have h1 : acc + m * 128 ^ i < 18446744073709551616 := by
    by_cases h8 : i = 9
    · subst h8
      have := h9 rfl
      have : m * 128 ^ 9 ≤ 1 * 128 ^ 9 := Nat.mul_le_mul_right _ this
      simp at this h ⊢; omega
    · have h7 : (128 : Nat) ^ i ≤ 128 ^ 8 := Nat.pow_le_pow_right (by omega) (by omega)
      have : m * 128 ^ i ≤ 127 * 128 ^ 8 := Nat.mul_le_mul (by omega) h7
      simp at this h7 ⊢; omega
  have e1 : ((m : Int) * 2 ^ (7 * i)) = ((m * 128 ^ i : Nat) : Int) := by
    rw [Int.natCast_mul, ← pow_split, Int.natCast_pow]; rfl
  rw [e1, IntKind.wrap_u64, IntKind.wrap_u64, Int.emod_eq_of_lt (by omega) (by omega), Int.emod_eq_of_lt (by omega) (by omega)]
  omega

theorem add9 {acc m i : Nat} (hi : i = 9) (h : acc < 128 ^ i) (h9 : m ≤ 1) : IntKind.u64.wrap ((acc : Int) + (m : Int) * 9223372036854775808) = ((acc + m * 128 ^ i : Nat) : Int) := by
  subst hi
  simp at h
  have e : (128 : Nat) ^ 9 = 9223372036854775808 := by decide
  rw [e, IntKind.wrap_u64, Int.emod_eq_of_lt (by omega) (by omega)]
  omega
/-- what number returns -/
def RN (len : Nat) : Except Int (Nat × List UInt8) → Ending → Prop
  | .error x, e => e = .returned (.tuple #[.int .u64 0, .int .i64 0, .int .i64 x])
  | .ok (v, l), e => e = .returned (.tuple #[.int .u64 (v : Int), .int .i64 ((len - l.length : Nat) : Int), .int .i64 0])
theorem rn_err {len : Nat} {r : Except Int (Nat × List UInt8)} {x : Int} {e : Ending} (h : r = .error x) (h1 : e = .returned (.tuple #[.int .u64 0, .int .i64 0, .int .i64 x])) : RN len r e := by
  subst h; exact h1
theorem rn_ok {len n : Nat} {r : Except Int (Nat × List UInt8)} {v : Nat} {l : List UInt8} {e : Ending} (h : r = .ok (v, l)) (hn : len - l.length = n) (h1 : e = .returned (.tuple #[.int .u64 (v : Int), .int .i64 (n : Int), .int .i64 0])) : RN len r e := by
  subst h; subst hn; exact h1
set_option maxHeartbeats 8000000 in
theorem rnumber_any (bs : List UInt8) (at0 : Nat) (a : Option Addr) (len cap : Nat) (w : World) (hx : Bytes w a len cap bs) (hl : len ≤ 1048576) (ha : at0 ≤ len) :
    Calls Tryd.prog 78 #[.slice a len cap, .int .i64 (at0 : Int)] w fun e w' => RN len (vDec 4 0 0 (bs.drop at0)) e ∧ w = w' := by
  have HX := Lib.hid hx
  have HL := Lib.hid hx.1
  clear hx
  go_enter Tryd.func78, Tryd.ntmps78
  go_wp2_with fail
  go_loop [1, 7, 8] (fun p u y => ∃ (i acc at1 : Nat), i ≤ 9 ∧ at1 ≤ len ∧ p = .int .i64 (at1 : Int) ∧ u = .int .u64 (acc : Int) ∧ y = .int .i64 (i : Int) ∧ Hid (acc < 128 ^ i) ∧ Hid (vDec 4 0 0 (bs.drop at0) = vDec 4 i acc (bs.drop at1))) (fun _ _ y => 10 - (intOf y).toNat)
  case atStart => exact ⟨0, 0, at0, by omega, ha, rfl, rfl, rfl, Lib.hid (by simp), Lib.hid rfl⟩
  case round =>
    obtain ⟨i, acc, at1, hi, hat, rfl, rfl, rfl, HA, HD⟩ := hrel
    have hd10 : decide ((i : Int) < 10) = true := by simp; omega
    by_cases hend : at1 + 1 ≤ len
    rotate_left
    · have HE := Lib.hid (show vDec 4 0 0 (bs.drop at0) = .error 4 by rw [HD.out, List.drop_of_length_le (by rw [HL.out]; omega)]; rfl)
      go_wp2_with fail
      refine (need_no at1 1 len cap a _ hl hat hend).mono ?_
      rintro e w1 ⟨rfl, rfl⟩
      go_wp2_with fail
      go_ret3
      exact ⟨rn_err HE.out rfl, rfl⟩
    · obtain ⟨b, off, rfl, hbl, hcc⟩ := HX.out.2.at (k := at1) (by omega)
      have y0 := hcc at1 (by omega) w (Below.refl _ _)
      have hat2 : at1 < bs.length := by rw [HL.out]; omega
      have hg : bs.getD at1 0 = bs[at1] := by simp [List.getD, hat2]
      rw [hg] at y0
      have HD1 := Lib.hid (show vDec 4 0 0 (bs.drop at0) = if i = 9 ∧ 1 < bs[at1].toNat ∨ 0 < i ∧ bs[at1].toNat = 0 then .error 2 else if bs[at1].toNat < 128 then .ok (acc + bs[at1].toNat % 128 * 128 ^ i, bs.drop (at1 + 1)) else vDec 4 (i + 1) (acc + bs[at1].toNat % 128 * 128 ^ i) (bs.drop (at1 + 1)) by
        rw [HD.out, List.drop_eq_getElem_cons hat2]; rfl)
      have hc256 : bs[at1].toNat < 256 := bs[at1].toNat_lt
      have hlen1 : len - (bs.drop (at1 + 1)).length = at1 + 1 := by rw [List.length_drop, HL.out]; omega
      have HLe := Lib.hid hlen1
      clear hcc hg HD hlen1
      generalize bs[at1].toNat = cn at *
      generalize hlk : bs.drop (at1 + 1) = lk at *
      have HLk := Lib.hid hlk
      clear hlk
      have hmlt : cn % 128 < 128 := Nat.mod_lt _ (by omega)
      by_cases h9 : i = 9
      · have b9 : ((i : Int) == 9) = true := by simp; omega
        have d0 : decide (0 < (i : Int)) = true := by simp; omega
        by_cases hc1 : 1 < cn
        · have d1 : decide (1 < (cn : Int)) = true := by simp; omega
          have HE := Lib.hid (show vDec 4 0 0 (bs.drop at0) = .error 2 by rw [HD1.out, if_pos (by omega)])
          clear HD1
          go_wp2_with fail
          refine (need_ok at1 1 len cap _ _ hl hat hend).mono ?_
          rintro e w1 ⟨rfl, rfl⟩
          go_wp2_with fail
          go_ret3
          exact ⟨rn_err HE.out rfl, rfl⟩
        have d1 : decide (1 < (cn : Int)) = false := by simp; omega
        by_cases hc0 : cn = 0
        · have z0 : ((cn : Int) == 0) = true := by simp; omega
          have HE := Lib.hid (show vDec 4 0 0 (bs.drop at0) = .error 2 by rw [HD1.out, if_pos (by omega)])
          clear HD1
          go_wp2_with fail
          refine (need_ok at1 1 len cap _ _ hl hat hend).mono ?_
          rintro e w1 ⟨rfl, rfl⟩
          go_wp2_with fail
          go_ret3
          exact ⟨rn_err HE.out rfl, rfl⟩
        have z0 : ((cn : Int) == 0) = false := by simp; omega
        have HV := Lib.hid (add9 h9 HA.out (show cn % 128 ≤ 1 by omega))
        have hlt : cn < 128 := by omega
        rw [if_neg (by omega), if_pos hlt] at HD1
        generalize hm : cn % 128 = m at *
        have hmI : (cn : Int) % 128 = (m : Int) := by omega
        clear hm
        have dl : decide ((cn : Int) < 128) = true := by simp; omega
        go_wp2_with fail
        refine (need_ok at1 1 len cap _ _ hl hat hend).mono ?_
        rintro e w1 ⟨rfl, rfl⟩
        go_wp2_with fail
        go_ret3
        exact ⟨rn_ok HD1.out HLe.out (by rw [← HV.out]; rfl), rfl⟩
      have b9 : ((i : Int) == 9) = false := by simp; omega
      by_cases h0 : 0 < i
      · have d0 : decide (0 < (i : Int)) = true := by simp; omega
        by_cases hc0 : cn = 0
        · have z0 : ((cn : Int) == 0) = true := by simp; omega
          have HE := Lib.hid (show vDec 4 0 0 (bs.drop at0) = .error 2 by rw [HD1.out, if_pos (by omega)])
          clear HD1
          go_wp2_with fail
          refine (need_ok at1 1 len cap _ _ hl hat hend).mono ?_
          rintro e w1 ⟨rfl, rfl⟩
          go_wp2_with fail
          go_ret3
          exact ⟨rn_err HE.out rfl, rfl⟩
        have z0 : ((cn : Int) == 0) = false := by simp; omega
        have HV := Lib.hid (add_val hi HA.out hmlt (by omega))
        have HA1 := Lib.hid (acc_lt HA.out hmlt)
        rw [if_neg (by omega)] at HD1
        generalize hm : cn % 128 = m at *
        have hmI : (cn : Int) % 128 = (m : Int) := by omega
        clear hm
        by_cases hlt : cn < 128
        · have dl : decide ((cn : Int) < 128) = true := by simp; omega
          rw [if_pos hlt] at HD1
          go_wp2_with fail
          refine (need_ok at1 1 len cap _ _ hl hat hend).mono ?_
          rintro e w1 ⟨rfl, rfl⟩
          go_wp2_with fail
          go_ret3
          exact ⟨rn_ok HD1.out HLe.out (by rw [← HV.out]; rfl), rfl⟩
        · have dl : decide ((cn : Int) < 128) = false := by simp; omega
          rw [if_neg hlt] at HD1
          have hi8 : i ≤ 8 := by omega
          go_wp2_with fail
          refine (need_ok at1 1 len cap _ _ hl hat hend).mono ?_
          rintro e w1 ⟨rfl, rfl⟩
          go_wp2_with fail
          go_round
          case rel => exact ⟨i + 1, acc + m * 128 ^ i, at1 + 1, by omega, by omega, by go_num, by rw [HV.out], by go_num, HA1, Lib.hid (by rw [HLk.out]; exact HD1.out)⟩
          case measure => simp [intOf]; omega
      have d0 : decide (0 < (i : Int)) = false := by simp; omega
      have HV := Lib.hid (add_val hi HA.out hmlt (by omega))
      have HA1 := Lib.hid (acc_lt HA.out hmlt)
      rw [if_neg (by omega)] at HD1
      generalize hm : cn % 128 = m at *
      have hmI : (cn : Int) % 128 = (m : Int) := by omega
      clear hm
      by_cases hlt : cn < 128
      · have dl : decide ((cn : Int) < 128) = true := by simp; omega
        rw [if_pos hlt] at HD1
        go_wp2_with fail
        refine (need_ok at1 1 len cap _ _ hl hat hend).mono ?_
        rintro e w1 ⟨rfl, rfl⟩
        go_wp2_with fail
        go_ret3
        exact ⟨rn_ok HD1.out HLe.out (by rw [← HV.out]; rfl), rfl⟩
      · have dl : decide ((cn : Int) < 128) = false := by simp; omega
        rw [if_neg hlt] at HD1
        have hi8 : i ≤ 8 := by omega
        go_wp2_with fail
        refine (need_ok at1 1 len cap _ _ hl hat hend).mono ?_
        rintro e w1 ⟨rfl, rfl⟩
        go_wp2_with fail
        go_round
        case rel => exact ⟨i + 1, acc + m * 128 ^ i, at1 + 1, by omega, by omega, by go_num, by rw [HV.out], by go_num, HA1, Lib.hid (by rw [HLk.out]; exact HD1.out)⟩
        case measure => simp [intOf]; omega

theorem rtext_long (tag kd : Int) (x at0 len cap : Nat) (a : Option Addr) (w : World) (h : 2000 < x) :
    Calls Tryd.prog 80 #[.slice a len cap, .int .i64 (at0 : Int), .int .u64 (x : Int), .agg #[.int .i64 tag, .int .i64 kd, .int .i64 0, .string ⟨#[]⟩, .slice none 0 0]] w fun e w' => e = .returned (.tuple #[.agg #[.int .i64 0, .int .i64 0, .int .i64 0, .string ⟨#[]⟩, .slice none 0 0], .int .i64 0, .int .i64 5]) ∧ Below w.heap.size w w' := by
  have d0 : decide (2000 < (x : Int)) = true := by simp; omega
  have d0' : decide (2000 < x) = true := by simp; omega
  have hb0 : Below w.heap.size w ((w.alloc (.cells #[.int .i64 tag, .int .i64 kd, .int .i64 0, .string ⟨#[]⟩, .slice none 0 0] 25)).alloc (.cells #[.int .i64 0, .int .i64 0, .int .i64 0, .string ⟨#[]⟩, .slice none 0 0] 25)) := ((Below.refl _ _).alloc (Nat.le_refl _) _).alloc (by simp) _
  go_enter Tryd.func80, Tryd.ntmps80
  go_wp2_with fail
  exact bodyPost_ret (v := .tuple #[.agg #[.int .i64 0, .int .i64 0, .int .i64 0, .string ⟨#[]⟩, .slice none 0 0], .int .i64 0, .int .i64 5]) (by simp [results, Tryd.results80, go_sem]) rfl ⟨rfl, hb0⟩
theorem rtext_cut (tag kd : Int) (x at0 len cap : Nat) (a : Option Addr) (w : World) (hl : len ≤ 1048576) (ha : at0 ≤ len) (h : ¬ 2000 < x) (h2 : ¬ at0 + x ≤ len) :
    Calls Tryd.prog 80 #[.slice a len cap, .int .i64 (at0 : Int), .int .u64 (x : Int), .agg #[.int .i64 tag, .int .i64 kd, .int .i64 0, .string ⟨#[]⟩, .slice none 0 0]] w fun e w' => e = .returned (.tuple #[.agg #[.int .i64 0, .int .i64 0, .int .i64 0, .string ⟨#[]⟩, .slice none 0 0], .int .i64 0, .int .i64 4]) ∧ Below w.heap.size w w' := by
  have d0 : decide (2000 < (x : Int)) = false := by simp; omega
  have d0' : decide (2000 < x) = false := by simp; omega
  have hb0 : Below w.heap.size w ((w.alloc (.cells #[.int .i64 tag, .int .i64 kd, .int .i64 0, .string ⟨#[]⟩, .slice none 0 0] 25)).alloc (.cells #[.int .i64 0, .int .i64 0, .int .i64 0, .string ⟨#[]⟩, .slice none 0 0] 25)) := ((Below.refl _ _).alloc (Nat.le_refl _) _).alloc (by simp) _
  go_enter Tryd.func80, Tryd.ntmps80
  go_wp2_with fail
  refine (need_no at0 x len cap a _ hl ha h2).mono ?_
  rintro e w1 ⟨rfl, rfl⟩
  go_wp2_with fail
  exact bodyPost_ret (v := .tuple #[.agg #[.int .i64 0, .int .i64 0, .int .i64 0, .string ⟨#[]⟩, .slice none 0 0], .int .i64 0, .int .i64 4]) (by simp [results, Tryd.results80, go_sem]) rfl ⟨rfl, hb0⟩
set_option maxHeartbeats 1000000 in
theorem rtext_ok (bs : List UInt8) (tag kd : Int) (x at0 len cap : Nat) (a : Option Addr) (w : World) (hx : Bytes w a len cap bs) (hl : len ≤ 1048576) (ha : at0 ≤ len) (h : ¬ 2000 < x) (h2 : at0 + x ≤ len) :
    Calls Tryd.prog 80 #[.slice a len cap, .int .i64 (at0 : Int), .int .u64 (x : Int), .agg #[.int .i64 tag, .int .i64 kd, .int .i64 0, .string ⟨#[]⟩, .slice none 0 0]] w fun e w' => e = .returned (.tuple #[.agg #[.int .i64 tag, .int .i64 kd, .int .i64 0, .string ⟨((bs.drop at0).take x).toArray⟩, .slice none 0 0], .int .i64 ((at0 + x : Nat) : Int), .int .i64 0]) ∧ Below w.heap.size w w' := by
  have d0 : decide (2000 < (x : Int)) = false := by simp; omega
  have d0' : decide (2000 < x) = false := by simp; omega
  have hb0 : Below w.heap.size w ((w.alloc (.cells #[.int .i64 tag, .int .i64 kd, .int .i64 0, .string ⟨#[]⟩, .slice none 0 0] 25)).alloc (.cells #[.int .i64 0, .int .i64 0, .int .i64 0, .string ⟨#[]⟩, .slice none 0 0] 25)) := ((Below.refl _ _).alloc (Nat.le_refl _) _).alloc (by simp) _
  have hS := (hx.below hb0).sub at0 x h2
  have hlc := hx.2.1
  have hS2 := str_of hS
  clear hx hS
  go_enter Tryd.func80, Tryd.ntmps80
  go_wp2_with fail
  refine (need_ok at0 x len cap a _ hl ha h2).mono ?_
  rintro e w1 ⟨rfl, rfl⟩
  go_wp2_with fail
  all_goals exact bodyPost_ret (v := .tuple #[.agg #[.int .i64 tag, .int .i64 kd, .int .i64 0, .string ⟨((bs.drop at0).take x).toArray⟩, .slice none 0 0], .int .i64 ((at0 + x : Nat) : Int), .int .i64 0]) (by simp [results, Tryd.results80, go_sem]) rfl ⟨rfl, ((Below.refl _ _).alloc (Nat.le_refl _) _).alloc (by simp) _⟩
end Go.Proofs.YthbfmioikbphgaaDoor
