/- Journals: what get, put and end return. -/
import Derived.Test.YthbfmioikbphgaaDoorJoQ
namespace Go.Proofs.YthbfmioikbphgaaDoor
set_option maxRecDepth 100000
open Go.RowKit

theorem or_byte {v c : Nat} (hv : v < 72057594037927936) (hc : c < 256) : bits .or .u64 ((v : Int) * 256) (c : Int) = ((v * 256 + c : Nat) : Int) := by
  have e1 : (v : Int) * 256 = ((v * 256 : Nat) : Int) := by omega
  rw [e1, bits_or_u64_nat _ _ (by omega) (by omega)]
  have : v * 256 ||| c = v * 256 + c := by
    have h := Nat.shiftLeft_add_eq_or_of_lt (i := 8) (b := c) (by omega) v
    rw [Nat.shiftLeft_eq] at h
    exact h.symm
  rw [this]

theorem beN_take {xs : List UInt8} {k : Nat} (h : k < xs.length) : beN (xs.take (k + 1)) = beN (xs.take k) * 256 + (xs.getD k 0).toNat := by
  rw [take_snoc xs k 0 h, beN_snoc]
set_option maxHeartbeats 1000000 in
theorem get_any (xs : List UInt8) (a : Option Addr) (len cap : Nat) (w : World) (hx : Bytes w a len cap xs) (h8 : len ≤ 8) :
    Calls Tryd.prog 46 #[.slice a len cap] w fun e w' => e = .returned (.int .u64 (beN xs : Nat)) ∧ w = w' := by
  have HL := Lib.hid hx.1
  have HC := Lib.hid hx.2
  clear hx
  go_enter Tryd.func46, Tryd.ntmps46
  go_wp2_with fail
  go_loop [3, 8] (fun g i => ∃ (k v : Nat), k ≤ len ∧ i = .int .i64 k ∧ g = .int .u64 v ∧ Hid (v = beN (xs.take k)) ∧ v < 256 ^ k) (fun _ i => len - (intOf i).toNat)
  case atStart => exact ⟨0, 0, by omega, rfl, rfl, Lib.hid rfl, by simp⟩
  case round =>
    obtain ⟨k, v, hk, rfl, rfl, HV, hv⟩ := hrel
    by_cases hlt : k < len
    · obtain ⟨b, off, rfl, _, hcc⟩ := HC.out.at hlt
      have c1 := hcc k hlt w (Below.refl _ _)
      have HS := Lib.hid (beN_take (xs := xs) (k := k) (by rw [HL.out]; exact hlt))
      have hp : 256 ^ k ≤ 72057594037927936 := by
        have : (256 : Nat) ^ k ≤ 256 ^ 7 := Nat.pow_le_pow_right (by omega) (by omega)
        exact this
      have hcl := (xs.getD k 0).toNat_lt
      have hor := or_byte (v := v) (c := (xs.getD k 0).toNat) (by omega) (by omega)
      have hnx : v * 256 + (xs.getD k 0).toNat < 256 ^ (k + 1) := by rw [Nat.pow_succ]; omega
      clear hcc
      generalize xs.getD k 0 = x at *
      go_wp2_with fail
      go_round
      case rel => exact ⟨k + 1, v * 256 + x.toNat, by omega, by go_num, int_eq (by first | exact hor | omega), by unfold Hid; rw [HS.out, HV.out], hnx⟩
      case measure => simp [intOf]; omega
    · have HF := Lib.hid (show v = beN xs by rw [HV.out, List.take_of_length_le (by rw [HL.out]; omega)])
      clear hv
      go_wp2_with fail
      go_ret
      exact ⟨ret_int (by rw [HF.out]), rfl⟩

set_option maxHeartbeats 1000000 in
theorem put_any (B : Nat) (v : UInt64) (n : Nat) (b : Value) (xs : List UInt8) (w : World) (hO : Owns w B 5 b (bvs xs)) (hn : n ≤ 8) (hl : xs.length ≤ 140737488355000) (hB : B ≤ w.heap.size) :
    Calls Tryd.prog 32 #[b, .int .u64 v.toNat, .int .i64 n] w fun e w' => ∃ b', e = .returned b' ∧ Owns w' B 5 b' (bvs (xs ++ beList v n)) ∧ Grew w w' b b' := by
  have HO := Lib.hid hO
  have HL := Lib.hid hl
  clear hO hl
  go_enter Tryd.func32, Tryd.ntmps32
  go_wp2_with fail
  go_loopw [0, 7] (fun bv iv wr => ∃ (t : Nat) (zs : List UInt8), t ≤ n ∧ iv = .int .i64 ((t : Int) - 1) ∧ Grew w wr b bv ∧ Hid (Owns wr B 5 bv (bvs (xs ++ zs))) ∧ Hid (zs ++ beList v t = beList v n) ∧ zs.length + t = n ∧ B ≤ wr.heap.size) (fun _ iv _ => (intOf iv + 1).toNat)
  case atStart => exact ⟨n, [], by omega, rfl, Grew.refl _ _, by rw [List.append_nil]; exact HO, Lib.hid rfl, by simp, hB⟩
  case round =>
    obtain ⟨t, zs, ht, rfl, hg, HOr, HE, hzl, hBr⟩ := hrel
    cases t with
    | zero =>
      have HF := Lib.hid (show zs = beList v n by have := HE.out; simpa [beList] using this)
      go_wp2_with fail
      go_ret
      exact ⟨_, rfl, by rw [← HF.out]; exact HOr.out, hg⟩
    | succ t =>
      have hti : ((t + 1 : Nat) : Int) - 1 = (t : Int) := by omega
      rw [hti]
      have hby := byteAt_mod v t
      have hby2 := byteAt_form v t
      have HNx := Lib.hid (show (zs ++ [byteAt v t]) ++ beList v t = beList v n by rw [← HE.out]; simp [beList])
      have HN := Lib.hid (show ((bvs (xs ++ zs)).length + 1) * 1 ≤ 140737488355328 ∧ (bvs (xs ++ zs)).length + 1 ≤ maxLen by
        have := HL.out
        rw [bvs_length, List.length_append]; simp only [maxLen]; omega)
      generalize hqq : byteAt v t = q at *
      clear hti hqq
      go_wp2_with (at_builtin; go_must (refine wpList_app1 rfl _ _ 22 rfl B 5 (.int .u8 0) 1 Tryd.underlying22 infoByte rfl u0 (bvs (xs ++ zs)) rfl (.int .u8 q.toNat) rfl HOr.out rfl HN.out.1 HN.out.2 hBr fun v' w' h1 h2 => ?_))
      have HO3 := Lib.hid (show Owns w' B 5 v' (bvs (xs ++ (zs ++ [q]))) by rw [← List.append_assoc, bvs_append]; exact h1)
      have hg3 := hg.trans h2
      have hB3 : B ≤ w'.heap.size := Nat.le_trans hBr h2.1.size
      clear h1 h2
      go_roundw
      case rel => exact ⟨t, _, by omega, rfl, hg3, HO3, HNx, by simp; omega, hB3⟩
      case measure => simp [intOf]

set_option maxHeartbeats 1000000 in
theorem end_any (log : List UInt8) (a : Option Addr) (len cap : Nat) (w : World) (hx : Bytes w a len cap log) :
    Calls Tryd.prog 34 #[.slice a len cap] w fun e w' => e = .returned (.int .u64 (endJ log).toNat) ∧ w = w' := by
  have HX := Lib.hid hx
  have hl := hx.1
  have hlc := hx.2.1
  have hlm : len ≤ 9223372036854775807 := by have h1 := hx.2.1; have h2 := hx.2.2.1; unfold maxLen at h2; omega
  clear hx
  by_cases h8 : len < 8
  · have HE := Lib.hid (show endJ log = digOf [] by unfold endJ; rw [if_pos (by omega)])
    have hd : decide ((len : Int) < 8) = true := by simp; omega
    have hnil : Bytes w none 0 0 [] := ⟨rfl, Nat.le_refl _, by simp [maxLen], fun _ => rfl, .inl rfl⟩
    go_enter Tryd.func34, Tryd.ntmps34
    go_wp2_with fail
    refine (of_any [] none 0 0 _ hnil).mono ?_
    rintro e w1 ⟨rfl, rfl⟩
    go_wp2_with fail
    go_ret
    exact ⟨ret_int (by rw [HE.out]), rfl⟩
  · have HS := Lib.hid (HX.out.sub (len - 8) 8 (by omega))
    have hb : beN (log.drop (len - 8)) < 18446744073709551616 := beN_lt 8 _ (by rw [List.length_drop]; omega)
    have HE := Lib.hid (show (endJ log).toNat = beN (log.drop (len - 8)) by
      unfold endJ
      rw [if_neg (by omega), hl, UInt64.toNat_ofNat_of_lt' hb])
    have hd : decide ((len : Int) < 8) = false := by simp; omega
    have HT := Lib.hid (show (log.drop (len - 8)).take 8 = log.drop (len - 8) from List.take_of_length_le (by rw [List.length_drop]; omega))
    rw [HT.out, if_neg (show ¬ cap = len - 8 by omega)] at HS
    go_enter Tryd.func34, Tryd.ntmps34
    go_wp2_with fail
    rw [show len - (len - 8) = 8 by omega]
    refine (get_any _ _ _ _ w HS.out (by omega)).mono ?_
    rintro e w1 ⟨rfl, rfl⟩
    go_wp2_with fail
    go_ret
    exact ⟨ret_int (by rw [HE.out]), rfl⟩

end Go.Proofs.YthbfmioikbphgaaDoor
