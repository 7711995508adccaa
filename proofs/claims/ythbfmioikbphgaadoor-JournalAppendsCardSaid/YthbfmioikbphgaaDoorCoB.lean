/- The codec: what appendVarint returns, and the reference's varint. -/
import Derived.Test.YthbfmioikbphgaaDoorCoA
namespace Go.Proofs.YthbfmioikbphgaaDoor
set_option maxRecDepth 100000
open Go.RowKit

theorem infoByte : (Tryd.prog.info? 5).map (fun i => (i.zero, i.size, i.bytes)) = some (some (.int .u8 0), 1, 1) := by kernel_rfl
theorem or128 : ∀ a : Fin 256, (a.val ||| 128) = a.val % 128 + 128 := by decide
theorem or_u8 {a : Nat} (h : a < 256) : bits .or .u8 (a : Int) 128 = ((a % 128 + 128 : Nat) : Int) := by
  have hb : (BitVec.ofInt 8 (a : Int)).toNat = a := by rw [BitVec.toNat_ofInt]; simp; omega
  have h1 : a ||| 128 = a % 128 + 128 := or128 ⟨a, h⟩
  show IntKind.u8.wrap ((BitVec.ofInt 8 (a : Int) ||| BitVec.ofInt 8 128).toNat : Int) = _
  rw [BitVec.toNat_or, hb, show (BitVec.ofInt 8 128).toNat = 128 from by decide, h1, IntKind.wrap_u8]
  omega
theorem bv_nat {n : Nat} (h : n < 256) : bv (UInt8.ofNat n) = .int .u8 (n : Int) := by unfold bv; rw [ofNat_toNat h]

set_option maxHeartbeats 4000000 in
theorem avarint_any (B : Nat) (v : Value) (xs : List UInt8) (x : Nat) (w : World) (hO : Owns w B 5 v (bvs xs)) (hx : x < 18446744073709551616) (hl : xs.length ≤ 2097152) (hB : B ≤ w.heap.size) :
    Calls Tryd.prog 61 #[v, .int .u64 (x : Int)] w fun e w' => ∃ v', e = .returned v' ∧ Owns w' B 5 v' (bvs (xs ++ vEnc x)) ∧ Grew w w' v v' := by
  have HO := Lib.hid hO
  have hvl : (vEnc x).length ≤ 10 := by
    rw [vEnc_len]; have := blen_le64 hx; omega
  clear hO
  go_enter Tryd.func61, Tryd.ntmps61
  go_wp2_with fail
  go_loopw [0, 1] (fun u y wr => ∃ (m : Nat) (ys : List UInt8), y = .int .u64 (m : Int) ∧ m < 18446744073709551616 ∧ ys.length ≤ 2097162 ∧ Hid (xs ++ vEnc x = ys ++ vEnc m) ∧ Hid (Owns wr B 5 u (bvs ys)) ∧ Hid (Grew w wr v u)) (fun _ y _ => (intOf y).toNat)
  case atStart => exact ⟨x, xs, rfl, hx, by omega, Lib.hid rfl, HO, Lib.hid (Grew.refl _ _)⟩
  case round =>
    obtain ⟨m, ys, rfl, hm, hys, HE, HOk, HG⟩ := hrel
    have hsz := HG.out.1.size
    have HN := Lib.hid (show ((bvs ys).length + 1) * 1 ≤ 140737488355328 ∧ (bvs ys).length + 1 ≤ maxLen by rw [bvs_length]; simp only [maxLen]; omega)
    by_cases hlt : m < 128
    · have HV := Lib.hid (vEnc_small hlt)
      have hd : decide (128 ≤ (m : Int)) = false := by simp; omega
      have hw8 : IntKind.u8.wrap (m : Int) = (m : Int) := by rw [IntKind.wrap_u8]; omega
      go_wp2_with (at_builtin; go_must (refine wpList_app1 rfl _ _ 22 rfl B 5 (.int .u8 0) 1 Tryd.underlying22 infoByte rfl u0 (bvs ys) rfl (.int .u8 (m : Int)) rfl HOk.out rfl HN.out.1 HN.out.2 (by omega) fun v' w' h1 h2 => ?_))
      have HF := Lib.hid (show Owns w' B 5 v' (bvs (xs ++ vEnc x)) by
        rw [HE.out, HV.out, bvs_append]
        have e1 : bvs [UInt8.ofNat m] = [.int .u8 (m : Int)] := by simp [bvs, bv_nat (show m < 256 by omega)]
        rw [e1]; exact h1)
      have HGn := Lib.hid (HG.out.trans h2)
      clear h1 h2
      go_wp2_with fail
      go_ret
      exact ⟨v', rfl, HF.out, HGn.out⟩
    · have HV := Lib.hid (vEnc_big hlt)
      have hd : decide (128 ≤ (m : Int)) = true := by simp; omega
      have ho8 := or_u8 (a := m % 256) (Nat.mod_lt _ (by omega))
      rw [show m % 256 % 128 = m % 128 by omega, show ((m % 256 : Nat) : Int) = (m : Int) % 256 by omega] at ho8
      generalize hc8 : ((m % 128 + 128 : Nat) : Int) = c8 at *
      have HC8 := Lib.hid hc8
      have HDv := Lib.hid (show (m : Int) / 128 = ((m / 128 : Nat) : Int) by omega)
      clear hc8
      go_wp2_with (at_builtin; go_must (refine wpList_app1 rfl _ _ 22 rfl B 5 (.int .u8 0) 1 Tryd.underlying22 infoByte rfl u0 (bvs ys) rfl (.int .u8 c8) rfl HOk.out rfl HN.out.1 HN.out.2 (by omega) fun v' w' h1 h2 => ?_))
      have HF := Lib.hid (show Owns w' B 5 v' (bvs (ys ++ [UInt8.ofNat (m % 128 + 128)])) by
        rw [bvs_append]
        have e1 : bvs [UInt8.ofNat (m % 128 + 128)] = [.int .u8 c8] := by rw [← HC8.out]; simp only [bvs, List.map_cons, List.map_nil, bv_nat (show m % 128 + 128 < 256 by omega)]
        rw [e1]; exact h1)
      have HGn := Lib.hid (HG.out.trans h2)
      have HEn := Lib.hid (show xs ++ vEnc x = (ys ++ [UInt8.ofNat (m % 128 + 128)]) ++ vEnc (m / 128) by rw [HE.out, HV.out]; simp)
      have hyl : (ys ++ [UInt8.ofNat (m % 128 + 128)]).length ≤ 2097162 := by
        have h3 := congrArg List.length HEn.out
        have h4 : 1 ≤ (vEnc (m / 128)).length := by rw [vEnc_len]; omega
        rw [List.length_append, List.length_append] at h3
        omega
      clear h1 h2
      generalize hys' : ys ++ [UInt8.ofNat (m % 128 + 128)] = ys' at *
      clear hys'
      go_wp2_with fail
      go_roundw
      case rel => exact ⟨m / 128, ys', by first | rfl | (rw [HDv.out]) | (rw [← HDv.out]; rfl), by omega, hyl, HEn, HF, HGn⟩
      case measure => simp [intOf]; omega

end Go.Proofs.YthbfmioikbphgaaDoor
