/- CipherDetects: sealed bytes of which one byte is replaced, and a key of which one byte is replaced, are refused: the law returns true. No condition. -/
import Derived.Test.YtfedalipoknilaaFrame
import Derived.Test.YtfedalipoknilaaCiphQ
namespace Go.Proofs.Ytfedalipoknilaa
open Go.ChangeShapes Go.WideShapes Go.ChangeAt Go.RowKit

theorem other_form (key : UInt64) (j : Nat) (hj : j < 8) (c : UInt8) : bits .xor .u64 (key.toNat : Int) (IntKind.u64.wrap (IntKind.u64.wrap (c.toNat : Int) * 2 ^ (8 * j))) = ((other key j c).toNat : Int) := by
  have h1 := shift_lt j hj c
  have h2 : IntKind.u64.wrap (c.toNat : Int) = (c.toNat : Int) := by rw [wrap_u64_u8]; simp
  have h3 : IntKind.u64.wrap ((c.toNat : Int) * 2 ^ (8 * j)) = ((c.toNat * 2 ^ (8 * j) : Nat) : Int) := by
    rw [IntKind.wrap_u64]
    have : ((c.toNat : Int) * 2 ^ (8 * j)) = ((c.toNat * 2 ^ (8 * j) : Nat) : Int) := by simp
    rw [this]
    generalize c.toNat * 2 ^ (8 * j) = x at *
    omega
  rw [h2, h3, bits_xor_u64_nat _ _ key.toNat_lt h1, other_toNat key j hj c]

set_option maxHeartbeats 2000000 in
set_option maxRecDepth 100000 in
theorem detects_calls (key nonce : UInt64) (xs : List UInt8) (a : Option Addr) (len cap : Nat) (t : Int) (c : UInt8) (w : World) (hx : Bytes w a len cap xs) :
    Calls Try.prog 10 #[.int .u64 key.toNat, .int .u64 nonce.toNat, .slice a len cap, .int .i64 t, .int .u8 c.toNat] w fun e w' => e = .returned (.bool true) ∧ Below w.heap.size w w' := by
  have hm : len ≤ 9223372036854775807 := by have h1 := hx.2.1; have h2 := hx.2.2.1; unfold maxLen at h2; omega
  have HX := Lib.hid hx
  have HL := Lib.hid hx.1
  clear hx
  by_cases hl : 4000 < len
  · have d1 : decide (4000 < (len : Int)) = true := by simp; omega
    go_enter Try.func10, Try.ntmps10
    go_wp2_with fail
    go_ret
    exact ⟨rfl, Below.refl _ _⟩
  have d1 : decide (4000 < (len : Int)) = false := by simp; omega
  by_cases hc : c = 0
  · subst hc
    go_enter Try.func10, Try.ntmps10
    go_wp2_with fail
    go_ret
    exact ⟨rfl, Below.refl _ _⟩
  have d2 : ((c.toNat : Int) == 0) = false := by
    rw [beq_eq_false_iff_ne]; intro h; exact hc (UInt8.toNat_inj.1 (by simp; omega))
  have HC := Lib.hid hc; clear hc
  by_cases hneg : t < 0
  · go_enter Try.func10, Try.ntmps10
    go_wp2_with fail
    refine (seal_any key nonce xs a len cap _ HX.out (by omega)).mono ?_
    rintro e w1 ⟨v1, rfl, ho1, hb1⟩
    obtain ⟨a1, n1, c1, rfl, hx1⟩ := ho1.bytes
    obtain rfl : n1 = len + 16 := by rw [← hx1.1, sealL_length, HL.out]
    clear ho1 hx1
    have d3 : decide (t < 0) = true := by simp; omega
    go_wp2_with fail
    go_ret
    exact ⟨by simp, hb1⟩
  obtain ⟨i, rfl⟩ := Int.eq_ofNat_of_zero_le (show 0 ≤ t by omega)
  have d3 : decide ((i : Int) < 0) = false := by simp
  clear hneg
  by_cases hge : len + 16 ≤ i
  · go_enter Try.func10, Try.ntmps10
    go_wp2_with fail
    refine (seal_any key nonce xs a len cap _ HX.out (by omega)).mono ?_
    rintro e w1 ⟨v1, rfl, ho1, hb1⟩
    obtain ⟨a1, n1, c1, rfl, hx1⟩ := ho1.bytes
    obtain rfl : n1 = len + 16 := by rw [← hx1.1, sealL_length, HL.out]
    clear ho1 hx1
    go_wp2_with fail
    go_ret
    exact ⟨by simp, hb1⟩
  have hlt : i < len + 16 := by omega
  clear hge
  go_enter Try.func10, Try.ntmps10
  go_wp2_with fail
  refine (seal_any key nonce xs a len cap _ HX.out (by omega)).mono ?_
  rintro e w1 ⟨v1, rfl, ho1, hb1⟩
  rcases ho1.form2 with ⟨rfl, hnil⟩ | ⟨g, c1, rfl, hnc, hcm, hg, hgs⟩
  · have := congrArg List.length hnil
    rw [bvs_length, sealL_length] at this; simp at this
  rw [show (bvs (sealL key nonce xs)).length = len + 16 by rw [bvs_length, sealL_length, HL.out]] at *
  have HO1 := Lib.hid ho1; clear ho1
  have e1 : len + 16 - 8 = xs.length + 8 := by rw [HL.out]; omega
  have HB1 := Lib.hid (fun j hj => show beVal ((sealL key nonce xs).drop (len + 16 - 8)) ≠ digChain (other key j c) ((sealL key nonce xs).take (len + 16 - 8)) by
    rw [e1, sealL_drop, sealL_take, beVal_be8]; exact chain_other key j hj c HC.out _)
  have HB2 := Lib.hid (show beVal (((sealL key nonce xs).set i ((sealL key nonce xs).getD i 0 ^^^ c)).drop (len + 16 - 8)) ≠ digChain key (((sealL key nonce xs).set i ((sealL key nonce xs).getD i 0 ^^^ c)).take (len + 16 - 8)) by
    rw [e1]; exact sealed_changed key nonce xs i (by rw [HL.out]; exact hlt) _ (xor_ne _ _ HC.out))
  clear e1
  have HY1 : Hid (Bytes w1 (some ⟨g, 0, none⟩) (len + 16) c1 (sealL key nonce xs)) := by
    obtain ⟨a', n', c', hv', hb'⟩ := HO1.out.bytes
    cases hv'; exact hb'
  go_wp2_with fail
  rw [other_form key (i % 8) (by omega) c]
  refine (open_bad _ _ _ _ _ _ HY1.out (by omega) (by omega) (HB1.out (i % 8) (by omega))).mono ?_
  rintro e w2 ⟨rfl, hb2⟩
  have HO2 := Lib.hid (HO1.out.later hb2)
  have q1 := HO2.out.cell i hlt
  have q2 := HO2.out.free i
  have eq1 : (bvs (sealL key nonce xs)).getD i .nilFunc = .int .u8 (((sealL key nonce xs).getD i 0).toNat : Int) := by
    have : i < (sealL key nonce xs).length := by rw [sealL_length, HL.out]; exact hlt
    simp [bvs, bv, List.getD, this]
  rw [eq1] at q1
  have hS := HO2.out.store i (bv ((sealL key nonce xs).getD i 0 ^^^ c))
  have eq2 : (bvs (sealL key nonce xs)).set i (bv ((sealL key nonce xs).getD i 0 ^^^ c)) = bvs ((sealL key nonce xs).set i ((sealL key nonce xs).getD i 0 ^^^ c)) := by simp [bvs, List.map_set]
  rw [eq2] at hS
  have HS := Lib.hid hS
  have hgs2 : w.heap.size ≤ w2.heap.size := Nat.le_trans hb1.size hb2.size
  have hb12 := hb1.trans (hb2.mono hb1.size)
  have HBs := Lib.hid (fun v => hb12.trans ((Below.refl w.heap.size w2).setCell (p := ⟨g, i, none⟩) hg v))
  clear eq1 eq2 hS
  generalize hz : (sealL key nonce xs).getD i 0 = z at *
  clear hz
  go_wp2_with fail
  rw [xor_u8]
  have HY3 : Hid (Bytes (w2.setCell ⟨g, i, none⟩ (bv (z ^^^ c))) (some ⟨g, 0, none⟩) (len + 16) c1 ((sealL key nonce xs).set i (z ^^^ c))) := by
    obtain ⟨a', n', c', hv', hb'⟩ := HS.out.bytes
    cases hv'; exact hb'
  refine (open_bad key _ _ _ _ _ HY3.out (by omega) (by omega) HB2.out).mono ?_
  rintro e w4 ⟨rfl, hb4⟩
  go_wp2_with fail
  go_ret
  exact ⟨rfl, (HBs.out _).trans (hb4.mono (HBs.out (bv (z ^^^ c))).size)⟩

theorem cipherDetects_walk {H : Type} {enc : TypeId × Value → H} (W : World) (base : Nat) (args : Array Value) (ds gs : List (DataW H)) (before : List MemPlace)
    (hval : ∀ (j : Nat) t v, Try.f10.params[j]? = some t → args[j]? = some v → Value.okWide Try.prog W .any base t v)
    (hW : DataW.Whole enc Try.prog Try.f10.params.toList Rows.cipherDetectsSpec.vars false W args.toList ds gs before)
    (_hsz : (DataW.weightsEach Try.prog (Try.f10.params.toList ++ Rows.cipherDetectsSpec.plain.varTypes Try.prog) (ds ++ gs)).all (· ≤ reachBytes) = true) :
    Calls Try.prog 10 args W fun e w' => e = .returned (.bool true) ∧ Below W.heap.size W w' := by
  obtain ⟨p, q, hA, hV, -, -, -⟩ := hW
  obtain ⟨rfl, -⟩ := trodVars_none hV
  rw [Try.params10] at hA hval
  obtain ⟨v0, vs0, d0, ds0, p0, q0, hargs, rfl, rfl, h0, r0⟩ := trodAll_cons hA
  obtain ⟨v1, vs1, d1, ds1, p1, q1, rfl, rfl, rfl, h1, r1⟩ := trodAll_cons r0
  obtain ⟨v2, vs2, d2, ds2, p2, q2, rfl, rfl, rfl, h2, r2⟩ := trodAll_cons r1
  obtain ⟨v3, vs3, d3, ds3, p3, q3, rfl, rfl, rfl, h3, r3⟩ := trodAll_cons r2
  obtain ⟨v4, vs4, d4, ds4, p4, q4, rfl, rfl, rfl, h4, r4⟩ := trodAll_cons r3
  obtain ⟨rfl, rfl, rfl⟩ := trodAll_nil r4
  obtain rfl : args = #[v0, v1, v2, v3, v4] := by cases args; simp_all
  obtain ⟨n, rfl, -, wn⟩ := open_num Try.underlying28 (hval 0 _ _ rfl rfl) h0
  obtain ⟨key, rfl⟩ := u64_of n wn
  obtain ⟨m, rfl, -, wm⟩ := open_num Try.underlying28 (hval 1 _ _ rfl rfl) h1
  obtain ⟨nonce, rfl⟩ := u64_of m wm
  obtain ⟨a, len, cap, xs, rfl, hr, -⟩ := open_row Try.underlying31 Try.underlying5 (by kernel_rfl) (hval 2 _ _ rfl rfl) h2
  obtain ⟨ys, -, hy⟩ := bytes_of rfl hr
  obtain ⟨t, rfl, -, -⟩ := open_num Try.underlying3 (hval 3 _ _ rfl rfl) h3
  obtain ⟨k, rfl, -, wk⟩ := open_num Try.underlying5 (hval 4 _ _ rfl rfl) h4
  obtain ⟨c, rfl⟩ := u8_of k wk
  exact detects_calls key nonce ys a len cap t c W hy

set_option maxRecDepth 100000 in
theorem cipherDetects_lifted (os : Os) (started : os.Started) (H : Type) (enc : TypeId × Value → H) :
    ReturnsInHanded {} Try.checked os 10 .any (Rows.cipherDetectsSpec.pre6 enc Try.prog Try.f10 Rows.cipherDetectsRow.domain false) (Rows.cipherDetectsSpec.post enc Try.prog Try.f10 false true false false) := by
  refine returnsInHanded_of_change_sized (C := Try.checked) own started (by kernel_rfl) Try.func10
    (ChangeSpec.witness6 (enc := enc) (C := Try.checked) false ⟨#[], #[.int .u64 0, .int .u64 0, .slice none 0 0, .int .i64 0, .int .u8 0], []⟩ 8 (by kernel_rfl) (by kernel_rfl) (by kernel_rfl) (by kernel_rfl)) ?_
  intro W base args ds gs before hval hW _ hsz _
  exact law_post rfl (by kernel_rfl) (by kernel_rfl) (fun ds h => match ds, h with | [d0, d1, d2, d3, d4], _ => ⟨rfl, rfl, rfl⟩) hW (cipherDetects_walk W base args ds gs before hval hW hsz)

theorem cipherDetects_over : Rows.cipherDetectsRow.holds Try.pinned (OpenSpec.ofChange Rows.cipherDetectsSpec) :=
  OpenClaim.holds_of_wide 10 Try.f10 rfl rfl rfl rfl rfl rfl rfl ⟨rfl, rfl, rfl, rfl, rfl⟩ rfl rfl rfl rfl rfl (by kernel_rfl) Try.func10 (by kernel_rfl)
    (of_decide_eq_true (by kernel_rfl)) (by unfold Func.isWrapper; first | (rw [if_pos (by decide +kernel)]; kernel_rfl) | (rw [if_neg (by decide +kernel)]; exact ⟨rfl, rfl⟩))
    (fun os started H enc _ => cipherDetects_lifted os started H enc)

theorem cipherDetects_proved : Rows.CipherDetectsSaid := cipherDetects_over

end Go.Proofs.Ytfedalipoknilaa
