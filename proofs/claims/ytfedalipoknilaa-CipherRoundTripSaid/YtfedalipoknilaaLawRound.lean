/- CipherRoundTrip: what is sealed is opened with the same key; the sealed bytes are 16 more and begin with the nonce: the law returns true. No condition. -/
import Derived.Test.YtfedalipoknilaaFrame
import Derived.Test.YtfedalipoknilaaCiphL
import Derived.Test.YtfedalipoknilaaCiphP
namespace Go.Proofs.Ytfedalipoknilaa
open Go.ChangeShapes Go.WideShapes Go.ChangeAt Go.RowKit

theorem sealL_head (key nonce : UInt64) (data : List UInt8) (k : Nat) (hk : k < 8) : (sealL key nonce data).getD k 0 = byteAt nonce (7 - k) := by
  unfold sealL bodyL
  simp only [List.getD]
  rw [List.append_assoc, List.getElem?_append_left (by rw [be8_length]; omega)]
  match k, hk with
  | 0, _ | 1, _ | 2, _ | 3, _ | 4, _ | 5, _ | 6, _ | 7, _ => simp [be8, beList]

set_option maxHeartbeats 2000000 in
set_option maxRecDepth 100000 in
theorem round_calls (key nonce : UInt64) (xs : List UInt8) (a : Option Addr) (len cap : Nat) (w : World) (hx : Bytes w a len cap xs) :
    Calls Try.prog 9 #[.int .u64 key.toNat, .int .u64 nonce.toNat, .slice a len cap] w fun e w' => e = .returned (.bool true) ∧ Below w.heap.size w w' := by
  have hm : len ≤ 9223372036854775807 := by have h1 := hx.2.1; have h2 := hx.2.2.1; unfold maxLen at h2; omega
  have HX := Lib.hid hx
  have HL := Lib.hid hx.1
  clear hx
  by_cases hl : 4000 < len
  · go_enter Try.func9, Try.ntmps9
    go_wp2_with fail
    go_ret
    exact ⟨rfl, Below.refl _ _⟩
  have d1 : decide (4000 < (len : Int)) = false := by simp; omega
  go_enter Try.func9, Try.ntmps9
  go_wp2_with fail
  refine (seal_any key nonce xs a len cap _ HX.out (by omega)).mono ?_
  rintro e w1 ⟨v1, rfl, ho1, hb1⟩
  obtain ⟨a1, n1, c1, rfl, hx1⟩ := ho1.bytes
  obtain rfl : n1 = len + 16 := by rw [← hx1.1, sealL_length, HL.out]
  have HX1 := Lib.hid hx1
  have HX' := Lib.hid (HX.out.below hb1)
  clear ho1 hx1
  go_wp2_with fail
  go_loop [9] (fun i => ∃ k : Nat, k ≤ 8 ∧ i = .int .i64 k) (fun i => 8 - (intOf i).toNat)
  case atStart => exact ⟨0, by omega, rfl⟩
  case round =>
    obtain ⟨k, hk, rfl⟩ := hrel
    by_cases hlt : k < 8
    · obtain ⟨b, off, rfl, hbs, hcc⟩ := HX1.out.2.at (k := k) (by omega)
      have e1 := hcc k (by omega) w1 (Below.refl _ _)
      rw [sealL_head _ _ _ _ hlt] at e1
      have hN : (((byteAt nonce (7 - k)).toNat : Int) != (nonce.toNat : Int) / 2 ^ (56 - 8 * k) % 256) = false := by
        have := byteAt_mod nonce (7 - k)
        rw [show 8 * (7 - k) = 56 - 8 * k by omega] at this
        rw [this]; simp
      clear hcc
      generalize ((byteAt nonce (7 - k)).toNat : Int) = x at *
      go_wp2_with fail
      go_round
      case rel => exact ⟨k + 1, by omega, by go_num⟩
      case measure => simp [intOf]; omega
    · have e1 : len + 16 - 8 = xs.length + 8 := by rw [HL.out]; omega
      have HG := Lib.hid (show beVal ((sealL key nonce xs).drop (len + 16 - 8)) = digChain key ((sealL key nonce xs).take (len + 16 - 8)) by rw [e1, sealL_drop, sealL_take, beVal_be8])
      have HN := Lib.hid (show beVal ((sealL key nonce xs).take 8) = nonce by rw [sealL_nonce, beVal_be8])
      have HM := Lib.hid (show mixed key (beVal ((sealL key nonce xs).take 8)) (((sealL key nonce xs).take (len + 16 - 8)).drop 8) = xs by rw [HN.out, e1, sealL_take, bodyL_drop, mixed_mixed])
      clear e1
      go_wp2_with fail
      refine (open_good key _ a1 (len + 16) c1 _ HX1.out (by omega) (by omega) HG.out).mono ?_
      rintro e w2 ⟨v2, rfl, ho2, hb2⟩
      rw [HM.out] at ho2
      rw [HN.out]
      obtain ⟨a2, n2, c2, rfl, hx2⟩ := ho2.bytes
      have HX2 := Lib.hid hx2
      have hb12 := hb1.trans (hb2.mono hb1.size)
      clear ho2 hx2
      go_wp2_with fail
      refine (same_any _ _ _ _ _ _ _ _ HX2.out (HX.out.below hb12)).mono ?_
      rintro e w3 ⟨rfl, hb3⟩
      go_wp2_with fail
      go_ret
      exact ⟨rfl, hb12.trans (hb3.mono hb12.size)⟩

theorem cipherRoundTrip_walk {H : Type} {enc : TypeId × Value → H} (W : World) (base : Nat) (args : Array Value) (ds gs : List (DataW H)) (before : List MemPlace)
    (hval : ∀ (j : Nat) t v, Try.f9.params[j]? = some t → args[j]? = some v → Value.okWide Try.prog W .any base t v)
    (hW : DataW.Whole enc Try.prog Try.f9.params.toList Rows.cipherRoundTripSpec.vars false W args.toList ds gs before)
    (_hsz : (DataW.weightsEach Try.prog (Try.f9.params.toList ++ Rows.cipherRoundTripSpec.plain.varTypes Try.prog) (ds ++ gs)).all (· ≤ reachBytes) = true) :
    Calls Try.prog 9 args W fun e w' => e = .returned (.bool true) ∧ Below W.heap.size W w' := by
  obtain ⟨p, q, hA, hV, -, -, -⟩ := hW
  obtain ⟨rfl, -⟩ := trodVars_none hV
  rw [Try.params9] at hA hval
  obtain ⟨v0, v1, v2, d0, d1, d2, p0, p1, p2, rfl, rfl, rfl, h0, h1, h2⟩ := trodAll_three hA
  obtain ⟨n, rfl, -, wn⟩ := open_num Try.underlying28 (hval 0 _ _ rfl rfl) h0
  obtain ⟨key, rfl⟩ := u64_of n wn
  obtain ⟨m, rfl, -, wm⟩ := open_num Try.underlying28 (hval 1 _ _ rfl rfl) h1
  obtain ⟨nonce, rfl⟩ := u64_of m wm
  obtain ⟨a, len, cap, xs, rfl, hr, -⟩ := open_row Try.underlying31 Try.underlying5 (by kernel_rfl) (hval 2 _ _ rfl rfl) h2
  obtain ⟨ys, -, hy⟩ := bytes_of rfl hr
  exact round_calls key nonce ys a len cap W hy

set_option maxRecDepth 100000 in
theorem cipherRoundTrip_lifted (os : Os) (started : os.Started) (H : Type) (enc : TypeId × Value → H) :
    ReturnsInHanded {} Try.checked os 9 .any (Rows.cipherRoundTripSpec.pre6 enc Try.prog Try.f9 Rows.cipherRoundTripRow.domain false) (Rows.cipherRoundTripSpec.post enc Try.prog Try.f9 false true false false) := by
  refine returnsInHanded_of_change_sized (C := Try.checked) own started (by kernel_rfl) Try.func9
    (ChangeSpec.witness6 (enc := enc) (C := Try.checked) false ⟨#[], #[.int .u64 0, .int .u64 0, .slice none 0 0], []⟩ 8 (by kernel_rfl) (by kernel_rfl) (by kernel_rfl) (by kernel_rfl)) ?_
  intro W base args ds gs before hval hW _ hsz _
  exact law_post rfl (by kernel_rfl) (by kernel_rfl) (fun ds h => match ds, h with | [d0, d1, d2], _ => ⟨rfl, rfl, rfl⟩) hW (cipherRoundTrip_walk W base args ds gs before hval hW hsz)

theorem cipherRoundTrip_over : Rows.cipherRoundTripRow.holds Try.pinned (OpenSpec.ofChange Rows.cipherRoundTripSpec) :=
  OpenClaim.holds_of_wide 9 Try.f9 rfl rfl rfl rfl rfl rfl rfl ⟨rfl, rfl, rfl, rfl, rfl⟩ rfl rfl rfl rfl rfl (by kernel_rfl) Try.func9 (by kernel_rfl)
    (of_decide_eq_true (by kernel_rfl)) (by unfold Func.isWrapper; first | (rw [if_pos (by decide +kernel)]; kernel_rfl) | (rw [if_neg (by decide +kernel)]; exact ⟨rfl, rfl⟩))
    (fun os started H enc _ => cipherRoundTrip_lifted os started H enc)

theorem cipherRoundTrip_proved : Rows.CipherRoundTripSaid := cipherRoundTrip_over

end Go.Proofs.Ytfedalipoknilaa
