/- CipherOpens: for every key and bytes (up to 4,000, or above the limit) what they are opened to, or the error, is the reference's: the law returns true. No condition. -/
import Derived.Test.YtfedalipoknilaaFrame
import Derived.Test.YtfedalipoknilaaCiphL
namespace Go.Proofs.Ytfedalipoknilaa
open Go.ChangeShapes Go.WideShapes Go.ChangeAt Go.RowKit

set_option maxHeartbeats 2000000 in
theorem opens_calls (key : UInt64) (xs : List UInt8) (a : Option Addr) (len cap : Nat) (w : World) (hx : Bytes w a len cap xs) :
    Calls Try.prog 8 #[.int .u64 key.toNat, .slice a len cap] w fun e w' => e = .returned (.bool true) ∧ Below w.heap.size w w' := by
  have hm : len ≤ 9223372036854775807 := by have h1 := hx.2.1; have h2 := hx.2.2.1; unfold maxLen at h2; omega
  have HX := Lib.hid hx; clear hx
  by_cases hmid : 4000 < len ∧ len ≤ 1048592
  · have HM := Lib.hid hmid; clear hmid
    go_enter Try.func8, Try.ntmps8
    go_wp2_with fail
    refine (middling_yes len 1048592 _ HM.out.1 HM.out.2).mono ?_
    rintro e w1 ⟨rfl, rfl⟩
    go_wp2_with fail
    go_ret
    exact ⟨rfl, Below.refl _ _⟩
  by_cases hlong : 1048592 < len
  · have HM := Lib.hid hmid; clear hmid
    go_enter Try.func8, Try.ntmps8
    go_wp2_with fail
    refine (middling_no len 1048592 _ HM.out).mono ?_
    rintro e w1 ⟨rfl, rfl⟩
    go_wp2_with fail
    refine (open_long key a len cap _ hlong hm).mono ?_
    rintro e w1 ⟨rfl, rfl⟩
    go_wp2_with fail
    refine (ref_open_long key a len cap _ hlong hm).mono ?_
    rintro e w1 ⟨rfl, rfl⟩
    go_wp2_with fail
    refine (same_any [] none none 0 0 0 0 _ (bytes_nil _) (bytes_nil _)).mono ?_
    rintro e w1 ⟨rfl, hb1⟩
    go_wp2_with fail
    go_ret
    exact ⟨rfl, hb1⟩
  by_cases hshort : len < 16
  · have HM := Lib.hid hmid; clear hmid
    go_enter Try.func8, Try.ntmps8
    go_wp2_with fail
    refine (middling_no len 1048592 _ HM.out).mono ?_
    rintro e w1 ⟨rfl, rfl⟩
    go_wp2_with fail
    refine (open_short key a len cap _ hshort).mono ?_
    rintro e w1 ⟨rfl, rfl⟩
    go_wp2_with fail
    refine (ref_open_short key a len cap _ hshort).mono ?_
    rintro e w1 ⟨rfl, rfl⟩
    go_wp2_with fail
    refine (same_any [] none none 0 0 0 0 _ (bytes_nil _) (bytes_nil _)).mono ?_
    rintro e w1 ⟨rfl, hb1⟩
    go_wp2_with fail
    go_ret
    exact ⟨rfl, hb1⟩
  have HM := Lib.hid hmid; clear hmid
  have hlen : len ≤ 1048592 := by omega
  have h16 : 16 ≤ len := by omega
  clear hlong hshort
  by_cases hgood : beVal (xs.drop (len - 8)) = digChain key (xs.take (len - 8))
  · have HG := Lib.hid hgood; clear hgood
    go_enter Try.func8, Try.ntmps8
    go_wp2_with fail
    refine (middling_no len 1048592 _ HM.out).mono ?_
    rintro e w1 ⟨rfl, rfl⟩
    go_wp2_with fail
    refine (open_good key xs a len cap _ HX.out h16 hlen HG.out).mono ?_
    rintro e w1 ⟨v1, rfl, ho1, hb1⟩
    have HO1 := Lib.hid ho1; clear ho1
    go_wp2_with fail
    refine (ref_open_good key xs a len cap _ (HX.out.below hb1) h16 hlen HG.out).mono ?_
    rintro e w2 ⟨v2, rfl, ho2, hb2⟩
    obtain ⟨a1, n1, c1, rfl, hx1⟩ := (HO1.out.later hb2).bytes
    obtain ⟨a2, n2, c2, rfl, hx2⟩ := ho2.bytes
    have HX1 := Lib.hid hx1
    have HX2 := Lib.hid hx2
    have hb12 := hb1.trans (hb2.mono hb1.size)
    clear ho2 hx1 hx2
    go_wp2_with fail
    refine (same_any _ _ _ _ _ _ _ _ HX1.out HX2.out).mono ?_
    rintro e w3 ⟨rfl, hb3⟩
    go_wp2_with fail
    go_ret
    exact ⟨by simp, hb12.trans (hb3.mono hb12.size)⟩
  · have HG := Lib.hid hgood; clear hgood
    go_enter Try.func8, Try.ntmps8
    go_wp2_with fail
    refine (middling_no len 1048592 _ HM.out).mono ?_
    rintro e w1 ⟨rfl, rfl⟩
    go_wp2_with fail
    refine (open_bad key xs a len cap _ HX.out h16 hlen HG.out).mono ?_
    rintro e w1 ⟨rfl, hb1⟩
    go_wp2_with fail
    refine (ref_open_bad key xs a len cap _ (HX.out.below hb1) h16 hlen HG.out).mono ?_
    rintro e w2 ⟨rfl, hb2⟩
    have hb12 := hb1.trans (hb2.mono hb1.size)
    go_wp2_with fail
    refine (same_any [] none none 0 0 0 0 _ (bytes_nil _) (bytes_nil _)).mono ?_
    rintro e w3 ⟨rfl, hb3⟩
    go_wp2_with fail
    go_ret
    exact ⟨by simp, hb12.trans (hb3.mono hb12.size)⟩

theorem cipherOpens_walk {H : Type} {enc : TypeId × Value → H} (W : World) (base : Nat) (args : Array Value) (ds gs : List (DataW H)) (before : List MemPlace)
    (hval : ∀ (j : Nat) t v, Try.f8.params[j]? = some t → args[j]? = some v → Value.okWide Try.prog W .any base t v)
    (hW : DataW.Whole enc Try.prog Try.f8.params.toList Rows.cipherOpensSpec.vars false W args.toList ds gs before)
    (_hsz : (DataW.weightsEach Try.prog (Try.f8.params.toList ++ Rows.cipherOpensSpec.plain.varTypes Try.prog) (ds ++ gs)).all (· ≤ reachBytes) = true) :
    Calls Try.prog 8 args W fun e w' => e = .returned (.bool true) ∧ Below W.heap.size W w' := by
  obtain ⟨p, q, hA, hV, -, -, -⟩ := hW
  obtain ⟨rfl, -⟩ := trodVars_none hV
  rw [Try.params8] at hA hval
  obtain ⟨v0, v1, d0, d1, p0, p1, rfl, rfl, rfl, h0, h1⟩ := trodAll_two hA
  obtain ⟨n, rfl, -, wn⟩ := open_num Try.underlying28 (hval 0 _ _ rfl rfl) h0
  obtain ⟨key, rfl⟩ := u64_of n wn
  obtain ⟨a, len, cap, xs, rfl, hr, -⟩ := open_row Try.underlying31 Try.underlying5 (by kernel_rfl) (hval 1 _ _ rfl rfl) h1
  obtain ⟨ys, -, hy⟩ := bytes_of rfl hr
  exact opens_calls key ys a len cap W hy

set_option maxRecDepth 100000 in
theorem cipherOpens_lifted (os : Os) (started : os.Started) (H : Type) (enc : TypeId × Value → H) :
    ReturnsInHanded {} Try.checked os 8 .any (Rows.cipherOpensSpec.pre6 enc Try.prog Try.f8 Rows.cipherOpensRow.domain false) (Rows.cipherOpensSpec.post enc Try.prog Try.f8 false true false false) := by
  refine returnsInHanded_of_change_sized (C := Try.checked) own started (by kernel_rfl) Try.func8
    (ChangeSpec.witness6 (enc := enc) (C := Try.checked) false ⟨#[], #[.int .u64 0, .slice none 0 0], []⟩ 8 (by kernel_rfl) (by kernel_rfl) (by kernel_rfl) (by kernel_rfl)) ?_
  intro W base args ds gs before hval hW _ hsz _
  exact law_post rfl (by kernel_rfl) (by kernel_rfl) (fun ds h => match ds, h with | [d0, d1], _ => ⟨rfl, rfl, rfl⟩) hW (cipherOpens_walk W base args ds gs before hval hW hsz)

theorem cipherOpens_over : Rows.cipherOpensRow.holds Try.pinned (OpenSpec.ofChange Rows.cipherOpensSpec) :=
  OpenClaim.holds_of_wide 8 Try.f8 rfl rfl rfl rfl rfl rfl rfl ⟨rfl, rfl, rfl, rfl, rfl⟩ rfl rfl rfl rfl rfl (by kernel_rfl) Try.func8 (by kernel_rfl)
    (of_decide_eq_true (by kernel_rfl)) (by unfold Func.isWrapper; first | (rw [if_pos (by decide +kernel)]; kernel_rfl) | (rw [if_neg (by decide +kernel)]; exact ⟨rfl, rfl⟩))
    (fun os started H enc _ => cipherOpens_lifted os started H enc)

theorem cipherOpens_proved : Rows.CipherOpensSaid := cipherOpens_over

end Go.Proofs.Ytfedalipoknilaa
