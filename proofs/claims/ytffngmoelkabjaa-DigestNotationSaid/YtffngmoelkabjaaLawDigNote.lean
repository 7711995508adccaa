/- DigestNotation: Parse inverts Hex, and Hex inverts Parse, for all digests and strings: the law returns true. No condition. -/
import Derived.Test.YtffngmoelkabjaaFrame
import Derived.Test.YtffngmoelkabjaaDigAw
import Derived.Test.YtffngmoelkabjaaDigN
namespace Go.Proofs.Ytffngmoelkabjaa
open Go.ChangeShapes Go.WideShapes Go.ChangeAt Go.RowKit
open Go.ChangeMaps (open_string shut_string)

theorem size16 (l : List UInt8) (h : l.length = 16) : (⟨l.toArray⟩ : ByteArray).size = 16 := by show l.toArray.size = 16; simpa using h

set_option maxHeartbeats 1000000 in
theorem digNote_calls (h : UInt64) (s : ByteArray) (w : World) (hs : s.size ≤ maxLen) :
    Calls Try.prog 6 #[.int .u64 h.toNat, .string s] w fun e w' => e = .returned (.bool true) ∧ Below w.heap.size w w' := by
  have HP := Lib.hid (parse_hex h)
  have HS := Lib.hid (size16 (hexL h) (hexL_length h))
  go_enter Try.func6, Try.ntmps6
  go_wp2_with fail
  refine (hex_any h _).mono ?_
  rintro e w1 ⟨rfl, hb1⟩
  generalize hz : (⟨(hexL h).toArray⟩ : ByteArray) = z at *
  have HZ := Lib.hid (show z.data.toList = hexL h by rw [← hz])
  clear hz
  go_wp2_with fail
  refine (parse_any z _ (by rw [HS.out]; decide)).mono ?_
  rintro e w2 ⟨rfl, rfl⟩
  rw [HZ.out, HP.out]
  have h16 : ((z.size : Int) != 16) = false := by rw [HS.out]; rfl
  go_wp2_with fail
  refine (parse_any s _ hs).mono ?_
  rintro e w2 ⟨rfl, rfl⟩
  rcases parse_err s.data.toList with hE | ⟨y, hE⟩
  · rw [hE]
    clear hE
    go_wp2_with fail
    refine (awake_any _).mono ?_
    rintro e w3 ⟨rfl, hb3⟩
    go_wp2_with fail
    go_ret
    exact ⟨rfl, hb1.trans (hb3.mono hb1.size)⟩
  · rw [hE]
    have HH := Lib.hid (show (⟨(hexL y).toArray⟩ : ByteArray) = s by rw [hex_parse _ y hE])
    clear hE
    go_wp2_with fail
    refine (hex_any y _).mono ?_
    rintro e w3 ⟨rfl, hb3⟩
    rw [HH.out]
    have hb13 := hb1.trans (hb3.mono hb1.size)
    go_wp2_with fail
    refine (awake_any _).mono ?_
    rintro e w4 ⟨rfl, hb4⟩
    go_wp2_with fail
    go_ret
    exact ⟨rfl, hb13.trans (hb4.mono hb13.size)⟩

theorem digestNotation_walk {H : Type} {enc : TypeId × Value → H} (W : World) (base : Nat) (args : Array Value) (ds gs : List (DataW H)) (before : List MemPlace)
    (hval : ∀ (j : Nat) t v, Try.f6.params[j]? = some t → args[j]? = some v → Value.okWide Try.prog W .any base t v)
    (hW : DataW.Whole enc Try.prog Try.f6.params.toList Rows.digestNotationSpec.vars false W args.toList ds gs before)
    (_hsz : (DataW.weightsEach Try.prog (Try.f6.params.toList ++ Rows.digestNotationSpec.plain.varTypes Try.prog) (ds ++ gs)).all (· ≤ reachBytes) = true) :
    Calls Try.prog 6 args W fun e w' => e = .returned (.bool true) ∧ Below W.heap.size W w' := by
  obtain ⟨p, q, hA, hV, -, -, -⟩ := hW
  obtain ⟨rfl, -⟩ := trodVars_none hV
  rw [Try.params6] at hA hval
  obtain ⟨v0, v1, d0, d1, p0, p1, rfl, rfl, rfl, h0, h1⟩ := trodAll_two hA
  obtain ⟨n, rfl, -, wn⟩ := open_num Try.underlying23 (hval 0 _ _ rfl rfl) h0
  obtain ⟨h, rfl⟩ := u64_of n wn
  obtain ⟨s, rfl, -, -, hs⟩ := open_string Try.underlying9 (hval 1 _ _ rfl rfl) h1
  exact digNote_calls h s W hs

set_option maxRecDepth 100000 in
theorem digestNotation_lifted (os : Os) (started : os.Started) (H : Type) (enc : TypeId × Value → H) :
    ReturnsInHanded {} Try.checked os 6 .any (Rows.digestNotationSpec.pre6 enc Try.prog Try.f6 Rows.digestNotationRow.domain false) (Rows.digestNotationSpec.post enc Try.prog Try.f6 false true false false) := by
  refine returnsInHanded_of_change_sized (C := Try.checked) own started (by kernel_rfl) Try.func6
    (ChangeSpec.witness6 (enc := enc) (C := Try.checked) false ⟨#[], #[.int .u64 0, .string ByteArray.empty], []⟩ 8 (by kernel_rfl) (by kernel_rfl) (by kernel_rfl) (by kernel_rfl)) ?_
  intro W base args ds gs before hval hW _ hsz _
  exact law_post rfl (by kernel_rfl) (by kernel_rfl) (fun ds h => match ds, h with | [d0, d1], _ => ⟨rfl, rfl, rfl⟩) hW (digestNotation_walk W base args ds gs before hval hW hsz)

theorem digestNotation_over : Rows.digestNotationRow.holds Try.pinned (OpenSpec.ofChange Rows.digestNotationSpec) :=
  OpenClaim.holds_of_wide 6 Try.f6 rfl rfl rfl rfl rfl rfl rfl ⟨rfl, rfl, rfl, rfl, rfl⟩ rfl rfl rfl rfl rfl (by kernel_rfl) Try.func6 (by kernel_rfl)
    (of_decide_eq_true (by kernel_rfl)) (by unfold Func.isWrapper; first | (rw [if_pos (by decide +kernel)]; kernel_rfl) | (rw [if_neg (by decide +kernel)]; exact ⟨rfl, rfl⟩))
    (fun os started H enc _ => digestNotation_lifted os started H enc)

theorem digestNotation_proved : Rows.DigestNotationSaid := digestNotation_over

end Go.Proofs.Ytffngmoelkabjaa
