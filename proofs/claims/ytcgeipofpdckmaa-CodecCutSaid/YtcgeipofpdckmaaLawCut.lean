/- The law CodecCut: decoding a proper prefix of the encoding of a valid node returns ErrTruncated. No condition. -/
import Derived.Test.YtcgeipofpdckmaaCoL
import Derived.Test.YtcgeipofpdckmaaFrame
namespace Go.Proofs.Ytcgeipofpdckmaa
set_option maxRecDepth 100000
open Go.ChangeShapes Go.WideShapes Go.ChangeAt Go.RowKit

set_option maxHeartbeats 8000000 in
theorem cut_calls (t : NodeT) (v : Value) (c : Nat) (w : World) (hN : NodeIn w t v) (hi : i64T t) (hc : c ≤ 65535) :
    Calls Try.prog 6 #[v, .int .u16 (c : Int)] w fun e w' => e = .returned (.bool true) ∧ Below w.heap.size w w' := by
  obtain ⟨tag, kind, n, s, a, len, cap, kids, ht, rfl, hs, hk⟩ := hN.form
  have hba : Below w.heap.size w (w.alloc (.cells #[.int .i64 tag, .int .i64 kind, .int .i64 n, .string ⟨s.toArray⟩, .slice a len cap] 24)) := (Below.refl _ _).alloc (Nat.le_refl _) _
  have HN := Lib.hid (hN.below hba)
  have HI := Lib.hid hi
  have HBa := Lib.hid hba
  clear hN hi hk ht hba
  cases hq : okT t with
  | false =>
    have HQ := Lib.hid hq
    clear hq
    go_enter Try.func6, Try.ntmps6
    go_wp2_with fail
    generalize w.alloc (.cells #[.int .i64 tag, .int .i64 kind, .int .i64 n, .string ⟨s.toArray⟩, .slice a len cap] 24) = w0 at *
    refine (encode_no t _ w0 HN.out HI.out HQ.out).mono ?_
    rintro e w1 ⟨rfl, hb1⟩
    have hb2 := HBa.out.trans (hb1.mono HBa.out.size)
    clear hb1
    go_wp2_with fail
    refine (awake_any w1).mono ?_
    rintro e w3 ⟨rfl, hb3⟩
    have hb4 := hb2.trans (hb3.mono hb2.size)
    clear hb2 hb3
    go_wp2_with fail
    go_ret
    exact ⟨rfl, hb4⟩
  | true =>
    have HQ := Lib.hid hq
    clear hq
    go_enter Try.func6, Try.ntmps6
    go_wp2_with fail
    generalize w.alloc (.cells #[.int .i64 tag, .int .i64 kind, .int .i64 n, .string ⟨s.toArray⟩, .slice a len cap] 24) = w0 at *
    refine (encode_ok t _ w0 HN.out HI.out HQ.out).mono ?_
    rintro e w1 ⟨a4, n4, c4, rfl, hO, hb1⟩
    obtain ⟨b4, x4, d4, hv4, hby⟩ := hO.bytes
    cases hv4
    have HY := Lib.hid hby
    have hlen : (encT t).length = n4 := hby.1
    have hcap := hby.2.1
    have hcm := hby.2.2.1
    simp only [maxLen] at hcm
    have hb2 := HBa.out.trans (hb1.mono HBa.out.size)
    clear hb1 hO hby
    by_cases hge : n4 ≤ c
    · have d0 : decide ((n4 : Int) ≤ (c : Int)) = true := by simp; omega
      go_wp2_with fail
      refine (awake_any w1).mono ?_
      rintro e w3 ⟨rfl, hb3⟩
      have hb4 := hb2.trans (hb3.mono hb2.size)
      clear hb2 hb3
      go_wp2_with fail
      go_ret
      exact ⟨rfl, hb4⟩
    · have d0 : decide ((n4 : Int) ≤ (c : Int)) = false := by simp; omega
      have HP := Lib.hid (HY.out.pre c (by omega))
      have HD := Lib.hid (show decR ((encT t).take c) = .error 4 by
        have hl : ((encT t).take c).length ≤ 65535 := by rw [List.length_take]; omega
        unfold decR
        rw [if_neg (by omega), List.take_of_length_le (by omega)]
        exact node_cut 4 8 t _ ((encT t).drop c) (by omega) (okT_fit HQ.out) HI.out (List.take_append_drop c (encT t)).symm (fun h => by have := congrArg List.length h; rw [List.length_drop] at this; simp at this; omega))
      go_wp2_with fail
      refine (decode_err HD.out a4 c c4 w1 HP.out).mono ?_
      rintro e w2 ⟨rfl, hb3⟩
      have hb5 : Below w.heap.size w (w2.alloc (.cells #[.int .i64 0, .int .i64 0, .int .i64 0, .string ⟨#[]⟩, .slice none 0 0] 24)) := (hb2.trans (hb3.mono hb2.size)).alloc (Nat.le_trans hb2.size hb3.size) _
      clear hb2 hb3
      go_wp2_with fail
      generalize w2.alloc (.cells #[.int .i64 0, .int .i64 0, .int .i64 0, .string ⟨#[]⟩, .slice none 0 0] 24) = w3 at *
      refine (awake_any w3).mono ?_
      rintro e w4 ⟨rfl, hb6⟩
      have hb7 := hb5.trans (hb6.mono hb5.size)
      clear hb5 hb6
      go_wp2_with fail
      go_ret
      exact ⟨rfl, hb7⟩

theorem codecCut_walk {H : Type} {enc : TypeId × Value → H} (W : World) (base : Nat) (args : Array Value) (ds gs : List (DataW H)) (before : List MemPlace)
    (hval : ∀ (j : Nat) t v, Try.f6.params[j]? = some t → args[j]? = some v → Value.okWide Try.prog W .any base t v)
    (hW : DataW.Whole enc Try.prog Try.f6.params.toList Rows.codecCutSpec.vars false W args.toList ds gs before)
    (_hsz : (DataW.weightsEach Try.prog (Try.f6.params.toList ++ Rows.codecCutSpec.plain.varTypes Try.prog) (ds ++ gs)).all (· ≤ reachBytes) = true) :
    Calls Try.prog 6 args W fun e w' => e = .returned (.bool true) ∧ Below W.heap.size W w' := by
  obtain ⟨p, q, hA, hV, -, -, -⟩ := hW
  obtain ⟨rfl, -⟩ := trodVars_none hV
  rw [Try.params6] at hA hval
  obtain ⟨v0, v1, d0, d1, p0, p1, rfl, rfl, rfl, h0, h1⟩ := trodAll_two hA
  obtain ⟨t, hN, hi⟩ := open_node (hval 0 _ _ rfl rfl) h0
  obtain ⟨c, rfl, -, hw⟩ := open_num Try.underlying36 (hval 1 _ _ rfl rfl) h1
  have hc : 0 ≤ c ∧ c ≤ 65535 := by simpa [Lit.wf, IntKind.min, IntKind.max, IntKind.signed, IntKind.bits] using hw
  obtain ⟨m, rfl⟩ : ∃ m : Nat, c = (m : Int) := ⟨c.toNat, by omega⟩
  exact cut_calls t v0 m W hN hi (by omega)

set_option maxRecDepth 100000 in
theorem codecCut_lifted (os : Os) (started : os.Started) (H : Type) (enc : TypeId × Value → H) :
    ReturnsInHanded {} Try.checked os 6 .any (Rows.codecCutSpec.pre6 enc Try.prog Try.f6 Rows.codecCutRow.domain false) (Rows.codecCutSpec.post enc Try.prog Try.f6 false true false false) := by
  refine returnsInHanded_of_change_sized (C := Try.checked) own started (by kernel_rfl) Try.func6
    (ChangeSpec.witness6 (enc := enc) (C := Try.checked) false ⟨#[], #[.agg #[.int .i64 0, .int .i64 0, .int .i64 0, .string ⟨#[]⟩, .slice none 0 0], .int .u16 0], []⟩ 8 (by kernel_rfl) (by kernel_rfl) (by kernel_rfl) (by kernel_rfl)) ?_
  intro W base args ds gs before hval hW _ hsz _
  exact law_post rfl (by kernel_rfl) (by kernel_rfl) (fun ds h => match ds, h with | [d0, d1], _ => ⟨rfl, rfl, rfl⟩) hW (codecCut_walk W base args ds gs before hval hW hsz)

theorem codecCut_over : Rows.codecCutRow.holds Try.pinned (OpenSpec.ofChange Rows.codecCutSpec) :=
  OpenClaim.holds_of_wide 6 Try.f6 rfl rfl rfl rfl rfl rfl rfl ⟨rfl, rfl, rfl, rfl, rfl⟩ rfl rfl rfl rfl rfl (by kernel_rfl) Try.func6 (by kernel_rfl)
    (of_decide_eq_true (by kernel_rfl)) (by unfold Func.isWrapper; first | (rw [if_pos (by decide +kernel)]; kernel_rfl) | (rw [if_neg (by decide +kernel)]; exact ⟨rfl, rfl⟩))
    (fun os started H enc _ => codecCut_lifted os started H enc)

theorem codecCut_proved : Rows.CodecCutSaid := codecCut_over

end Go.Proofs.Ytcgeipofpdckmaa
