/- The law DrawsLists: Shuffle and Pick of the program and of the reference agree, for all arguments. No condition. -/
import Derived.Test.YtfkijcimddbjoaaDrA
import Derived.Test.YtfkijcimddbjoaaFrame
namespace Go.Proofs.Ytfkijcimddbjoaa
open Go.ChangeShapes Go.WideShapes Go.ChangeAt Go.RowKit

set_option maxHeartbeats 1000000 in
theorem drLists_calls (d : UInt64) (n : Int) (l : List Int) (a : Option Addr) (len cap : Nat) (w : World) (hl : Ints w a len cap l) :
    Calls Try.prog 4 #[.int .u64 (d.toNat : Int), .int .i64 n, .slice a len cap] w fun e w' => e = .returned (.bool true) ∧ Below w.heap.size w w' := by
  have HL := Lib.hid hl
  clear hl
  go_enter Try.func4, Try.ntmps4
  go_wp2_with fail
  refine (shuffle_draw d n _).mono ?_
  rintro e w1 ⟨a1, n1, c1, rfl, hi1, hb1⟩
  have H1 := Lib.hid hi1
  clear hi1
  go_wp2_with fail
  refine (rshuffle_draw d n _).mono ?_
  rintro e w2 ⟨a2, n2, c2, rfl, hi2, hb2⟩
  have H2 := Lib.hid hi2
  have H1' := Lib.hid (H1.out.below hb2)
  have hb02 := hb1.trans (hb2.mono hb1.size)
  clear hi2 hb1 hb2
  go_wp2_with fail
  refine (equal_same _ _ _ _ _ _ _ _ H1'.out H2.out).mono ?_
  rintro e w3 ⟨rfl, hb3⟩
  have hb03 := hb02.trans (hb3.mono hb02.size)
  have HL3 := Lib.hid (HL.out.below hb03)
  clear hb3 hb02
  go_wp2_with fail
  refine (pick_draw d l _ _ _ _ HL3.out).mono ?_
  rintro e w4 ⟨rfl, hb4⟩
  have HL4 := Lib.hid (HL3.out.below hb4)
  have hb04 := hb03.trans (hb4.mono hb03.size)
  clear hb4 hb03
  go_wp2_with fail
  refine (rpick_draw d l _ _ _ _ HL4.out).mono ?_
  rintro e w5 ⟨rfl, hb5⟩
  have hb05 := hb04.trans (hb5.mono hb04.size)
  clear hb5 hb04
  go_wp2_with fail
  refine (awake_any _).mono ?_
  rintro e w6 ⟨rfl, hb6⟩
  go_wp2_with fail
  go_ret
  exact ⟨rfl, hb05.trans (hb6.mono hb05.size)⟩

theorem drawsLists_walk {H : Type} {enc : TypeId × Value → H} (W : World) (base : Nat) (args : Array Value) (ds gs : List (DataW H)) (before : List MemPlace)
    (hval : ∀ (j : Nat) t v, Try.f4.params[j]? = some t → args[j]? = some v → Value.okWide Try.prog W .any base t v)
    (hW : DataW.Whole enc Try.prog Try.f4.params.toList Rows.drawsListsSpec.vars false W args.toList ds gs before)
    (_hsz : (DataW.weightsEach Try.prog (Try.f4.params.toList ++ Rows.drawsListsSpec.plain.varTypes Try.prog) (ds ++ gs)).all (· ≤ reachBytes) = true) :
    Calls Try.prog 4 args W fun e w' => e = .returned (.bool true) ∧ Below W.heap.size W w' := by
  obtain ⟨p, q, hA, hV, -, -, -⟩ := hW
  obtain ⟨rfl, -⟩ := trodVars_none hV
  rw [Try.params4] at hA hval
  obtain ⟨v0, v1, v2, d0, d1, d2, p0, p1, p2, rfl, rfl, rfl, h0, h1, h2⟩ := trodAll_three hA
  obtain ⟨d, rfl, -, wd⟩ := open_num Try.underlying23 (hval 0 _ _ rfl rfl) h0
  obtain ⟨n, rfl, -, wn⟩ := open_num Try.underlying3 (hval 1 _ _ rfl rfl) h1
  obtain ⟨a, len, cap, xs, rfl, hr, -⟩ := open_row Try.underlying36 Try.underlying3 (by kernel_rfl) (hval 2 _ _ rfl rfl) h2
  obtain ⟨d', rfl⟩ := u64_of d wd
  exact drLists_calls d' n xs a len cap W hr.ints

set_option maxRecDepth 100000 in
theorem drawsLists_lifted (os : Os) (started : os.Started) (H : Type) (enc : TypeId × Value → H) :
    ReturnsInHanded {} Try.checked os 4 .any (Rows.drawsListsSpec.pre6 enc Try.prog Try.f4 Rows.drawsListsRow.domain false) (Rows.drawsListsSpec.post enc Try.prog Try.f4 false true false false) := by
  refine returnsInHanded_of_change_sized (C := Try.checked) own started (by kernel_rfl) Try.func4
    (ChangeSpec.witness6 (enc := enc) (C := Try.checked) false ⟨#[], #[.int .u64 0, .int .i64 0, .slice none 0 0], []⟩ 8 (by kernel_rfl) (by kernel_rfl) (by kernel_rfl) (by kernel_rfl)) ?_
  intro W base args ds gs before hval hW _ hsz _
  exact law_post rfl (by kernel_rfl) (by kernel_rfl) (fun ds h => match ds, h with | [d0, d1, d2], _ => ⟨rfl, rfl, rfl⟩) hW (drawsLists_walk W base args ds gs before hval hW hsz)

theorem drawsLists_over : Rows.drawsListsRow.holds Try.pinned (OpenSpec.ofChange Rows.drawsListsSpec) :=
  OpenClaim.holds_of_wide 4 Try.f4 rfl rfl rfl rfl rfl rfl rfl ⟨rfl, rfl, rfl, rfl, rfl⟩ rfl rfl rfl rfl rfl (by kernel_rfl) Try.func4 (by kernel_rfl)
    (of_decide_eq_true (by kernel_rfl)) (by unfold Func.isWrapper; first | (rw [if_pos (by decide +kernel)]; kernel_rfl) | (rw [if_neg (by decide +kernel)]; exact ⟨rfl, rfl⟩))
    (fun os started H enc _ => drawsLists_lifted os started H enc)

theorem drawsLists_proved : Rows.DrawsListsSaid := drawsLists_over

end Go.Proofs.Ytfkijcimddbjoaa
