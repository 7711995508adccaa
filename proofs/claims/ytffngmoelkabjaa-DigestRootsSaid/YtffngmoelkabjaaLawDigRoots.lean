/- DigestRoots: Root returns the digest of the reference's tree for all lists of digests: the law returns true. No condition. -/
import Derived.Test.YtffngmoelkabjaaFrame
import Derived.Test.YtffngmoelkabjaaDigAw
namespace Go.Proofs.Ytffngmoelkabjaa
open Go.ChangeShapes Go.WideShapes Go.ChangeAt Go.RowKit

set_option maxHeartbeats 1000000 in
theorem digRoots_calls (l : List UInt64) (a : Option Addr) (len cap : Nat) (w : World) (hx : Words w a len cap l) (hm : len * 8 ≤ 140737488355328) :
    Calls Try.prog 3 #[.slice a len cap] w fun e w' => e = .returned (.bool true) ∧ Below w.heap.size w w' := by
  have HX := Lib.hid hx; clear hx
  go_enter Try.func3, Try.ntmps3
  go_wp2_with fail
  refine (root_any l a len cap _ HX.out hm).mono ?_
  rintro e w1 ⟨rfl, hb1⟩
  go_wp2_with fail
  refine (ref_root_any l a len cap _ (HX.out.below hb1) hm).mono ?_
  rintro e w2 ⟨rfl, hb2⟩
  have hb12 := hb1.trans (hb2.mono hb1.size)
  go_wp2_with fail
  refine (awake_any _).mono ?_
  rintro e w3 ⟨rfl, hb3⟩
  go_wp2_with fail
  go_ret
  exact ⟨rfl, hb12.trans (hb3.mono hb12.size)⟩

theorem digestRoots_walk {H : Type} {enc : TypeId × Value → H} (W : World) (base : Nat) (args : Array Value) (ds gs : List (DataW H)) (before : List MemPlace)
    (hval : ∀ (j : Nat) t v, Try.f3.params[j]? = some t → args[j]? = some v → Value.okWide Try.prog W .any base t v)
    (hW : DataW.Whole enc Try.prog Try.f3.params.toList Rows.digestRootsSpec.vars false W args.toList ds gs before)
    (_hsz : (DataW.weightsEach Try.prog (Try.f3.params.toList ++ Rows.digestRootsSpec.plain.varTypes Try.prog) (ds ++ gs)).all (· ≤ reachBytes) = true) :
    Calls Try.prog 3 args W fun e w' => e = .returned (.bool true) ∧ Below W.heap.size W w' := by
  obtain ⟨p, q, hA, hV, -, -, -⟩ := hW
  obtain ⟨rfl, -⟩ := trodVars_none hV
  rw [Try.params3] at hA hval
  obtain ⟨v0, d0, rfl, rfl, h0⟩ := trodAll_one hA
  obtain ⟨a, len, cap, xs, rfl, hr, hz⟩ := open_row Try.underlying22 Try.underlying23 (by kernel_rfl) (hval 0 _ _ rfl rfl) h0
  have hreach := reach_row (k := .u64) _hsz 0 (t := 22) (by kernel_rfl) rfl Try.underlying22 hz
  rw [show Try.prog.bytesOf 23 = 8 by kernel_rfl, hr.1] at hreach
  have hm : len * 8 ≤ 140737488355328 := Nat.le_trans hreach (by decide)
  obtain ⟨ys, -, hy⟩ := words_of rfl hr
  exact digRoots_calls ys a len cap W hy hm

set_option maxRecDepth 100000 in
theorem digestRoots_lifted (os : Os) (started : os.Started) (H : Type) (enc : TypeId × Value → H) :
    ReturnsInHanded {} Try.checked os 3 .any (Rows.digestRootsSpec.pre6 enc Try.prog Try.f3 Rows.digestRootsRow.domain false) (Rows.digestRootsSpec.post enc Try.prog Try.f3 false true false false) := by
  refine returnsInHanded_of_change_sized (C := Try.checked) own started (by kernel_rfl) Try.func3
    (ChangeSpec.witness6 (enc := enc) (C := Try.checked) false ⟨#[], #[.slice none 0 0], []⟩ 8 (by kernel_rfl) (by kernel_rfl) (by kernel_rfl) (by kernel_rfl)) ?_
  intro W base args ds gs before hval hW _ hsz _
  exact law_post rfl (by kernel_rfl) (by kernel_rfl) (fun ds h => match ds, h with | [d0], _ => ⟨rfl, rfl, rfl⟩) hW (digestRoots_walk W base args ds gs before hval hW hsz)

theorem digestRoots_over : Rows.digestRootsRow.holds Try.pinned (OpenSpec.ofChange Rows.digestRootsSpec) :=
  OpenClaim.holds_of_wide 3 Try.f3 rfl rfl rfl rfl rfl rfl rfl ⟨rfl, rfl, rfl, rfl, rfl⟩ rfl rfl rfl rfl rfl (by kernel_rfl) Try.func3 (by kernel_rfl)
    (of_decide_eq_true (by kernel_rfl)) (by unfold Func.isWrapper; first | (rw [if_pos (by decide +kernel)]; kernel_rfl) | (rw [if_neg (by decide +kernel)]; exact ⟨rfl, rfl⟩))
    (fun os started H enc _ => digestRoots_lifted os started H enc)

theorem digestRoots_proved : Rows.DigestRootsSaid := digestRoots_over

end Go.Proofs.Ytffngmoelkabjaa
