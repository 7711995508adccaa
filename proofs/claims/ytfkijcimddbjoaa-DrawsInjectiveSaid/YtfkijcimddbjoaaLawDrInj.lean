/- The law DrawsInjective: different seeds give different generators, and different states different successors. No condition. -/
import Derived.Test.YtfkijcimddbjoaaDrA
import Derived.Test.YtfkijcimddbjoaaFrame
namespace Go.Proofs.Ytfkijcimddbjoaa
open Go.ChangeShapes Go.WideShapes Go.ChangeAt Go.RowKit

theorem step_back (x : UInt64) : x * 6364136223846793005 * 13877824140714322085 = x := by
  have h : (6364136223846793005 : UInt64) * 13877824140714322085 = 1 := by decide +kernel
  generalize (6364136223846793005 : UInt64) = m at *
  generalize (13877824140714322085 : UInt64) = k at *
  rw [UInt64.mul_assoc, h, UInt64.mul_one]
theorem stepD_inj {a b : UInt64} (h : stepD a = stepD b) : a = b := by
  unfold stepD at h
  have k1 := step_back a
  have k2 := step_back b
  generalize (6364136223846793005 : UInt64) = m at *
  generalize (13877824140714322085 : UInt64) = k at *
  generalize (1442695040888963407 : UInt64) = c at *
  have h1 : a * m = b * m := by
    have := congrArg (· - c) h
    simpa [UInt64.add_sub_cancel] using this
  rw [← k1, ← k2, h1]

set_option maxHeartbeats 1000000 in
theorem drInj_calls (a b : UInt64) (w : World) :
    Calls Try.prog 6 #[.int .u64 (a.toNat : Int), .int .u64 (b.toNat : Int)] w fun e w' => e = .returned (.bool true) ∧ Below w.heap.size w w' := by
  by_cases hab : a = b
  · subst hab
    go_enter Try.func6, Try.ntmps6
    go_wp2_with fail
    refine (next_draw a _).mono ?_
    rintro e w' ⟨rfl, rfl⟩
    go_wp2_with fail
    refine (next_draw a _).mono ?_
    rintro e w' ⟨rfl, rfl⟩
    go_wp2_with fail
    refine (new_draw a _).mono ?_
    rintro e w' ⟨rfl, rfl⟩
    go_wp2_with fail
    refine (new_draw a _).mono ?_
    rintro e w' ⟨rfl, rfl⟩
    go_wp2_with fail
    refine (new_draw a _).mono ?_
    rintro e w' ⟨rfl, rfl⟩
    go_wp2_with fail
    refine (awake_any _).mono ?_
    rintro e w' ⟨rfl, hb⟩
    go_wp2_with fail
    go_ret
    exact ⟨rfl, hb⟩
  · have h1 : ((a.toNat : Int) == (b.toNat : Int)) = false := by
      rw [beq_eq_false_iff_ne]; intro h; exact hab (UInt64.toNat_inj.1 (Int.ofNat.inj h))
    have h2 : (((stepD a).toNat : Int) == ((stepD b).toNat : Int)) = false := by
      rw [beq_eq_false_iff_ne]; intro h; exact hab (stepD_inj (UInt64.toNat_inj.1 (Int.ofNat.inj h)))
    have g1 : (a.toNat == b.toNat) = false := by rw [beq_eq_false_iff_ne]; intro h; exact hab (UInt64.toNat_inj.1 h)
    have g2 : ((stepD a).toNat == (stepD b).toNat) = false := by rw [beq_eq_false_iff_ne]; intro h; exact hab (stepD_inj (UInt64.toNat_inj.1 h))
    go_enter Try.func6, Try.ntmps6
    go_wp2_with fail
    refine (next_draw a _).mono ?_
    rintro e w' ⟨rfl, rfl⟩
    go_wp2_with fail
    refine (next_draw b _).mono ?_
    rintro e w' ⟨rfl, rfl⟩
    go_wp2_with fail
    refine (new_draw a _).mono ?_
    rintro e w' ⟨rfl, rfl⟩
    go_wp2_with fail
    refine (new_draw b _).mono ?_
    rintro e w' ⟨rfl, rfl⟩
    go_wp2_with fail
    refine (new_draw a _).mono ?_
    rintro e w' ⟨rfl, rfl⟩
    go_wp2_with fail
    refine (awake_any _).mono ?_
    rintro e w' ⟨rfl, hb⟩
    go_wp2_with fail
    go_ret
    exact ⟨rfl, hb⟩

theorem drawsInjective_walk {H : Type} {enc : TypeId × Value → H} (W : World) (base : Nat) (args : Array Value) (ds gs : List (DataW H)) (before : List MemPlace)
    (hval : ∀ (j : Nat) t v, Try.f6.params[j]? = some t → args[j]? = some v → Value.okWide Try.prog W .any base t v)
    (hW : DataW.Whole enc Try.prog Try.f6.params.toList Rows.drawsInjectiveSpec.vars false W args.toList ds gs before)
    (_hsz : (DataW.weightsEach Try.prog (Try.f6.params.toList ++ Rows.drawsInjectiveSpec.plain.varTypes Try.prog) (ds ++ gs)).all (· ≤ reachBytes) = true) :
    Calls Try.prog 6 args W fun e w' => e = .returned (.bool true) ∧ Below W.heap.size W w' := by
  obtain ⟨p, q, hA, hV, -, -, -⟩ := hW
  obtain ⟨rfl, -⟩ := trodVars_none hV
  rw [Try.params6] at hA hval
  obtain ⟨v0, v1, d0, d1, p0, p1, rfl, rfl, rfl, h0, h1⟩ := trodAll_two hA
  obtain ⟨s, rfl, -, ws⟩ := open_num Try.underlying22 (hval 0 _ _ rfl rfl) h0
  obtain ⟨d, rfl, -, wd⟩ := open_num Try.underlying22 (hval 1 _ _ rfl rfl) h1
  obtain ⟨s', rfl⟩ := u64_of s ws
  obtain ⟨d', rfl⟩ := u64_of d wd
  exact drInj_calls s' d' W

set_option maxRecDepth 100000 in
theorem drawsInjective_lifted (os : Os) (started : os.Started) (H : Type) (enc : TypeId × Value → H) :
    ReturnsInHanded {} Try.checked os 6 .any (Rows.drawsInjectiveSpec.pre6 enc Try.prog Try.f6 Rows.drawsInjectiveRow.domain false) (Rows.drawsInjectiveSpec.post enc Try.prog Try.f6 false true false false) := by
  refine returnsInHanded_of_change_sized (C := Try.checked) own started (by kernel_rfl) Try.func6
    (ChangeSpec.witness6 (enc := enc) (C := Try.checked) false ⟨#[], #[.int .u64 0, .int .u64 0], []⟩ 8 (by kernel_rfl) (by kernel_rfl) (by kernel_rfl) (by kernel_rfl)) ?_
  intro W base args ds gs before hval hW _ hsz _
  exact law_post rfl (by kernel_rfl) (by kernel_rfl) (fun ds h => match ds, h with | [d0, d1], _ => ⟨rfl, rfl, rfl⟩) hW (drawsInjective_walk W base args ds gs before hval hW hsz)

theorem drawsInjective_over : Rows.drawsInjectiveRow.holds Try.pinned (OpenSpec.ofChange Rows.drawsInjectiveSpec) :=
  OpenClaim.holds_of_wide 6 Try.f6 rfl rfl rfl rfl rfl rfl rfl ⟨rfl, rfl, rfl, rfl, rfl⟩ rfl rfl rfl rfl rfl (by kernel_rfl) Try.func6 (by kernel_rfl)
    (of_decide_eq_true (by kernel_rfl)) (by unfold Func.isWrapper; first | (rw [if_pos (by decide +kernel)]; kernel_rfl) | (rw [if_neg (by decide +kernel)]; exact ⟨rfl, rfl⟩))
    (fun os started H enc _ => drawsInjective_lifted os started H enc)

theorem drawsInjective_proved : Rows.DrawsInjectiveSaid := drawsInjective_over

end Go.Proofs.Ytfkijcimddbjoaa
