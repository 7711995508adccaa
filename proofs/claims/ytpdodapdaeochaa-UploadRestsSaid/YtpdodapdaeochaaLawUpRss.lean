/- UploadRests: Rest returns the packets or the first error that the document defines, for all arguments: the law returns true. Condition: the log takes at most 2^47 bytes (true of every argument). -/
import Derived.Test.YtpdodapdaeochaaUpU
namespace Go.Proofs.Ytpdodapdaeochaa
set_option maxRecDepth 100000
open Go.ChangeShapes Go.WideShapes Go.ChangeAt Go.RowKit
set_option maxHeartbeats 2000000 in
theorem uploadRests_far (s : Int) (da log : List UInt8) (a1 a2 a : Option Addr) (n1 c1 n2 c2 len cap : Nat) (sz : Int) (w : World) (hd : Bytes w a1 n1 c1 da) (hx : Bytes w a len cap log) (hlen : len ≤ 140737488355328) (h : ¬ da <+: log) :
    Calls Try.prog 7 #[.agg #[.int .i64 s, .slice a1 n1 c1, .slice a2 n2 c2], .slice a len cap, .int .i64 sz] w fun e w' => e = .returned (.bool true) ∧ Below w.heap.size w w' := by
  have HD := Lib.hid hd
  have HX := Lib.hid hx
  clear hd hx
  go_enter Try.func7, Try.ntmps7
  go_wp2_with fail
  have hbx : Below w.heap.size w (w.alloc (.cells #[.int .i64 s, .slice a1 n1 c1, .slice a2 n2 c2] 28)) := ((Below.refl _ _).alloc (Nat.le_refl _) _)
  generalize hWW : (w.alloc (.cells #[.int .i64 s, .slice a1 n1 c1, .slice a2 n2 c2] 28)) = w0 at *
  replace HD := Lib.hid (HD.out.below hbx)
  replace HX := Lib.hid (HX.out.below hbx)
  have cI0 : w0.cell? ⟨w.heap.size, 0, none⟩ = some (.int .i64 s) := by subst hWW; go_simp
  have cI1 : w0.cell? ⟨w.heap.size, 1, none⟩ = some (.slice a1 n1 c1) := by subst hWW; go_simp
  have cI2 : w0.cell? ⟨w.heap.size, 2, none⟩ = some (.slice a2 n2 c2) := by subst hWW; go_simp
  have ltI : w.heap.size < w0.heap.size := by subst hWW; simp
  have hB := hbx
  clear hbx hWW
  refine (rest_far s da log a1 a2 a n1 c1 n2 c2 len cap sz _ HD.out HX.out h).mono ?_
  rintro e w1 ⟨rfl, hb⟩
  replace cI0 := bc hb ltI cI0
  replace cI1 := bc hb ltI cI1
  replace cI2 := bc hb ltI cI2
  replace ltI := bl hb ltI
  replace HD := Lib.hid (HD.out.below hb)
  replace HX := Lib.hid (HX.out.below hb)
  replace hB := hB.trans (hb.mono hB.size)
  clear hb
  go_wp2_with fail
  refine (rrest_far s da log a1 a2 a n1 c1 n2 c2 len cap sz _ HD.out HX.out h).mono ?_
  rintro e w2 ⟨rfl, hb⟩
  replace cI0 := bc hb ltI cI0
  replace cI1 := bc hb ltI cI1
  replace cI2 := bc hb ltI cI2
  replace ltI := bl hb ltI
  replace HD := Lib.hid (HD.out.below hb)
  replace HX := Lib.hid (HX.out.below hb)
  replace hB := hB.trans (hb.mono hB.size)
  clear hb
  go_wp2_with fail
  refine (samepks_t (fun _ => PkM.zero) none none 0 0 0 _ (PksIn.nil _ _) (PksIn.nil _ _)).mono ?_
  rintro e w3 ⟨rfl, hb⟩
  replace cI0 := bc hb ltI cI0
  replace cI1 := bc hb ltI cI1
  replace cI2 := bc hb ltI cI2
  replace ltI := bl hb ltI
  replace HD := Lib.hid (HD.out.below hb)
  replace HX := Lib.hid (HX.out.below hb)
  replace hB := hB.trans (hb.mono hB.size)
  clear hb
  go_wp2_with fail
  refine (awake_any _).mono ?_
  rintro e w5 ⟨rfl, hb⟩
  replace cI0 := bc hb ltI cI0
  replace cI1 := bc hb ltI cI1
  replace cI2 := bc hb ltI cI2
  replace ltI := bl hb ltI
  replace HD := Lib.hid (HD.out.below hb)
  replace HX := Lib.hid (HX.out.below hb)
  replace hB := hB.trans (hb.mono hB.size)
  clear hb
  go_wp2_with fail
  go_ret
  exact ⟨rfl, hB⟩
set_option maxHeartbeats 2000000 in
theorem uploadRests_no (s : Int) (da log : List UInt8) (a1 a2 a : Option Addr) (n1 c1 n2 c2 len cap : Nat) (sz : Int) (w : World) (hd : Bytes w a1 n1 c1 da) (hx : Bytes w a len cap log) (hlen : len ≤ 140737488355328) (h : da <+: log) (ho : ¬ OkC s len n1 sz) :
    Calls Try.prog 7 #[.agg #[.int .i64 s, .slice a1 n1 c1, .slice a2 n2 c2], .slice a len cap, .int .i64 sz] w fun e w' => e = .returned (.bool true) ∧ Below w.heap.size w w' := by
  have HD := Lib.hid hd
  have HX := Lib.hid hx
  clear hd hx
  go_enter Try.func7, Try.ntmps7
  go_wp2_with fail
  have hbx : Below w.heap.size w (w.alloc (.cells #[.int .i64 s, .slice a1 n1 c1, .slice a2 n2 c2] 28)) := ((Below.refl _ _).alloc (Nat.le_refl _) _)
  generalize hWW : (w.alloc (.cells #[.int .i64 s, .slice a1 n1 c1, .slice a2 n2 c2] 28)) = w0 at *
  replace HD := Lib.hid (HD.out.below hbx)
  replace HX := Lib.hid (HX.out.below hbx)
  have cI0 : w0.cell? ⟨w.heap.size, 0, none⟩ = some (.int .i64 s) := by subst hWW; go_simp
  have cI1 : w0.cell? ⟨w.heap.size, 1, none⟩ = some (.slice a1 n1 c1) := by subst hWW; go_simp
  have cI2 : w0.cell? ⟨w.heap.size, 2, none⟩ = some (.slice a2 n2 c2) := by subst hWW; go_simp
  have ltI : w.heap.size < w0.heap.size := by subst hWW; simp
  have hB := hbx
  clear hbx hWW
  refine (rest_no s da log a1 a2 a n1 c1 n2 c2 len cap sz _ HD.out HX.out hlen h ho).mono ?_
  rintro e w1 ⟨rfl, hb⟩
  replace cI0 := bc hb ltI cI0
  replace cI1 := bc hb ltI cI1
  replace cI2 := bc hb ltI cI2
  replace ltI := bl hb ltI
  replace HD := Lib.hid (HD.out.below hb)
  replace HX := Lib.hid (HX.out.below hb)
  replace hB := hB.trans (hb.mono hB.size)
  clear hb
  go_wp2_with fail
  refine (rrest_no s da log a1 a2 a n1 c1 n2 c2 len cap sz _ HD.out HX.out hlen h ho).mono ?_
  rintro e w2 ⟨rfl, hb⟩
  replace cI0 := bc hb ltI cI0
  replace cI1 := bc hb ltI cI1
  replace cI2 := bc hb ltI cI2
  replace ltI := bl hb ltI
  replace HD := Lib.hid (HD.out.below hb)
  replace HX := Lib.hid (HX.out.below hb)
  replace hB := hB.trans (hb.mono hB.size)
  clear hb
  go_wp2_with fail
  refine (samepks_t (fun _ => PkM.zero) none none 0 0 0 _ (PksIn.nil _ _) (PksIn.nil _ _)).mono ?_
  rintro e w3 ⟨rfl, hb⟩
  replace cI0 := bc hb ltI cI0
  replace cI1 := bc hb ltI cI1
  replace cI2 := bc hb ltI cI2
  replace ltI := bl hb ltI
  replace HD := Lib.hid (HD.out.below hb)
  replace HX := Lib.hid (HX.out.below hb)
  replace hB := hB.trans (hb.mono hB.size)
  clear hb
  go_wp2_with fail
  refine (awake_any _).mono ?_
  rintro e w5 ⟨rfl, hb⟩
  replace cI0 := bc hb ltI cI0
  replace cI1 := bc hb ltI cI1
  replace cI2 := bc hb ltI cI2
  replace ltI := bl hb ltI
  replace HD := Lib.hid (HD.out.below hb)
  replace HX := Lib.hid (HX.out.below hb)
  replace hB := hB.trans (hb.mono hB.size)
  clear hb
  go_wp2_with fail
  go_ret
  exact ⟨rfl, hB⟩
set_option maxHeartbeats 2000000 in
theorem uploadRests_ok (s : Nat) (da log : List UInt8) (a1 a2 a : Option Addr) (n1 c1 n2 c2 len cap : Nat) (sz : Nat) (w : World) (hd : Bytes w a1 n1 c1 da) (hx : Bytes w a len cap log) (hlen : len ≤ 140737488355328) (h : da <+: log) (ho : OkC s len n1 sz) :
    Calls Try.prog 7 #[.agg #[.int .i64 s, .slice a1 n1 c1, .slice a2 n2 c2], .slice a len cap, .int .i64 sz] w fun e w' => e = .returned (.bool true) ∧ Below w.heap.size w w' := by
  have HD := Lib.hid hd
  have HX := Lib.hid hx
  clear hd hx
  go_enter Try.func7, Try.ntmps7
  go_wp2_with fail
  have hbx : Below w.heap.size w (w.alloc (.cells #[.int .i64 s, .slice a1 n1 c1, .slice a2 n2 c2] 28)) := ((Below.refl _ _).alloc (Nat.le_refl _) _)
  generalize hWW : (w.alloc (.cells #[.int .i64 s, .slice a1 n1 c1, .slice a2 n2 c2] 28)) = w0 at *
  replace HD := Lib.hid (HD.out.below hbx)
  replace HX := Lib.hid (HX.out.below hbx)
  have cI0 : w0.cell? ⟨w.heap.size, 0, none⟩ = some (.int .i64 s) := by subst hWW; go_simp
  have cI1 : w0.cell? ⟨w.heap.size, 1, none⟩ = some (.slice a1 n1 c1) := by subst hWW; go_simp
  have cI2 : w0.cell? ⟨w.heap.size, 2, none⟩ = some (.slice a2 n2 c2) := by subst hWW; go_simp
  have ltI : w.heap.size < w0.heap.size := by subst hWW; simp
  have hB := hbx
  clear hbx hWW
  refine (rest_ok s da log a1 a2 a n1 c1 n2 c2 len cap sz _ HD.out HX.out h ho).mono ?_
  rintro e w1 ⟨b, c, rfl, hr, hb⟩
  replace cI0 := bc hb ltI cI0
  replace cI1 := bc hb ltI cI1
  replace cI2 := bc hb ltI cI2
  replace ltI := bl hb ltI
  replace HD := Lib.hid (HD.out.below hb)
  replace HX := Lib.hid (HX.out.below hb)
  replace hB := hB.trans (hb.mono hB.size)
  have HR := Lib.hid hr
  clear hr
  clear hb
  go_wp2_with fail
  refine (rrest_ok s da log a1 a2 a n1 c1 n2 c2 len cap sz _ HD.out HX.out h ho).mono ?_
  rintro e w2 ⟨b2, c3, rfl, hr, hb⟩
  replace cI0 := bc hb ltI cI0
  replace cI1 := bc hb ltI cI1
  replace cI2 := bc hb ltI cI2
  replace ltI := bl hb ltI
  replace HD := Lib.hid (HD.out.below hb)
  replace HX := Lib.hid (HX.out.below hb)
  replace HR := Lib.hid (HR.out.below hb)
  replace hB := hB.trans (hb.mono hB.size)
  have HR2 := Lib.hid hr
  clear hr
  clear hb
  go_wp2_with fail
  refine (samepks_t _ b b2 _ c c3 _ HR.out HR2.out).mono ?_
  rintro e w3 ⟨rfl, hb⟩
  replace cI0 := bc hb ltI cI0
  replace cI1 := bc hb ltI cI1
  replace cI2 := bc hb ltI cI2
  replace ltI := bl hb ltI
  replace HD := Lib.hid (HD.out.below hb)
  replace HX := Lib.hid (HX.out.below hb)
  replace HR := Lib.hid (HR.out.below hb)
  replace HR2 := Lib.hid (HR2.out.below hb)
  replace hB := hB.trans (hb.mono hB.size)
  clear hb
  go_wp2_with fail
  refine (awake_any _).mono ?_
  rintro e w5 ⟨rfl, hb⟩
  replace cI0 := bc hb ltI cI0
  replace cI1 := bc hb ltI cI1
  replace cI2 := bc hb ltI cI2
  replace ltI := bl hb ltI
  replace HD := Lib.hid (HD.out.below hb)
  replace HX := Lib.hid (HX.out.below hb)
  replace HR := Lib.hid (HR.out.below hb)
  replace HR2 := Lib.hid (HR2.out.below hb)
  replace hB := hB.trans (hb.mono hB.size)
  clear hb
  go_wp2_with fail
  go_ret
  exact ⟨rfl, hB⟩
theorem uploadRests_calls (s : Int) (da log : List UInt8) (a1 a2 a : Option Addr) (n1 c1 n2 c2 len cap : Nat) (sz : Int) (w : World) (hd : Bytes w a1 n1 c1 da) (hx : Bytes w a len cap log) (hlen : len ≤ 140737488355328) :
    Calls Try.prog 7 #[.agg #[.int .i64 s, .slice a1 n1 c1, .slice a2 n2 c2], .slice a len cap, .int .i64 sz] w fun e w' => e = .returned (.bool true) ∧ Below w.heap.size w w' := by
  by_cases h : da <+: log
  · by_cases ho : OkC s len n1 sz
    · obtain ⟨s', rfl⟩ : ∃ s' : Nat, s = s' := ⟨s.toNat, by have := ho.1.1; omega⟩
      obtain ⟨z', rfl⟩ : ∃ z' : Nat, sz = z' := ⟨sz.toNat, by have := ho.2.1; omega⟩
      exact uploadRests_ok s' da log a1 a2 a n1 c1 n2 c2 len cap z' w hd hx hlen h ho
    · exact uploadRests_no s da log a1 a2 a n1 c1 n2 c2 len cap sz w hd hx hlen h ho
  · exact uploadRests_far s da log a1 a2 a n1 c1 n2 c2 len cap sz w hd hx hlen h

theorem uploadRests_walk {H : Type} {enc : TypeId × Value → H} (W : World) (base : Nat) (args : Array Value) (ds gs : List (DataW H)) (before : List MemPlace)
    (hval : ∀ (j : Nat) t v, Try.f7.params[j]? = some t → args[j]? = some v → Value.okWide Try.prog W .any base t v)
    (hW : DataW.Whole enc Try.prog Try.f7.params.toList Rows.uploadRestsSpec.vars false W args.toList ds gs before)
    (_hsz : (DataW.weightsEach Try.prog (Try.f7.params.toList ++ Rows.uploadRestsSpec.plain.varTypes Try.prog) (ds ++ gs)).all (· ≤ reachBytes) = true) :
    Calls Try.prog 7 args W fun e w' => e = .returned (.bool true) ∧ Below W.heap.size W w' := by
  obtain ⟨p, q, hA, hV, -, -, -⟩ := hW
  obtain ⟨rfl, -⟩ := trodVars_none hV
  rw [Try.params7] at hA hval
  obtain ⟨v0, v1, v2, d0, d1, d2, p0, p1, p2, rfl, rfl, rfl, h0, h1, h2⟩ := trodAll_three hA
  obtain ⟨s, a1, n1, c1, a2, n2, c2, da, rfl, -, hd⟩ := open_inbox (hval 0 _ _ rfl rfl) h0
  obtain ⟨a, len, cap, zs, rfl, hr, hz⟩ := open_row Try.underlying22 Try.underlying5 (by kernel_rfl) (hval 1 _ _ rfl rfl) h1
  have hreach := reach_row (k := .u8) _hsz 1 (t := 22) (by kernel_rfl) rfl Try.underlying22 hz
  rw [show Try.prog.bytesOf 5 = 1 by kernel_rfl, hr.1] at hreach
  have hm : len ≤ 140737488355328 := by have h9 := Nat.le_trans hreach (show reachBytes ≤ 140737488355328 by decide); omega
  obtain ⟨ys, -, hy⟩ := bytes_of rfl hr
  obtain ⟨sz, rfl, -, -⟩ := open_num Try.underlying3 (hval 2 _ _ rfl rfl) h2
  exact uploadRests_calls s da ys a1 a2 a n1 c1 n2 c2 len cap sz W hd hy hm

set_option maxRecDepth 100000 in
theorem uploadRests_lifted (os : Os) (started : os.Started) (H : Type) (enc : TypeId × Value → H) :
    ReturnsInHanded {} Try.checked os 7 .any (Rows.uploadRestsSpec.pre6 enc Try.prog Try.f7 Rows.uploadRestsRow.domain false) (Rows.uploadRestsSpec.post enc Try.prog Try.f7 false true false false) := by
  refine returnsInHanded_of_change_sized (C := Try.checked) own started (by kernel_rfl) Try.func7
    (ChangeSpec.witness6 (enc := enc) (C := Try.checked) false ⟨#[], #[.agg #[.int .i64 0, .slice none 0 0, .slice none 0 0], .slice none 0 0, .int .i64 0], []⟩ 8 (by kernel_rfl) (by kernel_rfl) (by kernel_rfl) (by kernel_rfl)) ?_
  intro W base args ds gs before hval hW _ hsz _
  exact law_post rfl (by kernel_rfl) (by kernel_rfl) (fun ds h => match ds, h with | [d0, d1, d2], _ => ⟨rfl, rfl, rfl⟩) hW (uploadRests_walk W base args ds gs before hval hW hsz)

theorem uploadRests_over : Rows.uploadRestsRow.holds Try.pinned (OpenSpec.ofChange Rows.uploadRestsSpec) :=
  OpenClaim.holds_of_wide 7 Try.f7 rfl rfl rfl rfl rfl rfl rfl ⟨rfl, rfl, rfl, rfl, rfl⟩ rfl rfl rfl rfl rfl (by kernel_rfl) Try.func7 (by kernel_rfl)
    (of_decide_eq_true (by kernel_rfl)) (by unfold Func.isWrapper; first | (rw [if_pos (by decide +kernel)]; kernel_rfl) | (rw [if_neg (by decide +kernel)]; exact ⟨rfl, rfl⟩))
    (fun os started H enc _ => uploadRests_lifted os started H enc)

theorem uploadRests_proved : Rows.UploadRestsSaid := uploadRests_over

end Go.Proofs.Ytpdodapdaeochaa
