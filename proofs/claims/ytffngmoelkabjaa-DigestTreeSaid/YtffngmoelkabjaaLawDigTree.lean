/- DigestTree: a full tree of a power of two followed by at most as many digests is joined at the top: the law returns true. No condition. -/
import Derived.Test.YtffngmoelkabjaaFrame
import Derived.Test.YtffngmoelkabjaaDigAw
namespace Go.Proofs.Ytffngmoelkabjaa
open Go.ChangeShapes Go.WideShapes Go.ChangeAt Go.RowKit

theorem words_nil (w : World) : Words w none 0 0 [] := ⟨rfl, by omega, by simp [maxLen], by simp, .inl rfl⟩
theorem Words.pre {w : World} {a : Option Addr} {len cap : Nat} {xs : List UInt64} (h : Words w a len cap xs) (hi : Nat) (hh : hi ≤ len) : Words w a hi cap (xs.take hi) := by
  have hl := h.1
  exact ⟨by rw [List.length_take]; omega, (h.2.pre hi hh).congr fun i hi' => by simp [List.getD, hi']⟩

/-! ### Plain -/
theorem levelL_app : ∀ (l b : List UInt64), l.length % 2 = 0 → levelL (l ++ b) = levelL l ++ levelL b
  | [], b, _ => rfl
  | [_], _, h => by simp at h
  | x :: y :: r, b, h => by
    simp only [List.cons_append, levelL]
    rw [levelL_app r b (by simp at h; omega)]
theorem rootL_step (l : List UInt64) (h : 2 ≤ l.length) : rootL l = rootL (levelL l) := by
  have hl := levelL_length l
  unfold rootL
  rw [if_neg (by omega), if_neg (by omega), rootF_step l h]
theorem rootL_one (x : UInt64) : rootL [x] = x := by simp [rootL, rootF]
theorem rootL_top : ∀ (k : Nat) (l b : List UInt64), l.length = 2 ^ k → 1 ≤ b.length → b.length ≤ 2 ^ k → rootL (l ++ b) = joinD (rootL l) (rootL b)
  | 0, l, b, hl, h1, h2 => by
    match l, b, hl, h1, h2 with
    | [x], [y], _, _, _ => rw [rootL_step _ (by simp)]; simp only [List.cons_append, List.nil_append, levelL, rootL_one]
  | k + 1, l, b, hl, h1, h2 => by
    have hp : 2 ^ (k + 1) = 2 * 2 ^ k := by rw [Nat.pow_succ]; omega
    have hq : 1 ≤ 2 ^ k := Nat.one_le_two_pow
    have hll := levelL_length l
    have hlb := levelL_length b
    rw [rootL_step (l ++ b) (by rw [List.length_append]; omega), levelL_app l b (by omega), rootL_top k (levelL l) (levelL b) (by omega) (by omega) (by omega), rootL_step l (by omega)]
    by_cases hb : b.length = 1
    · match b, hb with
      | [y], _ => rfl
    · rw [rootL_step b (by omega)]
theorem rootL_head (l : List UInt64) (h : 1 ≤ l.length) : rootL (l.take 1) = l.getD 0 0 := by
  match l, h with
  | x :: l, _ => exact rootL_one x

/-- an array of integers, by value -/
theorem open_array {H : Type} {enc : TypeId × Value → H} {w : World} {sp : Nat → Bool} {held : Bool} {b0 : Nat} {t e : TypeId} {k : IntKind} {n : Nat} {v : Value} {d : DataW H} {ps : List MemPlace} (ht : Try.prog.underlying t = some (.array n e)) (he : Try.prog.underlying e = some (.int k)) (hc : Try.prog.cellsOf e = 1) (hn : Try.prog.cellsOf t = n)
    (hval : Value.okWide Try.prog w .any b0 t v) (hd : DataW.Trod enc Try.prog w 0 sp held t v d ps) : ∃ xs : List Int, v = .agg (xs.map (Value.int k)).toArray ∧ xs.length = n ∧ ∀ x ∈ xs, (Lit.int k x).wf = true := by
  unfold Value.okWide at hval
  rw [ht] at hval
  obtain ⟨cs, rfl, hsz, -⟩ := hval
  obtain ⟨m, hm⟩ := hd
  obtain ⟨ys, m', -, -, hl, hy, hel⟩ := DataW.trod_array ht hm
  have key : ∀ i, i < n → ∃ z : Int, cs[i]? = some (.int k z) ∧ (Lit.int k z).wf = true := by
    intro i hi
    have hE := hel i hi
    rw [hc, Nat.mul_one, List.getElem?_eq_getElem (by omega)] at hE
    obtain ⟨z, e1, -, wz⟩ := DataW.trod_int he hE
    refine ⟨z, ?_, wz⟩
    have h0 : (((Value.agg cs).cells.toList.drop i).take 1)[0]? = some (.int k z) := by rw [e1]; rfl
    simpa [Value.cells] using h0
  refine ⟨cs.toList.map intOf, ?_, by simp; omega, ?_⟩
  · congr 1
    apply Array.ext
    · simp
    · intro i h1 h2
      obtain ⟨z, e1, -⟩ := key i (by omega)
      have e2 : cs[i] = .int k z := by simpa [h1] using e1
      simp [e2, intOf]
  · intro x hx
    rw [List.mem_map] at hx
    obtain ⟨c, hc', rfl⟩ := hx
    obtain ⟨i, hi, rfl⟩ := List.getElem_of_mem hc'
    obtain ⟨z, e1, wz⟩ := key i (by simp at hi; omega)
    have e2 : cs[i]'(by simpa using hi) = .int k z := by simp at hi; simpa [hi] using e1
    simp [e2, intOf, wz]

/-- what a region's calls of Root hand back -/
theorem root_ext {w0 : World} (W : Ext w0.heap.size w0) (l : List UInt64) (a : Option Addr) (len cap : Nat) (v : Int) (hx : Words w0 a len cap l) (hm : len * 8 ≤ 140737488355328) (hv : ((rootL l).toNat : Int) = v) :
    Calls Try.prog 10 #[.slice a len cap] W.val fun e w'' => e = .returned (.int .u64 v) ∧ ∃ W' : Ext w0.heap.size w0, w'' = W'.val := by
  subst hv
  exact Calls.ext W (root_any l a len cap _ (hx.below W.prop) hm)

set_option maxHeartbeats 2000000 in
theorem digTree_calls (xs l : List UInt64) (k : Nat) (a : Option Addr) (len cap : Nat) (w : World) (hl : xs.length = 16) (hk : k ≤ 255) (hx : Words w a len cap l) (hm : len * 8 ≤ 140737488355328) :
    Calls Try.prog 5 #[.agg (wvs xs).toArray, .int .u8 k, .slice a len cap] w fun e w' => e = .returned (.bool true) ∧ Below w.heap.size w w' := by
  have HX := Lib.hid hx
  have HL := Lib.hid hl
  have hlc : len ≤ cap := hx.2.1
  clear hx hl
  have hb0 : Below w.heap.size w (w.alloc (.cells (wvs xs).toArray 32)) := (Below.refl _ _).alloc (Nat.le_refl _) _
  have HA := Lib.hid (words_lit w 32 xs (by rw [HL.out]; decide))
  have HX0 := Lib.hid (HX.out.below hb0)
  rw [HL.out] at HA
  by_cases h0 : len = 0
  · have d0 : ((len : Int) == 0) = true := by rw [h0]; rfl
    clear h0
    have HA1 := Lib.hid (HA.out.pre 1 (by omega))
    have f0 : ∀ W : Ext (w.alloc (.cells (wvs xs).toArray 32)).heap.size (w.alloc (.cells (wvs xs).toArray 32)), W.val.cell? ⟨w.heap.size, 0, none⟩ = some (.int .u64 ((xs.getD 0 0).toNat : Int)) := by
      intro W
      obtain ⟨b, off, e, _, hcc⟩ := HA.out.2.at (k := 0) (by omega)
      cases e
      exact hcc 0 (by omega) _ W.prop
    have HE := Lib.hid (rootL_head xs (by rw [HL.out]; omega))
    go_enter Try.func5, Try.ntmps5
    go_wp2_with fail
    generalize w.alloc (.cells (wvs xs).toArray 32) = w0 at *
    refine wp_region_ext w0.heap.size w0 (by kernel_rfl) (by kernel_rfl) (Below.refl _ _) ?_
    repeat (first | go_big_quiet_step (first
      | exact root_ext _ _ _ _ _ 14695981039346656037 (words_nil _) (by omega) aw6
      | exact root_ext _ _ _ _ _ _ HA1.out (by omega) (by rw [HE.out])
      | exact Calls.ext _ (awake_any _)))
    refine wpQuiet_nil ?_
    intro W
    have hb1 : Below w.heap.size w W.val := hb0.trans (W.prop.mono hb0.size)
    generalize W.val = w1 at *
    go_wp2_with fail
    go_ret
    exact ⟨rfl, hb1⟩
  · have d0 : ((len : Int) == 0) = false := by simp; omega
    have hn1 : 1 ≤ 2 ^ (k % 5) := Nat.one_le_two_pow
    have hn2 : 2 ^ (k % 5) ≤ 16 := Nat.pow_le_pow_right (n := 2) (j := 4) (by decide) (by omega)
    have hw : wrap64 (2 ^ (k % 5)) = ((2 ^ (k % 5) : Nat) : Int) := by
      rw [show (2 : Int) ^ (k % 5) = ((2 ^ (k % 5) : Nat) : Int) by simp]
      simp only [wrap64]; omega
    have HT := Lib.hid (fun (l b : List UInt64) => rootL_top (k % 5) l b)
    generalize 2 ^ (k % 5) = n at *
    have hi2 : (n : Int) ≤ 16 := by omega
    have HO0 : Hid (Owns ((w.alloc (.cells (wvs xs).toArray 32)).alloc (.cells #[] 23)) (w.heap.size + 1) 23 (.slice (some ⟨w.heap.size + 1, 0, none⟩) 0 0) []) := by
      have := owns_lit (w.alloc (.cells (wvs xs).toArray 32)) (w.heap.size + 1) 23 [] (by decide) (by simp)
      unfold Hid; simpa using this
    have hb00 : Below (w.heap.size + 1) (w.alloc (.cells (wvs xs).toArray 32)) ((w.alloc (.cells (wvs xs).toArray 32)).alloc (.cells #[] 23)) := (Below.refl _ _).alloc (by simp) _
    have HAn := Lib.hid (HA.out.pre n hn2)
    have tok1 : True := trivial
    by_cases hlt : n < len
    · have d1 : decide ((n : Int) < (len : Int)) = true := by simp; omega
      have HM := Lib.hid (HX0.out.pre n (by omega))
      generalize l.take n = m at *
      go_enter Try.func5, Try.ntmps5
      go_wp2_with (first
        | (have _t := tok1
           at_builtin
           go_must (
             refine wpList_app rfl _ _ 22 rfl (w.heap.size + 1) 23 (.int .u64 0) 8 Try.underlying22 infoWord rfl (.slice (some ⟨w.heap.size + 1, 0, none⟩) 0 0) [] rfl HO0.out _ n 16 (wvs (xs.take n)) rfl (by rw [wvs_length]; exact HAn.out.1) (HAn.out.below (hb00.mono (by simp))).vals (wvs_one _) (by simp; omega) (by simp only [maxLen, List.length_nil]; omega) (by simp) fun v1 w1 h1 h2 => ?_
             rw [hw]
             clear hw
             rw [List.nil_append] at h1
             have hb1 := hb00.trans (h2.below (by simp) (by simp [Value.ownBlock]))
             have HO1 := Lib.hid h1
             clear tok1 _t h1 h2))
        | (at_builtin
           go_must (
             refine wpList_app rfl _ _ 22 rfl (w.heap.size + 1) 23 (.int .u64 0) 8 Try.underlying22 infoWord rfl v1 (wvs (xs.take n)) rfl HO1.out a n cap (wvs m) rfl (by rw [wvs_length]; exact HM.out.1) (HM.out.below (hb1.mono (by simp))).vals (wvs_one _) (by have := HAn.out.1; rw [wvs_length]; omega) (by have := HAn.out.1; simp only [maxLen]; rw [wvs_length]; omega) (by have := hb1.size; simpa using this) fun v2 w2 h1 h2 => ?_
             rw [← wvs_append] at h1
             have hb2 := hb1.trans (h2.below (by have := hb1.size; simpa using this) HO1.out.lt)
             have HO2 := Lib.hid h1
             clear h1 h2 HO1 hb1)))
      obtain ⟨a2, n2, c2, rfl, hv2⟩ := HO2.out.words
      have hn2' : n2 * 8 ≤ 140737488355328 := by
        have h1 := hv2.1; rw [List.length_append, HAn.out.1, HM.out.1] at h1; omega
      obtain ⟨R1, HR1⟩ : ∃ R, Hid (rootL (xs.take n) = R) := ⟨_, rfl⟩
      obtain ⟨R2, HR2⟩ : ∃ R, Hid (rootL m = R) := ⟨_, rfl⟩
      obtain ⟨D1, HD1⟩ : ∃ D, Hid (digNum dstart R1 = D) := ⟨_, rfl⟩
      obtain ⟨D2, HD2⟩ : ∃ D, Hid (digNum D1 R2 = D) := ⟨_, rfl⟩
      have HR := Lib.hid (show rootL (xs.take n ++ m) = D2 by rw [← HD2.out, ← HD1.out, ← HR1.out, ← HR2.out]; exact HT.out _ _ HAn.out.1 (by rw [HM.out.1]; omega) (by rw [HM.out.1]; omega))
      have HN1 : ∀ W : Ext w2.heap.size w2, Calls Try.prog 17 #[.int .u64 14695981039346656037, .int .u64 R1.toNat] W.val fun e w'' => e = .returned (.int .u64 D1.toNat) ∧ ∃ W' : Ext w2.heap.size w2, w'' = W'.val := fun W => by
        rw [← HD1.out]; exact Calls.ext_same W (num_any dstart R1 _)
      have HN2 : ∀ W : Ext w2.heap.size w2, Calls Try.prog 17 #[.int .u64 D1.toNat, .int .u64 R2.toNat] W.val fun e w'' => e = .returned (.int .u64 D2.toNat) ∧ ∃ W' : Ext w2.heap.size w2, w'' = W'.val := fun W => by
        rw [← HD2.out]; exact Calls.ext_same W (num_any D1 R2 _)
      have HV := Lib.hid hv2
      have HA2 := Lib.hid (HAn.out.below (hb2.mono (by simp)))
      have HM2 := Lib.hid (HM.out.below (hb2.mono (by simp)))
      have HM1 := Lib.hid (HM2.out.pre 1 (by omega))
      have HE := Lib.hid (rootL_head m (by rw [HM.out.1]; omega))
      have hb3 : Below w.heap.size w w2 := hb0.trans (hb2.mono (by simp))
      obtain ⟨b, off, rfl, _, hcc⟩ := HM2.out.2.at (k := 0) (by omega)
      have f0 : ∀ W : Ext w2.heap.size w2, W.val.cell? ⟨b, off, none⟩ = some (.int .u64 ((m.getD 0 0).toNat : Int)) := fun W => hcc 0 (by omega) _ W.prop
      clear hv2 hcc HO2 hb2
      refine wp_region_ext w2.heap.size w2 (by kernel_rfl) (by kernel_rfl) (Below.refl _ _) ?_
      repeat (first | go_big_quiet_step (first
        | exact root_ext _ _ _ _ _ (D2.toNat : Int) HV.out (by omega) (by rw [HR.out])
        | exact root_ext _ _ _ _ _ (R1.toNat : Int) HA2.out (by omega) (by rw [HR1.out])
        | exact root_ext _ _ _ _ _ (R2.toNat : Int) HM2.out (by omega) (by rw [HR2.out])
        | exact root_ext _ _ _ _ _ ((m.getD 0 0).toNat : Int) HM1.out (by omega) (by rw [HE.out])
        | with_reducible exact HN2 _
        | with_reducible exact HN1 _
        | exact Calls.ext _ (awake_any _)))
      refine wpQuiet_nil ?_
      intro W
      have hb4 : Below w.heap.size w W.val := hb3.trans (W.prop.mono hb3.size)
      generalize W.val = w4 at *
      go_wp2_with fail
      go_ret
      exact ⟨rfl, hb4⟩
    · have d1 : decide ((n : Int) < (len : Int)) = false := by simp; omega
      have HM := HX0
      generalize l = m at *
      go_enter Try.func5, Try.ntmps5
      go_wp2_with (first
        | (have _t := tok1
           at_builtin
           go_must (
             refine wpList_app rfl _ _ 22 rfl (w.heap.size + 1) 23 (.int .u64 0) 8 Try.underlying22 infoWord rfl (.slice (some ⟨w.heap.size + 1, 0, none⟩) 0 0) [] rfl HO0.out _ n 16 (wvs (xs.take n)) rfl (by rw [wvs_length]; exact HAn.out.1) (HAn.out.below (hb00.mono (by simp))).vals (wvs_one _) (by simp; omega) (by simp only [maxLen, List.length_nil]; omega) (by simp) fun v1 w1 h1 h2 => ?_
             rw [hw]
             clear hw
             rw [List.nil_append] at h1
             have hb1 := hb00.trans (h2.below (by simp) (by simp [Value.ownBlock]))
             have HO1 := Lib.hid h1
             clear tok1 _t h1 h2))
        | (at_builtin
           go_must (
             refine wpList_app rfl _ _ 22 rfl (w.heap.size + 1) 23 (.int .u64 0) 8 Try.underlying22 infoWord rfl v1 (wvs (xs.take n)) rfl HO1.out a len cap (wvs m) rfl (by rw [wvs_length]; exact HM.out.1) (HM.out.below (hb1.mono (by simp))).vals (wvs_one _) (by have := HAn.out.1; rw [wvs_length]; omega) (by have := HAn.out.1; simp only [maxLen]; rw [wvs_length]; omega) (by have := hb1.size; simpa using this) fun v2 w2 h1 h2 => ?_
             rw [← wvs_append] at h1
             have hb2 := hb1.trans (h2.below (by have := hb1.size; simpa using this) HO1.out.lt)
             have HO2 := Lib.hid h1
             clear h1 h2 HO1 hb1)))
      obtain ⟨a2, n2, c2, rfl, hv2⟩ := HO2.out.words
      have hn2' : n2 * 8 ≤ 140737488355328 := by
        have h1 := hv2.1; rw [List.length_append, HAn.out.1, HM.out.1] at h1; omega
      obtain ⟨R1, HR1⟩ : ∃ R, Hid (rootL (xs.take n) = R) := ⟨_, rfl⟩
      obtain ⟨R2, HR2⟩ : ∃ R, Hid (rootL m = R) := ⟨_, rfl⟩
      obtain ⟨D1, HD1⟩ : ∃ D, Hid (digNum dstart R1 = D) := ⟨_, rfl⟩
      obtain ⟨D2, HD2⟩ : ∃ D, Hid (digNum D1 R2 = D) := ⟨_, rfl⟩
      have HR := Lib.hid (show rootL (xs.take n ++ m) = D2 by rw [← HD2.out, ← HD1.out, ← HR1.out, ← HR2.out]; exact HT.out _ _ HAn.out.1 (by rw [HM.out.1]; omega) (by rw [HM.out.1]; omega))
      have HN1 : ∀ W : Ext w2.heap.size w2, Calls Try.prog 17 #[.int .u64 14695981039346656037, .int .u64 R1.toNat] W.val fun e w'' => e = .returned (.int .u64 D1.toNat) ∧ ∃ W' : Ext w2.heap.size w2, w'' = W'.val := fun W => by
        rw [← HD1.out]; exact Calls.ext_same W (num_any dstart R1 _)
      have HN2 : ∀ W : Ext w2.heap.size w2, Calls Try.prog 17 #[.int .u64 D1.toNat, .int .u64 R2.toNat] W.val fun e w'' => e = .returned (.int .u64 D2.toNat) ∧ ∃ W' : Ext w2.heap.size w2, w'' = W'.val := fun W => by
        rw [← HD2.out]; exact Calls.ext_same W (num_any D1 R2 _)
      have HV := Lib.hid hv2
      have HA2 := Lib.hid (HAn.out.below (hb2.mono (by simp)))
      have HM2 := Lib.hid (HM.out.below (hb2.mono (by simp)))
      have HM1 := Lib.hid (HM2.out.pre 1 (by omega))
      have HE := Lib.hid (rootL_head m (by rw [HM.out.1]; omega))
      have hb3 : Below w.heap.size w w2 := hb0.trans (hb2.mono (by simp))
      obtain ⟨b, off, rfl, _, hcc⟩ := HM2.out.2.at (k := 0) (by omega)
      have f0 : ∀ W : Ext w2.heap.size w2, W.val.cell? ⟨b, off, none⟩ = some (.int .u64 ((m.getD 0 0).toNat : Int)) := fun W => hcc 0 (by omega) _ W.prop
      clear hv2 hcc HO2 hb2
      refine wp_region_ext w2.heap.size w2 (by kernel_rfl) (by kernel_rfl) (Below.refl _ _) ?_
      repeat (first | go_big_quiet_step (first
        | exact root_ext _ _ _ _ _ (D2.toNat : Int) HV.out (by omega) (by rw [HR.out])
        | exact root_ext _ _ _ _ _ (R1.toNat : Int) HA2.out (by omega) (by rw [HR1.out])
        | exact root_ext _ _ _ _ _ (R2.toNat : Int) HM2.out (by omega) (by rw [HR2.out])
        | exact root_ext _ _ _ _ _ ((m.getD 0 0).toNat : Int) HM1.out (by omega) (by rw [HE.out])
        | with_reducible exact HN2 _
        | with_reducible exact HN1 _
        | exact Calls.ext _ (awake_any _)))
      refine wpQuiet_nil ?_
      intro W
      have hb4 : Below w.heap.size w W.val := hb3.trans (W.prop.mono hb3.size)
      generalize W.val = w4 at *
      go_wp2_with fail
      go_ret
      exact ⟨rfl, hb4⟩

theorem u64s_of : ∀ xs : List Int, (∀ x ∈ xs, (Lit.int .u64 x).wf = true) → ∃ us : List UInt64, (xs.map (Value.int .u64)) = wvs us ∧ us.length = xs.length
  | [], _ => ⟨[], rfl, rfl⟩
  | x :: xs, h => by
    obtain ⟨u, rfl⟩ := u64_of x (h x (by simp))
    obtain ⟨us, e, hl⟩ := u64s_of xs fun y hy => h y (by simp [hy])
    exact ⟨u :: us, by simp [wvs, wv] at e ⊢; exact e, by simp [hl]⟩

theorem digestTree_walk {H : Type} {enc : TypeId × Value → H} (W : World) (base : Nat) (args : Array Value) (ds gs : List (DataW H)) (before : List MemPlace)
    (hval : ∀ (j : Nat) t v, Try.f5.params[j]? = some t → args[j]? = some v → Value.okWide Try.prog W .any base t v)
    (hW : DataW.Whole enc Try.prog Try.f5.params.toList Rows.digestTreeSpec.vars false W args.toList ds gs before)
    (_hsz : (DataW.weightsEach Try.prog (Try.f5.params.toList ++ Rows.digestTreeSpec.plain.varTypes Try.prog) (ds ++ gs)).all (· ≤ reachBytes) = true) :
    Calls Try.prog 5 args W fun e w' => e = .returned (.bool true) ∧ Below W.heap.size W w' := by
  obtain ⟨p, q, hA, hV, -, -, -⟩ := hW
  obtain ⟨rfl, -⟩ := trodVars_none hV
  rw [Try.params5] at hA hval
  obtain ⟨v0, vs0, d0, ds0, p0, q0, hargs, rfl, rfl, h0, r0⟩ := trodAll_cons hA
  obtain ⟨v1, vs1, d1, ds1, p1, q1, rfl, rfl, rfl, h1, r1⟩ := trodAll_cons r0
  obtain ⟨v2, vs2, d2, ds2, p2, q2, rfl, rfl, rfl, h2, r2⟩ := trodAll_cons r1
  obtain ⟨rfl, rfl, rfl⟩ := trodAll_nil r2
  obtain rfl : args = #[v0, v1, v2] := by cases args; simp_all
  obtain ⟨xs, rfl, hxl, hxw⟩ := open_array Try.underlying32 Try.underlying23 (by kernel_rfl) (by kernel_rfl) (hval 0 _ _ rfl rfl) h0
  obtain ⟨n, rfl, -, wn⟩ := open_num Try.underlying5 (hval 1 _ _ rfl rfl) h1
  obtain ⟨k, rfl⟩ := u8_of n wn
  obtain ⟨a, len, cap, zs, rfl, hr, hz⟩ := open_row Try.underlying22 Try.underlying23 (by kernel_rfl) (hval 2 _ _ rfl rfl) h2
  have hreach := reach_row (k := .u64) _hsz 2 (t := 22) (by kernel_rfl) rfl Try.underlying22 hz
  rw [show Try.prog.bytesOf 23 = 8 by kernel_rfl, hr.1] at hreach
  have hm : len * 8 ≤ 140737488355328 := Nat.le_trans hreach (by decide)
  obtain ⟨ys, -, hy⟩ := words_of rfl hr
  obtain ⟨us, e, hul⟩ := u64s_of xs hxw
  rw [e]
  exact digTree_calls us ys k.toNat a len cap W (by omega) (by have := k.toNat_lt; omega) hy hm

set_option maxRecDepth 100000 in
theorem digestTree_lifted (os : Os) (started : os.Started) (H : Type) (enc : TypeId × Value → H) :
    ReturnsInHanded {} Try.checked os 5 .any (Rows.digestTreeSpec.pre6 enc Try.prog Try.f5 Rows.digestTreeRow.domain false) (Rows.digestTreeSpec.post enc Try.prog Try.f5 false true false false) := by
  refine returnsInHanded_of_change_sized (C := Try.checked) own started (by kernel_rfl) Try.func5
    (ChangeSpec.witness6 (enc := enc) (C := Try.checked) false ⟨#[], #[.agg ((List.replicate 16 (.int .u64 0)).toArray), .int .u8 0, .slice none 0 0], []⟩ 8 (by kernel_rfl) (by kernel_rfl) (by kernel_rfl) (by kernel_rfl)) ?_
  intro W base args ds gs before hval hW _ hsz _
  exact law_post rfl (by kernel_rfl) (by kernel_rfl) (fun ds h => match ds, h with | [d0, d1, d2], _ => ⟨rfl, rfl, rfl⟩) hW (digestTree_walk W base args ds gs before hval hW hsz)

theorem digestTree_over : Rows.digestTreeRow.holds Try.pinned (OpenSpec.ofChange Rows.digestTreeSpec) :=
  OpenClaim.holds_of_wide 5 Try.f5 rfl rfl rfl rfl rfl rfl rfl ⟨rfl, rfl, rfl, rfl, rfl⟩ rfl rfl rfl rfl rfl (by kernel_rfl) Try.func5 (by kernel_rfl)
    (of_decide_eq_true (by kernel_rfl)) (by unfold Func.isWrapper; first | (rw [if_pos (by decide +kernel)]; kernel_rfl) | (rw [if_neg (by decide +kernel)]; exact ⟨rfl, rfl⟩))
    (fun os started H enc _ => digestTree_lifted os started H enc)

theorem digestTree_proved : Rows.DigestTreeSaid := digestTree_over

end Go.Proofs.Ytffngmoelkabjaa
