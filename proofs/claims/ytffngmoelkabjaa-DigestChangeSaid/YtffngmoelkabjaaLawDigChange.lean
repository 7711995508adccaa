/- DigestChange: byte sequences that differ in exactly one byte have different digests, and different digests that are extended by the same bytes stay different: the law returns true. No condition. -/
import Derived.Test.YtffngmoelkabjaaFrame
import Derived.Test.YtffngmoelkabjaaDigAw
import Derived.Test.YtffngmoelkabjaaDigP
namespace Go.Proofs.Ytffngmoelkabjaa
open Go.ChangeShapes Go.WideShapes Go.ChangeAt Go.RowKit

theorem beq_num (a b : UInt64) (p : Prop) [Decidable p] (h : a = b ↔ p) : ((a.toNat : Int) == (b.toNat : Int)) = decide p := by
  rw [Bool.eq_iff_iff, beq_iff_eq, decide_eq_true_iff, ← h]
  exact ⟨fun e => UInt64.toNat_inj.1 (by omega), fun e => by rw [e]⟩
theorem beq_byte (a b : UInt8) (p : Prop) [Decidable p] (h : a = b ↔ p) : ((a.toNat : Int) == (b.toNat : Int)) = decide p := by
  rw [Bool.eq_iff_iff, beq_iff_eq, decide_eq_true_iff, ← h]
  exact ⟨fun e => UInt8.toNat_inj.1 (by omega), fun e => by rw [e]⟩

set_option maxHeartbeats 2000000 in
theorem digChange_calls (g h : UInt64) (xs : List UInt8) (a : Option Addr) (len cap : Nat) (t : Nat) (x : UInt8) (w : World) (hx : Bytes w a len cap xs) (ht : t ≤ 65535) (hm : len ≤ 140737488355328) :
    Calls Try.prog 9 #[.int .u64 g.toNat, .int .u64 h.toNat, .slice a len cap, .int .u16 t, .int .u8 x.toNat] w fun e w' => e = .returned (.bool true) ∧ Below w.heap.size w w' := by
  have HX := Lib.hid hx
  have HL := Lib.hid hx.1
  clear hx
  have q1 := beq_num (digAdd g xs) (digAdd h xs) (g = h) ⟨digAdd_inj xs, fun e => by rw [e]⟩
  have q2 := beq_num (digNum g 5) (digNum h 5) (g = h) ⟨digAdd_inj _, fun e => by rw [e]⟩
  have q3 := beq_num g h (g = h) Iff.rfl
  generalize decide (g = h) = bgh at *
  have n5 : ((5 : UInt64).toNat : Int) = 5 := rfl
  go_enter Try.func9, Try.ntmps9
  go_wp2_with fail
  refine (add_any g xs a len cap _ HX.out).mono ?_
  rintro e w1 ⟨rfl, rfl⟩
  go_wp2_with fail
  refine (add_any h xs a len cap _ HX.out).mono ?_
  rintro e w1 ⟨rfl, rfl⟩
  go_wp2_with fail
  refine (num_any g 5 _).mono ?_
  rintro e w1 ⟨rfl, rfl⟩
  go_wp2_with fail
  refine (num_any h 5 _).mono ?_
  rintro e w1 ⟨rfl, rfl⟩
  by_cases h0 : len = 0
  · have d0 : ((len : Int) == 0) = true := by rw [h0]; rfl
    clear h0
    go_wp2_with fail
    refine (awake_any _).mono ?_
    rintro e w1 ⟨rfl, hb1⟩
    go_wp2_with fail
    go_ret
    exact ⟨rfl, hb1⟩
  have d0 : ((len : Int) == 0) = false := by simp; omega
  have hi : t % len < len := Nat.mod_lt _ (by omega)
  obtain ⟨b, off, rfl, hbs, hcc⟩ := HX.out.2.at hi
  have HCb := Lib.hid (hcc (t % len) hi)
  have r1 := beq_byte (xs.getD (t % len) 0) x (xs.getD (t % len) 0 = x) Iff.rfl
  have r2 := beq_num (digOf xs) (digOf (xs.set (t % len) x)) (xs.getD (t % len) 0 = x) (digAdd_set _ xs _ (by rw [HL.out]; exact hi) x)
  have r3 := beq_num (digAdd h xs) (digAdd h (xs.set (t % len) x)) (xs.getD (t % len) 0 = x) (digAdd_set _ xs _ (by rw [HL.out]; exact hi) x)
  have r4 := beq_num (digChain h xs) (digChain h (xs.set (t % len) x)) (xs.getD (t % len) 0 = x) (digAdd_set _ xs _ (by rw [HL.out]; exact hi) x)
  clear hcc
  generalize xs.getD (t % len) 0 = z at *
  generalize decide (z = x) = bz at *
  go_wp2_with (at_builtin; go_must (
    refine wpList_appS rfl _ _ 35 rfl w.heap.size 5 (.int .u8 0) 1 Try.underlying35 infoByte rfl (.slice (some ⟨w.heap.size, 0, none⟩) 0 0) [] rfl (owns_lit w w.heap.size 5 [] (by decide) (Nat.le_refl _)) (some ⟨b, off, none⟩) len cap (bvs xs) rfl (by rw [bvs_length]; exact HL.out) (HX.out.below ((Below.refl _ _).alloc (Nat.le_refl _) _)).vals (bvs_one _) len (by simp) (by omega) (by omega) (by simp only [maxLen]; omega) (by simp) fun g1 c1 w1 h1 h2 hnc hg1 => ?_
    rw [List.nil_append] at h1
    have hb1 : Below w.heap.size w w1 := ((Below.refl _ _).alloc (Nat.le_refl _) _).trans (h2.below (by simp) (by simp [Value.ownBlock]))
    have f1 := h1.cell (t % len) hi
    have f2 := h1.free (t % len)
    have HS := Lib.hid (h1.store (t % len) (bv x))
    have HB2 := Lib.hid (fun v => hb1.setCell (p := ⟨g1, t % len, none⟩) hg1 v)
    have f3 := HCb.out (w1.setCell ⟨g1, t % len, none⟩ (.int .u8 (x.toNat : Int))) (HB2.out _)
    generalize (bvs xs).getD (t % len) .nilFunc = old at *
    clear h1 h2 hb1))
  have HY : Hid (Bytes (w1.setCell ⟨g1, t % len, none⟩ (.int .u8 (x.toNat : Int))) (some ⟨g1, 0, none⟩) len c1 (xs.set (t % len) x)) := by
    have := HS.out
    rw [bvs_set] at this
    obtain ⟨a', n', c', hv', hb'⟩ := this.bytes
    cases hv'; exact hb'
  have HX2 := Lib.hid (HX.out.below (HB2.out (.int .u8 (x.toNat : Int))))
  have hb2 := HB2.out (.int .u8 (x.toNat : Int))
  clear HB2 HS f1 f2 f3
  generalize w1.setCell ⟨g1, t % len, none⟩ (.int .u8 (x.toNat : Int)) = w2 at *
  refine (of_any _ _ _ _ _ HX2.out).mono ?_
  rintro e w3 ⟨rfl, rfl⟩
  go_wp2_with fail
  refine (of_any _ _ _ _ _ HY.out).mono ?_
  rintro e w3 ⟨rfl, rfl⟩
  go_wp2_with fail
  refine (add_any h _ _ _ _ _ HX2.out).mono ?_
  rintro e w3 ⟨rfl, rfl⟩
  go_wp2_with fail
  refine (add_any h _ _ _ _ _ HY.out).mono ?_
  rintro e w3 ⟨rfl, rfl⟩
  go_wp2_with fail
  refine (chain_any h _ _ _ _ _ HX2.out).mono ?_
  rintro e w3 ⟨rfl, rfl⟩
  go_wp2_with fail
  refine (chain_any h _ _ _ _ _ HY.out).mono ?_
  rintro e w3 ⟨rfl, rfl⟩
  go_wp2_with fail
  refine (awake_any _).mono ?_
  rintro e w3 ⟨rfl, hb3⟩
  go_wp2_with fail
  go_ret
  exact ⟨rfl, hb2.trans (hb3.mono hb2.size)⟩

theorem digestChange_walk {H : Type} {enc : TypeId × Value → H} (W : World) (base : Nat) (args : Array Value) (ds gs : List (DataW H)) (before : List MemPlace)
    (hval : ∀ (j : Nat) t v, Try.f9.params[j]? = some t → args[j]? = some v → Value.okWide Try.prog W .any base t v)
    (hW : DataW.Whole enc Try.prog Try.f9.params.toList Rows.digestChangeSpec.vars false W args.toList ds gs before)
    (_hsz : (DataW.weightsEach Try.prog (Try.f9.params.toList ++ Rows.digestChangeSpec.plain.varTypes Try.prog) (ds ++ gs)).all (· ≤ reachBytes) = true) :
    Calls Try.prog 9 args W fun e w' => e = .returned (.bool true) ∧ Below W.heap.size W w' := by
  obtain ⟨p, q, hA, hV, -, -, -⟩ := hW
  obtain ⟨rfl, -⟩ := trodVars_none hV
  rw [Try.params9] at hA hval
  obtain ⟨v0, vs0, d0, ds0, p0, q0, hargs, rfl, rfl, h0, r0⟩ := trodAll_cons hA
  obtain ⟨v1, vs1, d1, ds1, p1, q1, rfl, rfl, rfl, h1, r1⟩ := trodAll_cons r0
  obtain ⟨v2, vs2, d2, ds2, p2, q2, rfl, rfl, rfl, h2, r2⟩ := trodAll_cons r1
  obtain ⟨v3, vs3, d3, ds3, p3, q3, rfl, rfl, rfl, h3, r3⟩ := trodAll_cons r2
  obtain ⟨v4, vs4, d4, ds4, p4, q4, rfl, rfl, rfl, h4, r4⟩ := trodAll_cons r3
  obtain ⟨rfl, rfl, rfl⟩ := trodAll_nil r4
  obtain rfl : args = #[v0, v1, v2, v3, v4] := by cases args; simp_all
  obtain ⟨n, rfl, -, wn⟩ := open_num Try.underlying23 (hval 0 _ _ rfl rfl) h0
  obtain ⟨g, rfl⟩ := u64_of n wn
  obtain ⟨m, rfl, -, wm⟩ := open_num Try.underlying23 (hval 1 _ _ rfl rfl) h1
  obtain ⟨h, rfl⟩ := u64_of m wm
  obtain ⟨a, len, cap, xs, rfl, hr, hz⟩ := open_row Try.underlying35 Try.underlying5 (by kernel_rfl) (hval 2 _ _ rfl rfl) h2
  have hreach := reach_row (k := .u8) _hsz 2 (t := 35) (by kernel_rfl) rfl Try.underlying35 hz
  rw [show Try.prog.bytesOf 5 = 1 by kernel_rfl, hr.1, Nat.mul_one] at hreach
  have hm : len ≤ 140737488355328 := Nat.le_trans hreach (by decide)
  obtain ⟨ys, -, hy⟩ := bytes_of rfl hr
  obtain ⟨t, rfl, -, wt⟩ := open_num Try.underlying42 (hval 3 _ _ rfl rfl) h3
  have ht : 0 ≤ t ∧ t ≤ 65535 := by simpa [Lit.wf, IntKind.min, IntKind.max, IntKind.signed, IntKind.bits] using wt
  obtain ⟨i, rfl⟩ := Int.eq_ofNat_of_zero_le ht.1
  obtain ⟨k, rfl, -, wk⟩ := open_num Try.underlying5 (hval 4 _ _ rfl rfl) h4
  obtain ⟨c, rfl⟩ := u8_of k wk
  exact digChange_calls g h ys a len cap i c W hy (by omega) hm

set_option maxRecDepth 100000 in
theorem digestChange_lifted (os : Os) (started : os.Started) (H : Type) (enc : TypeId × Value → H) :
    ReturnsInHanded {} Try.checked os 9 .any (Rows.digestChangeSpec.pre6 enc Try.prog Try.f9 Rows.digestChangeRow.domain false) (Rows.digestChangeSpec.post enc Try.prog Try.f9 false true false false) := by
  refine returnsInHanded_of_change_sized (C := Try.checked) own started (by kernel_rfl) Try.func9
    (ChangeSpec.witness6 (enc := enc) (C := Try.checked) false ⟨#[], #[.int .u64 0, .int .u64 0, .slice none 0 0, .int .u16 0, .int .u8 0], []⟩ 8 (by kernel_rfl) (by kernel_rfl) (by kernel_rfl) (by kernel_rfl)) ?_
  intro W base args ds gs before hval hW _ hsz _
  exact law_post rfl (by kernel_rfl) (by kernel_rfl) (fun ds h => match ds, h with | [d0, d1, d2, d3, d4], _ => ⟨rfl, rfl, rfl⟩) hW (digestChange_walk W base args ds gs before hval hW hsz)

theorem digestChange_over : Rows.digestChangeRow.holds Try.pinned (OpenSpec.ofChange Rows.digestChangeSpec) :=
  OpenClaim.holds_of_wide 9 Try.f9 rfl rfl rfl rfl rfl rfl rfl ⟨rfl, rfl, rfl, rfl, rfl⟩ rfl rfl rfl rfl rfl (by kernel_rfl) Try.func9 (by kernel_rfl)
    (of_decide_eq_true (by kernel_rfl)) (by unfold Func.isWrapper; first | (rw [if_pos (by decide +kernel)]; kernel_rfl) | (rw [if_neg (by decide +kernel)]; exact ⟨rfl, rfl⟩))
    (fun os started H enc _ => digestChange_lifted os started H enc)

theorem digestChange_proved : Rows.DigestChangeSaid := digestChange_over

end Go.Proofs.Ytffngmoelkabjaa
