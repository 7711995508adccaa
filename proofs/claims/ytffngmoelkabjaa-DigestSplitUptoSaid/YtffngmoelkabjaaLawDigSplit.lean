/- DigestSplit: the digest of a concatenation follows from the digest of the first part and the second part; numbers and links are extensions by bytes: the law returns true. Condition: the arguments hold at most 1048576 values (two long slices are joined). -/
import Derived.Test.YtffngmoelkabjaaBulk
import Derived.Test.YtffngmoelkabjaaDigAw
import Derived.Test.YtffngmoelkabjaaDigP
namespace Go.Proofs.Ytffngmoelkabjaa
open Go.ChangeShapes Go.WideShapes Go.ChangeAt Go.RowKit

set_option maxHeartbeats 1000000 in
theorem join_any (xs ys : List UInt8) (a a' : Option Addr) (len cap len' cap' : Nat) (w : World) (hx : Bytes w a len cap xs) (hy : Bytes w a' len' cap' ys) (hm : len + len' ≤ 1000000000) :
    Calls Try.prog 25 #[.slice a len cap, .slice a' len' cap'] w fun e w' => ∃ v, e = .returned v ∧ Owns w' w.heap.size 5 v (bvs (xs ++ ys)) ∧ Below w.heap.size w w' := by
  have HX := Lib.hid hx
  have HY := Lib.hid hy
  have HL := Lib.hid hx.1
  have HL' := Lib.hid hy.1
  clear hx hy
  have tok1 : True := trivial
  go_enter Try.func25, Try.ntmps25
  go_wp2_with (first
   | (have _t := tok1
      at_builtin
      go_must (
        refine wpList_app rfl _ _ 35 rfl w.heap.size 5 (.int .u8 0) 1 Try.underlying35 infoByte rfl (.slice (some ⟨w.heap.size, 0, none⟩) 0 0) [] rfl (owns_lit w w.heap.size 5 [] (by decide) (Nat.le_refl _)) a len cap (bvs xs) rfl (by rw [bvs_length]; exact HL.out) (HX.out.below ((Below.refl _ _).alloc (Nat.le_refl _) _)).vals (bvs_one _) (by simp; omega) (by simp only [maxLen, List.length_nil]; omega) (by simp) fun v1 w1 h1 h2 => ?_
        rw [List.nil_append] at h1
        have hb1 : Below w.heap.size w w1 := ((Below.refl _ _).alloc (Nat.le_refl _) _).trans (h2.below (by simp) (by simp [Value.ownBlock]))
        have HO1 := Lib.hid h1
        clear tok1 _t h1 h2))
   | (at_builtin
      go_must (
        refine wpList_app rfl _ _ 35 rfl w.heap.size 5 (.int .u8 0) 1 Try.underlying35 infoByte rfl _ (bvs xs) rfl HO1.out a' len' cap' (bvs ys) rfl (by rw [bvs_length]; exact HL'.out) (HY.out.below hb1).vals (bvs_one _) (by have := HL.out; rw [bvs_length]; omega) (by have := HL.out; simp only [maxLen]; rw [bvs_length]; omega) (by have := hb1.size; omega) fun v2 w2 h1 h2 => ?_
        rw [← bvs_append] at h1
        have hb2 : Below w.heap.size w w2 := hb1.trans (h2.below hb1.size HO1.out.lt)
        have HO2 := Lib.hid h1
        clear h1 h2 HO1 hb1)))
  go_ret
  exact ⟨_, rfl, HO2.out, hb2⟩

/-- the eight bytes as the law builds them -/
theorem eight_form (h : UInt64) : (#[.int .u8 ((h.toNat : Int) / 72057594037927936 % 256), .int .u8 ((h.toNat : Int) / 281474976710656 % 256), .int .u8 ((h.toNat : Int) / 1099511627776 % 256), .int .u8 ((h.toNat : Int) / 4294967296 % 256), .int .u8 ((h.toNat : Int) / 16777216 % 256), .int .u8 ((h.toNat : Int) / 65536 % 256), .int .u8 ((h.toNat : Int) / 256 % 256), .int .u8 ((h.toNat : Int) % 256)] : Array Value) = (bvs (be8 h)).toArray := by
  have e := fun j => (byteAt_mod h j).symm
  simp only [be8, beList, bvs, List.map, bv, e]
  simp
theorem be8_length (h : UInt64) : (be8 h).length = 8 := rfl

set_option maxHeartbeats 2000000 in
theorem digSplit_calls (h : UInt64) (xs ys : List UInt8) (a a' : Option Addr) (len cap len' cap' : Nat) (w : World) (hx : Bytes w a len cap xs) (hy : Bytes w a' len' cap' ys) (hm : len ≤ 1048576) (hm' : len' ≤ 1048576) :
    Calls Try.prog 8 #[.int .u64 h.toNat, .slice a len cap, .slice a' len' cap'] w fun e w' => e = .returned (.bool true) ∧ Below w.heap.size w w' := by
  have HX := Lib.hid hx
  have HY := Lib.hid hy
  clear hx hy
  go_enter Try.func8, Try.ntmps8
  go_wp2_with fail
  refine (join_any xs ys _ _ _ _ _ _ _ HX.out HY.out (by omega)).mono ?_
  rintro e w1 ⟨v1, rfl, ho, hb1⟩
  obtain ⟨a1, n1, c1, rfl, hc1⟩ := ho.bytes
  have HC := Lib.hid hc1
  have HX1 := Lib.hid (HX.out.below hb1)
  have HY1 := Lib.hid (HY.out.below hb1)
  clear ho hc1
  go_wp2_with fail
  refine (add_any h xs _ _ _ _ HX1.out).mono ?_
  rintro e w2 ⟨rfl, rfl⟩
  go_wp2_with fail
  refine (add_any _ ys _ _ _ _ HY1.out).mono ?_
  rintro e w2 ⟨rfl, rfl⟩
  go_wp2_with fail
  refine (add_any h _ _ _ _ _ HC.out).mono ?_
  rintro e w2 ⟨rfl, rfl⟩
  rw [digAdd_append]
  go_wp2_with fail
  refine (of_any xs _ _ _ _ HX1.out).mono ?_
  rintro e w2 ⟨rfl, rfl⟩
  go_wp2_with fail
  refine (add_any _ ys _ _ _ _ HY1.out).mono ?_
  rintro e w2 ⟨rfl, rfl⟩
  go_wp2_with fail
  refine (of_any _ _ _ _ _ HC.out).mono ?_
  rintro e w2 ⟨rfl, rfl⟩
  rw [show digOf (xs ++ ys) = digAdd (digOf xs) ys from digAdd_append _ _ _]
  go_wp2_with fail
  refine (add_any h [] none 0 0 _ (bytes_nil _)).mono ?_
  rintro e w2 ⟨rfl, rfl⟩
  rw [show digAdd h [] = h from rfl]
  go_wp2_with fail
  rw [eight_form]
  have hb2 : Below w.heap.size w (w1.alloc (.cells (bvs (be8 h)).toArray 5)) := hb1.alloc hb1.size _
  have HE := Lib.hid (bytes_lit w1 5 (be8 h) (by rw [be8_length]; decide))
  have HX2 := Lib.hid (HX.out.below hb2)
  have HY2 := Lib.hid (HY.out.below hb2)
  have HC2 := Lib.hid (HC.out.below ((Below.refl _ _).alloc (Nat.le_refl _) (.cells (bvs (be8 h)).toArray 5)))
  have hz2 : w1.heap.size ≤ (w1.alloc (.cells (bvs (be8 h)).toArray 5)).heap.size := by simp
  clear HX1 HY1 HC hb1
  rw [be8_length] at HE
  generalize w1.alloc (.cells (bvs (be8 h)).toArray 5) = w2 at *
  generalize w1.heap.size = g1 at *
  refine (of_any xs _ _ _ _ HX2.out).mono ?_
  rintro e w3 ⟨rfl, rfl⟩
  go_wp2_with fail
  refine (num_any _ h _).mono ?_
  rintro e w3 ⟨rfl, rfl⟩
  go_wp2_with fail
  refine (join_any xs (be8 h) _ _ _ _ _ _ _ HX2.out HE.out (by omega)).mono ?_
  rintro e w3 ⟨v3, rfl, ho, hb3⟩
  obtain ⟨a3, n3, c3, rfl, hc3⟩ := ho.bytes
  have HD := Lib.hid hc3
  have HX3 := Lib.hid (HX2.out.below hb3)
  have HY3 := Lib.hid (HY2.out.below hb3)
  have HC3 := Lib.hid (HC2.out.below hb3)
  have HE3 := Lib.hid (HE.out.below hb3)
  have hb3' : Below w.heap.size w w3 := hb2.trans (hb3.mono hb2.size)
  clear ho hc3 HX2 HY2 HC2 HE hb3 hb2
  go_wp2_with fail
  refine (of_any _ _ _ _ _ HD.out).mono ?_
  rintro e w4 ⟨rfl, rfl⟩
  rw [show digOf (xs ++ be8 h) = digNum (digOf xs) h from digAdd_append _ _ _]
  go_wp2_with fail
  refine (chain_any h xs _ _ _ _ HX3.out).mono ?_
  rintro e w4 ⟨rfl, rfl⟩
  go_wp2_with fail
  refine (join_any (be8 h) xs _ _ _ _ _ _ _ HE3.out HX3.out (by omega)).mono ?_
  rintro e w4 ⟨v4, rfl, ho, hb4⟩
  obtain ⟨a4, n4, c4, rfl, hc4⟩ := ho.bytes
  have HF := Lib.hid hc4
  have HX4 := Lib.hid (HX3.out.below hb4)
  have HY4 := Lib.hid (HY3.out.below hb4)
  have HC4 := Lib.hid (HC3.out.below hb4)
  have hb4' : Below w.heap.size w w4 := hb3'.trans (hb4.mono hb3'.size)
  clear ho hc4 HX3 HY3 HC3 HE3 hb4 hb3'
  go_wp2_with fail
  refine (of_any _ _ _ _ _ HF.out).mono ?_
  rintro e w5 ⟨rfl, rfl⟩
  rw [show digOf (be8 h ++ xs) = digChain h xs from digAdd_append _ _ _]
  go_wp2_with fail
  refine (chain_any h xs _ _ _ _ HX4.out).mono ?_
  rintro e w5 ⟨rfl, rfl⟩
  go_wp2_with fail
  refine (add_any _ ys _ _ _ _ HY4.out).mono ?_
  rintro e w5 ⟨rfl, rfl⟩
  go_wp2_with fail
  refine (chain_any h _ _ _ _ _ HC4.out).mono ?_
  rintro e w5 ⟨rfl, rfl⟩
  rw [show digChain h (xs ++ ys) = digAdd (digChain h xs) ys from digAdd_append _ _ _]
  go_wp2_with fail
  refine (awake_any _).mono ?_
  rintro e w5 ⟨rfl, hb5⟩
  go_wp2_with fail
  go_ret
  exact ⟨rfl, hb4'.trans (hb5.mono hb4'.size)⟩

theorem digestSplit_walk {H : Type} {enc : TypeId × Value → H} (W : World) (base : Nat) (args : Array Value) (ds gs : List (DataW H)) (before : List MemPlace)
    (hval : ∀ (j : Nat) t v, Try.f8.params[j]? = some t → args[j]? = some v → Value.okWide Try.prog W .any base t v)
    (hW : DataW.Whole enc Try.prog Try.f8.params.toList Rows.digestSplitSpec.vars false W args.toList ds gs before)
    (hk : Rows.uptoSmall H (ds ++ gs) = true)
    (_hsz : (DataW.weightsEach Try.prog (Try.f8.params.toList ++ (Rows.OpenSpec.upto Rows.digestSplitSpec).bare.plain.varTypes Try.prog) (ds ++ gs)).all (· ≤ reachBytes) = true) :
    Calls Try.prog 8 args W fun e w' => e = .returned (.bool true) ∧ Below W.heap.size W w' := by
  obtain ⟨p, q, hA, hV, -, -, -⟩ := hW
  obtain ⟨rfl, -⟩ := trodVars_none hV
  rw [Try.params8] at hA hval
  obtain ⟨v0, vs0, d0, ds0, p0, q0, hargs, rfl, rfl, h0, r0⟩ := trodAll_cons hA
  obtain ⟨v1, vs1, d1, ds1, p1, q1, rfl, rfl, rfl, h1, r1⟩ := trodAll_cons r0
  obtain ⟨v2, vs2, d2, ds2, p2, q2, rfl, rfl, rfl, h2, r2⟩ := trodAll_cons r1
  obtain ⟨rfl, rfl, rfl⟩ := trodAll_nil r2
  obtain rfl : args = #[v0, v1, v2] := by cases args; simp_all
  obtain ⟨n, rfl, -, wn⟩ := open_num Try.underlying23 (hval 0 _ _ rfl rfl) h0
  obtain ⟨g, rfl⟩ := u64_of n wn
  obtain ⟨a, len, cap, xs, rfl, hr, hz⟩ := open_row Try.underlying35 Try.underlying5 (by kernel_rfl) (hval 1 _ _ rfl rfl) h1
  obtain ⟨a', len', cap', xs', rfl, hr', hz'⟩ := open_row Try.underlying35 Try.underlying5 (by kernel_rfl) (hval 2 _ _ rfl rfl) h2
  have hm := (bulk_row hk 1 rfl hz).1
  have hm' := (bulk_row hk 2 rfl hz').1
  rw [hr.1] at hm
  rw [hr'.1] at hm'
  obtain ⟨ys, -, hy⟩ := bytes_of rfl hr
  obtain ⟨ys', -, hy'⟩ := bytes_of rfl hr'
  exact digSplit_calls g ys ys' a a' len cap len' cap' W hy hy' hm hm'

set_option maxRecDepth 100000 in
theorem digestSplit_lifted (os : Os) (started : os.Started) (H : Type) (enc : TypeId × Value → H) (F : Stop.Interp) :
    ReturnsInHanded {} Try.checked os 8 .any ((Rows.OpenSpec.upto Rows.digestSplitSpec).pre6 enc Try.prog Try.f8 Rows.digestSplitUptoRow.domain false) (((Rows.OpenSpec.upto Rows.digestSplitSpec).at F).post enc Try.prog Try.f8 false true false false) := by
  refine returnsInHanded_of_cond_sized (C := Try.checked) (s := Rows.OpenSpec.upto Rows.digestSplitSpec) (k := Rows.uptoSmall) rfl own started (by kernel_rfl) Try.func8
    (OpenSpec.witness (enc := enc) (C := Try.checked) (s := Rows.OpenSpec.upto Rows.digestSplitSpec) (k := Rows.uptoSmall) rfl false ⟨#[], #[.int .u64 0, .slice none 0 0, .slice none 0 0], []⟩ 8 (by kernel_rfl) (by kernel_rfl) (by kernel_rfl)
      (x := ([.lit (.int .u64 0), .nil, .nil], [], [])) (by kernel_rfl) rfl (by kernel_rfl)) ?_
  intro W base args ds gs before hval hW _ hk hsz _
  exact law_post (s := Rows.digestSplitSpec) rfl (by kernel_rfl) (by kernel_rfl) (fun ds h => match ds, h with | [d0, d1, d2], _ => ⟨rfl, rfl, rfl⟩) hW (digestSplit_walk W base args ds gs before hval hW hk hsz)

theorem digestSplit_over : Rows.digestSplitUptoRow.holds Try.pinned (Rows.OpenSpec.upto Rows.digestSplitSpec) :=
  OpenClaim.holds_of_cond 8 Try.f8 rfl rfl rfl rfl rfl rfl rfl ⟨rfl, rfl, rfl, rfl, rfl⟩ rfl rfl rfl rfl rfl (by kernel_rfl) Try.func8 (by kernel_rfl)
    (of_decide_eq_true (by kernel_rfl)) (by unfold Func.isWrapper; first | (rw [if_pos (by decide +kernel)]; kernel_rfl) | (rw [if_neg (by decide +kernel)]; exact ⟨rfl, rfl⟩))
    (fun os started H enc _ F => digestSplit_lifted os started H enc F)

theorem digestSplit_proved : Rows.DigestSplitUptoSaid := digestSplit_over

end Go.Proofs.Ytffngmoelkabjaa
