/- The codec: the example of the chapter. -/
import Derived.Test.YtcgeipofpdckmaaCoK
namespace Go.Proofs.Ytcgeipofpdckmaa
set_option maxRecDepth 100000
open Go.RowKit

def tA : NodeT := .mk 1 1 64 [] []
def tB : NodeT := .mk 300 2 0 [97] []
def tN : NodeT := .mk 0 3 0 [] [tA, tB]
theorem v0 : vEnc 0 = [0] := vEnc_small (by decide)
theorem v1 : vEnc 1 = [1] := vEnc_small (by decide)
theorem v2 : vEnc 2 = [2] := vEnc_small (by decide)
theorem v5 : vEnc 5 = [5] := vEnc_small (by decide)
theorem v128 : vEnc 128 = [128, 1] := by rw [vEnc_big (by decide)]; show _ :: vEnc 1 = _; rw [v1]; rfl
theorem v300 : vEnc 300 = [172, 2] := by rw [vEnc_big (by decide)]; show _ :: vEnc 2 = _; rw [v2]; rfl
theorem encN : encT tN = [0, 3, 2, 1, 1, 128, 1, 172, 2, 2, 1, 97] := by
  show encT (.mk 0 3 0 [] [.mk 1 1 64 [] [], .mk 300 2 0 [97] []]) = _
  simp only [encT, encL]
  show vEnc 0 ++ (_ :: (vEnc 2 ++ ((vEnc 1 ++ (_ :: vEnc 128)) ++ ((vEnc 300 ++ (_ :: (vEnc 1 ++ [97]))) ++ [])))) = _
  rw [v0, v1, v2, v128, v300]; rfl
theorem enc5 : encT (.mk 5 1 (-3) [] []) = [5, 1, 5] := by
  simp only [encT]
  show vEnc 5 ++ (_ :: vEnc 5) = _
  rw [v5]; rfl
theorem fitN : fitT 1 tN = true := by decide
theorem okN : okT tN = true := by
  unfold okT mesB; rw [encN, fitN]; rfl
theorem ok5 : okT (.mk 5 1 (-3) [] []) = true := by
  unfold okT mesB; rw [enc5]; decide
theorem okM : okT (.mk (-1) 1 0 [] []) = false := by
  unfold okT mesB; rfl
theorem i64N : i64T tN := by
  show i64T (.mk 0 3 0 [] [.mk 1 1 64 [] [], .mk 300 2 0 [97] []])
  simp [i64T, i64L, I64]
theorem i645 : i64T (.mk 5 1 (-3) [] []) := by simp [i64T, i64L, I64]
theorem i64M : i64T (.mk (-1) 1 0 [] []) := by simp [i64T, i64L, I64]
theorem decN : decR (encT tN ++ [7]) = .ok (tN, [7]) := by
  have h : (encT tN ++ [7]).length = 13 := by rw [encN]; rfl
  unfold decR
  rw [if_neg (by omega), List.take_of_length_le (by omega)]
  exact node_read 4 8 tN [7] (by omega) fitN i64N
theorem dec1 : decR [5, 1] = .error 4 := by kernel_rfl
theorem dec2 : decR [133, 0] = .error 2 := by kernel_rfl
theorem dec3 : decR [5, 2, 209, 15] = .error 5 := by kernel_rfl
theorem dec4 : decR [255, 255, 255, 7] = .error 3 := by kernel_rfl
theorem eqNN : eqT tN tN = true := (eqT_iff _ _).2 rfl
theorem eqN0 : eqT tN (.mk 0 1 0 [] []) = false := by
  rw [Bool.eq_false_iff]; intro h; rw [eqT_iff] at h; unfold tN at h; injection h with h1 h2; omega
theorem decode_err {bs : List UInt8} {x : Int} (h : decR bs = .error x) (a : Option Addr) (len cap : Nat) (w : World) (hb : Bytes w a len cap bs) :
    Calls Try.prog 13 #[.slice a len cap] w fun e w' => e = .returned (.tuple #[.agg #[.int .i64 0, .int .i64 0, .int .i64 0, .string ⟨#[]⟩, .slice none 0 0], .int .i64 0, .int .i64 x]) ∧ Below w.heap.size w w' := by
  have := decode_any bs a len cap w hb
  rw [h] at this; exact this
theorem decode_ok {bs l : List UInt8} {t : NodeT} (h : decR bs = .ok (t, l)) (a : Option Addr) (len cap : Nat) (w : World) (hb : Bytes w a len cap bs) :
    Calls Try.prog 13 #[.slice a len cap] w fun e w' => ∃ nv, e = .returned (.tuple #[nv, .int .i64 ((min len 1048576 - l.length : Nat) : Int), .int .i64 0]) ∧ NodeS (fun b => w.heap.size ≤ b) w' t nv ∧ Below w.heap.size w w' := by
  have := decode_any bs a len cap w hb
  rw [h] at this; exact this

theorem getD_some {l : List Value} {j : Nat} (h : j < l.length) : l.toArray[j]? = some (l.getD j .nilFunc) := by simp [List.getD, h]
set_option maxHeartbeats 16000000 in
theorem awake_any (w : World) : Calls Try.prog 12 #[] w fun e w' => e = .returned (.bool true) ∧ Below w.heap.size w w' := by
  go_enter Try.func12, Try.ntmps12
  go_wp2_with fail
  refine (int_any 1 64 w).mono ?_
  rintro e w1 ⟨rfl, hb1⟩
  go_wp2_with fail
  refine (string_any 300 _ w1).mono ?_
  rintro e w2 ⟨rfl, hb2⟩
  have hb02 := hb1.trans (hb2.mono hb1.size)
  clear hb1 hb2
  go_wp2_with fail
  have hbs : Below w2.heap.size w2 (w2.alloc (.cells (lfc 1 1 64 [] ++ lfc 300 2 0 [97]).toArray 24)) := (Below.refl _ _).alloc (Nat.le_refl _) _
  have hbg := heap_alloc_new w2 (.cells (lfc 1 1 64 [] ++ lfc 300 2 0 [97]).toArray 24)
  change Calls _ _ _ (w2.alloc (.cells (lfc 1 1 64 [] ++ lfc 300 2 0 [97]).toArray 24)) _
  generalize w2.alloc (.cells (lfc 1 1 64 [] ++ lfc 300 2 0 [97]).toArray 24) = w3 at *
  have hb03 := hb02.trans (hbs.mono hb02.size)
  refine (list_two 0 1 1 64 300 2 0 [] [97] w2.heap.size 0 2 w3 (blk_lt hbg) (fun j hj => by rw [Nat.zero_add, blk_cell hbg]; exact getD_some (by simpa [lfc] using hj))).mono ?_
  rintro e w4 ⟨g, rfl, hg, -, hb4⟩
  have hb04 := hb03.trans (hb4.mono hb03.size)
  clear hb02 hbs hbg hb03 hb4
  have hgl := blk_lt hg
  have hba : Below w4.heap.size w4 (w4.alloc (.cells #[.int .i64 0, .int .i64 3, .int .i64 0, .string ⟨#[]⟩, .slice (some ⟨g, 0, none⟩) 2 2] 24)) := (Below.refl _ _).alloc (Nat.le_refl _) _
  have hnb := heap_alloc_new w4 (.cells #[.int .i64 0, .int .i64 3, .int .i64 0, .string ⟨#[]⟩, .slice (some ⟨g, 0, none⟩) 2 2] 24)
  go_wp2_with fail
  generalize w4.alloc (.cells #[.int .i64 0, .int .i64 3, .int .i64 0, .string ⟨#[]⟩, .slice (some ⟨g, 0, none⟩) 2 2] 24) = w5 at *
  have H0 := Lib.hid (hb04.trans (hba.mono hb04.size))
  have hg5 := (hba.block g hgl).trans hg
  have hgl5 := blk_lt hg5
  have HG := Lib.hid hg5
  have hlN : w4.heap.size < w5.heap.size := blk_lt hnb
  have HN := Lib.hid (show NodeIn w5 tN (.agg #[.int .i64 0, .int .i64 3, .int .i64 0, .string ⟨#[]⟩, .slice (some ⟨g, 0, none⟩) 2 2]) from nodeIn_mk.2 ⟨_, 2, 2, rfl, by simp, kids_two (by simp) (by simp [maxLen]) (by omega) (by simp [maxLen]) hgl5 (fun j hj => by rw [Nat.zero_add, blk_cell hg5]; exact getD_some (by simpa [lfc] using hj))⟩)
  have k0 := blk_cell hnb 0
  have k1 := blk_cell hnb 1
  have k2 := blk_cell hnb 2
  have k3 := blk_cell hnb 3
  have k4 := blk_cell hnb 4
  simp at k0 k1 k2 k3 k4
  clear hb04 hg hg5 hba hnb
  generalize hbN : w4.heap.size = bN at *
  clear hbN
  refine (encode_ok tN _ w5 HN.out i64N okN).mono ?_
  rintro e w6 ⟨a6, n6, c6, rfl, hO6, hb6⟩
  have HB := Lib.hid hb6
  rw [encN] at hO6
  have HO := Lib.hid hO6
  obtain ⟨b6, m6, d6, hv6, hby6⟩ := hO6.bytes
  cases hv6
  have HY := Lib.hid hby6
  have hn6 : n6 = 12 := by have := hby6.1; simpa using this.symm
  subst hn6
  have hcv := str_of hby6
  clear hO6 hby6 hb6
  have n0 := (HB.out.cell (p := ⟨bN, 0, none⟩) hlN).trans k0
  have n1 := (HB.out.cell (p := ⟨bN, 1, none⟩) hlN).trans k1
  have n2 := (HB.out.cell (p := ⟨bN, 2, none⟩) hlN).trans k2
  have n3 := (HB.out.cell (p := ⟨bN, 3, none⟩) hlN).trans k3
  have n4 := (HB.out.cell (p := ⟨bN, 4, none⟩) hlN).trans k4
  go_wp2_with fail
  refine (valid_any tN _ w6 (HN.out.below HB.out) i64N).mono ?_
  rintro e w7 ⟨rfl, hb7⟩
  rw [okN]
  replace HO := Lib.hid (Owns.later HO.out hb7)
  replace HB := Lib.hid (HB.out.trans (hb7.mono HB.out.size))
  clear hb7 n0 n1 n2 n3 n4 hcv HY
  go_wp2_with fail
  refine (int_any (-1) 0 w7).mono ?_
  rintro e w8 ⟨rfl, hb8⟩
  replace HO := Lib.hid (Owns.later HO.out hb8)
  replace HB := Lib.hid (HB.out.trans (hb8.mono HB.out.size))
  clear hb8
  go_wp2_with fail
  refine (valid_any (.mk (-1) 1 0 [] []) _ w8 (leaf_in w8 (-1) 1 0 [] (by simp)) i64M).mono ?_
  rintro e w9 ⟨rfl, hb9⟩
  rw [okM]
  replace HO := Lib.hid (Owns.later HO.out hb9)
  replace HB := Lib.hid (HB.out.trans (hb9.mono HB.out.size))
  clear hb9
  go_wp2_with (at_builtin; go_must (refine wpList_app1 rfl _ _ 25 rfl w5.heap.size 5 (.int .u8 0) 1 Try.underlying25 infoByte rfl (.slice a6 12 c6) (bvs [0, 3, 2, 1, 1, 128, 1, 172, 2, 2, 1, 97]) rfl (.int .u8 7) rfl HO.out rfl (by rw [bvs_length]; decide) (by rw [bvs_length]; simp [maxLen]) HB.out.size fun v10 w10 h1 h2 => ?_))
  have hO10 : Owns w10 w5.heap.size 5 v10 (bvs (encT tN ++ [7])) := by rw [bvs_append, encN]; exact h1
  replace HB := Lib.hid (HB.out.trans (h2.below HB.out.size HO.out.lt))
  obtain ⟨b10, m10, d10, rfl, hby10⟩ := hO10.bytes
  have HY := Lib.hid hby10
  have hm10 : m10 = 13 := by have h := hby10.1; rw [encN] at h; simpa using h.symm
  subst hm10
  clear h1 h2 hO10 hby10 HO
  go_wp2_with fail
  refine (decode_ok decN b10 13 d10 w10 HY.out).mono ?_
  rintro e w11 ⟨nv, rfl, hN11, hb11⟩
  obtain ⟨xt, xk, xn, xs, xa, xl, xc, rfl⟩ := hN11.vals
  have HM := Lib.hid hN11.in
  replace HB := Lib.hid (HB.out.trans (hb11.mono HB.out.size))
  clear hN11 hb11 HY
  have hba : Below w11.heap.size w11 (w11.alloc (.cells #[.int .i64 xt, .int .i64 xk, .int .i64 xn, .string ⟨xs.toArray⟩, .slice xa xl xc] 24)) := (Below.refl _ _).alloc (Nat.le_refl _) _
  have hmb := heap_alloc_new w11 (.cells #[.int .i64 xt, .int .i64 xk, .int .i64 xn, .string ⟨xs.toArray⟩, .slice xa xl xc] 24)
  go_wp2_with fail
  generalize w11.alloc (.cells #[.int .i64 xt, .int .i64 xk, .int .i64 xn, .string ⟨xs.toArray⟩, .slice xa xl xc] 24) = w12 at *
  replace HB := Lib.hid (HB.out.trans (hba.mono HB.out.size))
  replace HM := Lib.hid (HM.out.below hba)
  have hlM := blk_lt hmb
  have m0 := blk_cell hmb 0
  have m1 := blk_cell hmb 1
  have m2 := blk_cell hmb 2
  have m3 := blk_cell hmb 3
  have m4 := blk_cell hmb 4
  simp at m0 m1 m2 m3 m4
  have n0 := (HB.out.cell (p := ⟨bN, 0, none⟩) hlN).trans k0
  have n1 := (HB.out.cell (p := ⟨bN, 1, none⟩) hlN).trans k1
  have n2 := (HB.out.cell (p := ⟨bN, 2, none⟩) hlN).trans k2
  have n3 := (HB.out.cell (p := ⟨bN, 3, none⟩) hlN).trans k3
  have n4 := (HB.out.cell (p := ⟨bN, 4, none⟩) hlN).trans k4
  have hlN12 : bN < w12.heap.size := Nat.lt_of_lt_of_le hlN HB.out.size
  have HN12 := Lib.hid (HN.out.below HB.out)
  have en0 := box_ext (B := w12.heap.size) n0 hlN12
  have em0 := box_ext (B := w12.heap.size) m0 hlM
  have en1 := box_ext (B := w12.heap.size) n1 hlN12
  have em1 := box_ext (B := w12.heap.size) m1 hlM
  have en2 := box_ext (B := w12.heap.size) n2 hlN12
  have em2 := box_ext (B := w12.heap.size) m2 hlM
  have en3 := box_ext (B := w12.heap.size) n3 hlN12
  have em3 := box_ext (B := w12.heap.size) m3 hlM
  have en4 := box_ext (B := w12.heap.size) n4 hlN12
  have em4 := box_ext (B := w12.heap.size) m4 hlM
  have q1 : ∀ W : Ext w12.heap.size w12, Calls Try.prog 14 #[.agg #[.int .i64 0, .int .i64 3, .int .i64 0, .string ⟨#[]⟩, .slice (some ⟨g, 0, none⟩) 2 2], .agg #[.int .i64 xt, .int .i64 xk, .int .i64 xn, .string ⟨xs.toArray⟩, .slice xa xl xc]] W.val fun e w'' => e = .returned (.bool true) ∧ ∃ W' : Ext w12.heap.size w12, w'' = W'.val := fun W => by
    have h := equal_any (depT tN) tN tN _ _ W.val (Nat.le_refl _) (HN12.out.below W.prop) (HM.out.below W.prop)
    rw [eqNN] at h
    exact Calls.ext W h
  have q2 : ∀ W : Ext w12.heap.size w12, Calls Try.prog 20 #[.int .i64 0, .int .i64 0] W.val fun e w'' => e = .returned (.agg #[.int .i64 0, .int .i64 1, .int .i64 0, .string ⟨#[]⟩, .slice none 0 0]) ∧ ∃ W' : Ext w12.heap.size w12, w'' = W'.val := fun W => Calls.ext W (int_any 0 0 W.val)
  have q3 : ∀ W : Ext w12.heap.size w12, Calls Try.prog 14 #[.agg #[.int .i64 0, .int .i64 3, .int .i64 0, .string ⟨#[]⟩, .slice (some ⟨g, 0, none⟩) 2 2], .agg #[.int .i64 0, .int .i64 1, .int .i64 0, .string ⟨#[]⟩, .slice none 0 0]] W.val fun e w'' => e = .returned (.bool false) ∧ ∃ W' : Ext w12.heap.size w12, w'' = W'.val := fun W => by
    have h := equal_any (depT tN) tN (.mk 0 1 0 [] []) _ _ W.val (Nat.le_refl _) (HN12.out.below W.prop) (leaf_in W.val 0 1 0 [] (by simp))
    rw [eqN0] at h
    exact Calls.ext W h
  refine wp_region_ext w12.heap.size w12 (by kernel_rfl) (by kernel_rfl) (Below.refl _ _) ?_
  repeat (first | go_big_quiet_step (first
    | with_reducible exact q1 _
    | with_reducible exact q2 _
    | with_reducible exact q3 _))
  refine wpQuiet_nil ?_
  intro W
  replace HB := Lib.hid (HB.out.trans (W.prop.mono HB.out.size))
  generalize W.val = w13 at *
  clear q1 q2 q3 n0 n1 n2 n3 n4 m0 m1 m2 m3 m4 en0 en1 en2 en3 en4 em0 em1 em2 em3 em4 HM HN12 hlM hmb hba W
  have n0 := (HB.out.cell (p := ⟨bN, 0, none⟩) hlN).trans k0
  have n1 := (HB.out.cell (p := ⟨bN, 1, none⟩) hlN).trans k1
  have n2 := (HB.out.cell (p := ⟨bN, 2, none⟩) hlN).trans k2
  have n3 := (HB.out.cell (p := ⟨bN, 3, none⟩) hlN).trans k3
  have n4 := (HB.out.cell (p := ⟨bN, 4, none⟩) hlN).trans k4
  go_wp2_with fail
  refine (find_two 0 3 0 300 1 1 64 300 2 0 [] [] [97] g 2 w13 (by decide) ((HB.out.block g hgl5).trans HG.out)).mono ?_
  rintro e w14 ⟨rfl, hb⟩
  replace HB := Lib.hid (HB.out.trans (hb.mono HB.out.size))
  clear hb n0 n1 n2 n3 n4
  rw [show find2 300 2 0 [97] 300 = .tuple #[.agg #[.int .i64 300, .int .i64 2, .int .i64 0, .string ⟨#[97]⟩, .slice none 0 0], .bool true] from if_pos rfl]
  have hf0 := heap_alloc_new w14 (.cells #[.int .i64 300, .int .i64 2, .int .i64 0, .string ⟨#[97]⟩, .slice none 0 0] 24)
  have hba : Below w14.heap.size w14 (w14.alloc (.cells #[.int .i64 300, .int .i64 2, .int .i64 0, .string ⟨#[97]⟩, .slice none 0 0] 24)) := (Below.refl _ _).alloc (Nat.le_refl _) _
  have HB15 := Lib.hid (HB.out.trans (hba.mono HB.out.size))
  have n0 := (HB15.out.cell (p := ⟨bN, 0, none⟩) hlN).trans k0
  have n1 := (HB15.out.cell (p := ⟨bN, 1, none⟩) hlN).trans k1
  have n2 := (HB15.out.cell (p := ⟨bN, 2, none⟩) hlN).trans k2
  have n3 := (HB15.out.cell (p := ⟨bN, 3, none⟩) hlN).trans k3
  have n4 := (HB15.out.cell (p := ⟨bN, 4, none⟩) hlN).trans k4
  clear HB15
  go_wp2_with fail
  generalize w14.alloc (.cells #[.int .i64 300, .int .i64 2, .int .i64 0, .string ⟨#[97]⟩, .slice none 0 0] 24) = w15 at *
  replace HB := Lib.hid (HB.out.trans (hba.mono HB.out.size))
  have hlF := blk_lt hf0
  generalize w14.heap.size = bF at *
  clear hba n0 n1 n2 n3 n4
  refine (find_two 0 3 0 5 1 1 64 300 2 0 [] [] [97] g 2 w15 (by decide) ((HB.out.block g hgl5).trans HG.out)).mono ?_
  rintro e w16 ⟨rfl, hb⟩
  replace HB := Lib.hid (HB.out.trans (hb.mono HB.out.size))
  rw [show find2 300 2 0 [97] 5 = .tuple #[.agg #[.int .i64 0, .int .i64 0, .int .i64 0, .string ⟨#[]⟩, .slice none 0 0], .bool false] from if_neg (by decide)]
  have hf1 := (hb.block bF hlF).trans hf0
  have hlF1 := blk_lt hf1
  have hba : Below w16.heap.size w16 (w16.alloc (.cells #[.int .i64 0, .int .i64 0, .int .i64 0, .string ⟨#[]⟩, .slice none 0 0] 24)) := (Below.refl _ _).alloc (Nat.le_refl _) _
  have hf2 := (hba.block bF hlF1).trans hf1
  have f1 := blk_cell hf2 1
  have f3 := blk_cell hf2 3
  simp at f1 f3
  clear hb hf0 hf1 hf2 hlF
  go_wp2_with fail
  generalize w16.alloc (.cells #[.int .i64 0, .int .i64 0, .int .i64 0, .string ⟨#[]⟩, .slice none 0 0] 24) = w17 at *
  replace HB := Lib.hid (HB.out.trans (hba.mono HB.out.size))
  clear hba f1 f3
  refine (int_any 5 (-3) w17).mono ?_
  rintro e w18 ⟨rfl, hb⟩
  replace HB := Lib.hid (HB.out.trans (hb.mono HB.out.size))
  clear hb
  go_wp2_with fail
  refine (encode_ok (.mk 5 1 (-3) [] []) _ w18 (leaf_in w18 5 1 (-3) [] (by simp)) i645 ok5).mono ?_
  rintro e w19 ⟨a19, n19, c19, rfl, hO, hb⟩
  replace HB := Lib.hid (HB.out.trans (hb.mono HB.out.size))
  rw [enc5] at hO
  obtain ⟨b19, m19, d19, hv19, hby19⟩ := hO.bytes
  cases hv19
  have hn19 : n19 = 3 := by have := hby19.1; simpa using this.symm
  subst hn19
  have hcv := str_of hby19
  clear hO hby19 hb
  go_wp2_with fail
  have hby := bytes_lit w19 5 [5, 1] (by simp [maxLen])
  have hba : Below w19.heap.size w19 (w19.alloc (.cells #[.int .u8 5, .int .u8 1] 5)) := (Below.refl _ _).alloc (Nat.le_refl _) _
  change Bytes (w19.alloc (.cells #[.int .u8 5, .int .u8 1] 5)) _ 2 2 _ at hby
  generalize w19.alloc (.cells #[.int .u8 5, .int .u8 1] 5) = w20 at *
  replace HB := Lib.hid (HB.out.trans (hba.mono HB.out.size))
  refine (decode_err dec1 _ 2 2 w20 hby).mono ?_
  rintro e w21 ⟨rfl, hb⟩
  replace HB := Lib.hid (HB.out.trans (hb.mono HB.out.size))
  clear hb hby hba
  go_wp2_with fail
  have hby := bytes_lit w21 5 [133, 0] (by simp [maxLen])
  have hba : Below w21.heap.size w21 (w21.alloc (.cells #[.int .u8 133, .int .u8 0] 5)) := (Below.refl _ _).alloc (Nat.le_refl _) _
  change Bytes (w21.alloc (.cells #[.int .u8 133, .int .u8 0] 5)) _ 2 2 _ at hby
  generalize w21.alloc (.cells #[.int .u8 133, .int .u8 0] 5) = w22 at *
  replace HB := Lib.hid (HB.out.trans (hba.mono HB.out.size))
  refine (decode_err dec2 _ 2 2 w22 hby).mono ?_
  rintro e w23 ⟨rfl, hb⟩
  replace HB := Lib.hid (HB.out.trans (hb.mono HB.out.size))
  clear hb hby hba
  go_wp2_with fail
  have hby := bytes_lit (w23.alloc (.cells #[.int .i64 0, .int .i64 0, .int .i64 0, .string ⟨#[]⟩, .slice none 0 0] 24)) 5 [5, 2, 209, 15] (by simp [maxLen])
  have hba : Below w23.heap.size w23 ((w23.alloc (.cells #[.int .i64 0, .int .i64 0, .int .i64 0, .string ⟨#[]⟩, .slice none 0 0] 24)).alloc (.cells #[.int .u8 5, .int .u8 2, .int .u8 209, .int .u8 15] 5)) := ((Below.refl _ _).alloc (Nat.le_refl _) _).alloc (by simp) _
  change Bytes ((w23.alloc (.cells #[.int .i64 0, .int .i64 0, .int .i64 0, .string ⟨#[]⟩, .slice none 0 0] 24)).alloc (.cells #[.int .u8 5, .int .u8 2, .int .u8 209, .int .u8 15] 5)) _ 4 4 _ at hby
  rw [show (w23.alloc (.cells #[.int .i64 0, .int .i64 0, .int .i64 0, .string ⟨#[]⟩, .slice none 0 0] 24)).heap.size = w23.heap.size + 1 by simp] at hby
  generalize (w23.alloc (.cells #[.int .i64 0, .int .i64 0, .int .i64 0, .string ⟨#[]⟩, .slice none 0 0] 24)).alloc (.cells #[.int .u8 5, .int .u8 2, .int .u8 209, .int .u8 15] 5) = w24 at *
  replace HB := Lib.hid (HB.out.trans (hba.mono HB.out.size))
  refine (decode_err dec3 _ 4 4 w24 hby).mono ?_
  rintro e w25 ⟨rfl, hb⟩
  replace HB := Lib.hid (HB.out.trans (hb.mono HB.out.size))
  clear hb hby hba
  go_wp2_with fail
  have hby := bytes_lit (w25.alloc (.cells #[.int .i64 0, .int .i64 0, .int .i64 0, .string ⟨#[]⟩, .slice none 0 0] 24)) 5 [255, 255, 255, 7] (by simp [maxLen])
  have hba : Below w25.heap.size w25 ((w25.alloc (.cells #[.int .i64 0, .int .i64 0, .int .i64 0, .string ⟨#[]⟩, .slice none 0 0] 24)).alloc (.cells #[.int .u8 255, .int .u8 255, .int .u8 255, .int .u8 7] 5)) := ((Below.refl _ _).alloc (Nat.le_refl _) _).alloc (by simp) _
  change Bytes ((w25.alloc (.cells #[.int .i64 0, .int .i64 0, .int .i64 0, .string ⟨#[]⟩, .slice none 0 0] 24)).alloc (.cells #[.int .u8 255, .int .u8 255, .int .u8 255, .int .u8 7] 5)) _ 4 4 _ at hby
  rw [show (w25.alloc (.cells #[.int .i64 0, .int .i64 0, .int .i64 0, .string ⟨#[]⟩, .slice none 0 0] 24)).heap.size = w25.heap.size + 1 by simp] at hby
  generalize (w25.alloc (.cells #[.int .i64 0, .int .i64 0, .int .i64 0, .string ⟨#[]⟩, .slice none 0 0] 24)).alloc (.cells #[.int .u8 255, .int .u8 255, .int .u8 255, .int .u8 7] 5) = w26 at *
  replace HB := Lib.hid (HB.out.trans (hba.mono HB.out.size))
  refine (decode_err dec4 _ 4 4 w26 hby).mono ?_
  rintro e w27 ⟨rfl, hb⟩
  replace HB := Lib.hid (HB.out.trans (hb.mono HB.out.size))
  clear hb hby hba
  go_wp2_with fail
  have hba : Below w27.heap.size w27 (w27.alloc (.cells #[.int .i64 0, .int .i64 0, .int .i64 0, .string ⟨#[]⟩, .slice none 0 0] 24)) := (Below.refl _ _).alloc (Nat.le_refl _) _
  replace HB := Lib.hid (HB.out.trans (hba.mono HB.out.size))
  clear hba
  go_ret
  exact ⟨rfl, H0.out.trans (HB.out.mono H0.out.size)⟩

end Go.Proofs.Ytcgeipofpdckmaa
