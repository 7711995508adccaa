/- The law CodecRoundTrip, for arguments of bulk at most 1048576: the encoding of a valid node, followed by any bytes, is decoded as that node, and the length of the encoding is returned. -/
import Derived.Test.YtcgeipofpdckmaaCoL
import Derived.Test.YtcgeipofpdckmaaFrame
import Derived.Test.YtcgeipofpdckmaaBulk
namespace Go.Proofs.Ytcgeipofpdckmaa
set_option maxRecDepth 100000
open Go.ChangeShapes Go.WideShapes Go.ChangeAt Go.RowKit

theorem decR_enc {t : NodeT} (tail : List UInt8) (hok : okT t = true) (hi : i64T t) : ∃ l, decR (encT t ++ tail) = .ok (t, l) ∧ min (encT t ++ tail).length 1048576 - l.length = (encT t).length := by
  have hl := okT_len hok
  have h1 : (encT t ++ tail).take 1048576 = encT t ++ tail.take (1048576 - (encT t).length) := by
    rw [List.take_append, List.take_of_length_le hl]
  refine ⟨tail.take (1048576 - (encT t).length), ?_, ?_⟩
  · unfold decR
    rw [h1]
    exact node_read _ 8 t _ (by omega) (okT_fit hok) hi
  · rw [List.length_take, List.length_append]; omega

set_option maxHeartbeats 16000000 in
theorem roundTrip_calls (t : NodeT) (v1 : Value) (tail : List UInt8) (ta : Option Addr) (tl tc : Nat) (w : World) (hN : NodeIn w t v1) (hi : i64T t) (hT : Bytes w ta tl tc tail) (htl : tl ≤ 1048576) :
    Calls Try.prog 4 #[v1, .slice ta tl tc] w fun e w' => e = .returned (.bool true) ∧ Below w.heap.size w w' := by
  obtain ⟨tag, kind, n, s, a, len, cap, kids, ht, rfl, hs, hk⟩ := hN.form
  have hba : Below w.heap.size w (w.alloc (.cells #[.int .i64 tag, .int .i64 kind, .int .i64 n, .string ⟨s.toArray⟩, .slice a len cap] 24)) := (Below.refl _ _).alloc (Nat.le_refl _) _
  have HN := Lib.hid (hN.below hba)
  have HT := Lib.hid (hT.below hba)
  have htlen : tail.length = tl := hT.1
  have HI := Lib.hid hi
  have HBa := Lib.hid hba
  have hA : (w.alloc (.cells #[.int .i64 tag, .int .i64 kind, .int .i64 n, .string ⟨s.toArray⟩, .slice a len cap] 24)).heap[w.heap.size]? = some (.cells #[.int .i64 tag, .int .i64 kind, .int .i64 n, .string ⟨s.toArray⟩, .slice a len cap] 24) := heap_alloc_new _ _
  have HBw0 := Lib.hid (Below.refl (w.alloc (.cells #[.int .i64 tag, .int .i64 kind, .int .i64 n, .string ⟨s.toArray⟩, .slice a len cap] 24)).heap.size (w.alloc (.cells #[.int .i64 tag, .int .i64 kind, .int .i64 n, .string ⟨s.toArray⟩, .slice a len cap] 24)))
  have lp := blk_lt hA
  have cp0 : (w.alloc (.cells #[.int .i64 tag, .int .i64 kind, .int .i64 n, .string ⟨s.toArray⟩, .slice a len cap] 24)).cell? ⟨w.heap.size, 0, none⟩ = some (.int .i64 tag) := by rw [blk_cell hA]; rfl
  have cp1 : (w.alloc (.cells #[.int .i64 tag, .int .i64 kind, .int .i64 n, .string ⟨s.toArray⟩, .slice a len cap] 24)).cell? ⟨w.heap.size, 1, none⟩ = some (.int .i64 kind) := by rw [blk_cell hA]; rfl
  have cp2 : (w.alloc (.cells #[.int .i64 tag, .int .i64 kind, .int .i64 n, .string ⟨s.toArray⟩, .slice a len cap] 24)).cell? ⟨w.heap.size, 2, none⟩ = some (.int .i64 n) := by rw [blk_cell hA]; rfl
  have cp3 : (w.alloc (.cells #[.int .i64 tag, .int .i64 kind, .int .i64 n, .string ⟨s.toArray⟩, .slice a len cap] 24)).cell? ⟨w.heap.size, 3, none⟩ = some (.string ⟨s.toArray⟩) := by rw [blk_cell hA]; rfl
  have cp4 : (w.alloc (.cells #[.int .i64 tag, .int .i64 kind, .int .i64 n, .string ⟨s.toArray⟩, .slice a len cap] 24)).cell? ⟨w.heap.size, 4, none⟩ = some (.slice a len cap) := by rw [blk_cell hA]; rfl
  clear hN hi hk hba hA ht hT
  cases hq : okT t with
  | false =>
    have HQ := Lib.hid hq
    clear hq
    go_enter Try.func4, Try.ntmps4
    go_wp2_with fail
    generalize (w.alloc (.cells #[.int .i64 tag, .int .i64 kind, .int .i64 n, .string ⟨s.toArray⟩, .slice a len cap] 24)) = w0 at *
    refine (encode_no t _ w0 HN.out HI.out HQ.out).mono ?_
    rintro e w1 ⟨rfl, hb⟩
    have HBw1 := Lib.hid (HBw0.out.trans (hb.mono HBw0.out.size))
    clear hb
    have p0 := (HBw1.out.cell (p := ⟨w.heap.size, 0, none⟩) lp).trans cp0
    have p1 := (HBw1.out.cell (p := ⟨w.heap.size, 1, none⟩) lp).trans cp1
    have p2 := (HBw1.out.cell (p := ⟨w.heap.size, 2, none⟩) lp).trans cp2
    have p3 := (HBw1.out.cell (p := ⟨w.heap.size, 3, none⟩) lp).trans cp3
    have p4 := (HBw1.out.cell (p := ⟨w.heap.size, 4, none⟩) lp).trans cp4
    go_wp2_with fail
    refine (valid_any t _ w1 (HN.out.below HBw1.out) HI.out).mono ?_
    rintro e w2 ⟨rfl, hb⟩
    rw [HQ.out]
    have HBw2 := Lib.hid (HBw1.out.trans (hb.mono HBw1.out.size))
    clear hb p0 p1 p2 p3 p4
    go_wp2_with fail
    refine (awake_any w2).mono ?_
    rintro e w3 ⟨rfl, hb⟩
    have hb4 := HBa.out.trans ((HBw2.out.trans (hb.mono HBw2.out.size)).mono HBa.out.size)
    clear hb
    go_wp2_with fail
    go_ret
    exact ⟨rfl, hb4⟩
  | true =>
    have HQ := Lib.hid hq
    have hEl := okT_len hq
    obtain ⟨lr, hdec, hat⟩ := decR_enc tail hq HI.out
    have HD := Lib.hid hdec
    clear hq hdec
    go_enter Try.func4, Try.ntmps4
    go_wp2_with fail
    generalize (w.alloc (.cells #[.int .i64 tag, .int .i64 kind, .int .i64 n, .string ⟨s.toArray⟩, .slice a len cap] 24)) = w0 at *
    refine (encode_ok t _ w0 HN.out HI.out HQ.out).mono ?_
    rintro e w1 ⟨a1, n1, c1, rfl, hO, hb⟩
    obtain ⟨b1, x1, d1, hv, hby⟩ := hO.bytes
    cases hv
    have hn1 : (encT t).length = n1 := hby.1
    have HY := Lib.hid hby
    have HBw1 := Lib.hid (HBw0.out.trans (hb.mono HBw0.out.size))
    clear hO hby hb
    have tok1 : True := trivial
    have hE : Below w1.heap.size w1 w1 := Below.refl _ _
    go_wp2_with (first
     | (have _t := tok1
        at_builtin
        go_must (
          refine wpList_app rfl _ _ 25 rfl w1.heap.size 5 (.int .u8 0) 1 Try.underlying25 infoByte rfl (.slice (some ⟨w1.heap.size, 0, none⟩) 0 0) [] rfl (owns_lit w1 w1.heap.size 5 [] (by decide) (Nat.le_refl _)) a1 n1 c1 (bvs (encT t)) rfl (by rw [bvs_length]; exact hn1) (HY.out.below ((Below.refl _ _).alloc (Nat.le_refl _) _)).vals (bvs_one _) (by simp; omega) (by simp only [maxLen, List.length_nil]; omega) (by simp) fun v2 w2 h1 h2 => ?_
          rw [List.nil_append] at h1
          have hb1 : Below w1.heap.size w1 w2 := ((Below.refl _ _).alloc (Nat.le_refl _) _).trans (h2.below (by simp) (by simp [Value.ownBlock]))
          have HO1 := Lib.hid h1
          clear tok1 _t h1 h2))
     | (at_builtin
        go_must (
          refine wpList_app rfl _ _ 25 rfl w1.heap.size 5 (.int .u8 0) 1 Try.underlying25 infoByte rfl _ (bvs (encT t)) rfl HO1.out ta tl tc (bvs tail) rfl (by rw [bvs_length]; exact htlen) (HT.out.below (HBw1.out.trans (hb1.mono HBw1.out.size))).vals (bvs_one _) (by rw [bvs_length]; omega) (by simp only [maxLen]; rw [bvs_length]; omega) (by have := hb1.size; omega) fun v3 w3 h1 h2 => ?_
          rw [← bvs_append] at h1
          have hb2 : Below w1.heap.size w1 w3 := hb1.trans (h2.below hb1.size HO1.out.lt)
          have HO2 := Lib.hid h1
          obtain ⟨b3, m3, d3, rfl, hby3⟩ := HO2.out.bytes
          have HY3 := Lib.hid hby3
          clear h1 h2 HO1 hb1 hby3)))
    have hm3 : (encT t ++ tail).length = m3 := HY3.out.1
    rw [hm3] at hat
    refine (decode_ok HD.out b3 m3 d3 w3 HY3.out).mono ?_
    rintro e w4 ⟨nv, rfl, hM, hb4⟩
    rw [hat, hn1]
    have HBw3 := Lib.hid (HBw1.out.trans (hb2.mono HBw1.out.size))
    have HBw4 := Lib.hid (HBw3.out.trans (hb4.mono HBw3.out.size))
    obtain ⟨xt, xk, xn, xs, xa, xl, xc, rfl⟩ := hM.vals
    have hba : Below w4.heap.size w4 (w4.alloc (.cells #[.int .i64 xt, .int .i64 xk, .int .i64 xn, .string ⟨xs.toArray⟩, .slice xa xl xc] 24)) := (Below.refl _ _).alloc (Nat.le_refl _) _
    have hnb := heap_alloc_new w4 (.cells #[.int .i64 xt, .int .i64 xk, .int .i64 xn, .string ⟨xs.toArray⟩, .slice xa xl xc] 24)
    have HBw5 := Lib.hid (HBw4.out.trans (hba.mono HBw4.out.size))
    have HM := Lib.hid (hM.in.below hba)
    clear hM hb2 hb4 hba HO2 hE hat
    have p0 := (HBw5.out.cell (p := ⟨w.heap.size, 0, none⟩) lp).trans cp0
    have p1 := (HBw5.out.cell (p := ⟨w.heap.size, 1, none⟩) lp).trans cp1
    have p2 := (HBw5.out.cell (p := ⟨w.heap.size, 2, none⟩) lp).trans cp2
    have p3 := (HBw5.out.cell (p := ⟨w.heap.size, 3, none⟩) lp).trans cp3
    have p4 := (HBw5.out.cell (p := ⟨w.heap.size, 4, none⟩) lp).trans cp4
    have lp4 : w.heap.size < w4.heap.size := Nat.lt_of_lt_of_le lp HBw4.out.size
    have m0 := blk_cell hnb 0
    have m1 := blk_cell hnb 1
    have m2 := blk_cell hnb 2
    have m3x := blk_cell hnb 3
    have m4 := blk_cell hnb 4
    have HNb := Lib.hid hnb
    have lN := blk_lt hnb
    clear hnb
    go_wp2_with fail
    generalize w4.alloc (.cells #[.int .i64 xt, .int .i64 xk, .int .i64 xn, .string ⟨xs.toArray⟩, .slice xa xl xc] 24) = w5 at *
    clear p0 p1 p2 p3 p4
    refine (equal_any (depT t) t t _ _ w5 (Nat.le_refl _) (HN.out.below HBw5.out) HM.out).mono ?_
    rintro e w6 ⟨rfl, hb⟩
    rw [(eqT_iff t t).2 rfl]
    have HBw6 := Lib.hid (HBw5.out.trans (hb.mono HBw5.out.size))
    clear hb m0 m1 m2 m3x m4
    have p0 := (HBw6.out.cell (p := ⟨w.heap.size, 0, none⟩) lp).trans cp0
    have p1 := (HBw6.out.cell (p := ⟨w.heap.size, 1, none⟩) lp).trans cp1
    have p2 := (HBw6.out.cell (p := ⟨w.heap.size, 2, none⟩) lp).trans cp2
    have p3 := (HBw6.out.cell (p := ⟨w.heap.size, 3, none⟩) lp).trans cp3
    have p4 := (HBw6.out.cell (p := ⟨w.heap.size, 4, none⟩) lp).trans cp4
    go_wp2_with fail
    refine (valid_any t _ w6 (HN.out.below HBw6.out) HI.out).mono ?_
    rintro e w7 ⟨rfl, hb⟩
    rw [HQ.out]
    have HBw7 := Lib.hid (HBw6.out.trans (hb.mono HBw6.out.size))
    clear hb p0 p1 p2 p3 p4
    go_wp2_with fail
    refine (awake_any w7).mono ?_
    rintro e w8 ⟨rfl, hb⟩
    have hb9 := HBa.out.trans ((HBw7.out.trans (hb.mono HBw7.out.size)).mono HBa.out.size)
    clear hb
    go_wp2_with fail
    go_ret
    exact ⟨rfl, hb9⟩

theorem codecRoundTrip_walk {H : Type} {enc : TypeId × Value → H} (W : World) (base : Nat) (args : Array Value) (ds gs : List (DataW H)) (before : List MemPlace)
    (hval : ∀ (j : Nat) t v, Try.f4.params[j]? = some t → args[j]? = some v → Value.okWide Try.prog W .any base t v)
    (hW : DataW.Whole enc Try.prog Try.f4.params.toList Rows.codecRoundTripSpec.vars false W args.toList ds gs before)
    (hk : Rows.uptoSmall H (ds ++ gs) = true)
    (_hsz : (DataW.weightsEach Try.prog (Try.f4.params.toList ++ (Rows.OpenSpec.upto Rows.codecRoundTripSpec).bare.plain.varTypes Try.prog) (ds ++ gs)).all (· ≤ reachBytes) = true) :
    Calls Try.prog 4 args W fun e w' => e = .returned (.bool true) ∧ Below W.heap.size W w' := by
  obtain ⟨p, q, hA, hV, -, -, -⟩ := hW
  obtain ⟨rfl, -⟩ := trodVars_none hV
  rw [Try.params4] at hA hval
  obtain ⟨v0, v1, d0, d1, p0, p1, rfl, rfl, rfl, h0, h1⟩ := trodAll_two hA
  obtain ⟨t, hN, hi⟩ := open_node (hval 0 _ _ rfl rfl) h0
  obtain ⟨a, len, cap, xs, rfl, hr, hz⟩ := open_row Try.underlying25 Try.underlying5 (by kernel_rfl) (hval 1 _ _ rfl rfl) h1
  have hm := (bulk_row hk 1 rfl hz).1
  rw [hr.1] at hm
  obtain ⟨ys, -, hy⟩ := bytes_of rfl hr
  exact roundTrip_calls t v0 ys a len cap W hN hi hy hm

set_option maxRecDepth 100000 in
theorem codecRoundTrip_lifted (os : Os) (started : os.Started) (H : Type) (enc : TypeId × Value → H) (F : Stop.Interp) :
    ReturnsInHanded {} Try.checked os 4 .any ((Rows.OpenSpec.upto Rows.codecRoundTripSpec).pre6 enc Try.prog Try.f4 Rows.codecRoundTripUptoRow.domain false) (((Rows.OpenSpec.upto Rows.codecRoundTripSpec).at F).post enc Try.prog Try.f4 false true false false) := by
  refine returnsInHanded_of_cond_sized (C := Try.checked) (s := Rows.OpenSpec.upto Rows.codecRoundTripSpec) (k := Rows.uptoSmall) rfl own started (by kernel_rfl) Try.func4
    (OpenSpec.witness (enc := enc) (C := Try.checked) (s := Rows.OpenSpec.upto Rows.codecRoundTripSpec) (k := Rows.uptoSmall) rfl false ⟨#[], #[.agg #[.int .i64 0, .int .i64 0, .int .i64 0, .string ⟨#[]⟩, .slice none 0 0], .slice none 0 0], []⟩ 8 (by kernel_rfl) (by kernel_rfl) (by kernel_rfl)
      (x := ([.agg [.lit (.int .i64 0), .lit (.int .i64 0), .lit (.int .i64 0), .lit (.string []), .nil], .nil], [], [])) (by kernel_rfl) rfl (by kernel_rfl)) ?_
  intro W base args ds gs before hval hW _ hk hsz _
  exact law_post (s := Rows.codecRoundTripSpec) rfl (by kernel_rfl) (by kernel_rfl) (fun ds h => match ds, h with | [d0, d1], _ => ⟨rfl, rfl, rfl⟩) hW (codecRoundTrip_walk W base args ds gs before hval hW hk hsz)

theorem codecRoundTrip_over : Rows.codecRoundTripUptoRow.holds Try.pinned (Rows.OpenSpec.upto Rows.codecRoundTripSpec) :=
  OpenClaim.holds_of_cond 4 Try.f4 rfl rfl rfl rfl rfl rfl rfl ⟨rfl, rfl, rfl, rfl, rfl⟩ rfl rfl rfl rfl rfl (by kernel_rfl) Try.func4 (by kernel_rfl)
    (of_decide_eq_true (by kernel_rfl)) (by unfold Func.isWrapper; first | (rw [if_pos (by decide +kernel)]; kernel_rfl) | (rw [if_neg (by decide +kernel)]; exact ⟨rfl, rfl⟩))
    (fun os started H enc _ F => codecRoundTrip_lifted os started H enc F)

theorem codecRoundTrip_proved : Rows.CodecRoundTripUptoSaid := codecRoundTrip_over

end Go.Proofs.Ytcgeipofpdckmaa
