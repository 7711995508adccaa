/- The law CodecDistinct: two valid nodes have the same encoding exactly if they are equal. No condition. -/
import Derived.Test.YtcgeipofpdckmaaCoL
import Derived.Test.YtcgeipofpdckmaaFrame
namespace Go.Proofs.Ytcgeipofpdckmaa
set_option maxRecDepth 100000
open Go.ChangeShapes Go.WideShapes Go.ChangeAt Go.RowKit

set_option maxHeartbeats 16000000 in
theorem distinct_calls (t u : NodeT) (v1 v2 : Value) (w : World) (hN : NodeIn w t v1) (hM : NodeIn w u v2) (hi : i64T t) (hj : i64T u) :
    Calls Try.prog 7 #[v1, v2] w fun e w' => e = .returned (.bool true) ∧ Below w.heap.size w w' := by
  obtain ⟨tag, kind, n, s, a, len, cap, kids, ht, rfl, hs, hk⟩ := hN.form
  obtain ⟨tag2, kind2, n2, s2, a2, len2, cap2, kids2, hu, rfl, hs2, hk2⟩ := hM.form
  have hba : Below w.heap.size w ((w.alloc (.cells #[.int .i64 tag, .int .i64 kind, .int .i64 n, .string ⟨s.toArray⟩, .slice a len cap] 24)).alloc (.cells #[.int .i64 tag2, .int .i64 kind2, .int .i64 n2, .string ⟨s2.toArray⟩, .slice a2 len2 cap2] 24)) := ((Below.refl _ _).alloc (Nat.le_refl _) _).alloc (by simp) _
  have HN := Lib.hid (hN.below hba)
  have HM := Lib.hid (hM.below hba)
  have HIt := Lib.hid hi
  have HIu := Lib.hid hj
  have HBa := Lib.hid hba
  have hA : ((w.alloc (.cells #[.int .i64 tag, .int .i64 kind, .int .i64 n, .string ⟨s.toArray⟩, .slice a len cap] 24)).alloc (.cells #[.int .i64 tag2, .int .i64 kind2, .int .i64 n2, .string ⟨s2.toArray⟩, .slice a2 len2 cap2] 24)).heap[w.heap.size]? = some (.cells #[.int .i64 tag, .int .i64 kind, .int .i64 n, .string ⟨s.toArray⟩, .slice a len cap] 24) := by rw [heap_alloc_old _ _ (by simp), heap_alloc_new]
  have hB : ((w.alloc (.cells #[.int .i64 tag, .int .i64 kind, .int .i64 n, .string ⟨s.toArray⟩, .slice a len cap] 24)).alloc (.cells #[.int .i64 tag2, .int .i64 kind2, .int .i64 n2, .string ⟨s2.toArray⟩, .slice a2 len2 cap2] 24)).heap[w.heap.size + 1]? = some (.cells #[.int .i64 tag2, .int .i64 kind2, .int .i64 n2, .string ⟨s2.toArray⟩, .slice a2 len2 cap2] 24) := alloc_at (by simp)
  have HBw0 := Lib.hid (Below.refl ((w.alloc (.cells #[.int .i64 tag, .int .i64 kind, .int .i64 n, .string ⟨s.toArray⟩, .slice a len cap] 24)).alloc (.cells #[.int .i64 tag2, .int .i64 kind2, .int .i64 n2, .string ⟨s2.toArray⟩, .slice a2 len2 cap2] 24)).heap.size ((w.alloc (.cells #[.int .i64 tag, .int .i64 kind, .int .i64 n, .string ⟨s.toArray⟩, .slice a len cap] 24)).alloc (.cells #[.int .i64 tag2, .int .i64 kind2, .int .i64 n2, .string ⟨s2.toArray⟩, .slice a2 len2 cap2] 24)))
  have lp := blk_lt hA
  have lq := blk_lt hB
  have cp0 : ((w.alloc (.cells #[.int .i64 tag, .int .i64 kind, .int .i64 n, .string ⟨s.toArray⟩, .slice a len cap] 24)).alloc (.cells #[.int .i64 tag2, .int .i64 kind2, .int .i64 n2, .string ⟨s2.toArray⟩, .slice a2 len2 cap2] 24)).cell? ⟨w.heap.size, 0, none⟩ = some (.int .i64 tag) := by rw [blk_cell hA]; rfl
  have cq0 : ((w.alloc (.cells #[.int .i64 tag, .int .i64 kind, .int .i64 n, .string ⟨s.toArray⟩, .slice a len cap] 24)).alloc (.cells #[.int .i64 tag2, .int .i64 kind2, .int .i64 n2, .string ⟨s2.toArray⟩, .slice a2 len2 cap2] 24)).cell? ⟨w.heap.size + 1, 0, none⟩ = some (.int .i64 tag2) := by rw [blk_cell hB]; rfl
  have cp1 : ((w.alloc (.cells #[.int .i64 tag, .int .i64 kind, .int .i64 n, .string ⟨s.toArray⟩, .slice a len cap] 24)).alloc (.cells #[.int .i64 tag2, .int .i64 kind2, .int .i64 n2, .string ⟨s2.toArray⟩, .slice a2 len2 cap2] 24)).cell? ⟨w.heap.size, 1, none⟩ = some (.int .i64 kind) := by rw [blk_cell hA]; rfl
  have cq1 : ((w.alloc (.cells #[.int .i64 tag, .int .i64 kind, .int .i64 n, .string ⟨s.toArray⟩, .slice a len cap] 24)).alloc (.cells #[.int .i64 tag2, .int .i64 kind2, .int .i64 n2, .string ⟨s2.toArray⟩, .slice a2 len2 cap2] 24)).cell? ⟨w.heap.size + 1, 1, none⟩ = some (.int .i64 kind2) := by rw [blk_cell hB]; rfl
  have cp2 : ((w.alloc (.cells #[.int .i64 tag, .int .i64 kind, .int .i64 n, .string ⟨s.toArray⟩, .slice a len cap] 24)).alloc (.cells #[.int .i64 tag2, .int .i64 kind2, .int .i64 n2, .string ⟨s2.toArray⟩, .slice a2 len2 cap2] 24)).cell? ⟨w.heap.size, 2, none⟩ = some (.int .i64 n) := by rw [blk_cell hA]; rfl
  have cq2 : ((w.alloc (.cells #[.int .i64 tag, .int .i64 kind, .int .i64 n, .string ⟨s.toArray⟩, .slice a len cap] 24)).alloc (.cells #[.int .i64 tag2, .int .i64 kind2, .int .i64 n2, .string ⟨s2.toArray⟩, .slice a2 len2 cap2] 24)).cell? ⟨w.heap.size + 1, 2, none⟩ = some (.int .i64 n2) := by rw [blk_cell hB]; rfl
  have cp3 : ((w.alloc (.cells #[.int .i64 tag, .int .i64 kind, .int .i64 n, .string ⟨s.toArray⟩, .slice a len cap] 24)).alloc (.cells #[.int .i64 tag2, .int .i64 kind2, .int .i64 n2, .string ⟨s2.toArray⟩, .slice a2 len2 cap2] 24)).cell? ⟨w.heap.size, 3, none⟩ = some (.string ⟨s.toArray⟩) := by rw [blk_cell hA]; rfl
  have cq3 : ((w.alloc (.cells #[.int .i64 tag, .int .i64 kind, .int .i64 n, .string ⟨s.toArray⟩, .slice a len cap] 24)).alloc (.cells #[.int .i64 tag2, .int .i64 kind2, .int .i64 n2, .string ⟨s2.toArray⟩, .slice a2 len2 cap2] 24)).cell? ⟨w.heap.size + 1, 3, none⟩ = some (.string ⟨s2.toArray⟩) := by rw [blk_cell hB]; rfl
  have cp4 : ((w.alloc (.cells #[.int .i64 tag, .int .i64 kind, .int .i64 n, .string ⟨s.toArray⟩, .slice a len cap] 24)).alloc (.cells #[.int .i64 tag2, .int .i64 kind2, .int .i64 n2, .string ⟨s2.toArray⟩, .slice a2 len2 cap2] 24)).cell? ⟨w.heap.size, 4, none⟩ = some (.slice a len cap) := by rw [blk_cell hA]; rfl
  have cq4 : ((w.alloc (.cells #[.int .i64 tag, .int .i64 kind, .int .i64 n, .string ⟨s.toArray⟩, .slice a len cap] 24)).alloc (.cells #[.int .i64 tag2, .int .i64 kind2, .int .i64 n2, .string ⟨s2.toArray⟩, .slice a2 len2 cap2] 24)).cell? ⟨w.heap.size + 1, 4, none⟩ = some (.slice a2 len2 cap2) := by rw [blk_cell hB]; rfl
  clear hN hM hi hj hk hk2 hba hA hB ht hu
  cases hq : okT t with
  | false =>
    have HQt := Lib.hid hq
    clear hq
    cases hr : okT u with
    | false =>
      have HQu := Lib.hid hr
      clear hr
      go_enter Try.func7, Try.ntmps7
      go_wp2_with fail
      generalize ((w.alloc (.cells #[.int .i64 tag, .int .i64 kind, .int .i64 n, .string ⟨s.toArray⟩, .slice a len cap] 24)).alloc (.cells #[.int .i64 tag2, .int .i64 kind2, .int .i64 n2, .string ⟨s2.toArray⟩, .slice a2 len2 cap2] 24)) = w0 at *
      refine (encode_no t _ w0 (HN.out.below HBw0.out) HIt.out HQt.out).mono ?_
      rintro e w1 ⟨rfl, hb⟩
      have HBw1 := Lib.hid (HBw0.out.trans (hb.mono HBw0.out.size))
      clear hb
      have q0 := (HBw1.out.cell (p := ⟨w.heap.size + 1, 0, none⟩) lq).trans cq0
      have q1 := (HBw1.out.cell (p := ⟨w.heap.size + 1, 1, none⟩) lq).trans cq1
      have q2 := (HBw1.out.cell (p := ⟨w.heap.size + 1, 2, none⟩) lq).trans cq2
      have q3 := (HBw1.out.cell (p := ⟨w.heap.size + 1, 3, none⟩) lq).trans cq3
      have q4 := (HBw1.out.cell (p := ⟨w.heap.size + 1, 4, none⟩) lq).trans cq4
      go_wp2_with fail
      refine (encode_no u _ w1 (HM.out.below HBw1.out) HIu.out HQu.out).mono ?_
      rintro e w2 ⟨rfl, hb⟩
      have HBw2 := Lib.hid (HBw1.out.trans (hb.mono HBw1.out.size))
      clear hb
      clear q0 q1 q2 q3 q4
      go_wp2_with fail
      refine (awake_any w2).mono ?_
      rintro e w3 ⟨rfl, hb⟩
      have hb4 := HBa.out.trans ((HBw2.out.trans (hb.mono HBw2.out.size)).mono HBa.out.size)
      clear hb
      go_wp2_with fail
      go_ret
      exact ⟨rfl, hb4⟩
    | true =>
      have HQu := Lib.hid hr
      clear hr
      go_enter Try.func7, Try.ntmps7
      go_wp2_with fail
      generalize ((w.alloc (.cells #[.int .i64 tag, .int .i64 kind, .int .i64 n, .string ⟨s.toArray⟩, .slice a len cap] 24)).alloc (.cells #[.int .i64 tag2, .int .i64 kind2, .int .i64 n2, .string ⟨s2.toArray⟩, .slice a2 len2 cap2] 24)) = w0 at *
      refine (encode_no t _ w0 (HN.out.below HBw0.out) HIt.out HQt.out).mono ?_
      rintro e w1 ⟨rfl, hb⟩
      have HBw1 := Lib.hid (HBw0.out.trans (hb.mono HBw0.out.size))
      clear hb
      have q0 := (HBw1.out.cell (p := ⟨w.heap.size + 1, 0, none⟩) lq).trans cq0
      have q1 := (HBw1.out.cell (p := ⟨w.heap.size + 1, 1, none⟩) lq).trans cq1
      have q2 := (HBw1.out.cell (p := ⟨w.heap.size + 1, 2, none⟩) lq).trans cq2
      have q3 := (HBw1.out.cell (p := ⟨w.heap.size + 1, 3, none⟩) lq).trans cq3
      have q4 := (HBw1.out.cell (p := ⟨w.heap.size + 1, 4, none⟩) lq).trans cq4
      go_wp2_with fail
      refine (encode_ok u _ w1 (HM.out.below HBw1.out) HIu.out HQu.out).mono ?_
      rintro e w2 ⟨a2x, n2x, c2x, rfl, hO, hb⟩
      obtain ⟨b2, x2, d2, hv, hby⟩ := hO.bytes
      cases hv
      have HY2 := Lib.hid hby
      have HBw2 := Lib.hid (HBw1.out.trans (hb.mono HBw1.out.size))
      clear hO hby hb
      clear q0 q1 q2 q3 q4
      go_wp2_with fail
      refine (awake_any w2).mono ?_
      rintro e w3 ⟨rfl, hb⟩
      have hb4 := HBa.out.trans ((HBw2.out.trans (hb.mono HBw2.out.size)).mono HBa.out.size)
      clear hb
      go_wp2_with fail
      go_ret
      exact ⟨rfl, hb4⟩
  | true =>
    have HQt := Lib.hid hq
    clear hq
    cases hr : okT u with
    | false =>
      have HQu := Lib.hid hr
      clear hr
      go_enter Try.func7, Try.ntmps7
      go_wp2_with fail
      generalize ((w.alloc (.cells #[.int .i64 tag, .int .i64 kind, .int .i64 n, .string ⟨s.toArray⟩, .slice a len cap] 24)).alloc (.cells #[.int .i64 tag2, .int .i64 kind2, .int .i64 n2, .string ⟨s2.toArray⟩, .slice a2 len2 cap2] 24)) = w0 at *
      refine (encode_ok t _ w0 (HN.out.below HBw0.out) HIt.out HQt.out).mono ?_
      rintro e w1 ⟨a1, n1, c1, rfl, hO, hb⟩
      obtain ⟨b1, x1, d1, hv, hby⟩ := hO.bytes
      cases hv
      have HY1 := Lib.hid hby
      have HBw1 := Lib.hid (HBw0.out.trans (hb.mono HBw0.out.size))
      clear hO hby hb
      have q0 := (HBw1.out.cell (p := ⟨w.heap.size + 1, 0, none⟩) lq).trans cq0
      have q1 := (HBw1.out.cell (p := ⟨w.heap.size + 1, 1, none⟩) lq).trans cq1
      have q2 := (HBw1.out.cell (p := ⟨w.heap.size + 1, 2, none⟩) lq).trans cq2
      have q3 := (HBw1.out.cell (p := ⟨w.heap.size + 1, 3, none⟩) lq).trans cq3
      have q4 := (HBw1.out.cell (p := ⟨w.heap.size + 1, 4, none⟩) lq).trans cq4
      go_wp2_with fail
      refine (encode_no u _ w1 (HM.out.below HBw1.out) HIu.out HQu.out).mono ?_
      rintro e w2 ⟨rfl, hb⟩
      have HBw2 := Lib.hid (HBw1.out.trans (hb.mono HBw1.out.size))
      clear hb
      clear q0 q1 q2 q3 q4
      go_wp2_with fail
      refine (awake_any w2).mono ?_
      rintro e w3 ⟨rfl, hb⟩
      have hb4 := HBa.out.trans ((HBw2.out.trans (hb.mono HBw2.out.size)).mono HBa.out.size)
      clear hb
      go_wp2_with fail
      go_ret
      exact ⟨rfl, hb4⟩
    | true =>
      have HQu := Lib.hid hr
      clear hr
      have HEq : Hid (encT t = encT u ↔ eqT t u = true) := Lib.hid (by
        rw [eqT_iff]
        exact ⟨fun h => enc_inj (okT_fit HQt.out) (okT_fit HQu.out) HIt.out HIu.out h, fun h => by rw [h]⟩)
      go_enter Try.func7, Try.ntmps7
      go_wp2_with fail
      generalize ((w.alloc (.cells #[.int .i64 tag, .int .i64 kind, .int .i64 n, .string ⟨s.toArray⟩, .slice a len cap] 24)).alloc (.cells #[.int .i64 tag2, .int .i64 kind2, .int .i64 n2, .string ⟨s2.toArray⟩, .slice a2 len2 cap2] 24)) = w0 at *
      refine (encode_ok t _ w0 (HN.out.below HBw0.out) HIt.out HQt.out).mono ?_
      rintro e w1 ⟨a1, n1, c1, rfl, hO, hb⟩
      obtain ⟨b1, x1, d1, hv, hby⟩ := hO.bytes
      cases hv
      have HY1 := Lib.hid hby
      have HBw1 := Lib.hid (HBw0.out.trans (hb.mono HBw0.out.size))
      clear hO hby hb
      have q0 := (HBw1.out.cell (p := ⟨w.heap.size + 1, 0, none⟩) lq).trans cq0
      have q1 := (HBw1.out.cell (p := ⟨w.heap.size + 1, 1, none⟩) lq).trans cq1
      have q2 := (HBw1.out.cell (p := ⟨w.heap.size + 1, 2, none⟩) lq).trans cq2
      have q3 := (HBw1.out.cell (p := ⟨w.heap.size + 1, 3, none⟩) lq).trans cq3
      have q4 := (HBw1.out.cell (p := ⟨w.heap.size + 1, 4, none⟩) lq).trans cq4
      go_wp2_with fail
      refine (encode_ok u _ w1 (HM.out.below HBw1.out) HIu.out HQu.out).mono ?_
      rintro e w2 ⟨a2x, n2x, c2x, rfl, hO, hb⟩
      obtain ⟨b2, x2, d2, hv, hby⟩ := hO.bytes
      cases hv
      have HY2 := Lib.hid hby
      have HY12 := Lib.hid (HY1.out.below hb)
      have HBw2 := Lib.hid (HBw1.out.trans (hb.mono HBw1.out.size))
      clear hO hby hb
      clear q0 q1 q2 q3 q4
      have p0 := (HBw2.out.cell (p := ⟨w.heap.size, 0, none⟩) lp).trans cp0
      have p1 := (HBw2.out.cell (p := ⟨w.heap.size, 1, none⟩) lp).trans cp1
      have p2 := (HBw2.out.cell (p := ⟨w.heap.size, 2, none⟩) lp).trans cp2
      have p3 := (HBw2.out.cell (p := ⟨w.heap.size, 3, none⟩) lp).trans cp3
      have p4 := (HBw2.out.cell (p := ⟨w.heap.size, 4, none⟩) lp).trans cp4
      have q0 := (HBw2.out.cell (p := ⟨w.heap.size + 1, 0, none⟩) lq).trans cq0
      have q1 := (HBw2.out.cell (p := ⟨w.heap.size + 1, 1, none⟩) lq).trans cq1
      have q2 := (HBw2.out.cell (p := ⟨w.heap.size + 1, 2, none⟩) lq).trans cq2
      have q3 := (HBw2.out.cell (p := ⟨w.heap.size + 1, 3, none⟩) lq).trans cq3
      have q4 := (HBw2.out.cell (p := ⟨w.heap.size + 1, 4, none⟩) lq).trans cq4
      have lp2 : w.heap.size < w2.heap.size := Nat.lt_of_lt_of_le lp HBw2.out.size
      have lq2 : w.heap.size + 1 < w2.heap.size := Nat.lt_of_lt_of_le lq HBw2.out.size
      have ep0 := box_ext (B := w2.heap.size) p0 lp2
      have eq0 := box_ext (B := w2.heap.size) q0 lq2
      have ep1 := box_ext (B := w2.heap.size) p1 lp2
      have eq1 := box_ext (B := w2.heap.size) q1 lq2
      have ep2 := box_ext (B := w2.heap.size) p2 lp2
      have eq2 := box_ext (B := w2.heap.size) q2 lq2
      have ep3 := box_ext (B := w2.heap.size) p3 lp2
      have eq3 := box_ext (B := w2.heap.size) q3 lq2
      have ep4 := box_ext (B := w2.heap.size) p4 lp2
      have eq4 := box_ext (B := w2.heap.size) q4 lq2
      have HN2 := Lib.hid (HN.out.below HBw2.out)
      have HM2 := Lib.hid (HM.out.below HBw2.out)
      have sv1 : ∀ W : Ext w2.heap.size w2, (convert 25 9 (.slice a1 n1 c1)).run Try.prog W.val = .ok (.string ⟨(encT t).toArray⟩) W.val := fun W => str_of (HY12.out.below W.prop)
      have sv2 : ∀ W : Ext w2.heap.size w2, (convert 25 9 (.slice a2x n2x c2x)).run Try.prog W.val = .ok (.string ⟨(encT u).toArray⟩) W.val := fun W => str_of (HY2.out.below W.prop)
      have r1 : ∀ W : Ext w2.heap.size w2, Calls Try.prog 14 #[.agg #[.int .i64 tag, .int .i64 kind, .int .i64 n, .string ⟨s.toArray⟩, .slice a len cap], .agg #[.int .i64 tag2, .int .i64 kind2, .int .i64 n2, .string ⟨s2.toArray⟩, .slice a2 len2 cap2]] W.val fun e w'' => e = .returned (.bool (eqT t u)) ∧ ∃ W' : Ext w2.heap.size w2, w'' = W'.val := fun W => Calls.ext W (equal_any (depT t) t u _ _ W.val (Nat.le_refl _) (HN2.out.below W.prop) (HM2.out.below W.prop))
      have r2 : ∀ W : Ext w2.heap.size w2, Calls Try.prog 14 #[.agg #[.int .i64 tag, .int .i64 kind, .int .i64 n, .string ⟨s.toArray⟩, .slice a len cap], .agg #[.int .i64 tag, .int .i64 kind, .int .i64 n, .string ⟨s.toArray⟩, .slice a len cap]] W.val fun e w'' => e = .returned (.bool true) ∧ ∃ W' : Ext w2.heap.size w2, w'' = W'.val := fun W => by
        have h := equal_any (depT t) t t _ _ W.val (Nat.le_refl _) (HN2.out.below W.prop) (HN2.out.below W.prop)
        rw [(eqT_iff t t).2 rfl] at h
        exact Calls.ext W h
      have r3 : ∀ W : Ext w2.heap.size w2, Calls Try.prog 12 #[] W.val fun e w'' => e = .returned (.bool true) ∧ ∃ W' : Ext w2.heap.size w2, w'' = W'.val := fun W => Calls.ext W (awake_any W.val)
      by_cases hee : encT t = encT u
      · have hT := HEq.out.1 hee
        rw [hT] at r1
        rw [← hee] at sv2
        generalize encT t = E at *
        clear hee
        go_wp2_with fail
        refine wp_region_ext w2.heap.size w2 (by kernel_rfl) (by kernel_rfl) (Below.refl _ _) ?_
        repeat (first | go_big_quiet_step (first
          | with_reducible exact r1 _
          | with_reducible exact r2 _
          | with_reducible exact r3 _))
        refine wpQuiet_nil ?_
        intro W
        have hb5 : Below w.heap.size w W.val := HBa.out.trans ((HBw2.out.trans (W.prop.mono HBw2.out.size)).mono HBa.out.size)
        generalize W.val = w5 at *
        go_wp2_with fail
        go_ret
        exact ⟨rfl, hb5⟩
      · have hT : eqT t u = false := by
          rw [Bool.eq_false_iff]; exact fun h => hee (HEq.out.2 h)
        rw [hT] at r1
        generalize encT t = E at *
        generalize encT u = F at *
        have hEF : (E == F) = false := by simpa using hee
        go_wp2_with fail
        refine wp_region_ext w2.heap.size w2 (by kernel_rfl) (by kernel_rfl) (Below.refl _ _) ?_
        repeat (first | go_big_quiet_step (first
          | with_reducible exact r1 _
          | with_reducible exact r2 _
          | with_reducible exact r3 _))
        refine wpQuiet_nil ?_
        intro W
        have hb5 : Below w.heap.size w W.val := HBa.out.trans ((HBw2.out.trans (W.prop.mono HBw2.out.size)).mono HBa.out.size)
        generalize W.val = w5 at *
        go_wp2_with fail
        go_ret
        exact ⟨rfl, hb5⟩

theorem codecDistinct_walk {H : Type} {enc : TypeId × Value → H} (W : World) (base : Nat) (args : Array Value) (ds gs : List (DataW H)) (before : List MemPlace)
    (hval : ∀ (j : Nat) t v, Try.f7.params[j]? = some t → args[j]? = some v → Value.okWide Try.prog W .any base t v)
    (hW : DataW.Whole enc Try.prog Try.f7.params.toList Rows.codecDistinctSpec.vars false W args.toList ds gs before)
    (_hsz : (DataW.weightsEach Try.prog (Try.f7.params.toList ++ Rows.codecDistinctSpec.plain.varTypes Try.prog) (ds ++ gs)).all (· ≤ reachBytes) = true) :
    Calls Try.prog 7 args W fun e w' => e = .returned (.bool true) ∧ Below W.heap.size W w' := by
  obtain ⟨p, q, hA, hV, -, -, -⟩ := hW
  obtain ⟨rfl, -⟩ := trodVars_none hV
  rw [Try.params7] at hA hval
  obtain ⟨v0, v1, d0, d1, p0, p1, rfl, rfl, rfl, h0, h1⟩ := trodAll_two hA
  obtain ⟨t, hN, hi⟩ := open_node (hval 0 _ _ rfl rfl) h0
  obtain ⟨u, hM, hj⟩ := open_node (hval 1 _ _ rfl rfl) h1
  exact distinct_calls t u v0 v1 W hN hM hi hj

set_option maxRecDepth 100000 in
theorem codecDistinct_lifted (os : Os) (started : os.Started) (H : Type) (enc : TypeId × Value → H) :
    ReturnsInHanded {} Try.checked os 7 .any (Rows.codecDistinctSpec.pre6 enc Try.prog Try.f7 Rows.codecDistinctRow.domain false) (Rows.codecDistinctSpec.post enc Try.prog Try.f7 false true false false) := by
  refine returnsInHanded_of_change_sized (C := Try.checked) own started (by kernel_rfl) Try.func7
    (ChangeSpec.witness6 (enc := enc) (C := Try.checked) false ⟨#[], #[.agg #[.int .i64 0, .int .i64 0, .int .i64 0, .string ⟨#[]⟩, .slice none 0 0], .agg #[.int .i64 0, .int .i64 0, .int .i64 0, .string ⟨#[]⟩, .slice none 0 0]], []⟩ 8 (by kernel_rfl) (by kernel_rfl) (by kernel_rfl) (by kernel_rfl)) ?_
  intro W base args ds gs before hval hW _ hsz _
  exact law_post rfl (by kernel_rfl) (by kernel_rfl) (fun ds h => match ds, h with | [d0, d1], _ => ⟨rfl, rfl, rfl⟩) hW (codecDistinct_walk W base args ds gs before hval hW hsz)

theorem codecDistinct_over : Rows.codecDistinctRow.holds Try.pinned (OpenSpec.ofChange Rows.codecDistinctSpec) :=
  OpenClaim.holds_of_wide 7 Try.f7 rfl rfl rfl rfl rfl rfl rfl ⟨rfl, rfl, rfl, rfl, rfl⟩ rfl rfl rfl rfl rfl (by kernel_rfl) Try.func7 (by kernel_rfl)
    (of_decide_eq_true (by kernel_rfl)) (by unfold Func.isWrapper; first | (rw [if_pos (by decide +kernel)]; kernel_rfl) | (rw [if_neg (by decide +kernel)]; exact ⟨rfl, rfl⟩))
    (fun os started H enc _ => codecDistinct_lifted os started H enc)

theorem codecDistinct_proved : Rows.CodecDistinctSaid := codecDistinct_over

end Go.Proofs.Ytcgeipofpdckmaa
