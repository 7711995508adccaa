/- The reference of the codec: what varint and fits return. -/
import Derived.Test.YthbfmioikbphgaaDoorCoJ
namespace Go.Proofs.YthbfmioikbphgaaDoor
set_option maxRecDepth 100000
open Go.RowKit

set_option maxHeartbeats 4000000 in
theorem rvarint_any (B : Nat) (v : Value) (xs : List UInt8) (x : Nat) (w : World) (hO : Owns w B 5 v (bvs xs)) (hx : x < 18446744073709551616) (hl : xs.length ≤ 2097152) (hB : B ≤ w.heap.size) :
    Calls Tryd.prog 64 #[v, .int .u64 (x : Int)] w fun e w' => ∃ v', e = .returned v' ∧ Owns w' B 5 v' (bvs (xs ++ vEnc x)) ∧ Grew w w' v v' := by
  have HO := Lib.hid hO
  have hvl : (vEnc x).length ≤ 10 := by
    rw [vEnc_len]; have := blen_le64 hx; omega
  clear hO
  go_enter Tryd.func64, Tryd.ntmps64
  go_wp2_with fail
  go_loopw [0, 1] (fun u y wr => ∃ (m : Nat) (ys : List UInt8), y = .int .u64 (m : Int) ∧ m < 18446744073709551616 ∧ ys.length ≤ 2097162 ∧ Hid (xs ++ vEnc x = ys ++ vEnc m) ∧ Hid (Owns wr B 5 u (bvs ys)) ∧ Hid (Grew w wr v u)) (fun _ y _ => (intOf y).toNat)
  case atStart => exact ⟨x, xs, rfl, hx, by omega, Lib.hid rfl, HO, Lib.hid (Grew.refl _ _)⟩
  case round =>
    obtain ⟨m, ys, rfl, hm, hys, HE, HOk, HG⟩ := hrel
    have hsz := HG.out.1.size
    have HN := Lib.hid (show ((bvs ys).length + 1) * 1 ≤ 140737488355328 ∧ (bvs ys).length + 1 ≤ maxLen by rw [bvs_length]; simp only [maxLen]; omega)
    by_cases hlt : m < 128
    · have HV := Lib.hid (vEnc_small hlt)
      have hd : decide (128 ≤ (m : Int)) = false := by simp; omega
      have hw8 : IntKind.u8.wrap (m : Int) = (m : Int) := by rw [IntKind.wrap_u8]; omega
      go_wp2_with (at_builtin; go_must (refine wpList_app1 rfl _ _ 22 rfl B 5 (.int .u8 0) 1 Tryd.underlying22 infoByte rfl u0 (bvs ys) rfl (.int .u8 (m : Int)) rfl HOk.out rfl HN.out.1 HN.out.2 (by omega) fun v' w' h1 h2 => ?_))
      have HF := Lib.hid (show Owns w' B 5 v' (bvs (xs ++ vEnc x)) by
        rw [HE.out, HV.out, bvs_append]
        have e1 : bvs [UInt8.ofNat m] = [.int .u8 (m : Int)] := by simp [bvs, bv_nat (show m < 256 by omega)]
        rw [e1]; exact h1)
      have HGn := Lib.hid (HG.out.trans h2)
      clear h1 h2
      go_wp2_with fail
      go_ret
      exact ⟨v', rfl, HF.out, HGn.out⟩
    · have HV := Lib.hid (vEnc_big hlt)
      have hd : decide (128 ≤ (m : Int)) = true := by simp; omega
      have HC8 := Lib.hid (show ((m % 128 + 128 : Nat) : Int) = (m : Int) % 128 + 128 by omega)
      have HDv := Lib.hid (show (m : Int) / 128 = ((m / 128 : Nat) : Int) by omega)
      go_wp2_with (at_builtin; go_must (refine wpList_app1 rfl _ _ 22 rfl B 5 (.int .u8 0) 1 Tryd.underlying22 infoByte rfl u0 (bvs ys) rfl (.int .u8 ((m : Int) % 128 + 128)) rfl HOk.out rfl HN.out.1 HN.out.2 (by omega) fun v' w' h1 h2 => ?_))
      have HF := Lib.hid (show Owns w' B 5 v' (bvs (ys ++ [UInt8.ofNat (m % 128 + 128)])) by
        rw [bvs_append]
        have e1 : bvs [UInt8.ofNat (m % 128 + 128)] = [.int .u8 ((m : Int) % 128 + 128)] := by rw [← HC8.out]; simp only [bvs, List.map_cons, List.map_nil, bv_nat (show m % 128 + 128 < 256 by omega)]
        rw [e1]; exact h1)
      have HGn := Lib.hid (HG.out.trans h2)
      have HEn := Lib.hid (show xs ++ vEnc x = (ys ++ [UInt8.ofNat (m % 128 + 128)]) ++ vEnc (m / 128) by rw [HE.out, HV.out]; simp)
      have hyl : (ys ++ [UInt8.ofNat (m % 128 + 128)]).length ≤ 2097162 := by
        have h3 := congrArg List.length HEn.out
        have h4 : 1 ≤ (vEnc (m / 128)).length := by rw [vEnc_len]; omega
        rw [List.length_append, List.length_append] at h3
        omega
      clear h1 h2
      generalize hys' : ys ++ [UInt8.ofNat (m % 128 + 128)] = ys' at *
      clear hys'
      go_wp2_with fail
      go_roundw
      case rel => exact ⟨m / 128, ys', by first | rfl | (rw [HDv.out]) | (rw [← HDv.out]; rfl), by omega, hyl, HEn, HF, HGn⟩
      case measure => simp [intOf]; omega

theorem fit_no {lv : Nat} {tag kind n : Int} {s : List UInt8} {kids : List NodeT} (h : ¬ (lv ≤ 8 ∧ 0 ≤ tag ∧ tag ≤ 9999999 ∧ s.length ≤ 2000 ∧ kids.length ≤ 1024 ∧ (kind = 1 ∨ n = 0) ∧ (kind = 2 ∨ s = []) ∧ (kind = 3 ∨ kids = []) ∧ 1 ≤ kind ∧ kind ≤ 3 ∧ fitL (lv + 1) kids = true)) : fitT lv (.mk tag kind n s kids) = false := by
  rw [← fitT_iff] at h; simpa using h
theorem fit_kids {lv : Nat} {tag kind n : Int} {s : List UInt8} {kids : List NodeT} (h : lv ≤ 8 ∧ 0 ≤ tag ∧ tag ≤ 9999999 ∧ s.length ≤ 2000 ∧ kids.length ≤ 1024 ∧ (kind = 1 ∨ n = 0) ∧ (kind = 2 ∨ s = []) ∧ (kind = 3 ∨ kids = []) ∧ 1 ≤ kind ∧ kind ≤ 3) : fitT lv (.mk tag kind n s kids) = fitL (lv + 1) kids := by
  rw [Bool.eq_iff_iff, fitT_iff]
  exact ⟨fun h => h.2.2.2.2.2.2.2.2.2.2, fun h2 => ⟨h.1, h.2.1, h.2.2.1, h.2.2.2.1, h.2.2.2.2.1, h.2.2.2.2.2.1, h.2.2.2.2.2.2.1, h.2.2.2.2.2.2.2.1, h.2.2.2.2.2.2.2.2.1, h.2.2.2.2.2.2.2.2.2, h2⟩⟩

theorem fitL_drop {lv : Nat} {ts : List NodeT} {k : Nat} {t : NodeT} (ht : ts[k]? = some t) : fitL lv (ts.drop k) = (fitT lv t && fitL lv (ts.drop (k + 1))) := by
  have h1 : k < ts.length := (List.getElem?_eq_some_iff.1 ht).1
  rw [List.drop_eq_getElem_cons h1]
  rw [List.getElem?_eq_getElem h1] at ht
  rw [Option.some.inj ht]
  simp only [fitL]
set_option maxHeartbeats 16000000 in
theorem rfits_any : ∀ (f lv : Nat) (t : NodeT) (v : Value) (w : World), lv + f = 9 → NodeIn w t v → i64T t →
    Calls Tryd.prog 49 #[v, .int .i64 (lv : Int)] w fun e w' => e = .returned (.bool (fitT lv t)) ∧ Below w.heap.size w w' := by
  intro f
  induction f with
  | zero =>
    intro lv t v w hlv ht hi
    obtain ⟨tag, kind, n, s, a, len, cap, kids, rfl, rfl, hs, hk⟩ := ht.form
    have hb0 : Below w.heap.size w (w.alloc (.cells #[.int .i64 tag, .int .i64 kind, .int .i64 n, .string ⟨s.toArray⟩, .slice a len cap] 25)) := (Below.refl _ _).alloc (Nat.le_refl _) _
    have HN := Lib.hid (fit_no (lv := lv) (tag := tag) (kind := kind) (n := n) (s := s) (kids := kids) (fun h => by omega))
    have d0 : decide (8 < (lv : Int)) = true := by simp; omega
    clear ht hi hk
    go_enter Tryd.func49, Tryd.ntmps49
    go_wp2_with fail
    go_ret
    exact ⟨by rw [HN.out]; rfl, hb0⟩
  | succ f ih =>
    intro lv t v w hlv ht hi
    obtain ⟨tag, kind, n, s, a, len, cap, kids, rfl, rfl, hs, hk⟩ := ht.form
    have hb0 : Below w.heap.size w (w.alloc (.cells #[.int .i64 tag, .int .i64 kind, .int .i64 n, .string ⟨s.toArray⟩, .slice a len cap] 25)) := (Below.refl _ _).alloc (Nat.le_refl _) _
    have d0 : decide (8 < (lv : Int)) = false := by simp; omega
    have HK := Lib.hid hk
    simp only [i64T] at hi
    have HI := Lib.hid hi
    have hkl : kids.length = len := hk.1
    have hlc : len ≤ maxLen := Nat.le_trans hk.2.1 hk.2.2.1
    simp only [maxLen] at hs hlc
    clear ht hi hk
    by_cases g1 : tag < 0
    · have HN := Lib.hid (fit_no (lv := lv) (tag := tag) (kind := kind) (n := n) (s := s) (kids := kids) (fun h => by omega))
      have d1 : decide (tag < 0) = true := by simp; omega
      go_enter Tryd.func49, Tryd.ntmps49
      go_wp2_with fail
      go_ret
      exact ⟨by rw [HN.out]; rfl, hb0⟩
    have d1 : decide (tag < 0) = false := by simp; omega
    by_cases g2 : 9999999 < tag
    · have HN := Lib.hid (fit_no (lv := lv) (tag := tag) (kind := kind) (n := n) (s := s) (kids := kids) (fun h => by omega))
      have d2 : decide (9999999 < tag) = true := by simp; omega
      go_enter Tryd.func49, Tryd.ntmps49
      go_wp2_with fail
      go_ret
      exact ⟨by rw [HN.out]; rfl, hb0⟩
    have d2 : decide (9999999 < tag) = false := by simp; omega
    by_cases g3 : 2000 < s.length
    · have HN := Lib.hid (fit_no (lv := lv) (tag := tag) (kind := kind) (n := n) (s := s) (kids := kids) (fun h => by omega))
      have d3 : decide (2000 < (s.length : Int)) = true := by simp; omega
      go_enter Tryd.func49, Tryd.ntmps49
      go_wp2_with fail
      go_ret
      exact ⟨by rw [HN.out]; rfl, hb0⟩
    have d3 : decide (2000 < (s.length : Int)) = false := by simp; omega
    by_cases g4 : 1024 < len
    · have HN := Lib.hid (fit_no (lv := lv) (tag := tag) (kind := kind) (n := n) (s := s) (kids := kids) (fun h => by omega))
      have d4 : decide (1024 < (len : Int)) = true := by simp; omega
      go_enter Tryd.func49, Tryd.ntmps49
      go_wp2_with fail
      go_ret
      exact ⟨by rw [HN.out]; rfl, hb0⟩
    have d4 : decide (1024 < (len : Int)) = false := by simp; omega
    by_cases k1 : kind = 1
    · subst k1
      by_cases hs0 : ¬ s = []
      · have HN := Lib.hid (fit_no (lv := lv) (tag := tag) (kind := 1) (n := n) (s := s) (kids := kids) (fun h => hs0 (h.2.2.2.2.2.2.1.resolve_left (by omega))))
        have hp : 0 < s.length := List.length_pos_iff.2 hs0
        go_enter Tryd.func49, Tryd.ntmps49
        go_wp2_with fail
        go_ret
        exact ⟨by rw [HN.out]; rfl, hb0⟩
      replace hs0 : s = [] := Classical.not_not.1 hs0
      subst hs0
      by_cases hl0 : 0 < len
      · have HN := Lib.hid (fit_no (lv := lv) (tag := tag) (kind := 1) (n := n) (s := []) (kids := kids) (fun h => by have := h.2.2.2.2.2.2.2.1.resolve_left (by omega); rw [this] at hkl; simp at hkl; omega))
        go_enter Tryd.func49, Tryd.ntmps49
        go_wp2_with fail
        go_ret
        exact ⟨by rw [HN.out]; rfl, hb0⟩
      obtain rfl : len = 0 := by omega
      obtain rfl : kids = [] := List.eq_nil_of_length_eq_zero hkl
      have HF := Lib.hid (show fitT lv (.mk tag 1 n [] []) = fitL (lv + 1) ([].drop 0) from fit_kids (by simp; omega))
      generalize hTT : NodeT.mk tag 1 n [] [] = TT at *
      have hbx : w.heap.size < (w.alloc (.cells #[.int .i64 tag, .int .i64 1, .int .i64 n, .string ⟨#[]⟩, .slice a 0 cap] 25)).heap.size := by simp
      have hc4 : (w.alloc (.cells #[.int .i64 tag, .int .i64 1, .int .i64 n, .string ⟨#[]⟩, .slice a 0 cap] 25)).cell? ⟨w.heap.size, 4, none⟩ = some (.slice a 0 cap) := by go_simp
      go_enter Tryd.func49, Tryd.ntmps49
      go_wp2_with fail
      generalize w.alloc (.cells #[.int .i64 tag, .int .i64 1, .int .i64 n, .string ⟨#[]⟩, .slice a 0 cap] 25) = w0 at *
      go_loopw [5] (fun i wr => ∃ k : Nat, k ≤ 0 ∧ i = .int .i64 k ∧ Below w0.heap.size w0 wr ∧ Hid (fitT lv TT = fitL (lv + 1) (([] : List NodeT).drop k))) (fun i _ => 0 - (intOf i).toNat)
      case atStart => exact ⟨0, by omega, rfl, Below.refl _ _, HF⟩
      case round =>
        obtain ⟨k, hk, rfl, hbr, HD⟩ := hrel
        have x4 := (hbr.cell (p := ⟨w.heap.size, 4, none⟩) hbx).trans hc4
        obtain rfl : k = 0 := by omega
        have HY := Lib.hid (show fitT lv TT = true by rw [HD.out]; rfl)
        go_wp2_with fail
        go_ret
        exact ⟨by rw [HY.out]; rfl, hb0.trans (hbr.mono hb0.size)⟩
    by_cases k2 : kind = 2
    · subst k2
      by_cases hn0 : ¬ n = 0
      · have HN := Lib.hid (fit_no (lv := lv) (tag := tag) (kind := 2) (n := n) (s := s) (kids := kids) (fun h => hn0 (h.2.2.2.2.2.1.resolve_left (by omega))))
        go_enter Tryd.func49, Tryd.ntmps49
        go_wp2_with fail
        go_ret
        exact ⟨by rw [HN.out]; rfl, hb0⟩
      replace hn0 : n = 0 := Classical.not_not.1 hn0
      subst hn0
      by_cases hl0 : 0 < len
      · have HN := Lib.hid (fit_no (lv := lv) (tag := tag) (kind := 2) (n := 0) (s := s) (kids := kids) (fun h => by have := h.2.2.2.2.2.2.2.1.resolve_left (by omega); rw [this] at hkl; simp at hkl; omega))
        go_enter Tryd.func49, Tryd.ntmps49
        go_wp2_with fail
        go_ret
        exact ⟨by rw [HN.out]; rfl, hb0⟩
      obtain rfl : len = 0 := by omega
      obtain rfl : kids = [] := List.eq_nil_of_length_eq_zero hkl
      have HF := Lib.hid (show fitT lv (.mk tag 2 0 s []) = fitL (lv + 1) ([].drop 0) from fit_kids (by simp; omega))
      generalize hTT : NodeT.mk tag 2 0 s [] = TT at *
      have hbx : w.heap.size < (w.alloc (.cells #[.int .i64 tag, .int .i64 2, .int .i64 0, .string ⟨s.toArray⟩, .slice a 0 cap] 25)).heap.size := by simp
      have hc4 : (w.alloc (.cells #[.int .i64 tag, .int .i64 2, .int .i64 0, .string ⟨s.toArray⟩, .slice a 0 cap] 25)).cell? ⟨w.heap.size, 4, none⟩ = some (.slice a 0 cap) := by go_simp
      go_enter Tryd.func49, Tryd.ntmps49
      go_wp2_with fail
      generalize w.alloc (.cells #[.int .i64 tag, .int .i64 2, .int .i64 0, .string ⟨s.toArray⟩, .slice a 0 cap] 25) = w0 at *
      go_loopw [5] (fun i wr => ∃ k : Nat, k ≤ 0 ∧ i = .int .i64 k ∧ Below w0.heap.size w0 wr ∧ Hid (fitT lv TT = fitL (lv + 1) (([] : List NodeT).drop k))) (fun i _ => 0 - (intOf i).toNat)
      case atStart => exact ⟨0, by omega, rfl, Below.refl _ _, HF⟩
      case round =>
        obtain ⟨k, hk, rfl, hbr, HD⟩ := hrel
        have x4 := (hbr.cell (p := ⟨w.heap.size, 4, none⟩) hbx).trans hc4
        obtain rfl : k = 0 := by omega
        have HY := Lib.hid (show fitT lv TT = true by rw [HD.out]; rfl)
        go_wp2_with fail
        go_ret
        exact ⟨by rw [HY.out]; rfl, hb0.trans (hbr.mono hb0.size)⟩
    by_cases k3 : kind = 3
    · subst k3
      by_cases hn0 : ¬ n = 0
      · have HN := Lib.hid (fit_no (lv := lv) (tag := tag) (kind := 3) (n := n) (s := s) (kids := kids) (fun h => hn0 (h.2.2.2.2.2.1.resolve_left (by omega))))
        go_enter Tryd.func49, Tryd.ntmps49
        go_wp2_with fail
        go_ret
        exact ⟨by rw [HN.out]; rfl, hb0⟩
      replace hn0 : n = 0 := Classical.not_not.1 hn0
      subst hn0
      by_cases hs0 : ¬ s = []
      · have HN := Lib.hid (fit_no (lv := lv) (tag := tag) (kind := 3) (n := 0) (s := s) (kids := kids) (fun h => hs0 (h.2.2.2.2.2.2.1.resolve_left (by omega))))
        have hp : 0 < s.length := List.length_pos_iff.2 hs0
        go_enter Tryd.func49, Tryd.ntmps49
        go_wp2_with fail
        go_ret
        exact ⟨by rw [HN.out]; rfl, hb0⟩
      replace hs0 : s = [] := Classical.not_not.1 hs0
      subst hs0
      have HF := Lib.hid (show fitT lv (.mk tag 3 0 [] kids) = fitL (lv + 1) (kids.drop 0) from fit_kids (by simp; omega))
      generalize hTT : NodeT.mk tag 3 0 [] kids = TT at *
      have hbx : w.heap.size < (w.alloc (.cells #[.int .i64 tag, .int .i64 3, .int .i64 0, .string ⟨#[]⟩, .slice a len cap] 25)).heap.size := by simp
      have hc4 : (w.alloc (.cells #[.int .i64 tag, .int .i64 3, .int .i64 0, .string ⟨#[]⟩, .slice a len cap] 25)).cell? ⟨w.heap.size, 4, none⟩ = some (.slice a len cap) := by go_simp
      go_enter Tryd.func49, Tryd.ntmps49
      go_wp2_with fail
      generalize w.alloc (.cells #[.int .i64 tag, .int .i64 3, .int .i64 0, .string ⟨#[]⟩, .slice a len cap] 25) = w0 at *
      go_loopw [5] (fun i wr => ∃ k : Nat, k ≤ len ∧ i = .int .i64 k ∧ Below w0.heap.size w0 wr ∧ Hid (fitT lv TT = fitL (lv + 1) (kids.drop k))) (fun i _ => len - (intOf i).toNat)
      case atStart => exact ⟨0, by omega, rfl, Below.refl _ _, HF⟩
      case round =>
        obtain ⟨k, hk, rfl, hbr, HD⟩ := hrel
        have x4 := (hbr.cell (p := ⟨w.heap.size, 4, none⟩) hbx).trans hc4
        by_cases hlt : k < len
        · obtain ⟨b, off, rfl, tg, kd, n', s', a', l', c', y0, y1, y2, y3, y4, t, ht, hN⟩ := (HK.out.below (hb0.trans (hbr.mono hb0.size))).form hlt
          have HNd := Lib.hid hN
          have HI' := Lib.hid (i64L_at HI.out.2.2.2 ht)
          have HD2 := Lib.hid (show fitT lv TT = (fitT (lv + 1) t && fitL (lv + 1) (kids.drop (k + 1))) by rw [HD.out, fitL_drop ht])
          clear hN ht HD
          have HC : ∀ W v, NodeIn W t v → Calls Tryd.prog 49 #[v, .int .i64 ((lv : Int) + 1)] W fun e w' => e = .returned (.bool (fitT (lv + 1) t)) ∧ Below W.heap.size W w' := fun W v h => by
            have := ih (lv + 1) t v W (by omega) h HI'.out
            rw [show (lv : Int) + 1 = ((lv + 1 : Nat) : Int) by omega]; exact this
          cases hq : fitT (lv + 1) t with
          | true =>
            rw [hq] at HC
            rw [hq, Bool.true_and] at HD2
            go_wp2_with fail
            refine (HC _ _ HNd.out).mono ?_
            rintro e w1 ⟨rfl, hb1⟩
            have hb2 := hbr.trans (hb1.mono hbr.size)
            clear hb1 x4
            have x4 := (hb2.cell (p := ⟨w.heap.size, 4, none⟩) hbx).trans hc4
            go_wp2_with fail
            go_roundw
            case rel => exact ⟨k + 1, by omega, by go_num, hb2, HD2⟩
            case measure => simp [intOf]; omega
          | false =>
            rw [hq] at HC
            rw [hq, Bool.false_and] at HD2
            go_wp2_with fail
            refine (HC _ _ HNd.out).mono ?_
            rintro e w1 ⟨rfl, hb1⟩
            have hb2 := hb0.trans ((hbr.trans (hb1.mono hbr.size)).mono hb0.size)
            clear hb1
            go_wp2_with fail
            go_ret
            exact ⟨by rw [HD2.out]; rfl, hb2⟩
        · obtain rfl : k = len := by omega
          have HY := Lib.hid (show fitT lv TT = true by rw [HD.out, List.drop_of_length_le (by omega)]; rfl)
          go_wp2_with fail
          go_ret
          exact ⟨by rw [HY.out]; rfl, hb0.trans (hbr.mono hb0.size)⟩
    have HN := Lib.hid (fit_no (lv := lv) (tag := tag) (kind := kind) (n := n) (s := s) (kids := kids) (fun h => by omega))
    by_cases hn0 : n = 0
    rotate_left
    ·
      go_enter Tryd.func49, Tryd.ntmps49
      go_wp2_with fail
      go_ret
      exact ⟨by rw [HN.out]; rfl, hb0⟩
    subst hn0
    by_cases hs0 : s = []
    rotate_left
    · have hp : 0 < s.length := List.length_pos_iff.2 hs0
      go_enter Tryd.func49, Tryd.ntmps49
      go_wp2_with fail
      go_ret
      exact ⟨by rw [HN.out]; rfl, hb0⟩
    subst hs0
    by_cases hl0 : 0 < len
    ·
      go_enter Tryd.func49, Tryd.ntmps49
      go_wp2_with fail
      go_ret
      exact ⟨by rw [HN.out]; rfl, hb0⟩
    obtain rfl : len = 0 := by omega
    by_cases hk1 : kind < 1
    · have e1 : decide (kind < 1) = true := by simp; omega
      go_enter Tryd.func49, Tryd.ntmps49
      go_wp2_with fail
      go_ret
      exact ⟨by rw [HN.out]; rfl, hb0⟩
    have e1 : decide (kind < 1) = false := by simp; omega
    have e2 : decide (3 < kind) = true := by simp; omega
    go_enter Tryd.func49, Tryd.ntmps49
    go_wp2_with fail
    go_ret
    exact ⟨by rw [HN.out]; rfl, hb0⟩
end Go.Proofs.YthbfmioikbphgaaDoor
