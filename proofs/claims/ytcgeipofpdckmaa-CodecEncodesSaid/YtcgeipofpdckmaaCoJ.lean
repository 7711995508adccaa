/- The codec: what Equal returns. -/
import Derived.Test.YtcgeipofpdckmaaCoI
namespace Go.Proofs.Ytcgeipofpdckmaa
set_option maxRecDepth 100000
open Go.RowKit

theorem Kids.form {w : World} {a : Option Addr} {len cap : Nat} {ts : List NodeT} (h : Kids w a len cap ts) {i : Nat} (hi : i < len) :
    ∃ b off, a = some ⟨b, off, none⟩ ∧ ∃ tag kind n s a' len' cap', w.cell? ⟨b, off + i * 5, none⟩ = some (.int .i64 tag) ∧ w.cell? ⟨b, off + i * 5 + 1, none⟩ = some (.int .i64 kind) ∧ w.cell? ⟨b, off + i * 5 + 2, none⟩ = some (.int .i64 n) ∧ w.cell? ⟨b, off + i * 5 + 3, none⟩ = some (.string ⟨(s : List UInt8).toArray⟩) ∧ w.cell? ⟨b, off + i * 5 + 4, none⟩ = some (.slice a' len' cap') ∧ ∃ t, ts[i]? = some t ∧ NodeIn w t (.agg #[.int .i64 tag, .int .i64 kind, .int .i64 n, .string ⟨s.toArray⟩, .slice a' len' cap']) := by
  obtain ⟨b, off, rfl, -, tag, kind, n, s, a', len', cap', kids, ht, c0, c1, c2, c3, c4, hs, hk⟩ := h.at hi
  exact ⟨b, off, rfl, tag, kind, n, s, a', len', cap', c0, c1, c2, c3, c4, _, ht, nodeIn_mk.2 ⟨a', len', cap', rfl, hs, hk⟩⟩
theorem eqL_len {ts us : List NodeT} (h : ts.length ≠ us.length) : eqL ts us = false := by
  rw [Bool.eq_false_iff]
  intro he
  rw [eqL_iff] at he
  exact h (by rw [he])
theorem eqL_drop {ts us : List NodeT} {k : Nat} {t u : NodeT} (ht : ts[k]? = some t) (hu : us[k]? = some u) : eqL (ts.drop k) (us.drop k) = (eqT t u && eqL (ts.drop (k + 1)) (us.drop (k + 1))) := by
  have h1 : k < ts.length := (List.getElem?_eq_some_iff.1 ht).1
  have h2 : k < us.length := (List.getElem?_eq_some_iff.1 hu).1
  rw [List.drop_eq_getElem_cons h1, List.drop_eq_getElem_cons h2]
  rw [List.getElem?_eq_getElem h1] at ht
  rw [List.getElem?_eq_getElem h2] at hu
  rw [Option.some.inj ht, Option.some.inj hu]
  simp only [eqL]

set_option maxHeartbeats 4000000 in
theorem eqfunc_any (ts us : List NodeT) (H : ∀ t, t ∈ ts → ∀ (u : NodeT) (v1 v2 : Value) (W : World), NodeIn W t v1 → NodeIn W u v2 → Calls Try.prog 14 #[v1, v2] W fun e w' => e = .returned (.bool (eqT t u)) ∧ Below W.heap.size W w')
    (a b : Option Addr) (la ca lb cb : Nat) (w : World) (hA : Kids w a la ca ts) (hB : Kids w b lb cb us) :
    Calls Try.prog 25 #[.slice a la ca, .slice b lb cb, .func (.func 14) #[] #[]] w fun e w' => e = .returned (.bool (eqL ts us)) ∧ Below w.heap.size w w' := by
  have HA := Lib.hid hA
  have HB := Lib.hid hB
  have hla : ts.length = la := hA.1
  have hlb : us.length = lb := hB.1
  have hlm : la ≤ 9223372036854775807 := by have := hA.2.1; have := hA.2.2.1; simp only [maxLen] at this; omega
  clear hA hB
  by_cases hl : la = lb
  rotate_left
  · have HE := Lib.hid (eqL_len (ts := ts) (us := us) (by omega))
    have d0 : ((la : Int) == (lb : Int)) = false := by simp; omega
    go_enter Try.func25, Try.ntmps25
    go_wp2_with fail
    go_ret
    exact ⟨by rw [HE.out]; rfl, Below.refl _ _⟩
  subst hl
  go_enter Try.func25, Try.ntmps25
  go_wp2_with fail
  go_loopw [17] (fun i wr => ∃ k : Nat, k ≤ la ∧ i = .int .i64 k ∧ Below w.heap.size w wr ∧ Hid (eqL ts us = eqL (ts.drop k) (us.drop k))) (fun i _ => la - (intOf i).toNat)
  case atStart => exact ⟨0, by omega, rfl, Below.refl _ _, Lib.hid rfl⟩
  case round =>
    obtain ⟨k, hk, rfl, hb, HD⟩ := hrel
    by_cases hlt : k < la
    · obtain ⟨b1, o1, rfl, tg, kd, n, s, a', l', c', x0, x1, x2, x3, x4, t, ht, hN1⟩ := (HA.out.below hb).form hlt
      obtain ⟨b2, o2, rfl, tg2, kd2, n2, s2, a2, l2, c2, y0, y1, y2, y3, y4, u, hu, hN2⟩ := (HB.out.below hb).form hlt
      have HN1 := Lib.hid hN1
      have HN2 := Lib.hid hN2
      have hmem : t ∈ ts := List.mem_of_getElem? ht
      have HD2 := Lib.hid (show eqL ts us = (eqT t u && eqL (ts.drop (k + 1)) (us.drop (k + 1))) by rw [HD.out, eqL_drop ht hu])
      clear hN1 hN2 HD ht hu
      have hz0 : b1 < wr.heap.size := by
        rcases Nat.lt_or_ge b1 wr.heap.size with h | h
        · exact h
        · simp [World.cell?, Array.getElem?_eq_none h] at x0
      have hz1 : b2 < wr.heap.size := by
        rcases Nat.lt_or_ge b2 wr.heap.size with h | h
        · exact h
        · simp [World.cell?, Array.getElem?_eq_none h] at y0
      cases hq : eqT t u with
      | true =>
        have HC : ∀ W v1 v2, NodeIn W t v1 → NodeIn W u v2 → Calls Try.prog 14 #[v1, v2] W fun e w' => e = .returned (.bool true) ∧ Below W.heap.size W w' := fun W v1 v2 h1 h2 => by
          have := H t hmem u v1 v2 W h1 h2
          rw [hq] at this; exact this
        rw [hq, Bool.true_and] at HD2
        have HD3 := Lib.hid HD2.out
        clear HD2
        go_wp2_with fail
        have hba : Below wr.heap.size wr ((wr.alloc (.cells #[.int .i64 tg, .int .i64 kd, .int .i64 n, .string ⟨s.toArray⟩, .slice a' l' c'] 24)).alloc (.cells #[.int .i64 tg2, .int .i64 kd2, .int .i64 n2, .string ⟨s2.toArray⟩, .slice a2 l2 c2] 24)) := ((Below.refl _ _).alloc (Nat.le_refl _) _).alloc (by simp) _
        refine (HC _ _ _ (HN1.out.below hba) (HN2.out.below hba)).mono ?_
        rintro e w1 ⟨rfl, hb1⟩
        have hb2 : Below w.heap.size w w1 := hb.trans ((hba.trans (hb1.mono hba.size)).mono hb.size)
        clear hba hb1
        go_wp2_with fail
        go_roundw
        case rel => exact ⟨k + 1, by omega, by go_num, hb2, HD3⟩
        case measure => simp [intOf]; omega
      | false =>
        have HC : ∀ W v1 v2, NodeIn W t v1 → NodeIn W u v2 → Calls Try.prog 14 #[v1, v2] W fun e w' => e = .returned (.bool false) ∧ Below W.heap.size W w' := fun W v1 v2 h1 h2 => by
          have := H t hmem u v1 v2 W h1 h2
          rw [hq] at this; exact this
        rw [hq, Bool.false_and] at HD2
        have HD3 := Lib.hid HD2.out
        clear HD2
        go_wp2_with fail
        have hba : Below wr.heap.size wr ((wr.alloc (.cells #[.int .i64 tg, .int .i64 kd, .int .i64 n, .string ⟨s.toArray⟩, .slice a' l' c'] 24)).alloc (.cells #[.int .i64 tg2, .int .i64 kd2, .int .i64 n2, .string ⟨s2.toArray⟩, .slice a2 l2 c2] 24)) := ((Below.refl _ _).alloc (Nat.le_refl _) _).alloc (by simp) _
        refine (HC _ _ _ (HN1.out.below hba) (HN2.out.below hba)).mono ?_
        rintro e w1 ⟨rfl, hb1⟩
        have hb2 : Below w.heap.size w w1 := hb.trans ((hba.trans (hb1.mono hba.size)).mono hb.size)
        clear hba hb1
        go_wp2_with fail
        go_ret
        exact ⟨by rw [HD3.out]; rfl, hb2⟩
    · obtain rfl : k = la := by omega
      have HE := Lib.hid (show eqL ts us = true by rw [HD.out, List.drop_of_length_le (by omega), List.drop_of_length_le (by omega)]; rfl)
      go_wp2_with fail
      go_ret
      exact ⟨by rw [HE.out]; rfl, hb⟩

set_option maxHeartbeats 8000000 in
theorem equal_any : ∀ (d : Nat) (t u : NodeT) (v1 v2 : Value) (w : World), depT t ≤ d → NodeIn w t v1 → NodeIn w u v2 →
    Calls Try.prog 14 #[v1, v2] w fun e w' => e = .returned (.bool (eqT t u)) ∧ Below w.heap.size w w' := by
  intro d
  induction d with
  | zero => intro t u v1 v2 w hd; obtain ⟨tag, kind, n, s, kids⟩ := t; simp [depT] at hd
  | succ d ih =>
    intro t u v1 v2 w hd hN1 hN2
    obtain ⟨tag, kind, n, s, a, len, cap, kids, rfl, rfl, hs, hk⟩ := hN1.form
    obtain ⟨tag2, kind2, n2, s2, a2, len2, cap2, kids2, rfl, rfl, hs2, hk2⟩ := hN2.form
    have hb0 : Below w.heap.size w ((w.alloc (.cells #[.int .i64 tag, .int .i64 kind, .int .i64 n, .string ⟨s.toArray⟩, .slice a len cap] 24)).alloc (.cells #[.int .i64 tag2, .int .i64 kind2, .int .i64 n2, .string ⟨s2.toArray⟩, .slice a2 len2 cap2] 24)) := ((Below.refl _ _).alloc (Nat.le_refl _) _).alloc (by simp) _
    have HK1 := Lib.hid hk
    have HK2 := Lib.hid hk2
    have HH : ∀ t, t ∈ kids → ∀ (u : NodeT) (v1 v2 : Value) (W : World), NodeIn W t v1 → NodeIn W u v2 → Calls Try.prog 14 #[v1, v2] W fun e w' => e = .returned (.bool (eqT t u)) ∧ Below W.heap.size W w' := fun t ht u v1 v2 W h1 h2 => by
      refine ih t u v1 v2 W ?_ h1 h2
      obtain ⟨i, hi, rfl⟩ := List.getElem_of_mem ht
      have := depL_mem hi
      simp only [depT] at hd
      omega
    clear hN1 hN2 hk hk2 ih hd
    have he : eqT (.mk tag kind n s kids) (.mk tag2 kind2 n2 s2 kids2) = (tag == tag2 && kind == kind2 && n == n2 && s == s2 && eqL kids kids2) := by rw [eqT]
    by_cases g1 : tag = tag2
    rotate_left
    · have HE := Lib.hid (show eqT (.mk tag kind n s kids) (.mk tag2 kind2 n2 s2 kids2) = false by rw [he]; simp [g1])
      clear he
      go_enter Try.func14, Try.ntmps14
      go_wp2_with fail
      go_ret
      exact ⟨by rw [HE.out]; rfl, hb0⟩
    subst g1
    by_cases g2 : kind = kind2
    rotate_left
    · have HE := Lib.hid (show eqT (.mk tag kind n s kids) (.mk tag kind2 n2 s2 kids2) = false by rw [he]; simp [g2])
      clear he
      go_enter Try.func14, Try.ntmps14
      go_wp2_with fail
      go_ret
      exact ⟨by rw [HE.out]; rfl, hb0⟩
    subst g2
    by_cases g3 : n = n2
    rotate_left
    · have HE := Lib.hid (show eqT (.mk tag kind n s kids) (.mk tag kind n2 s2 kids2) = false by rw [he]; simp [g3])
      clear he
      go_enter Try.func14, Try.ntmps14
      go_wp2_with fail
      go_ret
      exact ⟨by rw [HE.out]; rfl, hb0⟩
    subst g3
    by_cases g4 : s = s2
    rotate_left
    · have HE := Lib.hid (show eqT (.mk tag kind n s kids) (.mk tag kind n s2 kids2) = false by rw [he]; simp [g4])
      clear he
      go_enter Try.func14, Try.ntmps14
      go_wp2_with fail
      go_ret
      exact ⟨by rw [HE.out]; rfl, hb0⟩
    subst g4
    have HE := Lib.hid (show eqT (.mk tag kind n s kids) (.mk tag kind n s kids2) = eqL kids kids2 by rw [he]; simp)
    clear he
    go_enter Try.func14, Try.ntmps14
    go_wp2_with fail
    refine (eqfunc_any kids kids2 HH a a2 len cap len2 cap2 _ (HK1.out.below hb0) (HK2.out.below hb0)).mono ?_
    rintro e w1 ⟨rfl, hb1⟩
    have hb2 := hb0.trans (hb1.mono hb0.size)
    clear hb1
    generalize eqL kids kids2 = r at *
    go_wp2_with fail
    go_ret
    exact ⟨by rw [HE.out]; rfl, hb2⟩
end Go.Proofs.Ytcgeipofpdckmaa
