/- The codec: what measure returns. -/
import Derived.Test.YthbfmioikbphgaaDoorCoB
namespace Go.Proofs.YthbfmioikbphgaaDoor
set_option maxRecDepth 100000
open Go.RowKit

def mesB (lv : Nat) (t : NodeT) (room : Nat) : Bool := fitT lv t && decide ((encT t).length ≤ room)
def mesV (lv : Nat) (t : NodeT) (room : Nat) : Value := .tuple #[.int .i64 (if mesB lv t room = true then ((encT t).length : Int) else 0), .bool (mesB lv t room)]
theorem mes_no {lv room : Nat} {t : NodeT} (h : mesB lv t room = false) : Ending.returned (.tuple #[.int .i64 0, .bool false]) = .returned (mesV lv t room) := by
  unfold mesV; rw [h]; rfl
theorem mes_yes {lv room : Nat} {t : NodeT} {z : Int} (h : mesB lv t room = true) (hz : z = ((encT t).length : Int)) : Ending.returned (.tuple #[.int .i64 z, .bool true]) = .returned (mesV lv t room) := by
  unfold mesV; rw [h, hz]; rfl
theorem mesB_iff {lv room : Nat} {tag kind n : Int} {s : List UInt8} {kids : List NodeT} : mesB lv (.mk tag kind n s kids) room = true ↔
    (lv ≤ 8 ∧ 0 ≤ tag ∧ tag ≤ 9999999 ∧ s.length ≤ 2000 ∧ kids.length ≤ 1024 ∧ (kind = 1 ∨ n = 0) ∧ (kind = 2 ∨ s = []) ∧ (kind = 3 ∨ kids = []) ∧ 1 ≤ kind ∧ kind ≤ 3 ∧ fitL (lv + 1) kids = true) ∧ (encT (.mk tag kind n s kids)).length ≤ room := by
  unfold mesB; rw [Bool.and_eq_true, fitT_iff, decide_eq_true_eq]
theorem mesB_no {lv room : Nat} {tag kind n : Int} {s : List UInt8} {kids : List NodeT} (h : ¬ ((lv ≤ 8 ∧ 0 ≤ tag ∧ tag ≤ 9999999 ∧ s.length ≤ 2000 ∧ kids.length ≤ 1024 ∧ (kind = 1 ∨ n = 0) ∧ (kind = 2 ∨ s = []) ∧ (kind = 3 ∨ kids = []) ∧ 1 ≤ kind ∧ kind ≤ 3 ∧ fitL (lv + 1) kids = true) ∧ (encT (.mk tag kind n s kids)).length ≤ room)) : mesB lv (.mk tag kind n s kids) room = false := by
  rw [← mesB_iff] at h; simpa using h

theorem vEnc_le {x : Nat} (h : x < 18446744073709551616) : 1 ≤ (vEnc x).length ∧ (vEnc x).length ≤ 10 := by
  rw [vEnc_len]; have := blen_le64 h; omega
theorem below_drewN {B : Nat} {a w : World} (h : Below B a w) (n : Nat) : Below B a (w.drewN n) := ⟨h.os, h.tape, h.output, h.size, h.block⟩
theorem i64L_at : ∀ {ts : List NodeT} {i : Nat} {t : NodeT}, i64L ts → ts[i]? = some t → i64T t
  | [], _, _, _, h => by simp at h
  | u :: ts, 0, t, hl, h => by simp at h; subst h; simp only [i64L] at hl; exact hl.1
  | u :: ts, i + 1, t, hl, h => by simp only [i64L] at hl; exact i64L_at (i := i) hl.2 (by simpa using h)
theorem mesV_yes {lv room : Nat} {t : NodeT} (h : mesB lv t room = true) : mesV lv t room = .tuple #[.int .i64 ((encT t).length : Int), .bool true] := by
  unfold mesV; rw [h]; rfl
theorem mesV_no {lv room : Nat} {t : NodeT} (h : mesB lv t room = false) : mesV lv t room = .tuple #[.int .i64 0, .bool false] := by
  unfold mesV; rw [h]; rfl
theorem mesB_len {lv room : Nat} {t : NodeT} (h : mesB lv t room = true) : (encT t).length ≤ room := by
  unfold mesB at h; rw [Bool.and_eq_true, decide_eq_true_eq] at h; exact h.2
theorem mesB_fit {lv room : Nat} {t : NodeT} (h : mesB lv t room = true) : fitT lv t = true := by
  unfold mesB at h; rw [Bool.and_eq_true] at h; exact h.1
theorem mesB_kid {lv room m : Nat} {t : NodeT} {ts : List NodeT} (h : mesB lv t (room - m) = false) : (fitL lv (t :: ts) && decide (m + (encL (t :: ts)).length ≤ room)) = false := by
  unfold mesB at h
  simp only [fitL, encL, List.length_append]
  rw [Bool.and_eq_false_iff] at h
  rcases h with h | h
  · rw [h]; rfl
  · rw [decide_eq_false_iff_not] at h
    rw [Bool.and_eq_false_iff]; right
    rw [decide_eq_false_iff_not]; omega
theorem mesB_split {lv room : Nat} {tag kind n : Int} {s : List UInt8} {kids : List NodeT} {m : Nat} (h0 : lv ≤ 8) (h1 : 0 ≤ tag) (h2 : tag ≤ 9999999) (h3 : s.length ≤ 2000) (h4 : kids.length ≤ 1024) (h5 : kind = 1 ∨ n = 0) (h6 : kind = 2 ∨ s = []) (h7 : kind = 3 ∨ kids = []) (h8 : 1 ≤ kind) (h9 : kind ≤ 3) (hm : (encT (.mk tag kind n s kids)).length = m) :
    mesB lv (.mk tag kind n s kids) room = (fitL (lv + 1) kids && decide (m ≤ room)) := by
  unfold mesB
  rw [hm]
  congr 1
  rw [Bool.eq_iff_iff, fitT_iff]
  exact ⟨fun h => h.2.2.2.2.2.2.2.2.2.2, fun h => ⟨h0, h1, h2, h3, h4, h5, h6, h7, h8, h9, h⟩⟩

set_option maxHeartbeats 16000000 in
theorem measure_any : ∀ (f lv : Nat) (t : NodeT) (v : Value) (room : Nat) (w : World), lv + f = 9 → 1 ≤ lv → NodeIn w t v → i64T t → room ≤ 1048576 →
    Calls Tryd.prog 44 #[v, .int .i64 (lv : Int), .int .i64 (room : Int)] w fun e w' => e = .returned (mesV lv t room) ∧ Below w.heap.size w w' := by
  intro f
  induction f with
  | zero =>
    intro lv t v room w hlv h1 ht hi hr
    obtain ⟨tag, kind, n, s, a, len, cap, kids, rfl, rfl, hs, hk⟩ := ht.form
    have HN := Lib.hid (mesB_no (lv := lv) (room := room) (tag := tag) (kind := kind) (n := n) (s := s) (kids := kids) (by omega))
    have d0 : decide (8 < (lv : Int)) = true := by simp; omega
    clear ht hi hk
    go_enter Tryd.func44, Tryd.ntmps44
    go_wp2_with fail
    go_ret2
    exact ⟨mes_no HN.out, (Below.refl _ _).alloc (Nat.le_refl _) _⟩
  | succ f ih =>
    intro lv t v room w hlv h1 ht hi hr
    obtain ⟨tag, kind, n, s, a, len, cap, kids, rfl, rfl, hs, hk⟩ := ht.form
    have d0 : decide (8 < (lv : Int)) = false := by simp; omega
    have HK := Lib.hid hk
    simp only [i64T] at hi
    have HI := Lib.hid hi
    have hkl : kids.length = len := hk.1
    have hlc : len ≤ maxLen := Nat.le_trans hk.2.1 hk.2.2.1
    simp only [maxLen] at hs hlc
    clear ht hi hk
    by_cases g1 : tag < 0
    · have HN := Lib.hid (mesB_no (lv := lv) (room := room) (tag := tag) (kind := kind) (n := n) (s := s) (kids := kids) (by omega))
      have d1 : decide (tag < 0) = true := by simp; omega
      go_enter Tryd.func44, Tryd.ntmps44
      go_wp2_with fail
      go_ret2
      exact ⟨mes_no HN.out, (Below.refl _ _).alloc (Nat.le_refl _) _⟩
    have d1 : decide (tag < 0) = false := by simp; omega
    by_cases g2 : 9999999 < tag
    · have HN := Lib.hid (mesB_no (lv := lv) (room := room) (tag := tag) (kind := kind) (n := n) (s := s) (kids := kids) (by omega))
      have d2 : decide (9999999 < tag) = true := by simp; omega
      go_enter Tryd.func44, Tryd.ntmps44
      go_wp2_with fail
      go_ret2
      exact ⟨mes_no HN.out, (Below.refl _ _).alloc (Nat.le_refl _) _⟩
    have d2 : decide (9999999 < tag) = false := by simp; omega
    obtain ⟨T, rfl⟩ : ∃ T : Nat, tag = (T : Int) := ⟨tag.toNat, by omega⟩
    have hT : T < 18446744073709551616 := by omega
    have hpT := vEnc_le hT
    by_cases k1 : kind = 1
    · subst k1
      by_cases hs0 : ¬ s = []
      · have HN := Lib.hid (mesB_no (lv := lv) (room := room) (tag := (T : Int)) (kind := 1) (n := n) (s := s) (kids := kids) (fun h => hs0 (h.1.2.2.2.2.2.2.1.resolve_left (by omega))))
        go_enter Tryd.func44, Tryd.ntmps44
        go_wp2_with fail
        go_ret2
        exact ⟨mes_no HN.out, (Below.refl _ _).alloc (Nat.le_refl _) _⟩
      replace hs0 : s = [] := Classical.not_not.1 hs0
      subst hs0
      by_cases hl0 : 0 < len
      · have HN := Lib.hid (mesB_no (lv := lv) (room := room) (tag := (T : Int)) (kind := 1) (n := n) (s := []) (kids := kids) (fun h => by have := h.1.2.2.2.2.2.2.2.1.resolve_left (by omega); rw [this] at hkl; simp at hkl; omega))
        go_enter Tryd.func44, Tryd.ntmps44
        go_wp2_with fail
        go_ret2
        exact ⟨mes_no HN.out, (Below.refl _ _).alloc (Nat.le_refl _) _⟩
      obtain rfl : len = 0 := by omega
      obtain rfl : kids = [] := List.eq_nil_of_length_eq_zero hkl
      have hnf := fold_lt HI.out.2.2.1
      have hpF := vEnc_le hnf
      have HLen := Lib.hid (show (encT (.mk (T : Int) 1 n [] [])).length = (vEnc T).length + 1 + (vEnc (foldN n)).length by simp [encT]; omega)
      have HM := Lib.hid (mesB_split (lv := lv) (room := room) (tag := (T : Int)) (kind := 1) (n := n) (s := []) (kids := []) (by omega) (by omega) (by omega) (by simp) (by simp) (by simp) (by simp) (by simp) (by omega) (by omega) HLen.out)
      generalize hTT : NodeT.mk (T : Int) 1 n [] [] = TT at *
      by_cases gr : room < (vEnc T).length + 1 + (vEnc (foldN n)).length
      · have HN := Lib.hid (show mesB lv TT room = false by rw [HM.out]; simp; omega)
        have dr : decide ((room : Int) < ((vEnc T).length : Int) + 1 + ((vEnc (foldN n)).length : Int)) = true := by simp; omega
        go_enter Tryd.func44, Tryd.ntmps44
        go_wp2_with fail
        have hb0 : Below w.heap.size w (w.alloc (.cells #[.int .i64 (T : Int), .int .i64 1, .int .i64 n, .string ⟨#[]⟩, .slice a 0 cap] 25)) := (Below.refl _ _).alloc (Nat.le_refl _) _
        have hbe : w.heap.size < (w.alloc (.cells #[.int .i64 (T : Int), .int .i64 1, .int .i64 n, .string ⟨#[]⟩, .slice a 0 cap] 25)).heap.size := by simp
        generalize hWW : w.alloc (.cells #[.int .i64 (T : Int), .int .i64 1, .int .i64 n, .string ⟨#[]⟩, .slice a 0 cap] 25) = w0 at *
        have c0 : w0.cell? ⟨w.heap.size, 0, none⟩ = some (.int .i64 (T : Int)) := by subst hWW; go_simp
        have c1 : w0.cell? ⟨w.heap.size, 1, none⟩ = some (.int .i64 1) := by subst hWW; go_simp
        have c2 : w0.cell? ⟨w.heap.size, 2, none⟩ = some (.int .i64 n) := by subst hWW; go_simp
        have c3 : w0.cell? ⟨w.heap.size, 3, none⟩ = some (.string ⟨#[]⟩) := by subst hWW; go_simp
        have c4 : w0.cell? ⟨w.heap.size, 4, none⟩ = some (.slice a 0 cap) := by subst hWW; go_simp
        replace HK := Lib.hid (HK.out.below hb0)
        clear hWW
        refine (vlen_any T _ hT).mono ?_
        rintro e w1 ⟨rfl, rfl⟩
        go_wp2_with fail
        refine (fold_any n _ HI.out.2.2.1).mono ?_
        rintro e w1 ⟨rfl, rfl⟩
        go_wp2_with fail
        refine (vlen_any _ _ hnf).mono ?_
        rintro e w1 ⟨rfl, rfl⟩
        go_wp2_with fail
        go_ret2
        exact ⟨mes_no HN.out, hb0⟩
      have dr : decide ((room : Int) < ((vEnc T).length : Int) + 1 + ((vEnc (foldN n)).length : Int)) = false := by simp; omega
      go_enter Tryd.func44, Tryd.ntmps44
      go_wp2_with fail
      have hb0 : Below w.heap.size w (w.alloc (.cells #[.int .i64 (T : Int), .int .i64 1, .int .i64 n, .string ⟨#[]⟩, .slice a 0 cap] 25)) := (Below.refl _ _).alloc (Nat.le_refl _) _
      have hbe : w.heap.size < (w.alloc (.cells #[.int .i64 (T : Int), .int .i64 1, .int .i64 n, .string ⟨#[]⟩, .slice a 0 cap] 25)).heap.size := by simp
      generalize hWW : w.alloc (.cells #[.int .i64 (T : Int), .int .i64 1, .int .i64 n, .string ⟨#[]⟩, .slice a 0 cap] 25) = w0 at *
      have c0 : w0.cell? ⟨w.heap.size, 0, none⟩ = some (.int .i64 (T : Int)) := by subst hWW; go_simp
      have c1 : w0.cell? ⟨w.heap.size, 1, none⟩ = some (.int .i64 1) := by subst hWW; go_simp
      have c2 : w0.cell? ⟨w.heap.size, 2, none⟩ = some (.int .i64 n) := by subst hWW; go_simp
      have c3 : w0.cell? ⟨w.heap.size, 3, none⟩ = some (.string ⟨#[]⟩) := by subst hWW; go_simp
      have c4 : w0.cell? ⟨w.heap.size, 4, none⟩ = some (.slice a 0 cap) := by subst hWW; go_simp
      replace HK := Lib.hid (HK.out.below hb0)
      clear hWW
      refine (vlen_any T _ hT).mono ?_
      rintro e w1 ⟨rfl, rfl⟩
      go_wp2_with fail
      refine (fold_any n _ HI.out.2.2.1).mono ?_
      rintro e w1 ⟨rfl, rfl⟩
      go_wp2_with fail
      refine (vlen_any _ _ hnf).mono ?_
      rintro e w1 ⟨rfl, rfl⟩
      generalize (vEnc T).length = pT at *
      generalize (vEnc (foldN n)).length = pF at *
      go_wp2_with fail
      go_loopw [8, 109] (fun sz i wr => ∃ (k m : Nat), k ≤ 0 ∧ i = .int .i64 k ∧ sz = .int .i64 m ∧ m ≤ room ∧ Below w0.heap.size w0 wr ∧ Hid (mesB lv TT room = (fitL (lv + 1) (([] : List NodeT).drop k) && decide (m + (encL (([] : List NodeT).drop k)).length ≤ room))) ∧ Hid ((encT TT).length = m + (encL (([] : List NodeT).drop k)).length)) (fun _ i _ => 0 - (intOf i).toNat)
      case atStart => exact ⟨0, pT + 1 + pF, by omega, rfl, by first | rfl | go_num, by omega, Below.refl _ _, by unfold Hid; rw [HM.out]; rfl, by unfold Hid; rw [HLen.out]; rfl⟩
      case round =>
        obtain ⟨k, m, hk, rfl, rfl, hm, hbr, HD, HE⟩ := hrel
        obtain rfl : k = 0 := by omega
        have HY := Lib.hid (show mesB lv TT room = true by rw [HD.out, List.drop_nil]; simp [fitL, encL, hm])
        have HZ := Lib.hid (show (m : Int) = ((encT TT).length : Int) by rw [HE.out, List.drop_nil]; simp [encL])
        go_wp2_with fail
        go_ret2
        exact ⟨mes_yes HY.out HZ.out, hb0.trans (hbr.mono hb0.size)⟩
    by_cases k2 : kind = 2
    · subst k2
      by_cases hn0 : ¬ n = 0
      · have HN := Lib.hid (mesB_no (lv := lv) (room := room) (tag := (T : Int)) (kind := 2) (n := n) (s := s) (kids := kids) (fun h => hn0 (h.1.2.2.2.2.2.1.resolve_left (by omega))))
        go_enter Tryd.func44, Tryd.ntmps44
        go_wp2_with fail
        go_ret2
        exact ⟨mes_no HN.out, (Below.refl _ _).alloc (Nat.le_refl _) _⟩
      replace hn0 : n = 0 := Classical.not_not.1 hn0
      subst hn0
      by_cases hl0 : 0 < len
      · have HN := Lib.hid (mesB_no (lv := lv) (room := room) (tag := (T : Int)) (kind := 2) (n := 0) (s := s) (kids := kids) (fun h => by have := h.1.2.2.2.2.2.2.2.1.resolve_left (by omega); rw [this] at hkl; simp at hkl; omega))
        go_enter Tryd.func44, Tryd.ntmps44
        go_wp2_with fail
        go_ret2
        exact ⟨mes_no HN.out, (Below.refl _ _).alloc (Nat.le_refl _) _⟩
      obtain rfl : len = 0 := by omega
      obtain rfl : kids = [] := List.eq_nil_of_length_eq_zero hkl
      have hsl : s.length < 18446744073709551616 := by omega
      have hpS := vEnc_le hsl
      by_cases gs : 2000 < s.length
      · have HN := Lib.hid (mesB_no (lv := lv) (room := room) (tag := (T : Int)) (kind := 2) (n := 0) (s := s) (kids := []) (by omega))
        have ds : decide (2000 < (s.length : Int)) = true := by simp; omega
        go_enter Tryd.func44, Tryd.ntmps44
        go_wp2_with fail
        have hb0 : Below w.heap.size w (w.alloc (.cells #[.int .i64 (T : Int), .int .i64 2, .int .i64 0, .string ⟨s.toArray⟩, .slice a 0 cap] 25)) := (Below.refl _ _).alloc (Nat.le_refl _) _
        have hbe : w.heap.size < (w.alloc (.cells #[.int .i64 (T : Int), .int .i64 2, .int .i64 0, .string ⟨s.toArray⟩, .slice a 0 cap] 25)).heap.size := by simp
        generalize hWW : w.alloc (.cells #[.int .i64 (T : Int), .int .i64 2, .int .i64 0, .string ⟨s.toArray⟩, .slice a 0 cap] 25) = w0 at *
        have c0 : w0.cell? ⟨w.heap.size, 0, none⟩ = some (.int .i64 (T : Int)) := by subst hWW; go_simp
        have c1 : w0.cell? ⟨w.heap.size, 1, none⟩ = some (.int .i64 2) := by subst hWW; go_simp
        have c2 : w0.cell? ⟨w.heap.size, 2, none⟩ = some (.int .i64 0) := by subst hWW; go_simp
        have c3 : w0.cell? ⟨w.heap.size, 3, none⟩ = some (.string ⟨s.toArray⟩) := by subst hWW; go_simp
        have c4 : w0.cell? ⟨w.heap.size, 4, none⟩ = some (.slice a 0 cap) := by subst hWW; go_simp
        replace HK := Lib.hid (HK.out.below hb0)
        clear hWW
        refine (vlen_any T _ hT).mono ?_
        rintro e w1 ⟨rfl, rfl⟩
        go_wp2_with fail
        go_quiet (first | (go_at_call 59; exact Calls.quiet_of_same ((vlen_any _ _ hsl).mono fun _ _ ⟨h1, h2⟩ => ⟨h1, h2.symm⟩)))
        go_wp2_with fail
        go_ret2
        exact ⟨mes_no HN.out, below_drewN hb0 _⟩
      have ds : decide (2000 < (s.length : Int)) = false := by simp; omega
      have HLen := Lib.hid (show (encT (.mk (T : Int) 2 0 s [])).length = (vEnc T).length + 1 + ((vEnc s.length).length + s.length) by simp [encT]; omega)
      have HM := Lib.hid (mesB_split (lv := lv) (room := room) (tag := (T : Int)) (kind := 2) (n := 0) (s := s) (kids := []) (by omega) (by omega) (by omega) (by omega) (by simp) (by simp) (by simp) (by simp) (by omega) (by omega) HLen.out)
      generalize hTT : NodeT.mk (T : Int) 2 0 s [] = TT at *
      by_cases gr : room < (vEnc T).length + 1 + ((vEnc s.length).length + s.length)
      · have HN := Lib.hid (show mesB lv TT room = false by rw [HM.out]; simp; omega)
        have dr : decide ((room : Int) < ((vEnc T).length : Int) + 1 + (((vEnc s.length).length : Int) + (s.length : Int))) = true := by simp; omega
        go_enter Tryd.func44, Tryd.ntmps44
        go_wp2_with fail
        have hb0 : Below w.heap.size w (w.alloc (.cells #[.int .i64 (T : Int), .int .i64 2, .int .i64 0, .string ⟨s.toArray⟩, .slice a 0 cap] 25)) := (Below.refl _ _).alloc (Nat.le_refl _) _
        have hbe : w.heap.size < (w.alloc (.cells #[.int .i64 (T : Int), .int .i64 2, .int .i64 0, .string ⟨s.toArray⟩, .slice a 0 cap] 25)).heap.size := by simp
        generalize hWW : w.alloc (.cells #[.int .i64 (T : Int), .int .i64 2, .int .i64 0, .string ⟨s.toArray⟩, .slice a 0 cap] 25) = w0 at *
        have c0 : w0.cell? ⟨w.heap.size, 0, none⟩ = some (.int .i64 (T : Int)) := by subst hWW; go_simp
        have c1 : w0.cell? ⟨w.heap.size, 1, none⟩ = some (.int .i64 2) := by subst hWW; go_simp
        have c2 : w0.cell? ⟨w.heap.size, 2, none⟩ = some (.int .i64 0) := by subst hWW; go_simp
        have c3 : w0.cell? ⟨w.heap.size, 3, none⟩ = some (.string ⟨s.toArray⟩) := by subst hWW; go_simp
        have c4 : w0.cell? ⟨w.heap.size, 4, none⟩ = some (.slice a 0 cap) := by subst hWW; go_simp
        replace HK := Lib.hid (HK.out.below hb0)
        clear hWW
        refine (vlen_any T _ hT).mono ?_
        rintro e w1 ⟨rfl, rfl⟩
        go_wp2_with fail
        go_quiet (first | (go_at_call 59; exact Calls.quiet_of_same ((vlen_any _ _ hsl).mono fun _ _ ⟨h1, h2⟩ => ⟨h1, h2.symm⟩)))
        go_wp2_with fail
        go_ret2
        exact ⟨mes_no HN.out, below_drewN hb0 _⟩
      have dr : decide ((room : Int) < ((vEnc T).length : Int) + 1 + (((vEnc s.length).length : Int) + (s.length : Int))) = false := by simp; omega
      go_enter Tryd.func44, Tryd.ntmps44
      go_wp2_with fail
      have hb0 : Below w.heap.size w (w.alloc (.cells #[.int .i64 (T : Int), .int .i64 2, .int .i64 0, .string ⟨s.toArray⟩, .slice a 0 cap] 25)) := (Below.refl _ _).alloc (Nat.le_refl _) _
      have hbe : w.heap.size < (w.alloc (.cells #[.int .i64 (T : Int), .int .i64 2, .int .i64 0, .string ⟨s.toArray⟩, .slice a 0 cap] 25)).heap.size := by simp
      generalize hWW : w.alloc (.cells #[.int .i64 (T : Int), .int .i64 2, .int .i64 0, .string ⟨s.toArray⟩, .slice a 0 cap] 25) = w0 at *
      have c0 : w0.cell? ⟨w.heap.size, 0, none⟩ = some (.int .i64 (T : Int)) := by subst hWW; go_simp
      have c1 : w0.cell? ⟨w.heap.size, 1, none⟩ = some (.int .i64 2) := by subst hWW; go_simp
      have c2 : w0.cell? ⟨w.heap.size, 2, none⟩ = some (.int .i64 0) := by subst hWW; go_simp
      have c3 : w0.cell? ⟨w.heap.size, 3, none⟩ = some (.string ⟨s.toArray⟩) := by subst hWW; go_simp
      have c4 : w0.cell? ⟨w.heap.size, 4, none⟩ = some (.slice a 0 cap) := by subst hWW; go_simp
      replace HK := Lib.hid (HK.out.below hb0)
      clear hWW
      refine (vlen_any T _ hT).mono ?_
      rintro e w1 ⟨rfl, rfl⟩
      go_wp2_with fail
      go_quiet (first | (go_at_call 59; exact Calls.quiet_of_same ((vlen_any _ _ hsl).mono fun _ _ ⟨h1, h2⟩ => ⟨h1, h2.symm⟩)))
      generalize (vEnc T).length = pT at *
      generalize (vEnc s.length).length = pF at *
      go_wp2_with fail
      go_loopw [8, 109] (fun sz i wr => ∃ (k m : Nat), k ≤ 0 ∧ i = .int .i64 k ∧ sz = .int .i64 m ∧ m ≤ room ∧ Below w0.heap.size w0 wr ∧ Hid (mesB lv TT room = (fitL (lv + 1) (([] : List NodeT).drop k) && decide (m + (encL (([] : List NodeT).drop k)).length ≤ room))) ∧ Hid ((encT TT).length = m + (encL (([] : List NodeT).drop k)).length)) (fun _ i _ => 0 - (intOf i).toNat)
      case atStart => exact ⟨0, pT + 1 + (pF + s.length), by omega, rfl, by first | rfl | go_num, by omega, below_drewN (Below.refl _ _) _, by unfold Hid; rw [HM.out]; rfl, by unfold Hid; rw [HLen.out]; rfl⟩
      case round =>
        obtain ⟨k, m, hk, rfl, rfl, hm, hbr, HD, HE⟩ := hrel
        obtain rfl : k = 0 := by omega
        have HY := Lib.hid (show mesB lv TT room = true by rw [HD.out, List.drop_nil]; simp [fitL, encL, hm])
        have HZ := Lib.hid (show (m : Int) = ((encT TT).length : Int) by rw [HE.out, List.drop_nil]; simp [encL])
        go_wp2_with fail
        go_ret2
        exact ⟨mes_yes HY.out HZ.out, hb0.trans (hbr.mono hb0.size)⟩
    by_cases k3 : kind = 3
    · subst k3
      by_cases hn0 : ¬ n = 0
      · have HN := Lib.hid (mesB_no (lv := lv) (room := room) (tag := (T : Int)) (kind := 3) (n := n) (s := s) (kids := kids) (fun h => hn0 (h.1.2.2.2.2.2.1.resolve_left (by omega))))
        go_enter Tryd.func44, Tryd.ntmps44
        go_wp2_with fail
        go_ret2
        exact ⟨mes_no HN.out, (Below.refl _ _).alloc (Nat.le_refl _) _⟩
      replace hn0 : n = 0 := Classical.not_not.1 hn0
      subst hn0
      by_cases hs0 : ¬ s = []
      · have HN := Lib.hid (mesB_no (lv := lv) (room := room) (tag := (T : Int)) (kind := 3) (n := 0) (s := s) (kids := kids) (fun h => hs0 (h.1.2.2.2.2.2.2.1.resolve_left (by omega))))
        go_enter Tryd.func44, Tryd.ntmps44
        go_wp2_with fail
        go_ret2
        exact ⟨mes_no HN.out, (Below.refl _ _).alloc (Nat.le_refl _) _⟩
      replace hs0 : s = [] := Classical.not_not.1 hs0
      subst hs0
      have hpK := vEnc_le (show len < 18446744073709551616 by omega)
      by_cases gs : 1024 < len
      · have HN := Lib.hid (mesB_no (lv := lv) (room := room) (tag := (T : Int)) (kind := 3) (n := 0) (s := []) (kids := kids) (by omega))
        have ds : decide (1024 < (len : Int)) = true := by simp; omega
        go_enter Tryd.func44, Tryd.ntmps44
        go_wp2_with fail
        have hb0 : Below w.heap.size w (w.alloc (.cells #[.int .i64 (T : Int), .int .i64 3, .int .i64 0, .string ⟨#[]⟩, .slice a len cap] 25)) := (Below.refl _ _).alloc (Nat.le_refl _) _
        have hbe : w.heap.size < (w.alloc (.cells #[.int .i64 (T : Int), .int .i64 3, .int .i64 0, .string ⟨#[]⟩, .slice a len cap] 25)).heap.size := by simp
        generalize hWW : w.alloc (.cells #[.int .i64 (T : Int), .int .i64 3, .int .i64 0, .string ⟨#[]⟩, .slice a len cap] 25) = w0 at *
        have c0 : w0.cell? ⟨w.heap.size, 0, none⟩ = some (.int .i64 (T : Int)) := by subst hWW; go_simp
        have c1 : w0.cell? ⟨w.heap.size, 1, none⟩ = some (.int .i64 3) := by subst hWW; go_simp
        have c2 : w0.cell? ⟨w.heap.size, 2, none⟩ = some (.int .i64 0) := by subst hWW; go_simp
        have c3 : w0.cell? ⟨w.heap.size, 3, none⟩ = some (.string ⟨#[]⟩) := by subst hWW; go_simp
        have c4 : w0.cell? ⟨w.heap.size, 4, none⟩ = some (.slice a len cap) := by subst hWW; go_simp
        replace HK := Lib.hid (HK.out.below hb0)
        clear hWW
        refine (vlen_any T _ hT).mono ?_
        rintro e w1 ⟨rfl, rfl⟩
        go_wp2_with fail
        refine (vlen_any len _ (by omega)).mono ?_
        rintro e w1 ⟨rfl, rfl⟩
        go_wp2_with fail
        go_ret2
        exact ⟨mes_no HN.out, hb0⟩
      have ds : decide (1024 < (len : Int)) = false := by simp; omega
      have HLen := Lib.hid (show (encT (.mk (T : Int) 3 0 [] kids)).length = (vEnc T).length + 1 + (vEnc len).length + (encL kids).length by simp [encT, hkl]; omega)
      have HM := Lib.hid (mesB_split (lv := lv) (room := room) (tag := (T : Int)) (kind := 3) (n := 0) (s := []) (kids := kids) (by omega) (by omega) (by omega) (by simp) (by omega) (by simp) (by simp) (by simp) (by omega) (by omega) HLen.out)
      generalize hTT : NodeT.mk (T : Int) 3 0 [] kids = TT at *
      by_cases gr : room < (vEnc T).length + 1 + (vEnc len).length
      · have HN := Lib.hid (show mesB lv TT room = false by rw [HM.out]; simp; omega)
        have dr : decide ((room : Int) < ((vEnc T).length : Int) + 1 + ((vEnc len).length : Int)) = true := by simp; omega
        go_enter Tryd.func44, Tryd.ntmps44
        go_wp2_with fail
        have hb0 : Below w.heap.size w (w.alloc (.cells #[.int .i64 (T : Int), .int .i64 3, .int .i64 0, .string ⟨#[]⟩, .slice a len cap] 25)) := (Below.refl _ _).alloc (Nat.le_refl _) _
        have hbe : w.heap.size < (w.alloc (.cells #[.int .i64 (T : Int), .int .i64 3, .int .i64 0, .string ⟨#[]⟩, .slice a len cap] 25)).heap.size := by simp
        generalize hWW : w.alloc (.cells #[.int .i64 (T : Int), .int .i64 3, .int .i64 0, .string ⟨#[]⟩, .slice a len cap] 25) = w0 at *
        have c0 : w0.cell? ⟨w.heap.size, 0, none⟩ = some (.int .i64 (T : Int)) := by subst hWW; go_simp
        have c1 : w0.cell? ⟨w.heap.size, 1, none⟩ = some (.int .i64 3) := by subst hWW; go_simp
        have c2 : w0.cell? ⟨w.heap.size, 2, none⟩ = some (.int .i64 0) := by subst hWW; go_simp
        have c3 : w0.cell? ⟨w.heap.size, 3, none⟩ = some (.string ⟨#[]⟩) := by subst hWW; go_simp
        have c4 : w0.cell? ⟨w.heap.size, 4, none⟩ = some (.slice a len cap) := by subst hWW; go_simp
        replace HK := Lib.hid (HK.out.below hb0)
        clear hWW
        refine (vlen_any T _ hT).mono ?_
        rintro e w1 ⟨rfl, rfl⟩
        go_wp2_with fail
        refine (vlen_any len _ (by omega)).mono ?_
        rintro e w1 ⟨rfl, rfl⟩
        go_wp2_with fail
        go_ret2
        exact ⟨mes_no HN.out, hb0⟩
      have dr : decide ((room : Int) < ((vEnc T).length : Int) + 1 + ((vEnc len).length : Int)) = false := by simp; omega
      go_enter Tryd.func44, Tryd.ntmps44
      go_wp2_with fail
      have hb0 : Below w.heap.size w (w.alloc (.cells #[.int .i64 (T : Int), .int .i64 3, .int .i64 0, .string ⟨#[]⟩, .slice a len cap] 25)) := (Below.refl _ _).alloc (Nat.le_refl _) _
      have hbe : w.heap.size < (w.alloc (.cells #[.int .i64 (T : Int), .int .i64 3, .int .i64 0, .string ⟨#[]⟩, .slice a len cap] 25)).heap.size := by simp
      generalize hWW : w.alloc (.cells #[.int .i64 (T : Int), .int .i64 3, .int .i64 0, .string ⟨#[]⟩, .slice a len cap] 25) = w0 at *
      have c0 : w0.cell? ⟨w.heap.size, 0, none⟩ = some (.int .i64 (T : Int)) := by subst hWW; go_simp
      have c1 : w0.cell? ⟨w.heap.size, 1, none⟩ = some (.int .i64 3) := by subst hWW; go_simp
      have c2 : w0.cell? ⟨w.heap.size, 2, none⟩ = some (.int .i64 0) := by subst hWW; go_simp
      have c3 : w0.cell? ⟨w.heap.size, 3, none⟩ = some (.string ⟨#[]⟩) := by subst hWW; go_simp
      have c4 : w0.cell? ⟨w.heap.size, 4, none⟩ = some (.slice a len cap) := by subst hWW; go_simp
      replace HK := Lib.hid (HK.out.below hb0)
      clear hWW
      refine (vlen_any T _ hT).mono ?_
      rintro e w1 ⟨rfl, rfl⟩
      go_wp2_with fail
      refine (vlen_any len _ (by omega)).mono ?_
      rintro e w1 ⟨rfl, rfl⟩
      generalize (vEnc T).length = pT at *
      generalize (vEnc len).length = pF at *
      go_wp2_with fail
      go_loopw [8, 109] (fun sz i wr => ∃ (k m : Nat), k ≤ len ∧ i = .int .i64 k ∧ sz = .int .i64 m ∧ m ≤ room ∧ Below w0.heap.size w0 wr ∧ Hid (mesB lv TT room = (fitL (lv + 1) (kids.drop k) && decide (m + (encL (kids.drop k)).length ≤ room))) ∧ Hid ((encT TT).length = m + (encL (kids.drop k)).length)) (fun _ i _ => len - (intOf i).toNat)
      case atStart => exact ⟨0, pT + 1 + pF, by omega, rfl, by first | rfl | go_num, by omega, Below.refl _ _, by unfold Hid; rw [HM.out]; rfl, by unfold Hid; rw [HLen.out]; rfl⟩
      case round =>
        obtain ⟨k, m, hk, rfl, rfl, hm, hbr, HD, HE⟩ := hrel
        by_cases hlt : k < len
        · obtain ⟨b, off, rfl, _, tg', kd', n', s', a', len', cap', kids', hki, x0, x1, x2, x3, x4, hs', hk'⟩ := (HK.out.below hbr).at hlt
          have hkd : kids.drop k = .mk tg' kd' n' s' kids' :: kids.drop (k + 1) := by
            have h1 : k < kids.length := by omega
            rw [List.drop_eq_getElem_cons h1]
            rw [List.getElem?_eq_getElem h1] at hki
            rw [Option.some.inj hki]
          have hi' : i64T (.mk tg' kd' n' s' kids') := i64L_at HI.out.2.2.2 hki
          have HNd := Lib.hid (show NodeIn wr (.mk tg' kd' n' s' kids') (.agg #[.int .i64 tg', .int .i64 kd', .int .i64 n', .string ⟨s'.toArray⟩, .slice a' len' cap']) from nodeIn_mk.2 ⟨a', len', cap', rfl, hs', hk'⟩)
          have HI' := Lib.hid hi'
          rw [hkd] at HD HE
          have HD2 := Lib.hid HD.out
          have HE2 := Lib.hid HE.out
          clear HD HE hkd hki hi' hk'
          generalize hQ : NodeT.mk tg' kd' n' s' kids' = kid at *
          cases hq : mesB (lv + 1) kid (room - m) with
          | true =>
            have HC : ∀ W, NodeIn W kid (.agg #[.int .i64 tg', .int .i64 kd', .int .i64 n', .string ⟨s'.toArray⟩, .slice a' len' cap']) → Calls Tryd.prog 44 #[.agg #[.int .i64 tg', .int .i64 kd', .int .i64 n', .string ⟨s'.toArray⟩, .slice a' len' cap'], .int .i64 ((lv : Int) + 1), .int .i64 ((room : Int) - (m : Int))] W fun e w' => e = .returned (.tuple #[.int .i64 ((encT kid).length : Int), .bool true]) ∧ Below W.heap.size W w' := fun W hN => by
              have := ih (lv + 1) kid _ (room - m) W (by omega) (by omega) hN HI'.out (by omega)
              rw [mesV_yes hq] at this
              rw [show (lv : Int) + 1 = ((lv + 1 : Nat) : Int) by omega, show (room : Int) - (m : Int) = ((room - m : Nat) : Int) by omega]; exact this
            have hfl := mesB_len hq
            have hfit := mesB_fit hq
            generalize hql : (encT kid).length = ql at *
            go_wp2_with fail
            refine (HC _ (HNd.out.below ((Below.refl _ _).alloc (Nat.le_refl _) _))).mono ?_
            rintro e w1 ⟨rfl, hb1⟩
            go_wp2_with fail
            go_roundw
            case rel => exact ⟨k + 1, m + ql, by omega, by go_num, by go_num, by omega, (hbr.alloc hbr.size _).trans (hb1.mono (by simp; have := hbr.size; omega)), by unfold Hid; rw [HD2.out]; simp only [fitL, encL, hfit, Bool.true_and, List.length_append, hql, Nat.add_assoc], by unfold Hid; rw [HE2.out]; simp only [encL, List.length_append, hql, Nat.add_assoc]⟩
            case measure => simp [intOf]; omega
          | false =>
            have HC : ∀ W, NodeIn W kid (.agg #[.int .i64 tg', .int .i64 kd', .int .i64 n', .string ⟨s'.toArray⟩, .slice a' len' cap']) → Calls Tryd.prog 44 #[.agg #[.int .i64 tg', .int .i64 kd', .int .i64 n', .string ⟨s'.toArray⟩, .slice a' len' cap'], .int .i64 ((lv : Int) + 1), .int .i64 ((room : Int) - (m : Int))] W fun e w' => e = .returned (.tuple #[.int .i64 0, .bool false]) ∧ Below W.heap.size W w' := fun W hN => by
              have := ih (lv + 1) kid _ (room - m) W (by omega) (by omega) hN HI'.out (by omega)
              rw [mesV_no hq] at this
              rw [show (lv : Int) + 1 = ((lv + 1 : Nat) : Int) by omega, show (room : Int) - (m : Int) = ((room - m : Nat) : Int) by omega]; exact this
            have HN := Lib.hid (show mesB lv TT room = false by rw [HD2.out]; exact mesB_kid hq)
            go_wp2_with fail
            refine (HC _ (HNd.out.below ((Below.refl _ _).alloc (Nat.le_refl _) _))).mono ?_
            rintro e w1 ⟨rfl, hb1⟩
            go_wp2_with fail
            go_ret2
            exact ⟨mes_no HN.out, hb0.trans (((hbr.alloc hbr.size _).trans (hb1.mono (by simp; have := hbr.size; omega))).mono hb0.size)⟩
        · obtain rfl : k = len := by omega
          have HY := Lib.hid (show mesB lv TT room = true by rw [HD.out, List.drop_of_length_le (by omega)]; simp [fitL, encL, hm])
          have HZ := Lib.hid (show (m : Int) = ((encT TT).length : Int) by rw [HE.out, List.drop_of_length_le (by omega)]; simp [encL])
          go_wp2_with fail
          go_ret2
          exact ⟨mes_yes HY.out HZ.out, hb0.trans (hbr.mono hb0.size)⟩
    have HN := Lib.hid (mesB_no (lv := lv) (room := room) (tag := (T : Int)) (kind := kind) (n := n) (s := s) (kids := kids) (by omega))
    by_cases hn0 : n = 0
    rotate_left
    ·
      go_enter Tryd.func44, Tryd.ntmps44
      go_wp2_with fail
      go_ret2
      exact ⟨mes_no HN.out, (Below.refl _ _).alloc (Nat.le_refl _) _⟩
    subst hn0
    by_cases hs0 : s = []
    rotate_left
    ·
      go_enter Tryd.func44, Tryd.ntmps44
      go_wp2_with fail
      go_ret2
      exact ⟨mes_no HN.out, (Below.refl _ _).alloc (Nat.le_refl _) _⟩
    subst hs0
    by_cases hl0 : 0 < len
    ·
      go_enter Tryd.func44, Tryd.ntmps44
      go_wp2_with fail
      go_ret2
      exact ⟨mes_no HN.out, (Below.refl _ _).alloc (Nat.le_refl _) _⟩
    obtain rfl : len = 0 := by omega
    go_enter Tryd.func44, Tryd.ntmps44
    go_wp2_with fail
    have hb0 : Below w.heap.size w (w.alloc (.cells #[.int .i64 (T : Int), .int .i64 kind, .int .i64 0, .string ⟨#[]⟩, .slice a 0 cap] 25)) := (Below.refl _ _).alloc (Nat.le_refl _) _
    have hbe : w.heap.size < (w.alloc (.cells #[.int .i64 (T : Int), .int .i64 kind, .int .i64 0, .string ⟨#[]⟩, .slice a 0 cap] 25)).heap.size := by simp
    generalize hWW : w.alloc (.cells #[.int .i64 (T : Int), .int .i64 kind, .int .i64 0, .string ⟨#[]⟩, .slice a 0 cap] 25) = w0 at *
    have c0 : w0.cell? ⟨w.heap.size, 0, none⟩ = some (.int .i64 (T : Int)) := by subst hWW; go_simp
    have c1 : w0.cell? ⟨w.heap.size, 1, none⟩ = some (.int .i64 kind) := by subst hWW; go_simp
    have c2 : w0.cell? ⟨w.heap.size, 2, none⟩ = some (.int .i64 0) := by subst hWW; go_simp
    have c3 : w0.cell? ⟨w.heap.size, 3, none⟩ = some (.string ⟨#[]⟩) := by subst hWW; go_simp
    have c4 : w0.cell? ⟨w.heap.size, 4, none⟩ = some (.slice a 0 cap) := by subst hWW; go_simp
    replace HK := Lib.hid (HK.out.below hb0)
    clear hWW
    refine (vlen_any T _ hT).mono ?_
    rintro e w1 ⟨rfl, rfl⟩
    go_wp2_with fail
    go_ret2
    exact ⟨mes_no HN.out, hb0⟩

end Go.Proofs.YthbfmioikbphgaaDoor
