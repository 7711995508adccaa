/- Long division: what nat.divLong returns. -/
import Derived.Test.YtahmndacoanfiaaGreatKnuS
import Derived.Test.YtahmndacoanfiaaGreatKnuQ
import Derived.Test.YtahmndacoanfiaaGreatLen
import Derived.Test.YtahmndacoanfiaaGreatMix
namespace Go.Proofs.YtahmndacoanfiaaGreat
set_option maxRecDepth 100000
open Go.RowKit

theorem norm_top {Y n t : Nat} (hY : Y ≠ 0) (hn : (digs Y).length = n) (ht : (digs Y).getD (n - 1) 0 = t) : Y * 2 ^ (32 - blen t) < 4294967296 ^ n ∧ 4294967296 ^ n ≤ 2 * (Y * 2 ^ (32 - blen t)) ∧ 32 - blen t < 32 := by
  have h1 := blen_digs hY
  rw [hn, ht] at h1
  have hn0 : n ≠ 0 := by rw [← hn]; exact fun h => hY (digs_len_zero.1 h)
  have ht0 : t ≠ 0 := by rw [← ht, ← hn]; exact digs_last Y hY
  have htl : t < 4294967296 := by rw [← ht]; exact (lim_digs Y).getD _
  have hb1 := blen_limb htl
  have hb2 : 1 ≤ blen t := by rw [blen_pos ht0]; omega
  have h2 := lt_blen Y
  have h3 := blen_ge Y hY
  have hp : 0 < 2 ^ (32 - blen t) := Nat.pow_pos (by omega)
  refine ⟨?_, ?_, by omega⟩
  · have h4 : Y * 2 ^ (32 - blen t) < 2 ^ blen Y * 2 ^ (32 - blen t) := Nat.mul_lt_mul_of_pos_right h2 hp
    rw [← Nat.pow_add, h1, show 32 * (n - 1) + blen t + (32 - blen t) = 32 * n by omega, ← pow32] at h4
    exact h4
  · have h4 : 2 ^ (blen Y - 1) * 2 ^ (32 - blen t) ≤ Y * 2 ^ (32 - blen t) := Nat.mul_le_mul_right _ h3
    rw [← Nat.pow_add, h1, show 32 * (n - 1) + blen t - 1 + (32 - blen t) = 32 * n - 1 by omega] at h4
    have e : 4294967296 ^ n = 2 * 2 ^ (32 * n - 1) := by rw [pow32, ← Nat.pow_succ', show (32 * n - 1).succ = 32 * n by omega]
    rw [e]
    exact Nat.mul_le_mul_left _ h4
theorem top_norm {D : List Nat} {n : Nat} (hn : 1 ≤ n) (hD : D.length = n) (hDl : Lim D) (h : 4294967296 ^ n ≤ 2 * natOf D) : 2147483648 ≤ D.getD (n - 1) 0 := by
  have e2 := natOf_cut D (n - 1)
  rw [natOf_drop_s D (n - 1), List.drop_of_length_le (by omega : D.length ≤ n - 1 + 1)] at e2
  simp only [natOf, Nat.mul_zero, Nat.add_zero] at e2
  have h2 := lim_low hDl (n - 1)
  rcases Nat.lt_or_ge (D.getD (n - 1) 0) 2147483648 with h3 | h3
  · have h4 : 4294967296 ^ (n - 1) * (D.getD (n - 1) 0 + 1) ≤ 4294967296 ^ (n - 1) * 2147483648 := Nat.mul_le_mul_left _ h3
    have e3 : 4294967296 ^ n = 4294967296 ^ (n - 1) * 4294967296 := by rw [← Nat.pow_succ, show (n - 1).succ = n by omega]
    rw [Nat.mul_add] at h4
    omega
  · exact h3
theorem start_lt {X Y len n s : Nat} {R : List Nat} (hX : (digs X).length = len) (hY : (digs Y).length = n) (hn : 1 ≤ n) (hl : n ≤ len) (hR : natOf R = X * 2 ^ s) : natOf (R.drop (len - n + 1)) < Y * 2 ^ s := by
  have e := natOf_cut R (len - n + 1)
  have hp : 0 < 2 ^ s := Nat.pow_pos (by omega)
  have h1 : X < 4294967296 ^ len := by rw [← hX]; exact lt_of_digs_length (Nat.le_refl _)
  have h2 : 4294967296 ^ (n - 1) ≤ Y := digs_len_lt (by omega)
  rcases Nat.lt_or_ge (natOf (R.drop (len - n + 1))) (Y * 2 ^ s) with h | h
  · exact h
  · have h3 : 4294967296 ^ (len - n + 1) * (Y * 2 ^ s) ≤ 4294967296 ^ (len - n + 1) * natOf (R.drop (len - n + 1)) := Nat.mul_le_mul_left _ h
    have h4 : 4294967296 ^ (len - n + 1) * (4294967296 ^ (n - 1) * 2 ^ s) ≤ 4294967296 ^ (len - n + 1) * (Y * 2 ^ s) := Nat.mul_le_mul_left _ (Nat.mul_le_mul_right _ h2)
    rw [← Nat.mul_assoc, ← Nat.pow_add, show len - n + 1 + (n - 1) = len by omega] at h4
    have h5 : X * 2 ^ s < 4294967296 ^ len * 2 ^ s := Nat.mul_lt_mul_of_pos_right h1 hp
    omega
theorem cut3 (R : List Nat) (j n : Nat) : R = R.take j ++ (R.drop j).take (n + 1) ++ R.drop (j + (n + 1)) := by
  rw [List.append_assoc, ← List.drop_drop, List.take_append_drop, List.take_append_drop]

theorem Limbs.suf {w : World} {b off len cap : Nat} {xs : List Nat} (h : Limbs w (some ⟨b, off, none⟩) len cap xs) (lo : Nat) (hh : lo ≤ len) : Limbs w (some ⟨b, off + lo, none⟩) (len - lo) (cap - lo) (xs.drop lo) :=
  ⟨by rw [List.length_drop, h.1], h.2.1.drop lo, (h.2.2.suf lo hh).congr fun i _ => by simp [List.getD]⟩
theorem Limbs.offBlock {w : World} {b off len cap g : Nat} {xs : List Nat} (_h : Limbs w (some ⟨b, off, none⟩) len cap xs) (hg : b ≠ g) : Off g (.slice (some ⟨b, off, none⟩) len cap) := fun x l c e _ => by cases e; exact hg

set_option maxHeartbeats 4000000 in
set_option maxRecDepth 100000 in
theorem divLong_any (X Y : Nat) (a a' : Option Addr) (len cap n cap' : Nat) (w : World) (hx : Limbs w a len cap (digs X)) (hy : Limbs w a' n cap' (digs Y)) (hn : 2 ≤ n) (hle : Y ≤ X) (hm : (len + 1) * 4 ≤ 281474976710656) :
    Calls Tryz.prog 113 #[.slice a len cap, .slice a' n cap'] w fun e w' => ∃ v u, e = .returned (.tuple #[v, u]) ∧ (Num w' v (X / Y) ∧ New w.heap.size v) ∧ (Num w' u (X % Y) ∧ New w.heap.size u) ∧ Below w.heap.size w w' := by
  have HX := Lib.hid hx
  have HY := Lib.hid hy
  have hY0 : Y ≠ 0 := fun h => by rw [h, digs_zero] at hy; have := hy.1; simp at this; omega
  have hnl : n ≤ len := by rw [← hx.1, ← hy.1]; exact digs_length_le (Nat.lt_of_le_of_lt hle (lt_of_digs_length (Nat.le_refl _)))
  obtain ⟨b, off, rfl, _, hcc⟩ := hy.2.2.at (k := n - 1) (by omega)
  have c1 := hcc (n - 1) (by omega) w (Below.refl _ _)
  have ht1 := hy.2.1.getD (n - 1)
  generalize ht : (digs Y).getD (n - 1) 0 = t at *
  have HNT := Lib.hid (norm_top hY0 hy.1 ht)
  clear hcc hx hy ht
  have hs := HNT.out.2.2
  go_enter Tryz.func113, Tryz.ntmps113
  go_wp2_with fail
  refine (lz32_any t _ ht1).mono ?_
  rintro e w0 ⟨rfl, rfl⟩
  generalize 32 - blen t = s at *
  go_wp2_with fail
  refine (shl_any _ _ _ _ s _ HY.out hs (by omega)).mono ?_
  rintro e w1 ⟨Rb, rfl, hRb1, hRb2, hRb3, hb1⟩
  rw [natOf_digs] at hRb2
  have hX1 := HX.out.below hb1
  have HRb := Lib.hid hRb3
  have HX1 := Lib.hid hX1
  have hRbl : Rb.length = n + 1 := by have := hRb3.len; rwa [lvs_length] at this
  have HRb1 := Lib.hid hRb1
  have HRb2 := Lib.hid hRb2
  have HRbl := Lib.hid hRbl
  clear hX1 hRb1 hRb2 hRb3 hRbl
  go_wp2_with fail
  refine (shl_any _ _ _ _ s _ HX1.out hs (by omega)).mono ?_
  rintro e w2 ⟨Ra, rfl, hRa1, hRa2, hRa3, hb2⟩
  rw [natOf_digs] at hRa2
  have hRal : Ra.length = len + 1 := by have := hRa3.len; rwa [lvs_length] at this
  -- the divisor, n limbs
  have hDn : natOf (Rb.take n) = Y * 2 ^ s := by
    have e := natOf_cut Rb n
    have h1 := HNT.out.1
    rw [HRb2.out] at e
    rcases Nat.eq_zero_or_pos (natOf (Rb.drop n)) with h | h
    · rw [h] at e; omega
    · have : 4294967296 ^ n * 1 ≤ 4294967296 ^ n * natOf (Rb.drop n) := Nat.mul_le_mul_left _ h
      omega
  have hDlim : Lim (Rb.take n) := HRb1.out.take n
  have hDlen : (Rb.take n).length = n := by rw [List.length_take, HRbl.out]; omega
  have hDtop := top_norm (by omega) hDlen hDlim (by rw [hDn]; exact HNT.out.2.1)
  have hDL1 : Limbs w1 (some ⟨w.heap.size, 0, none⟩) n (n + 1) (Rb.take n) := by
    have h1 := HRb.out.limbs' HRb1.out
    exact h1.pre n (by omega)
  have hs1 : w.heap.size < w1.heap.size := HRb.out.in _ rfl
  have hs2 : w1.heap.size < w2.heap.size := hRa3.in _ rfl
  have HDL2 := Lib.hid (hDL1.below hb2)
  have HSt := Lib.hid (start_lt (R := Ra) HX.out.1 HY.out.1 (by omega) hnl hRa2)
  have HDn := Lib.hid hDn
  rw [← hDn] at HSt
  have HDlim := Lib.hid hDlim
  have HDlen := Lib.hid hDlen
  have HDtop := Lib.hid hDtop
  have HRa1 := Lib.hid hRa1
  have HRa2 := Lib.hid hRa2
  have HRal := Lib.hid hRal
  have HRa3 := Lib.hid hRa3
  have HDB := Lib.hid (show natOf (Rb.take n) < 4294967296 ^ n by rw [hDn]; exact HNT.out.1)
  have HD0 := Lib.hid (show 0 < natOf (Rb.take n) by rw [hDn]; exact Nat.mul_pos (by omega) (Nat.pow_pos (by omega)))
  have hb02 := hb1.trans (hb2.mono hb1.size)
  clear hRa1 hRa2 hRa3 hRal hDn hDlim hDlen hDtop hDL1 HRb HRb1 HRbl HX1
  generalize Rb.take n = D at *
  have hsub : (len : Int) - (n : Int) = ((len - n : Nat) : Int) := by omega
  go_wp2_with (at_make; refine wpList_mkn rfl _ _ 24 rfl 67 (.int .u32 0) 4 Tryz.underlying24 infoLimb rfl _ _ _ _ (len - n + 1) rfl rfl (by omega) (by omega) (by omega) (by simp only [maxLen]; omega) fun w3 h1 h2 => ?_)
  have HO := Lib.hid h1
  have hs3 : w2.heap.size < w3.heap.size := h1.in _ rfl
  have HDL3 := Lib.hid (HDL2.out.below h2)
  have HRa := Lib.hid (HRa3.out.later h2)
  have hb03 := hb02.trans (h2.mono hb02.size)
  clear h1 HDL2 HRa3
  go_wp2_with fail
  go_loopw [11] (fun i wr => ∃ (k : Nat) (R Q : List Nat), k ≤ len - n + 1 ∧ i = .int .i64 ((k : Int) - 1) ∧ Hid (R.length = len + 1) ∧ Hid (Lim R) ∧ Hid (Q.length = len - n + 1) ∧ Hid (Lim Q) ∧ Hid (∀ t, t < k → Q.getD t 0 = 0) ∧ Hid (X * 2 ^ s = natOf R + natOf D * natOf Q) ∧ Hid (natOf (R.drop k) < natOf D) ∧ Hid (Limbs wr (some ⟨w.heap.size, 0, none⟩) n (n + 1) D) ∧
      Hid (Owns wr w1.heap.size 67 (.slice (some ⟨w1.heap.size, 0, none⟩) (len + 1) (len + 1)) (lvs R)) ∧ Hid (Owns wr w2.heap.size 67 (.slice (some ⟨w2.heap.size, 0, none⟩) (len - n + 1) (len - n + 1)) (lvs Q)) ∧ Below w.heap.size w wr) (fun i _ => (1 + intOf i).toNat)
  case atStart =>
    refine ⟨len - n + 1, Ra, List.replicate (len - n + 1) 0, Nat.le_refl _, by go_num, HRal, HRa1, by simp [Hid], lim_replicate _, fun t _ => by simp [List.getD, List.getElem?_replicate]; split <;> rfl, by unfold Hid; rw [natOf_replicate, Nat.mul_zero, Nat.add_zero]; exact HRa2.out.symm, HSt, HDL3, HRa, ?_, hb03⟩
    have := HO.out
    simpa [Hid, lvs, lv] using this
  case round =>
    obtain ⟨k, R, Q, hk, rfl, HR, HRl, HQ, HQl, HQ0, HE, HLt, HDL, HOr, HOq, hb⟩ := hrel
    clear hsub
    cases k with
    | zero =>
      have hRlt : natOf R < natOf D := by have := HLt.out; simpa using this
      have HEnd := Lib.hid (long_end (X := X) (Y := Y) (s := s) rfl HDn.out HE.out hRlt)
      have hRn : natOf (R.take n) = natOf R := by
        have e := natOf_cut R n
        have h1 := HDB.out
        rcases Nat.eq_zero_or_pos (natOf (R.drop n)) with h | h
        · rw [h] at e; omega
        · have : 4294967296 ^ n * 1 ≤ 4294967296 ^ n * natOf (R.drop n) := Nat.mul_le_mul_left _ h
          omega
      have HLr := Lib.hid ((HOr.out.limbs' HRl.out).pre n (by omega))
      have HLq := Lib.hid (HOq.out.limbs' HQl.out)
      have HRn := Lib.hid hRn
      clear hRlt hRn HLt HQ0
      obtain ⟨vq, hvq⟩ : ∃ vq : Value, vq = .slice (some ⟨w2.heap.size, 0, none⟩) (digs (natOf Q)).length (len - n + 1) := ⟨_, rfl⟩
      have q1 : ∀ W : Ext wr.heap.size wr, Calls Tryz.prog 87 #[.slice (some ⟨w2.heap.size, 0, none⟩) (len - n + 1) (len - n + 1)] W.1 fun e w'' => e = .returned vq ∧ w'' = W.1 := fun W => by
        rw [hvq]; exact Calls.flip (trim_any _ _ _ _ _ (HLq.out.below W.2))
      have HVQ := Lib.hid (show Num wr vq (X / Y) ∧ New w.heap.size vq from by
        rw [hvq]
        exact ⟨HLq.out.num.eq HEnd.out.1, new_at _ _ _ _ _ (by omega)⟩)
      clear hvq
      have hf1 : (n : Int) ≤ (len : Int) + 1 := by omega
      have hf2 : (0 : Int) ≤ (n : Int) := by omega
      have hf3 : n ≤ len + 1 := by omega
      go_wp2_with fail
      refine wp_region_sched [(0, false), (1, false), (2, false), (3, false), (4, false), (5, false), (6, true), (7, true), (8, false), (9, false)] (fun w' => ∃ W : Ext wr.heap.size wr, w' = W.1) (by kernel_rfl) (by kernel_rfl) ⟨⟨wr.drew, (Below.refl _ _).drew⟩, rfl⟩ ?_
      refine wpSched_calm rfl (fun K hK => ?_)
      go_simp
      refine hK _ ?_
      clear hK K
      refine wpSched_calm rfl (fun K hK => ?_)
      go_simp
      refine ⟨vq, fun W => q1 W, hK _ ?_⟩
      clear hK K
      refine wpSched_calm rfl (fun K hK => ?_); go_simp; refine hK _ ?_; clear hK K
      refine wpSched_calm rfl (fun K hK => ?_); go_simp; refine hK _ ?_; clear hK K
      refine wpSched_calm rfl (fun K hK => ?_); go_simp
      refine hK _ ?_; clear hK K
      refine wpSched_calm rfl (fun K hK => ?_); go_simp; refine hK _ ?_; clear hK K
      have HBd := Lib.hid (show Below wr.heap.size wr wr.drew from (Below.refl _ _).drew)
      have HLrd := Lib.hid (HLr.out.below HBd.out)
      generalize wr.drew = wd at *
      refine wpSched_eff rfl rfl (fun K hK => ?_)
      go_simp
      refine (shr_any _ _ _ _ s _ HLrd.out hs (by omega)).mono ?_
      rintro e w6 ⟨R6, rfl, hl6, hn6, hb6⟩
      have hbn := HBd.out.trans (hb6.mono HBd.out.size)
      refine hK _ _ ⟨⟨w6, hbn⟩, rfl⟩ ?_
      clear hK K
      refine wpSched_eff rfl rfl (fun K hK => ?_)
      go_simp
      refine (trim_numN _ _ _ _ _ (X % Y) w.heap.size hl6 (by rw [hn6, HRn.out]; exact HEnd.out.2) (fun x hx => by cases hx; exact Nat.le_trans hb.size HBd.out.size)).mono ?_
      rintro e w7 ⟨v7, rfl, hv7, rfl⟩
      have HV7 := Lib.hid hv7
      refine hK _ _ ⟨⟨w6, hbn⟩, rfl⟩ ?_
      clear hK K hv7 hl6 hn6
      repeat (refine wpSched_calm rfl (fun K hK => ?_); go_simp; refine hK _ ?_; clear hK K)
      refine wpSched_nil ?_
      go_wp2_with fail
      go_ret2
      exact ⟨vq, v7, rfl, ⟨HVQ.out.1.below hbn, HVQ.out.2⟩, HV7.out, hb.trans (hbn.mono hb.size)⟩
    | succ j =>
      rw [show (((j + 1 : Nat) : Int) - 1) = (j : Int) by omega]
      obtain ⟨hz1, hz2, hz3⟩ := head_zero (n := n) HLt.out HDB.out HRl.out
      have HPart := Lib.hid (show Limbs wr (some ⟨w1.heap.size, j, none⟩) (n + 1) (len + 1 - j) ((R.drop j).take (n + 1)) by
        have h1 := (HOr.out.limbs' HRl.out).suf j (by omega)
        rw [Nat.zero_add] at h1
        exact h1.pre (n + 1) (by omega))
      have HR3 := Lib.hid (show Owns wr w1.heap.size 67 (.slice (some ⟨w1.heap.size, 0, none⟩) (len + 1) (len + 1)) (lvs (R.take j ++ (R.drop j).take (n + 1) ++ R.drop (j + (n + 1)))) by rw [← cut3]; exact HOr.out)
      have HRc := Lib.hid (cut3 R j n)
      have HLl := Lib.hid (show (R.take j).length = j by rw [List.length_take, HR.out]; omega)
      have HPl := Lib.hid (show ((R.drop j).take (n + 1)).length = n + 1 by rw [List.length_take, List.length_drop, HR.out]; omega)
      have HPm := Lib.hid (show Lim ((R.drop j).take (n + 1)) from (HRl.out.drop j).take (n + 1))
      have HHl := Lib.hid (HRl.out.drop (j + (n + 1)))
      have HLm := Lib.hid (HRl.out.take j)
      have HH0 := Lib.hid hz1
      have HV := Lib.hid hz2
      have HEst := Lib.hid (est_of hn HPl.out HDlen.out HPm.out HDlim.out HDtop.out hz3)
      clear hz1 hz2 hz3
      generalize R.take j = L at *
      generalize (R.drop j).take (n + 1) = P at *
      generalize R.drop (j + (n + 1)) = H at *
      go_wp2_with fail
      rw [show j + n + 1 - j = n + 1 by omega]
      refine (est_any P D _ _ n _ _ _ HPart.out HDL.out hn HEst.out).mono ?_
      rintro e w4 ⟨q, rfl, hq, hb4⟩
      obtain ⟨hq1, hq2, hq3⟩ := est_digit hn HPl.out HDlen.out HPm.out HDlim.out HDtop.out HV.out hq
      have HDL4 := Lib.hid (HDL.out.below hb4)
      have HR4 := Lib.hid (HR3.out.later hb4)
      have HQ4 := Lib.hid (HOq.out.later hb4)
      have hb04 := hb.trans (hb4.mono hb.size)
      clear hq
      go_wp2_with fail
      rw [show j + n + 1 - j = n + 1 by omega]
      refine (subm_any L P H D _ _ _ _ j n (len + 1 - j) _ q _ _ HR4.out HLl.out HPl.out HPm.out (by omega) (by omega) HDL4.out (HDL4.out.offBlock (by omega)) hq1).mono ?_
      rintro e w5 ⟨P', neg, rfl, hP'1, hP'2, hP'3, hP'4, hG5⟩
      have hPB : natOf P' < 4294967296 ^ (n + 1) := by have := natOf_lt hP'2; rwa [hP'1] at this
      obtain ⟨hex1, hex2⟩ := digit_exact HD0.out hPB neg hP'3 hq2 hq3
      have HRr5 := Lib.hid hP'4
      have HQ5 := Lib.hid (HQ4.out.grewO (g' := w1.heap.size) hG5 rfl (by omega))
      have HDL5 := Lib.hid (HDL4.out.grew hG5 (fun g' h => by cases h; exact HDL4.out.offBlock (g := w1.heap.size) (by omega)))
      have hb05 : Below w.heap.size w w5 := hb04.trans (hG5.below hb04.size (fun g' h => by cases h; exact Nat.le_of_lt hs1))
      clear hP'4 hG5
      cases neg
      · obtain ⟨hqe, hx5⟩ := hex1 rfl
        have hdv : natOf P = natOf D * q + natOf P' := by rw [hqe, hx5, Nat.div_add_mod]
        clear hex1 hex2 hP'3 hq2 hq3 hPB
        have HQv := Lib.hid (HQ5.out.store j (lv q))
        have c3 := HQ5.out.cell j (by omega)
        have c4 := HQ5.out.free j
        have hGq := HQ5.out.grewSet j (lv q)
        have HR9 := Lib.hid (HRr5.out.grewO (g' := w2.heap.size) hGq rfl (by omega))
        have HD9 := Lib.hid (HDL5.out.off (HDL5.out.offBlock (g := w2.heap.size) (by omega)) j (lv q))
        have HB9 := Lib.hid (hb05.setCell (p := ⟨w2.heap.size, j, none⟩) (by simp; omega) (lv q))
        rw [lvs_set] at HQv
        have HRow := row_step (q := q) HRc.out HLl.out HPl.out hP'1 HH0.out hdv (by rw [HQ.out]; omega) (HQ0.out j (by omega)) HE.out
        have HE9 := Lib.hid HRow.1
        have HLt9 := Lib.hid (show natOf ((L ++ P' ++ H).drop j) < natOf D by rw [HRow.2, hx5]; exact Nat.mod_lt _ HD0.out)
        have HRl9 := Lib.hid ((HLm.out.append hP'2).append HHl.out)
        have HR9l := Lib.hid (show (L ++ P' ++ H).length = len + 1 by
          have e := congrArg List.length HRc.out
          simp only [List.length_append] at e ⊢
          rw [HR.out, HPl.out] at e
          rw [hP'1]
          omega)
        have HQ9l := Lib.hid (show (Q.set j q).length = len - n + 1 by rw [List.length_set]; exact HQ.out)
        have HQ9m := Lib.hid (HQl.out.set j q (by omega))
        have HQ9z := Lib.hid (show ∀ t, t < j → (Q.set j q).getD t 0 = 0 from fun t ht => by rw [getD_set_ne' _ _ _ _ (by omega)]; exact HQ0.out t (by omega))
        clear hGq HRow
        generalize (lvs Q).getD j .nilFunc = old at *
        unfold lv at HQv HR9 HD9 HB9
        clear hdv hqe hx5 hP'1 hP'2
        go_wp2_with fail
        go_roundw
        case rel => exact ⟨j, L ++ P' ++ H, Q.set j q, by omega, rfl, HR9l, HRl9, HQ9l, HQ9m, HQ9z, HE9, HLt9, HD9, HR9, HQv, HB9.out⟩
        case measure => simp [intOf]; omega
      · obtain ⟨hq1', hqe, hVlt⟩ := hex2 rfl
        simp only [if_true, Nat.mul_one] at hP'3
        clear hex1 hex2 hq2 hq3
        have HP3 := Lib.hid hP'3
        have HP1 := Lib.hid hP'1
        have HP2 := Lib.hid hP'2
        have HQe := Lib.hid hqe
        clear hP'3 hP'1 hP'2 hqe hVlt hPB
        go_wp2_with fail
        rw [show j + n + 1 - j = n + 1 by omega]
        refine (addb_any L P' H D _ _ _ _ j n (len + 1 - j) _ _ _ HRr5.out HLl.out HP1.out HP2.out (by omega) (by omega) HDL5.out (HDL5.out.offBlock (by omega))).mono ?_
        rintro e w6 ⟨P2, x, rfl, hP21, hP22, hP23, hP24, hG6⟩
        have hPB2 : natOf P2 < 4294967296 ^ (n + 1) := by have := natOf_lt hP22; rwa [hP21] at this
        have hx6 := back_exact HD0.out (by have := HDB.out; rw [Nat.pow_succ]; omega) hPB2 HP3.out hq1' HQe.out hP23
        have hdv : natOf P = natOf D * (q - 1) + natOf P2 := by rw [HQe.out, hx6, Nat.div_add_mod]
        have HRr6 := Lib.hid hP24
        have HQ6 := Lib.hid (HQ5.out.grewO (g' := w1.heap.size) hG6 rfl (by omega))
        have HDL6 := Lib.hid (HDL5.out.grew hG6 (fun g' h => by cases h; exact HDL5.out.offBlock (g := w1.heap.size) (by omega)))
        have hb06 : Below w.heap.size w w6 := hb05.trans (hG6.below hb05.size (fun g' h => by cases h; exact Nat.le_of_lt hs1))
        have hqq : ((q : Int) - 1) = ((q - 1 : Nat) : Int) := by omega
        have HQQ := Lib.hid hqq
        clear hP24 hG6 hP23 hPB2 hqq
        have HQv := Lib.hid (HQ6.out.store j (lv (q - 1)))
        have c3 := HQ6.out.cell j (by omega)
        have c4 := HQ6.out.free j
        have hGq := HQ6.out.grewSet j (lv (q - 1))
        have HR9 := Lib.hid (HRr6.out.grewO (g' := w2.heap.size) hGq rfl (by omega))
        have HD9 := Lib.hid (HDL6.out.off (HDL6.out.offBlock (g := w2.heap.size) (by omega)) j (lv (q - 1)))
        have HB9 := Lib.hid (hb06.setCell (p := ⟨w2.heap.size, j, none⟩) (by simp; omega) (lv (q - 1)))
        rw [lvs_set] at HQv
        have HRow := row_step (q := q - 1) HRc.out HLl.out HPl.out hP21 HH0.out hdv (by rw [HQ.out]; omega) (HQ0.out j (by omega)) HE.out
        have HE9 := Lib.hid HRow.1
        have HLt9 := Lib.hid (show natOf ((L ++ P2 ++ H).drop j) < natOf D by rw [HRow.2, hx6]; exact Nat.mod_lt _ HD0.out)
        have HRl9 := Lib.hid ((HLm.out.append hP22).append HHl.out)
        have HR9l := Lib.hid (show (L ++ P2 ++ H).length = len + 1 by
          have e := congrArg List.length HRc.out
          simp only [List.length_append] at e ⊢
          rw [HR.out, HPl.out] at e
          rw [hP21]
          omega)
        have HQ9l := Lib.hid (show (Q.set j (q - 1)).length = len - n + 1 by rw [List.length_set]; exact HQ.out)
        have HQ9m := Lib.hid (HQl.out.set j (q - 1) (by omega))
        have HQ9z := Lib.hid (show ∀ t, t < j → (Q.set j (q - 1)).getD t 0 = 0 from fun t ht => by rw [getD_set_ne' _ _ _ _ (by omega)]; exact HQ0.out t (by omega))
        clear hGq HRow
        generalize (lvs Q).getD j .nilFunc = old at *
        unfold lv at HQv HR9 HD9 HB9
        clear hdv hx6 hP21 hP22
        go_wp2_with fail
        rw [HQQ.out]
        go_roundw
        case rel => exact ⟨j, L ++ P2 ++ H, Q.set j (q - 1), by omega, rfl, HR9l, HRl9, HQ9l, HQ9m, HQ9z, HE9, HLt9, HD9, HR9, HQv, HB9.out⟩
        case measure => simp [intOf]; omega

end Go.Proofs.YtahmndacoanfiaaGreat
