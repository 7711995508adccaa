/- Equating: what equate.Rounded returns for valid limits, and equate.Moments. Condition: fractions of at most L limbs. · The laws of equating: what part, limbs, equal and equals return for equal fractions. No condition. · The laws of equating: the example of the chapter (awake). No condition. -/
import Derived.Test.YtahmndacoanfiaaGreatEqU
namespace Go.Proofs.YtahmndacoanfiaaGreat
set_option maxRecDepth 100000
open Go.RowKit
def limI (lo hi n : Int) : Int := if n ≤ lo then lo else if hi ≤ n then hi else n
theorem sign_le {n m : Int} : (n - m).sign ≤ 0 ↔ n ≤ m := by
 rcases Int.lt_trichotomy n m with h | h | h
 · rw [Int.sign_eq_neg_one_of_neg (by omega)]; omega
 · rw [h, Int.sub_self]; simp
 · rw [Int.sign_eq_one_of_pos (by omega)]; omega
theorem sign_ge {n m : Int} : 0 ≤ (n - m).sign ↔ m ≤ n := by
 rcases Int.lt_trichotomy n m with h | h | h
 · rw [Int.sign_eq_neg_one_of_neg (by omega)]; omega
 · rw [h, Int.sub_self]; simp
 · rw [Int.sign_eq_one_of_pos (by omega)]; omega
set_option maxHeartbeats 2000000 in
theorem limited_lo (v : Value) (n lo hi : Int) (L : Nat) (w : World) (hv : IntR w v n L) (h1 : -1000000 ≤ lo) (h2 : lo ≤ 1000000) (hn : n ≤ lo) :
   Calls Tryz.prog 45 #[v, .int .i64 lo, .int .i64 hi] w fun e w' => e = .returned (.int .i64 lo) ∧ Below w.heap.size w w' := by
 have HV := Lib.hid hv
 obtain ⟨ng, ax, lx, cx, xs, rfl, -, -, -⟩ := hv
 have HS := Lib.hid (sign_le.2 hn)
 clear hn
 go_enter Tryz.func45, Tryz.ntmps45
 go_wp2_with fail
 have hbx : Below w.heap.size w (w.alloc (.cells #[.bool ng, .slice ax lx cx] 26)) := ((Below.refl _ _).alloc (Nat.le_refl _) _)
 generalize hWW : (w.alloc (.cells #[.bool ng, .slice ax lx cx] 26)) = w0 at *
 replace HV := Lib.hid (HV.out.below hbx)
 have cA0 : w0.cell? ⟨w.heap.size, 0, none⟩ = some (.bool ng) := by subst hWW; go_simp
 have cA1 : w0.cell? ⟨w.heap.size, 1, none⟩ = some (.slice ax lx cx) := by subst hWW; go_simp
 have ltA : w.heap.size < w0.heap.size := by subst hWW; simp
 have hB := hbx
 clear hbx hWW
 have eA0 := box_ext (B := w0.heap.size) cA0 ltA
 have eA1 := box_ext (B := w0.heap.size) cA1 ltA
 refine wp_region_sched [(0, false), (1, false), (2, true), (3, true), (4, false)] (fun w' => ∃ W : Ext w0.heap.size w0, w' = W.1) (by kernel_rfl) (by kernel_rfl) ⟨⟨w0.drew, (Below.refl _ _).drew⟩, rfl⟩ ?_
 repeat (refine wpSched_calm rfl (fun K hK => ?_); go_simp; refine hK _ ?_; clear hK K)
 clear eA0 eA1
 have hbx : Below w0.heap.size w0 w0.drew := (Below.refl _ _).drew
 have hM := hbx
 replace cA0 := bc hbx ltA cA0
 replace cA1 := bc hbx ltA cA1
 replace ltA := bl hbx ltA
 replace HV := Lib.hid (HV.out.below hbx)
 replace hB := hB.trans (hbx.mono hB.size)
 clear hbx
 generalize w0.drew = ww0d at *
 refine wpSched_eff rfl rfl (fun K hK => ?_)
 go_simp
 refine (iof_any lo _ (by omega) (by omega)).mono ?_
 rintro e w1 ⟨v1, rfl, hv1, hb⟩
 replace cA0 := bc hb ltA cA0
 replace cA1 := bc hb ltA cA1
 replace ltA := bl hb ltA
 replace HV := Lib.hid (HV.out.below hb)
 replace hM := hM.trans (hb.mono hM.size)
 replace hB := hB.trans (hb.mono hB.size)
 have HV1 := Lib.hid (hv1.raw 2 (digs_i64 (by omega) (by omega)))
 clear hv1
 clear hb
 refine hK _ _ ⟨⟨w1, hM⟩, rfl⟩ ?_
 clear hK K
 refine wpSched_eff rfl rfl (fun K hK => ?_)
 go_simp
 refine (icmp_any _ _ n lo L 2 _ HV.out HV1.out).mono ?_
 rintro e w2 ⟨rfl, hb⟩
 replace cA0 := bc hb ltA cA0
 replace cA1 := bc hb ltA cA1
 replace ltA := bl hb ltA
 replace HV := Lib.hid (HV.out.below hb)
 replace HV1 := Lib.hid (HV1.out.below hb)
 replace hM := hM.trans (hb.mono hM.size)
 replace hB := hB.trans (hb.mono hB.size)
 generalize (n - lo).sign = sg at *
 have dsg : decide (sg ≤ 0) = true := by simpa using HS.out
 clear hb
 refine hK _ _ ⟨⟨w2, hM⟩, rfl⟩ ?_
 clear hK K
 repeat (refine wpSched_calm rfl (fun K hK => ?_); go_simp; refine hK _ ?_; clear hK K)
 refine wpSched_nil ?_
 clear HV1
 go_wp2_with fail
 go_ret
 exact ⟨rfl, hB⟩
set_option maxHeartbeats 2000000 in
theorem limited_hi (v : Value) (n lo hi : Int) (L : Nat) (w : World) (hv : IntR w v n L) (h1 : -1000000 ≤ lo) (h2 : lo ≤ 1000000) (h3 : -1000000 ≤ hi) (h4 : hi ≤ 1000000) (hn : ¬ n ≤ lo) (hn2 : hi ≤ n) :
   Calls Tryz.prog 45 #[v, .int .i64 lo, .int .i64 hi] w fun e w' => e = .returned (.int .i64 hi) ∧ Below w.heap.size w w' := by
 have HV := Lib.hid hv
 obtain ⟨ng, ax, lx, cx, xs, rfl, -, -, -⟩ := hv
 have HS := Lib.hid (show ¬ (n - lo).sign ≤ 0 from fun h => hn (sign_le.1 h))
 have HT := Lib.hid (sign_ge.2 hn2)
 clear hn hn2
 go_enter Tryz.func45, Tryz.ntmps45
 go_wp2_with fail
 have hbx : Below w.heap.size w (w.alloc (.cells #[.bool ng, .slice ax lx cx] 26)) := ((Below.refl _ _).alloc (Nat.le_refl _) _)
 generalize hWW : (w.alloc (.cells #[.bool ng, .slice ax lx cx] 26)) = w0 at *
 replace HV := Lib.hid (HV.out.below hbx)
 have cA0 : w0.cell? ⟨w.heap.size, 0, none⟩ = some (.bool ng) := by subst hWW; go_simp
 have cA1 : w0.cell? ⟨w.heap.size, 1, none⟩ = some (.slice ax lx cx) := by subst hWW; go_simp
 have ltA : w.heap.size < w0.heap.size := by subst hWW; simp
 have hB := hbx
 clear hbx hWW
 have eA0 := box_ext (B := w0.heap.size) cA0 ltA
 have eA1 := box_ext (B := w0.heap.size) cA1 ltA
 refine wp_region_sched [(0, false), (1, false), (2, true), (3, true), (4, false)] (fun w' => ∃ W : Ext w0.heap.size w0, w' = W.1) (by kernel_rfl) (by kernel_rfl) ⟨⟨w0.drew, (Below.refl _ _).drew⟩, rfl⟩ ?_
 repeat (refine wpSched_calm rfl (fun K hK => ?_); go_simp; refine hK _ ?_; clear hK K)
 clear eA0 eA1
 have hbx : Below w0.heap.size w0 w0.drew := (Below.refl _ _).drew
 have hM := hbx
 replace cA0 := bc hbx ltA cA0
 replace cA1 := bc hbx ltA cA1
 replace ltA := bl hbx ltA
 replace HV := Lib.hid (HV.out.below hbx)
 replace hB := hB.trans (hbx.mono hB.size)
 clear hbx
 generalize w0.drew = ww0d at *
 refine wpSched_eff rfl rfl (fun K hK => ?_)
 go_simp
 refine (iof_any lo _ (by omega) (by omega)).mono ?_
 rintro e w1 ⟨v1, rfl, hv1, hb⟩
 replace cA0 := bc hb ltA cA0
 replace cA1 := bc hb ltA cA1
 replace ltA := bl hb ltA
 replace HV := Lib.hid (HV.out.below hb)
 replace hM := hM.trans (hb.mono hM.size)
 replace hB := hB.trans (hb.mono hB.size)
 have HV1 := Lib.hid (hv1.raw 2 (digs_i64 (by omega) (by omega)))
 clear hv1
 clear hb
 refine hK _ _ ⟨⟨w1, hM⟩, rfl⟩ ?_
 clear hK K
 refine wpSched_eff rfl rfl (fun K hK => ?_)
 go_simp
 refine (icmp_any _ _ n lo L 2 _ HV.out HV1.out).mono ?_
 rintro e w2 ⟨rfl, hb⟩
 replace cA0 := bc hb ltA cA0
 replace cA1 := bc hb ltA cA1
 replace ltA := bl hb ltA
 replace HV := Lib.hid (HV.out.below hb)
 replace HV1 := Lib.hid (HV1.out.below hb)
 replace hM := hM.trans (hb.mono hM.size)
 replace hB := hB.trans (hb.mono hB.size)
 generalize (n - lo).sign = sg at *
 have dsg : decide (sg ≤ 0) = false := by simpa using HS.out
 clear hb
 refine hK _ _ ⟨⟨w2, hM⟩, rfl⟩ ?_
 clear hK K
 repeat (refine wpSched_calm rfl (fun K hK => ?_); go_simp; refine hK _ ?_; clear hK K)
 refine wpSched_nil ?_
 clear HV1
 go_wp2_with fail
 have eA0 := box_ext (B := w2.heap.size) cA0 ltA
 have eA1 := box_ext (B := w2.heap.size) cA1 ltA
 refine wp_region_sched [(0, false), (1, false), (2, true), (3, true), (4, false)] (fun w' => ∃ W : Ext w2.heap.size w2, w' = W.1) (by kernel_rfl) (by kernel_rfl) ⟨⟨w2.drew, (Below.refl _ _).drew⟩, rfl⟩ ?_
 repeat (refine wpSched_calm rfl (fun K hK => ?_); go_simp; refine hK _ ?_; clear hK K)
 clear eA0 eA1
 have hbx : Below w2.heap.size w2 w2.drew := (Below.refl _ _).drew
 have hM := hbx
 replace cA0 := bc hbx ltA cA0
 replace cA1 := bc hbx ltA cA1
 replace ltA := bl hbx ltA
 replace HV := Lib.hid (HV.out.below hbx)
 replace hB := hB.trans (hbx.mono hB.size)
 clear hbx
 generalize w2.drew = ww2d at *
 refine wpSched_eff rfl rfl (fun K hK => ?_)
 go_simp
 refine (iof_any hi _ (by omega) (by omega)).mono ?_
 rintro e w3 ⟨v3, rfl, hv1, hb⟩
 replace cA0 := bc hb ltA cA0
 replace cA1 := bc hb ltA cA1
 replace ltA := bl hb ltA
 replace HV := Lib.hid (HV.out.below hb)
 replace hM := hM.trans (hb.mono hM.size)
 replace hB := hB.trans (hb.mono hB.size)
 have HV3 := Lib.hid (hv1.raw 2 (digs_i64 (by omega) (by omega)))
 clear hv1
 clear hb
 refine hK _ _ ⟨⟨w3, hM⟩, rfl⟩ ?_
 clear hK K
 refine wpSched_eff rfl rfl (fun K hK => ?_)
 go_simp
 refine (icmp_any _ _ n hi L 2 _ HV.out HV3.out).mono ?_
 rintro e w4 ⟨rfl, hb⟩
 replace cA0 := bc hb ltA cA0
 replace cA1 := bc hb ltA cA1
 replace ltA := bl hb ltA
 replace HV := Lib.hid (HV.out.below hb)
 replace HV3 := Lib.hid (HV3.out.below hb)
 replace hM := hM.trans (hb.mono hM.size)
 replace hB := hB.trans (hb.mono hB.size)
 generalize (n - hi).sign = sh at *
 have dsh : decide (0 ≤ sh) = true := by simpa using HT.out
 clear hb
 refine hK _ _ ⟨⟨w4, hM⟩, rfl⟩ ?_
 clear hK K
 repeat (refine wpSched_calm rfl (fun K hK => ?_); go_simp; refine hK _ ?_; clear hK K)
 refine wpSched_nil ?_
 clear HV3
 go_wp2_with fail
 go_ret
 exact ⟨rfl, hB⟩
set_option maxHeartbeats 2000000 in
theorem limited_in (v : Value) (n lo hi : Int) (L : Nat) (w : World) (hv : IntR w v n L) (h1 : -1000000 ≤ lo) (h2 : lo ≤ 1000000) (h3 : -1000000 ≤ hi) (h4 : hi ≤ 1000000) (hn : ¬ n ≤ lo) (hn2 : ¬ hi ≤ n) :
   Calls Tryz.prog 45 #[v, .int .i64 lo, .int .i64 hi] w fun e w' => e = .returned (.int .i64 n) ∧ Below w.heap.size w w' := by
 have HV := Lib.hid hv
 obtain ⟨ng, ax, lx, cx, xs, rfl, -, -, -⟩ := hv
 have HS := Lib.hid (show ¬ (n - lo).sign ≤ 0 from fun h => hn (sign_le.1 h))
 have HT := Lib.hid (show ¬ 0 ≤ (n - hi).sign from fun h => hn2 (sign_ge.1 h))
 go_enter Tryz.func45, Tryz.ntmps45
 go_wp2_with fail
 have hbx : Below w.heap.size w (w.alloc (.cells #[.bool ng, .slice ax lx cx] 26)) := ((Below.refl _ _).alloc (Nat.le_refl _) _)
 generalize hWW : (w.alloc (.cells #[.bool ng, .slice ax lx cx] 26)) = w0 at *
 replace HV := Lib.hid (HV.out.below hbx)
 have cA0 : w0.cell? ⟨w.heap.size, 0, none⟩ = some (.bool ng) := by subst hWW; go_simp
 have cA1 : w0.cell? ⟨w.heap.size, 1, none⟩ = some (.slice ax lx cx) := by subst hWW; go_simp
 have ltA : w.heap.size < w0.heap.size := by subst hWW; simp
 have hB := hbx
 clear hbx hWW
 have eA0 := box_ext (B := w0.heap.size) cA0 ltA
 have eA1 := box_ext (B := w0.heap.size) cA1 ltA
 refine wp_region_sched [(0, false), (1, false), (2, true), (3, true), (4, false)] (fun w' => ∃ W : Ext w0.heap.size w0, w' = W.1) (by kernel_rfl) (by kernel_rfl) ⟨⟨w0.drew, (Below.refl _ _).drew⟩, rfl⟩ ?_
 repeat (refine wpSched_calm rfl (fun K hK => ?_); go_simp; refine hK _ ?_; clear hK K)
 clear eA0 eA1
 have hbx : Below w0.heap.size w0 w0.drew := (Below.refl _ _).drew
 have hM := hbx
 replace cA0 := bc hbx ltA cA0
 replace cA1 := bc hbx ltA cA1
 replace ltA := bl hbx ltA
 replace HV := Lib.hid (HV.out.below hbx)
 replace hB := hB.trans (hbx.mono hB.size)
 clear hbx
 generalize w0.drew = ww0d at *
 refine wpSched_eff rfl rfl (fun K hK => ?_)
 go_simp
 refine (iof_any lo _ (by omega) (by omega)).mono ?_
 rintro e w1 ⟨v1, rfl, hv1, hb⟩
 replace cA0 := bc hb ltA cA0
 replace cA1 := bc hb ltA cA1
 replace ltA := bl hb ltA
 replace HV := Lib.hid (HV.out.below hb)
 replace hM := hM.trans (hb.mono hM.size)
 replace hB := hB.trans (hb.mono hB.size)
 have HV1 := Lib.hid (hv1.raw 2 (digs_i64 (by omega) (by omega)))
 clear hv1
 clear hb
 refine hK _ _ ⟨⟨w1, hM⟩, rfl⟩ ?_
 clear hK K
 refine wpSched_eff rfl rfl (fun K hK => ?_)
 go_simp
 refine (icmp_any _ _ n lo L 2 _ HV.out HV1.out).mono ?_
 rintro e w2 ⟨rfl, hb⟩
 replace cA0 := bc hb ltA cA0
 replace cA1 := bc hb ltA cA1
 replace ltA := bl hb ltA
 replace HV := Lib.hid (HV.out.below hb)
 replace HV1 := Lib.hid (HV1.out.below hb)
 replace hM := hM.trans (hb.mono hM.size)
 replace hB := hB.trans (hb.mono hB.size)
 generalize (n - lo).sign = sg at *
 have dsg : decide (sg ≤ 0) = false := by simpa using HS.out
 clear hb
 refine hK _ _ ⟨⟨w2, hM⟩, rfl⟩ ?_
 clear hK K
 repeat (refine wpSched_calm rfl (fun K hK => ?_); go_simp; refine hK _ ?_; clear hK K)
 refine wpSched_nil ?_
 clear HV1
 go_wp2_with fail
 have eA0 := box_ext (B := w2.heap.size) cA0 ltA
 have eA1 := box_ext (B := w2.heap.size) cA1 ltA
 refine wp_region_sched [(0, false), (1, false), (2, true), (3, true), (4, false)] (fun w' => ∃ W : Ext w2.heap.size w2, w' = W.1) (by kernel_rfl) (by kernel_rfl) ⟨⟨w2.drew, (Below.refl _ _).drew⟩, rfl⟩ ?_
 repeat (refine wpSched_calm rfl (fun K hK => ?_); go_simp; refine hK _ ?_; clear hK K)
 clear eA0 eA1
 have hbx : Below w2.heap.size w2 w2.drew := (Below.refl _ _).drew
 have hM := hbx
 replace cA0 := bc hbx ltA cA0
 replace cA1 := bc hbx ltA cA1
 replace ltA := bl hbx ltA
 replace HV := Lib.hid (HV.out.below hbx)
 replace hB := hB.trans (hbx.mono hB.size)
 clear hbx
 generalize w2.drew = ww2d at *
 refine wpSched_eff rfl rfl (fun K hK => ?_)
 go_simp
 refine (iof_any hi _ (by omega) (by omega)).mono ?_
 rintro e w3 ⟨v3, rfl, hv1, hb⟩
 replace cA0 := bc hb ltA cA0
 replace cA1 := bc hb ltA cA1
 replace ltA := bl hb ltA
 replace HV := Lib.hid (HV.out.below hb)
 replace hM := hM.trans (hb.mono hM.size)
 replace hB := hB.trans (hb.mono hB.size)
 have HV3 := Lib.hid (hv1.raw 2 (digs_i64 (by omega) (by omega)))
 clear hv1
 clear hb
 refine hK _ _ ⟨⟨w3, hM⟩, rfl⟩ ?_
 clear hK K
 refine wpSched_eff rfl rfl (fun K hK => ?_)
 go_simp
 refine (icmp_any _ _ n hi L 2 _ HV.out HV3.out).mono ?_
 rintro e w4 ⟨rfl, hb⟩
 replace cA0 := bc hb ltA cA0
 replace cA1 := bc hb ltA cA1
 replace ltA := bl hb ltA
 replace HV := Lib.hid (HV.out.below hb)
 replace HV3 := Lib.hid (HV3.out.below hb)
 replace hM := hM.trans (hb.mono hM.size)
 replace hB := hB.trans (hb.mono hB.size)
 generalize (n - hi).sign = sh at *
 have dsh : decide (0 ≤ sh) = false := by simpa using HT.out
 clear hb
 refine hK _ _ ⟨⟨w4, hM⟩, rfl⟩ ?_
 clear hK K
 repeat (refine wpSched_calm rfl (fun K hK => ?_); go_simp; refine hK _ ?_; clear hK K)
 refine wpSched_nil ?_
 clear HV3
 go_wp2_with fail
 refine (iint64_small _ n L _ HV.out (by omega) (by omega)).mono ?_
 rintro e w5 ⟨rfl, hb⟩
 replace cA0 := bc hb ltA cA0
 replace cA1 := bc hb ltA cA1
 replace ltA := bl hb ltA
 replace HV := Lib.hid (HV.out.below hb)
 replace hB := hB.trans (hb.mono hB.size)
 clear hb
 go_wp2_with fail
 go_ret
 exact ⟨rfl, hB⟩
theorem limited_any (v : Value) (n lo hi : Int) (L : Nat) (w : World) (hv : IntR w v n L) (h1 : -1000000 ≤ lo) (h2 : lo ≤ 1000000) (h3 : -1000000 ≤ hi) (h4 : hi ≤ 1000000) :
   Calls Tryz.prog 45 #[v, .int .i64 lo, .int .i64 hi] w fun e w' => e = .returned (.int .i64 (limI lo hi n)) ∧ Below w.heap.size w w' := by
 unfold limI
 by_cases hn : n ≤ lo
 · rw [if_pos hn]; exact limited_lo v n lo hi L w hv h1 h2 hn
 · rw [if_neg hn]
   by_cases hn2 : hi ≤ n
   · rw [if_pos hn2]; exact limited_hi v n lo hi L w hv h1 h2 h3 h4 hn hn2
   · rw [if_neg hn2]; exact limited_in v n lo hi L w hv h1 h2 h3 h4 hn hn2
def rndL (lo hi m : Int) (rs : List Rat) : List Int := rs.map fun r => limI lo hi (roundI m r)
theorem rndL_length (lo hi m : Int) (rs : List Rat) : (rndL lo hi m rs).length = rs.length := by simp [rndL]
theorem rndL_set (lo hi m : Int) (rs : List Rat) (k : Nat) (h : k < rs.length) :
   (rndL lo hi m (rs.take k) ++ List.replicate (rs.length - k) 0).set k (limI lo hi (roundI m (rs.getD k 0))) = rndL lo hi m (rs.take (k + 1)) ++ List.replicate (rs.length - (k + 1)) 0 := by
 obtain ⟨j, hj⟩ : ∃ j, rs.length = k + 1 + j := ⟨rs.length - k - 1, by omega⟩
 have h1 := iset_fill (rndL lo hi m (rs.take k)) j (limI lo hi (roundI m (rs.getD k 0)))
 rw [rndL_length, List.length_take, Nat.min_eq_left (by omega)] at h1
 rw [show rs.length - k = j + 1 by omega, h1, show rs.length - (k + 1) = j by omega]
 have h2 : rs.take (k + 1) = rs.take k ++ [rs.getD k 0] := by rw [List.take_add_one]; simp [List.getD, h]
 rw [h2]
 simp [rndL]
set_option maxHeartbeats 4000000 in
theorem erounded_any (rs : List Rat) (a : Option Addr) (len cap L : Nat) (m lo hi : Int) (w : World) (hr : Rats w a len cap rs L) (hL : 1 ≤ L) (hm : (L + 4) * 4 ≤ 140737488355328) (h61 : len ≤ 61) (hm1 : 1 ≤ m) (hm2 : m ≤ 7) (h1 : -1000000 ≤ lo) (h2 : lo ≤ 1000000) (h3 : -1000000 ≤ hi) (h4 : hi ≤ 1000000) (h5 : lo ≤ hi) :
   Calls Tryz.prog 19 #[.slice a len cap, .int .i64 m, .int .i64 lo, .int .i64 hi] w fun e w' => ∃ a2 c2, e = .returned (.tuple #[.slice a2 len c2, .int .i64 0]) ∧ Ints w' a2 len c2 (rndL lo hi m rs) ∧ Below w.heap.size w w' := by
 have HRs := Lib.hid hr
 have HRl := Lib.hid hr.1
 clear hr
 have d0 : decide (61 < (len : Int)) = false := by simp; omega
 have d1 : decide (m < 1) = false := by simp; omega
 have d2 : decide (7 < m) = false := by simp; omega
 have d3 : decide (lo < -1000000) = false := by simp; omega
 have d4 : decide (1000000 < lo) = false := by simp; omega
 have d5 : decide (hi < -1000000) = false := by simp; omega
 have d6 : decide (1000000 < hi) = false := by simp; omega
 have d7 : decide (hi < lo) = false := by simp; omega
 go_enter Tryz.func19, Tryz.ntmps19
 go_wp2_with (refine wpList_mkn rfl _ _ 22 rfl 3 (.int .i64 0) 8 Tryz.underlying22 infoInt rfl .i64 .i64 _ _ len rfl rfl rfl rfl (by omega) (by unfold maxLen; omega) fun w2 ho2 hb2 => ?_)
 rw [ivs_replicate] at ho2
 have HO2 := Lib.hid ho2
 have HB2 := Lib.hid hb2
 clear ho2 hb2
 go_wp2_with fail
 go_loopw [46] (fun i wr => ∃ k : Nat, k ≤ len ∧ i = .int .i64 k ∧ Hid (Owns wr w.heap.size 3 (.slice (some ⟨w.heap.size, 0, none⟩) len len) (ivs (rndL lo hi m (rs.take k) ++ List.replicate (rs.length - k) 0))) ∧ Hid (Below w.heap.size w wr)) (fun i _ => len - (intOf i).toNat)
 case atStart => exact ⟨0, by omega, rfl, Lib.hid (by rw [HRl.out]; simpa [rndL] using HO2.out), HB2⟩
 case round =>
   clear HO2 HB2
   obtain ⟨k, hk, rfl, HOk, HBk⟩ := hrel
   by_cases hlt : k < len
   · obtain ⟨bb, off, rfl, hbs, hcc⟩ := HRs.out.at hlt
     obtain ⟨n, x', l', c', x, l, c, e0, e1, e2, hX⟩ := (hcc k hlt).below hbs HBk.out
     have HSet := Lib.hid (rndL_set lo hi m rs k (by rw [HRl.out]; exact hlt))
     have hbx : Below wr.heap.size wr (wr.alloc (.cells #[.bool n, .slice x' l' c', .slice x l c] 28)) := (Below.refl _ _).alloc (Nat.le_refl _) _
     have HX := Lib.hid (hX.below hbx)
     have HBx := Lib.hid hbx
     generalize rs.getD k 0 = xk at *
     clear hcc hX hbx
     go_wp2_with fail
     refine (integer_any _ xk m L _ HX.out hL hm hm1 hm2).mono ?_
     rintro e w3 ⟨v3, rfl, hv3, hb⟩
     obtain ⟨a3, n3, c3, rfl, -⟩ := id hv3
     have hby : Below w3.heap.size w3 (w3.alloc (.cells #[.bool (decide (roundI m xk < 0)), .slice a3 n3 c3] 26)) := (Below.refl _ _).alloc (Nat.le_refl _) _
     have HV3 := Lib.hid ((hv3.raw _ (Nat.le_refl _)).below hby)
     have HB3 := Lib.hid (HBx.out.trans ((hb.trans (hby.mono hb.size)).mono HBx.out.size))
     generalize decide (roundI m xk < 0) = d3 at *
     clear hv3 hb hby HX HBx e0 e1 e2
     go_wp2_with fail
     refine (limited_any _ (roundI m xk) lo hi _ _ HV3.out h1 h2 h3 h4).mono ?_
     rintro e w4 ⟨rfl, hb⟩
     have hB4 := HB3.out.trans (hb.mono HB3.out.size)
     have HO4 := Lib.hid (HOk.out.later hB4)
     have HB4 := Lib.hid (HBk.out.trans (hB4.mono HBk.out.size))
     have c4 := HO4.out.cell k hlt
     have f4 := HO4.out.free k
     have HSt := Lib.hid (HO4.out.store k (iv (limI lo hi (roundI m xk))))
     rw [ivs_set, HSet.out] at HSt
     unfold iv at HSt
     generalize (ivs (rndL lo hi m (rs.take k) ++ List.replicate (rs.length - k) 0)).getD k .nilFunc = old at *
     generalize limI lo hi (roundI m xk) = sc at *
     clear hb hB4 HO4 HOk HSet HV3
     go_wp2_with fail
     go_roundw
     case rel => exact ⟨k + 1, by omega, by go_num, HSt, Lib.hid (HB4.out.setCell (Nat.le_refl _) _)⟩
     case measure => simp [intOf]; omega
   · obtain rfl : k = len := by omega
     have HI := Lib.hid (show Ints wr (some ⟨w.heap.size, 0, none⟩) k k (rndL lo hi m rs) by
       have := HOk.out.ints'
       rw [List.take_of_length_le (by rw [HRl.out]; omega), show rs.length - k = 0 by rw [HRl.out]; omega] at this
       simpa using this)
     clear HOk
     go_wp2_with fail
     go_ret2
     exact ⟨_, _, rfl, HI.out, HBk.out⟩
theorem RatN.set2 {B B' g g2 : Nat} {w : World} {v : Value} {r : Rat} (h : RatN B w v r) (hg : g < B) (hg2 : g2 < B) (hB : B' ≤ B) (v0 v1 v2 u0 u1 u2 : Value) :
   RatN B' ((((((w.setCell ⟨g, 0, none⟩ v0).setCell ⟨g, 1, none⟩ v1).setCell ⟨g, 2, none⟩ v2).setCell ⟨g2, 0, none⟩ u0).setCell ⟨g2, 1, none⟩ u1).setCell ⟨g2, 2, none⟩ u2) v r := by
 obtain ⟨x', l', k', x, l, k, e, h1, h2, h3, h4⟩ := h
 exact ⟨x', l', k', x, l, k, e, (((((h1.off (h2.off hg) _ _).off (h2.off hg) _ _).off (h2.off hg) _ _).off (h2.off hg2) _ _).off (h2.off hg2) _ _).off (h2.off hg2) _ _, h2.mono hB,
   (((((h3.off (h4.off hg) _ _).off (h4.off hg) _ _).off (h4.off hg) _ _).off (h4.off hg2) _ _).off (h4.off hg2) _ _).off (h4.off hg2) _ _, h4.mono hB⟩
theorem S1_bd {f : List Int} (hf : ∀ n ∈ f, 0 ≤ n ∧ n ≤ 1000000) (hl : f.length ≤ 61) (k : Nat) (hk : k ≤ 61) : 0 ≤ S1 f k ∧ S1 f k ≤ k * 61000000 ∧ 0 ≤ S2 f k ∧ S2 f k ≤ k * 3721000000 := by
 induction k with
 | zero => simp [S1, S2]
 | succ k ih =>
   obtain ⟨a, b, c, d⟩ := ih (by omega)
   obtain ⟨-, -, p, q⟩ := preS_at hf hl k
   have h1 : 0 ≤ (k : Int) * f.getD k 0 := Int.mul_nonneg (by omega) p
   have h2 : (k : Int) * f.getD k 0 ≤ 61 * 1000000 := Int.mul_le_mul (by omega) q p (by omega)
   have h3 : 0 ≤ (k : Int) * k := Int.mul_nonneg (by omega) (by omega)
   have h4 : (k : Int) * k ≤ 61 * 61 := Int.mul_le_mul (by omega) (by omega) (by omega) (by omega)
   have h5 : 0 ≤ (k : Int) * k * f.getD k 0 := Int.mul_nonneg h3 p
   have h6 : (k : Int) * k * f.getD k 0 ≤ 3721 * 1000000 := Int.mul_le_mul (by omega) q p (by omega)
   simp only [S1, S2]
   push_cast
   omega
theorem S_step {f : List Int} (hf : ∀ n ∈ f, 0 ≤ n ∧ n ≤ 1000000) (hl : f.length ≤ 61) (k : Nat) (hk : k ≤ 61) : 0 ≤ (k : Int) * f.getD k 0 ∧ (k : Int) * f.getD k 0 ≤ 61000000 ∧ 0 ≤ (k : Int) * k ∧ (k : Int) * k ≤ 3721 ∧ 0 ≤ (k : Int) * k * f.getD k 0 ∧ (k : Int) * k * f.getD k 0 ≤ 3721000000 := by
 obtain ⟨-, -, p, q⟩ := preS_at hf hl k
 have h1 : 0 ≤ (k : Int) * f.getD k 0 := Int.mul_nonneg (by omega) p
 have h2 : (k : Int) * f.getD k 0 ≤ 61 * 1000000 := Int.mul_le_mul (by omega) q p (by omega)
 have h3 : 0 ≤ (k : Int) * k := Int.mul_nonneg (by omega) (by omega)
 have h4 : (k : Int) * k ≤ 61 * 61 := Int.mul_le_mul (by omega) (by omega) (by omega) (by omega)
 have h5 : 0 ≤ (k : Int) * k * f.getD k 0 := Int.mul_nonneg h3 p
 have h6 : (k : Int) * k * f.getD k 0 ≤ 3721 * 1000000 := Int.mul_le_mul (by omega) q p (by omega)
 omega
set_option maxHeartbeats 2000000 in
theorem emom_no (f : List Int) (a : Option Addr) (len cap : Nat) (w : World) (hI : Ints w a len cap f) (hE : eqE f ≠ 0) :
   Calls Tryz.prog 21 #[.slice a len cap] w fun e w' => ∃ v u, e = .returned (.tuple #[v, u, .int .i64 (eqE f)]) ∧ RatN w.heap.size w' v 0 ∧ RatN w.heap.size w' u 0 ∧ Below w.heap.size w w' := by
 have HI := Lib.hid hI
 have hz : (eqE f == 0) = false := by simpa using hE
 clear hE hI
 generalize hef : eqE f = ef at *
 have HEF := Lib.hid hef
 clear hef
 go_enter Tryz.func21, Tryz.ntmps21
 go_wp2_with fail
 have hbx : Below w.heap.size w ((w.alloc (.cells #[.bool false, .slice none 0 0, .slice none 0 0] 28)).alloc (.cells #[.bool false, .slice none 0 0, .slice none 0 0] 28)) := (((Below.refl _ _).alloc (Nat.le_refl _) _).alloc (by simp) _)
 generalize hWW : ((w.alloc (.cells #[.bool false, .slice none 0 0, .slice none 0 0] 28)).alloc (.cells #[.bool false, .slice none 0 0, .slice none 0 0] 28)) = w0 at *
 replace HI := Lib.hid (HI.out.below hbx)
 have cR0 : w0.cell? ⟨w.heap.size, 0, none⟩ = some (.bool false) := by subst hWW; go_simp
 have fR0 : w0.frozen? ⟨w.heap.size, 0, none⟩ = false := by subst hWW; go_simp
 have cR1 : w0.cell? ⟨w.heap.size, 1, none⟩ = some (.slice none 0 0) := by subst hWW; go_simp
 have fR1 : w0.frozen? ⟨w.heap.size, 1, none⟩ = false := by subst hWW; go_simp
 have cR2 : w0.cell? ⟨w.heap.size, 2, none⟩ = some (.slice none 0 0) := by subst hWW; go_simp
 have fR2 : w0.frozen? ⟨w.heap.size, 2, none⟩ = false := by subst hWW; go_simp
 have ltR : w.heap.size < w0.heap.size := by subst hWW; simp <;> omega
 have cS0 : w0.cell? ⟨w.heap.size + 1, 0, none⟩ = some (.bool false) := by subst hWW; go_simp
 have fS0 : w0.frozen? ⟨w.heap.size + 1, 0, none⟩ = false := by subst hWW; go_simp
 have cS1 : w0.cell? ⟨w.heap.size + 1, 1, none⟩ = some (.slice none 0 0) := by subst hWW; go_simp
 have fS1 : w0.frozen? ⟨w.heap.size + 1, 1, none⟩ = false := by subst hWW; go_simp
 have cS2 : w0.cell? ⟨w.heap.size + 1, 2, none⟩ = some (.slice none 0 0) := by subst hWW; go_simp
 have fS2 : w0.frozen? ⟨w.heap.size + 1, 2, none⟩ = false := by subst hWW; go_simp
 have ltS : w.heap.size + 1 < w0.heap.size := by subst hWW; simp
 have hB := hbx
 clear hbx hWW
 refine (evalid_b f a len cap _ HI.out).mono ?_
 rintro e w1 ⟨rfl, hb⟩
 replace cR0 := bc hb ltR cR0
 replace fR0 := bf hb ltR fR0
 replace cR1 := bc hb ltR cR1
 replace fR1 := bf hb ltR fR1
 replace cR2 := bc hb ltR cR2
 replace fR2 := bf hb ltR fR2
 replace ltR := bl hb ltR
 replace cS0 := bc hb ltS cS0
 replace fS0 := bf hb ltS fS0
 replace cS1 := bc hb ltS cS1
 replace fS1 := bf hb ltS fS1
 replace cS2 := bc hb ltS cS2
 replace fS2 := bf hb ltS fS2
 replace ltS := bl hb ltS
 replace HI := Lib.hid (HI.out.below hb)
 replace hB := hB.trans (hb.mono hB.size)
 rw [HEF.out]
 clear hb
 go_wp2_with fail
 have hsB : w.heap.size + 2 ≤ w1.heap.size := ltS
 refine (ezero_any _).mono ?_
 rintro e w2 ⟨v2, rfl, hv, hb⟩
 replace cR0 := bc hb ltR cR0
 replace fR0 := bf hb ltR fR0
 replace cR1 := bc hb ltR cR1
 replace fR1 := bf hb ltR fR1
 replace cR2 := bc hb ltR cR2
 replace fR2 := bf hb ltR fR2
 replace ltR := bl hb ltR
 replace cS0 := bc hb ltS cS0
 replace fS0 := bf hb ltS fS0
 replace cS1 := bc hb ltS cS1
 replace fS1 := bf hb ltS fS1
 replace cS2 := bc hb ltS cS2
 replace fS2 := bf hb ltS fS2
 replace ltS := bl hb ltS
 replace HI := Lib.hid (HI.out.below hb)
 replace hB := hB.trans (hb.mono hB.size)
 have HV2 := Lib.hid (hv.mono hsB)
 obtain ⟨p2', m2', q2', p2, m2, q2, rfl, -, -, -, -⟩ := hv
 generalize decide ((0 : Rat).num < 0) = d2 at *
 clear hb
 go_wp2_with fail
 have hsB : w.heap.size + 2 ≤ w2.heap.size := ltS
 refine (ezero_any _).mono ?_
 rintro e w3 ⟨v3, rfl, hv, hb⟩
 replace cR0 := bc hb ltR cR0
 replace fR0 := bf hb ltR fR0
 replace cR1 := bc hb ltR cR1
 replace fR1 := bf hb ltR fR1
 replace cR2 := bc hb ltR cR2
 replace fR2 := bf hb ltR fR2
 replace ltR := bl hb ltR
 replace cS0 := bc hb ltS cS0
 replace fS0 := bf hb ltS fS0
 replace cS1 := bc hb ltS cS1
 replace fS1 := bf hb ltS fS1
 replace cS2 := bc hb ltS cS2
 replace fS2 := bf hb ltS fS2
 replace ltS := bl hb ltS
 replace HI := Lib.hid (HI.out.below hb)
 replace HV2 := Lib.hid (HV2.out.below hb)
 replace hB := hB.trans (hb.mono hB.size)
 have HV3 := Lib.hid (hv.mono hsB)
 obtain ⟨p3', m3', q3', p3, m3, q3, rfl, -, -, -, -⟩ := hv
 generalize decide ((0 : Rat).num < 0) = d3 at *
 clear hb
 go_wp2_with fail
 exact bodyPost_ret (v := .tuple #[.agg #[.bool d2, .slice p2' m2' q2', .slice p2 m2 q2], .agg #[.bool d3, .slice p3' m3' q3', .slice p3 m3 q3], .int .i64 ef]) (by simp [results, Tryz.results21, go_sem, cR0, cR1, cR2, cS0, cS1, cS2]) rfl ⟨_, _, rfl, HV2.out.set2 (by omega) (by omega) (by omega) _ _ _ _ _ _, HV3.out.set2 (by omega) (by omega) (by omega) _ _ _ _ _ _, ((((((hB.setCell (p := ⟨w.heap.size, 0, none⟩) (by simp) _).setCell (p := ⟨w.heap.size, 1, none⟩) (by simp) _).setCell (p := ⟨w.heap.size, 2, none⟩) (by simp) _).setCell (p := ⟨w.heap.size + 1, 0, none⟩) (by simp) _).setCell (p := ⟨w.heap.size + 1, 1, none⟩) (by simp) _).setCell (p := ⟨w.heap.size + 1, 2, none⟩) (by simp) _)⟩
set_option maxHeartbeats 4000000 in
theorem emom_any (f : List Int) (a : Option Addr) (len cap : Nat) (w : World) (hI : Ints w a len cap f) (hO : OkF f) :
   Calls Tryz.prog 21 #[.slice a len cap] w fun e w' => ∃ v u, e = .returned (.tuple #[v, u, .int .i64 0]) ∧ RatN w.heap.size w' v (meanR f) ∧ RatN w.heap.size w' u (varR f) ∧ Rsz (meanR f) 20 ∧ Rsz (varR f) 20 ∧ Below w.heap.size w w' := by
 have HI := Lib.hid hI
 have HO := Lib.hid (eqE_OkF.2 hO)
 have HN := Lib.hid hI.1
 have HF0 := Lib.hid hO.2.1
 have hl61 : len ≤ 61 := by rw [← HN.out]; exact hO.1
 have b5 := hO.pos
 have b6 := hO.sum_le
 have HSn := Lib.hid (show (f.sum : Rat) ≠ 0 from fun h => by have := cast_lt b5; rw [h] at this; exact absurd this (by decide))
 have HSt := Lib.hid (fun (k : Nat) (hk : k ≤ 61) => And.intro (S1_bd hO.2.1 hO.1 k hk) (S_step hO.2.1 hO.1 k hk))
 have HPb := Lib.hid (preS_at hO.2.1 hO.1)
 have HMe : Hid (meanR f = (S1 f len : Rat) / (f.sum : Rat)) := Lib.hid (by unfold meanR; rw [HN.out])
 have HVa : Hid (varR f = (S2 f len : Rat) / (f.sum : Rat) - (S1 f len : Rat) / (f.sum : Rat) * ((S1 f len : Rat) / (f.sum : Rat))) := Lib.hid (by unfold varR meanR; rw [HN.out])
 generalize hmf : meanR f = mf at *
 generalize hvf : varR f = vf at *
 generalize hsf : f.sum = sf at *
 have HSf := Lib.hid hsf
 clear hO hI hsf hmf hvf
 go_enter Tryz.func21, Tryz.ntmps21
 go_wp2_with fail
 have hbx : Below w.heap.size w ((w.alloc (.cells #[.bool false, .slice none 0 0, .slice none 0 0] 28)).alloc (.cells #[.bool false, .slice none 0 0, .slice none 0 0] 28)) := (((Below.refl _ _).alloc (Nat.le_refl _) _).alloc (by simp) _)
 generalize hWW : ((w.alloc (.cells #[.bool false, .slice none 0 0, .slice none 0 0] 28)).alloc (.cells #[.bool false, .slice none 0 0, .slice none 0 0] 28)) = w0 at *
 replace HI := Lib.hid (HI.out.below hbx)
 have cR0 : w0.cell? ⟨w.heap.size, 0, none⟩ = some (.bool false) := by subst hWW; go_simp
 have fR0 : w0.frozen? ⟨w.heap.size, 0, none⟩ = false := by subst hWW; go_simp
 have cR1 : w0.cell? ⟨w.heap.size, 1, none⟩ = some (.slice none 0 0) := by subst hWW; go_simp
 have fR1 : w0.frozen? ⟨w.heap.size, 1, none⟩ = false := by subst hWW; go_simp
 have cR2 : w0.cell? ⟨w.heap.size, 2, none⟩ = some (.slice none 0 0) := by subst hWW; go_simp
 have fR2 : w0.frozen? ⟨w.heap.size, 2, none⟩ = false := by subst hWW; go_simp
 have ltR : w.heap.size < w0.heap.size := by subst hWW; simp <;> omega
 have cS0 : w0.cell? ⟨w.heap.size + 1, 0, none⟩ = some (.bool false) := by subst hWW; go_simp
 have fS0 : w0.frozen? ⟨w.heap.size + 1, 0, none⟩ = false := by subst hWW; go_simp
 have cS1 : w0.cell? ⟨w.heap.size + 1, 1, none⟩ = some (.slice none 0 0) := by subst hWW; go_simp
 have fS1 : w0.frozen? ⟨w.heap.size + 1, 1, none⟩ = false := by subst hWW; go_simp
 have cS2 : w0.cell? ⟨w.heap.size + 1, 2, none⟩ = some (.slice none 0 0) := by subst hWW; go_simp
 have fS2 : w0.frozen? ⟨w.heap.size + 1, 2, none⟩ = false := by subst hWW; go_simp
 have ltS : w.heap.size + 1 < w0.heap.size := by subst hWW; simp
 have hB := hbx
 clear hbx hWW
 refine (evalid_b f a len cap _ HI.out).mono ?_
 rintro e w1 ⟨rfl, hb⟩
 replace cR0 := bc hb ltR cR0
 replace fR0 := bf hb ltR fR0
 replace cR1 := bc hb ltR cR1
 replace fR1 := bf hb ltR fR1
 replace cR2 := bc hb ltR cR2
 replace fR2 := bf hb ltR fR2
 replace ltR := bl hb ltR
 replace cS0 := bc hb ltS cS0
 replace fS0 := bf hb ltS fS0
 replace cS1 := bc hb ltS cS1
 replace fS1 := bf hb ltS fS1
 replace cS2 := bc hb ltS cS2
 replace fS2 := bf hb ltS fS2
 replace ltS := bl hb ltS
 replace HI := Lib.hid (HI.out.below hb)
 replace hB := hB.trans (hb.mono hB.size)
 rw [HO.out]
 clear hb
 go_wp2_with fail
 go_loop [6, 7, 24] (fun s1 s2 i => ∃ k : Nat, k ≤ len ∧ i = .int .i64 k ∧ s1 = .int .i64 (S1 f k) ∧ s2 = .int .i64 (S2 f k)) (fun _ _ i => len - (intOf i).toNat)
 case atStart => exact ⟨0, by omega, rfl, rfl, rfl⟩
 case round =>
   obtain ⟨k, hk, rfl, rfl, rfl⟩ := hrel
   by_cases hlt : k < len
   · obtain ⟨⟨t1, t2, t3, t4⟩, m1, m2, m3, m4, m5, m6⟩ := HSt.out k (by omega)
     obtain ⟨bb, off, rfl, hbs, hcc⟩ := HI.out.2.at hlt
     have ec := hcc k hlt _ (Below.refl _ _)
     have HE := Lib.hid (show S1 f (k + 1) = S1 f k + k * f.getD k 0 ∧ S2 f (k + 1) = S2 f k + k * k * f.getD k 0 from ⟨rfl, rfl⟩)
     obtain ⟨-, -, p1, p2⟩ := HPb.out k
     clear HSt HPb hcc
     generalize f.getD k 0 = fk at *
     generalize S1 f k = s1 at *
     generalize S2 f k = s2 at *
     have hq : (k : Int) * k * fk ≤ 3721000000 := m6
     go_wp2_with fail
     go_round
     case rel => exact ⟨k + 1, by omega, by go_num, by rw [HE.out.1], by rw [HE.out.2]⟩
     case measure => simp [intOf]; omega
   · obtain rfl : k = len := by omega
     obtain ⟨⟨t1, t2, t3, t4⟩, -⟩ := HSt.out k (by omega)
     have t2' : S1 f k ≤ 3721000000 := by omega
     have t4' : S2 f k ≤ 226981000000 := by omega
     clear HSt HPb
     generalize hs1v : S1 f k = s1 at *
     generalize hs2v : S2 f k = s2 at *
     clear hs1v hs2v t2 t4 hlt
     go_wp2_with fail
     refine (esum_b f _ _ cap _ HI.out HF0.out hl61).mono ?_
     rintro e w2 ⟨rfl, hb⟩
     replace cR0 := bc hb ltR cR0
     replace fR0 := bf hb ltR fR0
     replace cR1 := bc hb ltR cR1
     replace fR1 := bf hb ltR fR1
     replace cR2 := bc hb ltR cR2
     replace fR2 := bf hb ltR fR2
     replace ltR := bl hb ltR
     replace cS0 := bc hb ltS cS0
     replace fS0 := bf hb ltS fS0
     replace cS1 := bc hb ltS cS1
     replace fS1 := bf hb ltS fS1
     replace cS2 := bc hb ltS cS2
     replace fS2 := bf hb ltS fS2
     replace ltS := bl hb ltS
     replace HI := Lib.hid (HI.out.below hb)
     replace hB := hB.trans (hb.mono hB.size)
     rw [HSf.out]
     clear hb
     go_wp2_with fail
     refine (ewhole_any sf _ (by omega) (by omega)).mono ?_
     rintro e w3 ⟨v3, rfl, hv, hsz, hb⟩
     replace cR0 := bc hb ltR cR0
     replace fR0 := bf hb ltR fR0
     replace cR1 := bc hb ltR cR1
     replace fR1 := bf hb ltR fR1
     replace cR2 := bc hb ltR cR2
     replace fR2 := bf hb ltR fR2
     replace ltR := bl hb ltR
     replace cS0 := bc hb ltS cS0
     replace fS0 := bf hb ltS fS0
     replace cS1 := bc hb ltS cS1
     replace fS1 := bf hb ltS fS1
     replace cS2 := bc hb ltS cS2
     replace fS2 := bf hb ltS fS2
     replace ltS := bl hb ltS
     replace HI := Lib.hid (HI.out.below hb)
     replace hB := hB.trans (hb.mono hB.size)
     have HV3 := Lib.hid (hv.raw hsz)
     obtain ⟨p3', m3', q3', p3, m3, q3, rfl, -, -, -, -⟩ := hv
     clear hsz
     generalize decide (((sf : Rat) : Rat).num < 0) = d3 at *
     clear hb
     go_wp2_with fail
     have hPS := ltS
     have hbx : Below w3.heap.size w3 (w3.alloc (.cells #[.bool d3, .slice p3' m3' q3', .slice p3 m3 q3] 28)) := ((Below.refl _ _).alloc (Nat.le_refl _) _)
     generalize hWW : (w3.alloc (.cells #[.bool d3, .slice p3' m3' q3', .slice p3 m3 q3] 28)) = w3a at *
     replace cR0 := bc hbx ltR cR0
     replace fR0 := bf hbx ltR fR0
     replace cR1 := bc hbx ltR cR1
     replace fR1 := bf hbx ltR fR1
     replace cR2 := bc hbx ltR cR2
     replace fR2 := bf hbx ltR fR2
     replace ltR := bl hbx ltR
     replace cS0 := bc hbx ltS cS0
     replace fS0 := bf hbx ltS fS0
     replace cS1 := bc hbx ltS cS1
     replace fS1 := bf hbx ltS fS1
     replace cS2 := bc hbx ltS cS2
     replace fS2 := bf hbx ltS fS2
     replace ltS := bl hbx ltS
     replace HI := Lib.hid (HI.out.below hbx)
     replace HV3 := Lib.hid (HV3.out.below hbx)
     have cP0 : w3a.cell? ⟨w3.heap.size, 0, none⟩ = some (.bool d3) := by subst hWW; go_simp
     have cP1 : w3a.cell? ⟨w3.heap.size, 1, none⟩ = some (.slice p3' m3' q3') := by subst hWW; go_simp
     have cP2 : w3a.cell? ⟨w3.heap.size, 2, none⟩ = some (.slice p3 m3 q3) := by subst hWW; go_simp
     have ltP : w3.heap.size < w3a.heap.size := by subst hWW; simp
     replace hB := hB.trans (hbx.mono hB.size)
     clear hbx hWW
     have SCR0 := Lib.hid cR0
     have SFR0 := Lib.hid fR0
     have SCR1 := Lib.hid cR1
     have SFR1 := Lib.hid fR1
     have SCR2 := Lib.hid cR2
     have SFR2 := Lib.hid fR2
     have SLR := Lib.hid ltR
     have SCS0 := Lib.hid cS0
     have SFS0 := Lib.hid fS0
     have SCS1 := Lib.hid cS1
     have SFS1 := Lib.hid fS1
     have SCS2 := Lib.hid cS2
     have SFS2 := Lib.hid fS2
     have SLS := Lib.hid ltS
     have SCP0 := Lib.hid cP0
     have SCP1 := Lib.hid cP1
     have SCP2 := Lib.hid cP2
     have SLP := Lib.hid ltP
     have SHI := Lib.hid HI.out
     have SHV3 := Lib.hid HV3.out
     have SB := Lib.hid hB
     have eR0 := box_ext (B := w3a.heap.size) cR0 ltR
     have eR1 := box_ext (B := w3a.heap.size) cR1 ltR
     have eR2 := box_ext (B := w3a.heap.size) cR2 ltR
     have eS0 := box_ext (B := w3a.heap.size) cS0 ltS
     have eS1 := box_ext (B := w3a.heap.size) cS1 ltS
     have eS2 := box_ext (B := w3a.heap.size) cS2 ltS
     have eP0 := box_ext (B := w3a.heap.size) cP0 ltP
     have eP1 := box_ext (B := w3a.heap.size) cP1 ltP
     have eP2 := box_ext (B := w3a.heap.size) cP2 ltP
     refine wp_region_float 7 [(0, false), (2, false), (1, true), (3, true), (4, false), (5, false), (6, false)] [(8, true), (9, false)] (fun w' => ∃ W : Ext w3a.heap.size w3a, w' = W.1) _ 11 (.cells #[.bool false, .slice none 0 0, .slice none 0 0] 28) w3a.heap.size (by kernel_rfl) rfl rfl rfl (fun a w => by simp [execOp, go_sem]) (fun w ⟨W, e⟩ => e ▸ W.2.size) (fun w ⟨W, e⟩ => ⟨⟨_, (e ▸ W.2).alloc (e ▸ W.2.size) _⟩, rfl⟩) (by kernel_rfl) ⟨⟨w3a.drew, (Below.refl _ _).drew⟩, rfl⟩ ?_
     repeat (refine wpFl_calm rfl (fun K hK => ?_); go_simp; refine hK _ ?_; clear hK K)
     clear eR0 eR1 eR2 eS0 eS1 eS2 eP0 eP1 eP2
     have hbx : Below w3a.heap.size w3a w3a.drew := (Below.refl _ _).drew
     have hM := hbx
     replace cR0 := bc hbx ltR cR0
     replace fR0 := bf hbx ltR fR0
     replace cR1 := bc hbx ltR cR1
     replace fR1 := bf hbx ltR fR1
     replace cR2 := bc hbx ltR cR2
     replace fR2 := bf hbx ltR fR2
     replace ltR := bl hbx ltR
     replace cS0 := bc hbx ltS cS0
     replace fS0 := bf hbx ltS fS0
     replace cS1 := bc hbx ltS cS1
     replace fS1 := bf hbx ltS fS1
     replace cS2 := bc hbx ltS cS2
     replace fS2 := bf hbx ltS fS2
     replace ltS := bl hbx ltS
     replace cP0 := bc hbx ltP cP0
     replace cP1 := bc hbx ltP cP1
     replace cP2 := bc hbx ltP cP2
     replace ltP := bl hbx ltP
     replace HI := Lib.hid (HI.out.below hbx)
     replace HV3 := Lib.hid (HV3.out.below hbx)
     replace hB := hB.trans (hbx.mono hB.size)
     clear hbx
     generalize w3a.drew = ww3ad at *
     refine wpFl_eff rfl rfl (fun wy hC hg K hK => ?_)
     obtain ⟨⟨wz, hE⟩, hwe⟩ := hC
     change wy = wz at hwe
     subst hwe
     replace cR0 := bc hg ltR cR0
     replace fR0 := bf hg ltR fR0
     replace cR1 := bc hg ltR cR1
     replace fR1 := bf hg ltR fR1
     replace cR2 := bc hg ltR cR2
     replace fR2 := bf hg ltR fR2
     replace ltR := bl hg ltR
     replace cS0 := bc hg ltS cS0
     replace fS0 := bf hg ltS fS0
     replace cS1 := bc hg ltS cS1
     replace fS1 := bf hg ltS fS1
     replace cS2 := bc hg ltS cS2
     replace fS2 := bf hg ltS fS2
     replace ltS := bl hg ltS
     replace cP0 := bc hg ltP cP0
     replace cP1 := bc hg ltP cP1
     replace cP2 := bc hg ltP cP2
     replace ltP := bl hg ltP
     replace HI := Lib.hid (HI.out.below hg)
     replace HV3 := Lib.hid (HV3.out.below hg)
     replace hB := hB.trans (hg.mono hB.size)
     replace hM := hE
     clear hE hg
     go_simp
     refine (ewhole_any s1 _ (by omega) (by omega)).mono ?_
     rintro e wam ⟨vam, rfl, hv, hsz, hb⟩
     replace cR0 := bc hb ltR cR0
     replace fR0 := bf hb ltR fR0
     replace cR1 := bc hb ltR cR1
     replace fR1 := bf hb ltR fR1
     replace cR2 := bc hb ltR cR2
     replace fR2 := bf hb ltR fR2
     replace ltR := bl hb ltR
     replace cS0 := bc hb ltS cS0
     replace fS0 := bf hb ltS fS0
     replace cS1 := bc hb ltS cS1
     replace fS1 := bf hb ltS fS1
     replace cS2 := bc hb ltS cS2
     replace fS2 := bf hb ltS fS2
     replace ltS := bl hb ltS
     replace cP0 := bc hb ltP cP0
     replace cP1 := bc hb ltP cP1
     replace cP2 := bc hb ltP cP2
     replace ltP := bl hb ltP
     replace HI := Lib.hid (HI.out.below hb)
     replace HV3 := Lib.hid (HV3.out.below hb)
     replace hM := hM.trans (hb.mono hM.size)
     replace hB := hB.trans (hb.mono hB.size)
     have HVam := Lib.hid (hv.raw hsz)
     clear hv hsz
     refine hK _ _ ⟨⟨wam, hM⟩, rfl⟩ hb ?_
     clear hK K hb
     refine wpFl_eff rfl rfl (fun wy hC hg K hK => ?_)
     obtain ⟨⟨wz, hE⟩, hwe⟩ := hC
     change wy = wz at hwe
     subst hwe
     replace cR0 := bc hg ltR cR0
     replace fR0 := bf hg ltR fR0
     replace cR1 := bc hg ltR cR1
     replace fR1 := bf hg ltR fR1
     replace cR2 := bc hg ltR cR2
     replace fR2 := bf hg ltR fR2
     replace ltR := bl hg ltR
     replace cS0 := bc hg ltS cS0
     replace fS0 := bf hg ltS fS0
     replace cS1 := bc hg ltS cS1
     replace fS1 := bf hg ltS fS1
     replace cS2 := bc hg ltS cS2
     replace fS2 := bf hg ltS fS2
     replace ltS := bl hg ltS
     replace cP0 := bc hg ltP cP0
     replace cP1 := bc hg ltP cP1
     replace cP2 := bc hg ltP cP2
     replace ltP := bl hg ltP
     replace HI := Lib.hid (HI.out.below hg)
     replace HV3 := Lib.hid (HV3.out.below hg)
     replace HVam := Lib.hid (HVam.out.below hg)
     replace hB := hB.trans (hg.mono hB.size)
     replace hM := hE
     clear hE hg
     go_simp
     have hsB : w.heap.size + 2 ≤ wy.heap.size := ltS
     refine (qdiv_any _ _ (s1 : Rat) (sf : Rat) 2 2 _ HVam.out HV3.out HSn.out (by omega) (by omega) (by omega)).mono ?_
     rintro e wbm ⟨vbm, rfl, hv, hsz, hb⟩
     replace cR0 := bc hb ltR cR0
     replace fR0 := bf hb ltR fR0
     replace cR1 := bc hb ltR cR1
     replace fR1 := bf hb ltR fR1
     replace cR2 := bc hb ltR cR2
     replace fR2 := bf hb ltR fR2
     replace ltR := bl hb ltR
     replace cS0 := bc hb ltS cS0
     replace fS0 := bf hb ltS fS0
     replace cS1 := bc hb ltS cS1
     replace fS1 := bf hb ltS fS1
     replace cS2 := bc hb ltS cS2
     replace fS2 := bf hb ltS fS2
     replace ltS := bl hb ltS
     replace cP0 := bc hb ltP cP0
     replace cP1 := bc hb ltP cP1
     replace cP2 := bc hb ltP cP2
     replace ltP := bl hb ltP
     replace HI := Lib.hid (HI.out.below hb)
     replace HV3 := Lib.hid (HV3.out.below hb)
     replace HVam := Lib.hid (HVam.out.below hb)
     replace hM := hM.trans (hb.mono hM.size)
     replace hB := hB.trans (hb.mono hB.size)
     have HZm := Lib.hid hsz
     have HVm := Lib.hid (hv.mono hsB)
     obtain ⟨pm', mm', qm', pm, mm, qm, rfl, -, -, -, -⟩ := hv
     clear hsz
     generalize decide (((s1 : Rat) / (sf : Rat)).num < 0) = dm at *
     refine hK _ _ ⟨⟨wbm, hM⟩, rfl⟩ hb ?_
     clear hK K hb
     clear HVam
     repeat (refine wpFl_calm rfl (fun K hK => ?_); go_simp; refine hK _ ?_; clear hK K)
     refine wpFl_nil fun gM wy hC hg hBk hge => ?_
     obtain ⟨⟨wz, hE⟩, hwe⟩ := hC
     change wy = wz at hwe
     subst hwe
     replace cR0 := bc hg ltR cR0
     replace fR0 := bf hg ltR fR0
     replace cR1 := bc hg ltR cR1
     replace fR1 := bf hg ltR fR1
     replace cR2 := bc hg ltR cR2
     replace fR2 := bf hg ltR fR2
     replace ltR := bl hg ltR
     replace cS0 := bc hg ltS cS0
     replace fS0 := bf hg ltS fS0
     replace cS1 := bc hg ltS cS1
     replace fS1 := bf hg ltS fS1
     replace cS2 := bc hg ltS cS2
     replace fS2 := bf hg ltS fS2
     replace ltS := bl hg ltS
     replace cP0 := bc hg ltP cP0
     replace cP1 := bc hg ltP cP1
     replace cP2 := bc hg ltP cP2
     replace ltP := bl hg ltP
     replace HI := Lib.hid (HI.out.below hg)
     replace HV3 := Lib.hid (HV3.out.below hg)
     replace HVm := Lib.hid (HVm.out.below hg)
     replace hB := hB.trans (hg.mono hB.size)
     replace hM := hE
     clear hE hg
     have z0 := blk_cell hBk 0
     have y0 := blk_free hBk 0
     have z1 := blk_cell hBk 1
     have y1 := blk_free hBk 1
     have z2 := blk_cell hBk 2
     have y2 := blk_free hBk 2
     simp at z0 z1 z2
     have hgl := blk_lt hBk
     refine wpSched_eff rfl rfl (fun K hK => ?_)
     go_simp
     refine hK _ _ ⟨⟨_, (((hM.setCell (p := ⟨gM, 0, none⟩) hge _).setCell (p := ⟨gM, 1, none⟩) hge _).setCell (p := ⟨gM, 2, none⟩) hge _)⟩, rfl⟩ ?_
     clear hK K
     repeat (refine wpSched_calm rfl (fun K hK => ?_); go_simp; refine hK _ ?_; clear hK K)
     refine wpSched_nil ?_
     have hMn := (((hM.setCell (p := ⟨gM, 0, none⟩) hge (.bool dm)).setCell (p := ⟨gM, 1, none⟩) hge (.slice pm' mm' qm')).setCell (p := ⟨gM, 2, none⟩) hge (.slice pm mm qm))
     replace HVm := Lib.hid (HVm.out.off hBk zRat_no (.bool dm) (.slice pm' mm' qm') (.slice pm mm qm))
     replace cR0 := bc hMn SLR.out SCR0.out
     replace fR0 := bf hMn SLR.out SFR0.out
     replace cR1 := bc hMn SLR.out SCR1.out
     replace fR1 := bf hMn SLR.out SFR1.out
     replace cR2 := bc hMn SLR.out SCR2.out
     replace fR2 := bf hMn SLR.out SFR2.out
     replace ltR := bl hMn SLR.out
     replace cS0 := bc hMn SLS.out SCS0.out
     replace fS0 := bf hMn SLS.out SFS0.out
     replace cS1 := bc hMn SLS.out SCS1.out
     replace fS1 := bf hMn SLS.out SFS1.out
     replace cS2 := bc hMn SLS.out SCS2.out
     replace fS2 := bf hMn SLS.out SFS2.out
     replace ltS := bl hMn SLS.out
     replace cP0 := bc hMn SLP.out SCP0.out
     replace cP1 := bc hMn SLP.out SCP1.out
     replace cP2 := bc hMn SLP.out SCP2.out
     replace ltP := bl hMn SLP.out
     replace HI := Lib.hid (SHI.out.below hMn)
     replace HV3 := Lib.hid (SHV3.out.below hMn)
     replace hB := SB.out.trans (hMn.mono SB.out.size)
     have cM0 : (((wy.setCell ⟨gM, 0, none⟩ (.bool dm)).setCell ⟨gM, 1, none⟩ (.slice pm' mm' qm')).setCell ⟨gM, 2, none⟩ (.slice pm mm qm)).cell? ⟨gM, 0, none⟩ = some (.bool dm) := by go_simp
     have cM1 : (((wy.setCell ⟨gM, 0, none⟩ (.bool dm)).setCell ⟨gM, 1, none⟩ (.slice pm' mm' qm')).setCell ⟨gM, 2, none⟩ (.slice pm mm qm)).cell? ⟨gM, 1, none⟩ = some (.slice pm' mm' qm') := by go_simp
     have cM2 : (((wy.setCell ⟨gM, 0, none⟩ (.bool dm)).setCell ⟨gM, 1, none⟩ (.slice pm' mm' qm')).setCell ⟨gM, 2, none⟩ (.slice pm mm qm)).cell? ⟨gM, 2, none⟩ = some (.slice pm mm qm) := by go_simp
     have ltM : gM < (((wy.setCell ⟨gM, 0, none⟩ (.bool dm)).setCell ⟨gM, 1, none⟩ (.slice pm' mm' qm')).setCell ⟨gM, 2, none⟩ (.slice pm mm qm)).heap.size := by simpa using hgl
     have neMR : w.heap.size < gM := Nat.lt_of_lt_of_le SLR.out hge
     have neMS : w.heap.size + 1 < gM := Nat.lt_of_lt_of_le SLS.out hge
     have neMP : w3.heap.size < gM := Nat.lt_of_lt_of_le SLP.out hge
     clear SCR0 SFR0 SCR1 SFR1 SCR2 SFR2 SLR SCS0 SFS0 SCS1 SFS1 SCS2 SFS2 SLS SCP0 SCP1 SCP2 SLP SHI SHV3 SB
     clear hMn hM hBk hgl z0 y0 z1 y1 z2 y2
     go_wp2_with fail
     generalize (((wy.setCell ⟨gM, 0, none⟩ (.bool dm)).setCell ⟨gM, 1, none⟩ (.slice pm' mm' qm')).setCell ⟨gM, 2, none⟩ (.slice pm mm qm)) = w4 at *
     have SCR0 := Lib.hid cR0
     have SFR0 := Lib.hid fR0
     have SCR1 := Lib.hid cR1
     have SFR1 := Lib.hid fR1
     have SCR2 := Lib.hid cR2
     have SFR2 := Lib.hid fR2
     have SLR := Lib.hid ltR
     have SCS0 := Lib.hid cS0
     have SFS0 := Lib.hid fS0
     have SCS1 := Lib.hid cS1
     have SFS1 := Lib.hid fS1
     have SCS2 := Lib.hid cS2
     have SFS2 := Lib.hid fS2
     have SLS := Lib.hid ltS
     have SCP0 := Lib.hid cP0
     have SCP1 := Lib.hid cP1
     have SCP2 := Lib.hid cP2
     have SLP := Lib.hid ltP
     have SCM0 := Lib.hid cM0
     have SCM1 := Lib.hid cM1
     have SCM2 := Lib.hid cM2
     have SLM := Lib.hid ltM
     have SHI := Lib.hid HI.out
     have SHV3 := Lib.hid HV3.out
     have SHVm := Lib.hid HVm.out
     have SB := Lib.hid hB
     have eR0 := box_ext (B := w4.heap.size) cR0 ltR
     have eR1 := box_ext (B := w4.heap.size) cR1 ltR
     have eR2 := box_ext (B := w4.heap.size) cR2 ltR
     have eS0 := box_ext (B := w4.heap.size) cS0 ltS
     have eS1 := box_ext (B := w4.heap.size) cS1 ltS
     have eS2 := box_ext (B := w4.heap.size) cS2 ltS
     have eP0 := box_ext (B := w4.heap.size) cP0 ltP
     have eP1 := box_ext (B := w4.heap.size) cP1 ltP
     have eP2 := box_ext (B := w4.heap.size) cP2 ltP
     have eM0 := box_ext (B := w4.heap.size) cM0 ltM
     have eM1 := box_ext (B := w4.heap.size) cM1 ltM
     have eM2 := box_ext (B := w4.heap.size) cM2 ltM
     refine wp_region_float 7 [(0, false), (2, false), (1, true), (3, true), (4, false), (5, false), (6, false)] [(8, true), (9, false)] (fun w' => ∃ W : Ext w4.heap.size w4, w' = W.1) _ 13 (.cells #[.bool false, .slice none 0 0, .slice none 0 0] 28) w4.heap.size (by kernel_rfl) rfl rfl rfl (fun a w => by simp [execOp, go_sem]) (fun w ⟨W, e⟩ => e ▸ W.2.size) (fun w ⟨W, e⟩ => ⟨⟨_, (e ▸ W.2).alloc (e ▸ W.2.size) _⟩, rfl⟩) (by kernel_rfl) ⟨⟨w4.drew, (Below.refl _ _).drew⟩, rfl⟩ ?_
     repeat (refine wpFl_calm rfl (fun K hK => ?_); go_simp; refine hK _ ?_; clear hK K)
     clear eR0 eR1 eR2 eS0 eS1 eS2 eP0 eP1 eP2 eM0 eM1 eM2
     have hbx : Below w4.heap.size w4 w4.drew := (Below.refl _ _).drew
     have hM := hbx
     replace cR0 := bc hbx ltR cR0
     replace fR0 := bf hbx ltR fR0
     replace cR1 := bc hbx ltR cR1
     replace fR1 := bf hbx ltR fR1
     replace cR2 := bc hbx ltR cR2
     replace fR2 := bf hbx ltR fR2
     replace ltR := bl hbx ltR
     replace cS0 := bc hbx ltS cS0
     replace fS0 := bf hbx ltS fS0
     replace cS1 := bc hbx ltS cS1
     replace fS1 := bf hbx ltS fS1
     replace cS2 := bc hbx ltS cS2
     replace fS2 := bf hbx ltS fS2
     replace ltS := bl hbx ltS
     replace cP0 := bc hbx ltP cP0
     replace cP1 := bc hbx ltP cP1
     replace cP2 := bc hbx ltP cP2
     replace ltP := bl hbx ltP
     replace cM0 := bc hbx ltM cM0
     replace cM1 := bc hbx ltM cM1
     replace cM2 := bc hbx ltM cM2
     replace ltM := bl hbx ltM
     replace HI := Lib.hid (HI.out.below hbx)
     replace HV3 := Lib.hid (HV3.out.below hbx)
     replace HVm := Lib.hid (HVm.out.below hbx)
     replace hB := hB.trans (hbx.mono hB.size)
     clear hbx
     generalize w4.drew = ww4d at *
     refine wpFl_eff rfl rfl (fun wy hC hg K hK => ?_)
     obtain ⟨⟨wz, hE⟩, hwe⟩ := hC
     change wy = wz at hwe
     subst hwe
     replace cR0 := bc hg ltR cR0
     replace fR0 := bf hg ltR fR0
     replace cR1 := bc hg ltR cR1
     replace fR1 := bf hg ltR fR1
     replace cR2 := bc hg ltR cR2
     replace fR2 := bf hg ltR fR2
     replace ltR := bl hg ltR
     replace cS0 := bc hg ltS cS0
     replace fS0 := bf hg ltS fS0
     replace cS1 := bc hg ltS cS1
     replace fS1 := bf hg ltS fS1
     replace cS2 := bc hg ltS cS2
     replace fS2 := bf hg ltS fS2
     replace ltS := bl hg ltS
     replace cP0 := bc hg ltP cP0
     replace cP1 := bc hg ltP cP1
     replace cP2 := bc hg ltP cP2
     replace ltP := bl hg ltP
     replace cM0 := bc hg ltM cM0
     replace cM1 := bc hg ltM cM1
     replace cM2 := bc hg ltM cM2
     replace ltM := bl hg ltM
     replace HI := Lib.hid (HI.out.below hg)
     replace HV3 := Lib.hid (HV3.out.below hg)
     replace HVm := Lib.hid (HVm.out.below hg)
     replace hB := hB.trans (hg.mono hB.size)
     replace hM := hE
     clear hE hg
     go_simp
     refine (ewhole_any s2 _ (by omega) (by omega)).mono ?_
     rintro e was ⟨vas, rfl, hv, hsz, hb⟩
     replace cR0 := bc hb ltR cR0
     replace fR0 := bf hb ltR fR0
     replace cR1 := bc hb ltR cR1
     replace fR1 := bf hb ltR fR1
     replace cR2 := bc hb ltR cR2
     replace fR2 := bf hb ltR fR2
     replace ltR := bl hb ltR
     replace cS0 := bc hb ltS cS0
     replace fS0 := bf hb ltS fS0
     replace cS1 := bc hb ltS cS1
     replace fS1 := bf hb ltS fS1
     replace cS2 := bc hb ltS cS2
     replace fS2 := bf hb ltS fS2
     replace ltS := bl hb ltS
     replace cP0 := bc hb ltP cP0
     replace cP1 := bc hb ltP cP1
     replace cP2 := bc hb ltP cP2
     replace ltP := bl hb ltP
     replace cM0 := bc hb ltM cM0
     replace cM1 := bc hb ltM cM1
     replace cM2 := bc hb ltM cM2
     replace ltM := bl hb ltM
     replace HI := Lib.hid (HI.out.below hb)
     replace HV3 := Lib.hid (HV3.out.below hb)
     replace HVm := Lib.hid (HVm.out.below hb)
     replace hM := hM.trans (hb.mono hM.size)
     replace hB := hB.trans (hb.mono hB.size)
     have HVas := Lib.hid (hv.raw hsz)
     clear hv hsz
     refine hK _ _ ⟨⟨was, hM⟩, rfl⟩ hb ?_
     clear hK K hb
     refine wpFl_eff rfl rfl (fun wy hC hg K hK => ?_)
     obtain ⟨⟨wz, hE⟩, hwe⟩ := hC
     change wy = wz at hwe
     subst hwe
     replace cR0 := bc hg ltR cR0
     replace fR0 := bf hg ltR fR0
     replace cR1 := bc hg ltR cR1
     replace fR1 := bf hg ltR fR1
     replace cR2 := bc hg ltR cR2
     replace fR2 := bf hg ltR fR2
     replace ltR := bl hg ltR
     replace cS0 := bc hg ltS cS0
     replace fS0 := bf hg ltS fS0
     replace cS1 := bc hg ltS cS1
     replace fS1 := bf hg ltS fS1
     replace cS2 := bc hg ltS cS2
     replace fS2 := bf hg ltS fS2
     replace ltS := bl hg ltS
     replace cP0 := bc hg ltP cP0
     replace cP1 := bc hg ltP cP1
     replace cP2 := bc hg ltP cP2
     replace ltP := bl hg ltP
     replace cM0 := bc hg ltM cM0
     replace cM1 := bc hg ltM cM1
     replace cM2 := bc hg ltM cM2
     replace ltM := bl hg ltM
     replace HI := Lib.hid (HI.out.below hg)
     replace HV3 := Lib.hid (HV3.out.below hg)
     replace HVm := Lib.hid (HVm.out.below hg)
     replace HVas := Lib.hid (HVas.out.below hg)
     replace hB := hB.trans (hg.mono hB.size)
     replace hM := hE
     clear hE hg
     go_simp
     have hsB : w.heap.size + 2 ≤ wy.heap.size := ltS
     refine (qdiv_any _ _ (s2 : Rat) (sf : Rat) 2 2 _ HVas.out HV3.out HSn.out (by omega) (by omega) (by omega)).mono ?_
     rintro e wbs ⟨vbs, rfl, hv, hsz, hb⟩
     replace cR0 := bc hb ltR cR0
     replace fR0 := bf hb ltR fR0
     replace cR1 := bc hb ltR cR1
     replace fR1 := bf hb ltR fR1
     replace cR2 := bc hb ltR cR2
     replace fR2 := bf hb ltR fR2
     replace ltR := bl hb ltR
     replace cS0 := bc hb ltS cS0
     replace fS0 := bf hb ltS fS0
     replace cS1 := bc hb ltS cS1
     replace fS1 := bf hb ltS fS1
     replace cS2 := bc hb ltS cS2
     replace fS2 := bf hb ltS fS2
     replace ltS := bl hb ltS
     replace cP0 := bc hb ltP cP0
     replace cP1 := bc hb ltP cP1
     replace cP2 := bc hb ltP cP2
     replace ltP := bl hb ltP
     replace cM0 := bc hb ltM cM0
     replace cM1 := bc hb ltM cM1
     replace cM2 := bc hb ltM cM2
     replace ltM := bl hb ltM
     replace HI := Lib.hid (HI.out.below hb)
     replace HV3 := Lib.hid (HV3.out.below hb)
     replace HVm := Lib.hid (HVm.out.below hb)
     replace HVas := Lib.hid (HVas.out.below hb)
     replace hM := hM.trans (hb.mono hM.size)
     replace hB := hB.trans (hb.mono hB.size)
     have HZs := Lib.hid hsz
     have HVs := Lib.hid (hv.mono hsB)
     obtain ⟨ps', ms', qs', ps, ms, qs, rfl, -, -, -, -⟩ := hv
     clear hsz
     generalize decide (((s2 : Rat) / (sf : Rat)).num < 0) = ds at *
     refine hK _ _ ⟨⟨wbs, hM⟩, rfl⟩ hb ?_
     clear hK K hb
     clear HVas
     repeat (refine wpFl_calm rfl (fun K hK => ?_); go_simp; refine hK _ ?_; clear hK K)
     refine wpFl_nil fun gQ wy hC hg hBk hge => ?_
     obtain ⟨⟨wz, hE⟩, hwe⟩ := hC
     change wy = wz at hwe
     subst hwe
     replace cR0 := bc hg ltR cR0
     replace fR0 := bf hg ltR fR0
     replace cR1 := bc hg ltR cR1
     replace fR1 := bf hg ltR fR1
     replace cR2 := bc hg ltR cR2
     replace fR2 := bf hg ltR fR2
     replace ltR := bl hg ltR
     replace cS0 := bc hg ltS cS0
     replace fS0 := bf hg ltS fS0
     replace cS1 := bc hg ltS cS1
     replace fS1 := bf hg ltS fS1
     replace cS2 := bc hg ltS cS2
     replace fS2 := bf hg ltS fS2
     replace ltS := bl hg ltS
     replace cP0 := bc hg ltP cP0
     replace cP1 := bc hg ltP cP1
     replace cP2 := bc hg ltP cP2
     replace ltP := bl hg ltP
     replace cM0 := bc hg ltM cM0
     replace cM1 := bc hg ltM cM1
     replace cM2 := bc hg ltM cM2
     replace ltM := bl hg ltM
     replace HI := Lib.hid (HI.out.below hg)
     replace HV3 := Lib.hid (HV3.out.below hg)
     replace HVm := Lib.hid (HVm.out.below hg)
     replace HVs := Lib.hid (HVs.out.below hg)
     replace hB := hB.trans (hg.mono hB.size)
     replace hM := hE
     clear hE hg
     have z0 := blk_cell hBk 0
     have y0 := blk_free hBk 0
     have z1 := blk_cell hBk 1
     have y1 := blk_free hBk 1
     have z2 := blk_cell hBk 2
     have y2 := blk_free hBk 2
     simp at z0 z1 z2
     have hgl := blk_lt hBk
     refine wpSched_eff rfl rfl (fun K hK => ?_)
     go_simp
     refine hK _ _ ⟨⟨_, (((hM.setCell (p := ⟨gQ, 0, none⟩) hge _).setCell (p := ⟨gQ, 1, none⟩) hge _).setCell (p := ⟨gQ, 2, none⟩) hge _)⟩, rfl⟩ ?_
     clear hK K
     repeat (refine wpSched_calm rfl (fun K hK => ?_); go_simp; refine hK _ ?_; clear hK K)
     refine wpSched_nil ?_
     have hMn := (((hM.setCell (p := ⟨gQ, 0, none⟩) hge (.bool ds)).setCell (p := ⟨gQ, 1, none⟩) hge (.slice ps' ms' qs')).setCell (p := ⟨gQ, 2, none⟩) hge (.slice ps ms qs))
     replace HVs := Lib.hid (HVs.out.off hBk zRat_no (.bool ds) (.slice ps' ms' qs') (.slice ps ms qs))
     replace cR0 := bc hMn SLR.out SCR0.out
     replace fR0 := bf hMn SLR.out SFR0.out
     replace cR1 := bc hMn SLR.out SCR1.out
     replace fR1 := bf hMn SLR.out SFR1.out
     replace cR2 := bc hMn SLR.out SCR2.out
     replace fR2 := bf hMn SLR.out SFR2.out
     replace ltR := bl hMn SLR.out
     replace cS0 := bc hMn SLS.out SCS0.out
     replace fS0 := bf hMn SLS.out SFS0.out
     replace cS1 := bc hMn SLS.out SCS1.out
     replace fS1 := bf hMn SLS.out SFS1.out
     replace cS2 := bc hMn SLS.out SCS2.out
     replace fS2 := bf hMn SLS.out SFS2.out
     replace ltS := bl hMn SLS.out
     replace cP0 := bc hMn SLP.out SCP0.out
     replace cP1 := bc hMn SLP.out SCP1.out
     replace cP2 := bc hMn SLP.out SCP2.out
     replace ltP := bl hMn SLP.out
     replace cM0 := bc hMn SLM.out SCM0.out
     replace cM1 := bc hMn SLM.out SCM1.out
     replace cM2 := bc hMn SLM.out SCM2.out
     replace ltM := bl hMn SLM.out
     replace HI := Lib.hid (SHI.out.below hMn)
     replace HV3 := Lib.hid (SHV3.out.below hMn)
     replace HVm := Lib.hid (SHVm.out.below hMn)
     replace hB := SB.out.trans (hMn.mono SB.out.size)
     have cQ0 : (((wy.setCell ⟨gQ, 0, none⟩ (.bool ds)).setCell ⟨gQ, 1, none⟩ (.slice ps' ms' qs')).setCell ⟨gQ, 2, none⟩ (.slice ps ms qs)).cell? ⟨gQ, 0, none⟩ = some (.bool ds) := by go_simp
     have cQ1 : (((wy.setCell ⟨gQ, 0, none⟩ (.bool ds)).setCell ⟨gQ, 1, none⟩ (.slice ps' ms' qs')).setCell ⟨gQ, 2, none⟩ (.slice ps ms qs)).cell? ⟨gQ, 1, none⟩ = some (.slice ps' ms' qs') := by go_simp
     have cQ2 : (((wy.setCell ⟨gQ, 0, none⟩ (.bool ds)).setCell ⟨gQ, 1, none⟩ (.slice ps' ms' qs')).setCell ⟨gQ, 2, none⟩ (.slice ps ms qs)).cell? ⟨gQ, 2, none⟩ = some (.slice ps ms qs) := by go_simp
     have ltQ : gQ < (((wy.setCell ⟨gQ, 0, none⟩ (.bool ds)).setCell ⟨gQ, 1, none⟩ (.slice ps' ms' qs')).setCell ⟨gQ, 2, none⟩ (.slice ps ms qs)).heap.size := by simpa using hgl
     have neQR : w.heap.size < gQ := Nat.lt_of_lt_of_le SLR.out hge
     have neQS : w.heap.size + 1 < gQ := Nat.lt_of_lt_of_le SLS.out hge
     have neQP : w3.heap.size < gQ := Nat.lt_of_lt_of_le SLP.out hge
     have neQM : gM < gQ := Nat.lt_of_lt_of_le SLM.out hge
     clear SCR0 SFR0 SCR1 SFR1 SCR2 SFR2 SLR SCS0 SFS0 SCS1 SFS1 SCS2 SFS2 SLS SCP0 SCP1 SCP2 SLP SCM0 SCM1 SCM2 SLM SHI SHV3 SHVm SB
     clear hMn hM hBk hgl z0 y0 z1 y1 z2 y2
     go_wp2_with fail
     generalize (((wy.setCell ⟨gQ, 0, none⟩ (.bool ds)).setCell ⟨gQ, 1, none⟩ (.slice ps' ms' qs')).setCell ⟨gQ, 2, none⟩ (.slice ps ms qs)) = w5 at *
     have eP0 := Gr.cell (R := w.heap.size) (R2 := w.heap.size + 1) cP0 ltP (by omega) (by omega)
     have eP1 := Gr.cell (R := w.heap.size) (R2 := w.heap.size + 1) cP1 ltP (by omega) (by omega)
     have eP2 := Gr.cell (R := w.heap.size) (R2 := w.heap.size + 1) cP2 ltP (by omega) (by omega)
     have eM0 := Gr.cell (R := w.heap.size) (R2 := w.heap.size + 1) cM0 ltM (by omega) (by omega)
     have eM1 := Gr.cell (R := w.heap.size) (R2 := w.heap.size + 1) cM1 ltM (by omega) (by omega)
     have eM2 := Gr.cell (R := w.heap.size) (R2 := w.heap.size + 1) cM2 ltM (by omega) (by omega)
     have eQ0 := Gr.cell (R := w.heap.size) (R2 := w.heap.size + 1) cQ0 ltQ (by omega) (by omega)
     have eQ1 := Gr.cell (R := w.heap.size) (R2 := w.heap.size + 1) cQ1 ltQ (by omega) (by omega)
     have eQ2 := Gr.cell (R := w.heap.size) (R2 := w.heap.size + 1) cQ2 ltQ (by omega) (by omega)
     refine wp_region_sched [(0, false), (1, false), (2, false), (3, false), (4, true), (5, true), (6, true), (7, true), (8, false)] (fun w' => ∃ W : Gr (w.heap.size) (w.heap.size + 1) w5, w' = W.1) (by kernel_rfl) (by kernel_rfl) ⟨⟨w5.drew, below_grown (Below.refl _ _).drew⟩, rfl⟩ ?_
     repeat (refine wpSched_calm rfl (fun K hK => ?_); go_simp; refine hK _ ?_; clear hK K)
     clear eP0 eP1 eP2 eM0 eM1 eM2 eQ0 eQ1 eQ2
     have hbx : Below w5.heap.size w5 w5.drew := (Below.refl _ _).drew
     have hM := below_grown (R := w.heap.size) (R2 := w.heap.size + 1) hbx
     replace cR0 := bc hbx ltR cR0
     replace fR0 := bf hbx ltR fR0
     replace cR1 := bc hbx ltR cR1
     replace fR1 := bf hbx ltR fR1
     replace cR2 := bc hbx ltR cR2
     replace fR2 := bf hbx ltR fR2
     replace ltR := bl hbx ltR
     replace cS0 := bc hbx ltS cS0
     replace fS0 := bf hbx ltS fS0
     replace cS1 := bc hbx ltS cS1
     replace fS1 := bf hbx ltS fS1
     replace cS2 := bc hbx ltS cS2
     replace fS2 := bf hbx ltS fS2
     replace ltS := bl hbx ltS
     replace cP0 := bc hbx ltP cP0
     replace cP1 := bc hbx ltP cP1
     replace cP2 := bc hbx ltP cP2
     replace ltP := bl hbx ltP
     replace cM0 := bc hbx ltM cM0
     replace cM1 := bc hbx ltM cM1
     replace cM2 := bc hbx ltM cM2
     replace ltM := bl hbx ltM
     replace cQ0 := bc hbx ltQ cQ0
     replace cQ1 := bc hbx ltQ cQ1
     replace cQ2 := bc hbx ltQ cQ2
     replace ltQ := bl hbx ltQ
     replace HI := Lib.hid (HI.out.below hbx)
     replace HV3 := Lib.hid (HV3.out.below hbx)
     replace HVm := Lib.hid (HVm.out.below hbx)
     replace HVs := Lib.hid (HVs.out.below hbx)
     replace hB := hB.trans (hbx.mono hB.size)
     clear hbx
     generalize w5.drew = ww5d at *
     refine wpSched_eff rfl rfl (fun K hK => ?_)
     go_simp
     refine (qmul_any _ _ ((s1 : Rat) / (sf : Rat)) ((s1 : Rat) / (sf : Rat)) (2 + 2) (2 + 2) _ (HVm.out.raw HZm.out) (HVm.out.raw HZm.out) (by omega) (by omega) (by omega)).mono ?_
     rintro e w6 ⟨v6, rfl, hv, hsz, hb⟩
     replace cR0 := bc hb ltR cR0
     replace fR0 := bf hb ltR fR0
     replace cR1 := bc hb ltR cR1
     replace fR1 := bf hb ltR fR1
     replace cR2 := bc hb ltR cR2
     replace fR2 := bf hb ltR fR2
     replace ltR := bl hb ltR
     replace cS0 := bc hb ltS cS0
     replace fS0 := bf hb ltS fS0
     replace cS1 := bc hb ltS cS1
     replace fS1 := bf hb ltS fS1
     replace cS2 := bc hb ltS cS2
     replace fS2 := bf hb ltS fS2
     replace ltS := bl hb ltS
     replace cP0 := bc hb ltP cP0
     replace cP1 := bc hb ltP cP1
     replace cP2 := bc hb ltP cP2
     replace ltP := bl hb ltP
     replace cM0 := bc hb ltM cM0
     replace cM1 := bc hb ltM cM1
     replace cM2 := bc hb ltM cM2
     replace ltM := bl hb ltM
     replace cQ0 := bc hb ltQ cQ0
     replace cQ1 := bc hb ltQ cQ1
     replace cQ2 := bc hb ltQ cQ2
     replace ltQ := bl hb ltQ
     replace HI := Lib.hid (HI.out.below hb)
     replace HV3 := Lib.hid (HV3.out.below hb)
     replace HVm := Lib.hid (HVm.out.below hb)
     replace HVs := Lib.hid (HVs.out.below hb)
     replace hM := grown_below hM hb
     replace hB := hB.trans (hb.mono hB.size)
     have HV6 := Lib.hid (hv.raw hsz)
     clear hv hsz
     clear hb
     refine hK _ _ ⟨⟨w6, hM⟩, rfl⟩ ?_
     clear hK K
     have hsB : w.heap.size + 2 ≤ w6.heap.size := ltS
     refine wpSched_eff rfl rfl (fun K hK => ?_)
     go_simp
     refine (qsub_any _ _ ((s2 : Rat) / (sf : Rat)) (((s1 : Rat) / (sf : Rat)) * ((s1 : Rat) / (sf : Rat))) (2 + 2) (2 + 2 + (2 + 2)) _ (HVs.out.raw HZs.out) HV6.out (by omega) (by omega) (by omega)).mono ?_
     rintro e w7 ⟨v7, rfl, hv, hsz, hb⟩
     replace cR0 := bc hb ltR cR0
     replace fR0 := bf hb ltR fR0
     replace cR1 := bc hb ltR cR1
     replace fR1 := bf hb ltR fR1
     replace cR2 := bc hb ltR cR2
     replace fR2 := bf hb ltR fR2
     replace ltR := bl hb ltR
     replace cS0 := bc hb ltS cS0
     replace fS0 := bf hb ltS fS0
     replace cS1 := bc hb ltS cS1
     replace fS1 := bf hb ltS fS1
     replace cS2 := bc hb ltS cS2
     replace fS2 := bf hb ltS fS2
     replace ltS := bl hb ltS
     replace cP0 := bc hb ltP cP0
     replace cP1 := bc hb ltP cP1
     replace cP2 := bc hb ltP cP2
     replace ltP := bl hb ltP
     replace cM0 := bc hb ltM cM0
     replace cM1 := bc hb ltM cM1
     replace cM2 := bc hb ltM cM2
     replace ltM := bl hb ltM
     replace cQ0 := bc hb ltQ cQ0
     replace cQ1 := bc hb ltQ cQ1
     replace cQ2 := bc hb ltQ cQ2
     replace ltQ := bl hb ltQ
     replace HI := Lib.hid (HI.out.below hb)
     replace HV3 := Lib.hid (HV3.out.below hb)
     replace HVm := Lib.hid (HVm.out.below hb)
     replace HVs := Lib.hid (HVs.out.below hb)
     replace HV6 := Lib.hid (HV6.out.below hb)
     replace hM := grown_below hM hb
     replace hB := hB.trans (hb.mono hB.size)
     have HZ7 := Lib.hid (hsz.mono (show 2 + 2 + (2 + 2 + (2 + 2)) + 1 ≤ 20 by omega))
     have HV7 := Lib.hid (hv.mono hsB)
     obtain ⟨p7', m7', q7', p7, m7, q7, rfl, -, -, -, -⟩ := hv
     clear hsz
     generalize decide ((((s2 : Rat) / (sf : Rat)) - ((s1 : Rat) / (sf : Rat)) * ((s1 : Rat) / (sf : Rat))).num < 0) = d7 at *
     clear hb
     refine hK _ _ ⟨⟨w7, hM⟩, rfl⟩ ?_
     clear hK K
     refine wpSched_eff rfl rfl (fun K hK => ?_)
     go_simp
     refine hK _ _ ⟨⟨_, grown_set (grown_set (grown_set hM 0 _) 1 _) 2 _⟩, rfl⟩ ?_
     clear hK K
     refine wpSched_eff rfl rfl (fun K hK => ?_)
     go_simp
     refine hK _ _ ⟨⟨_, grown_set2 (grown_set2 (grown_set2 (grown_set (grown_set (grown_set hM 0 _) 1 _) 2 _) 0 _) 1 _) 2 _⟩, rfl⟩ ?_
     clear hK K
     repeat (refine wpSched_calm rfl (fun K hK => ?_); go_simp; refine hK _ ?_; clear hK K)
     refine wpSched_nil ?_
     go_wp2_with fail
     exact bodyPost_ret (v := .tuple #[.agg #[.bool dm, .slice pm' mm' qm', .slice pm mm qm], .agg #[.bool d7, .slice p7' m7' q7', .slice p7 m7 q7], .int .i64 0]) (by simp [results, Tryz.results21, go_sem, cR0, cR1, cR2, cS0, cS1, cS2]) rfl ⟨_, _, rfl, by rw [HMe.out]; exact HVm.out.set2 (by omega) (by omega) (by omega) _ _ _ _ _ _, by rw [HVa.out]; exact HV7.out.set2 (by omega) (by omega) (by omega) _ _ _ _ _ _, by rw [HMe.out]; exact HZm.out.mono (by omega), by rw [HVa.out]; exact HZ7.out, ((((((hB.setCell (p := ⟨w.heap.size, 0, none⟩) (by simp) _).setCell (p := ⟨w.heap.size, 1, none⟩) (by simp) _).setCell (p := ⟨w.heap.size, 2, none⟩) (by simp) _).setCell (p := ⟨w.heap.size + 1, 0, none⟩) (by simp) _).setCell (p := ⟨w.heap.size + 1, 1, none⟩) (by simp) _).setCell (p := ⟨w.heap.size + 1, 2, none⟩) (by simp) _)⟩
end Go.Proofs.YtahmndacoanfiaaGreat
namespace Go.Proofs.YtahmndacoanfiaaGreat
set_option maxRecDepth 100000
open Go.RowKit
set_option maxHeartbeats 400000 in
theorem limbs_same (v u : Value) (n : Nat) (w : World) (hv : Num w v n) (hu : Num w u n) :
   Calls Tryz.prog 42 #[v, u] w fun e w' => e = .returned (.bool true) ∧ Below w.heap.size w w' := by
 obtain ⟨a, len, cap, rfl, hv⟩ := hv
 obtain ⟨a', len', cap', rfl, hu⟩ := hu
 obtain rfl : len' = len := by rw [← hv.1, hu.1]
 have hm1 := hv.2.2.1
 have hm2 := hv.2.2.2.1
 unfold maxLen at hm2
 have HV := Lib.hid hv
 have HU := Lib.hid hu
 clear hv hu
 go_enter Tryz.func42, Tryz.ntmps42
 go_wp2_with fail
 go_loopw [13] (fun i wr => ∃ k : Nat, k ≤ len' ∧ i = .int .i64 k ∧ Below w.heap.size w wr) (fun i _ => len' - (intOf i).toNat)
 case atStart => exact ⟨0, by omega, rfl, Below.refl _ _⟩
 case round =>
   obtain ⟨k, hk, rfl, hb⟩ := hrel
   by_cases hlt : k < len'
   · obtain ⟨b, off, rfl, _, hcc⟩ := HV.out.2.2.at (k := k) hlt
     obtain ⟨b', off', rfl, _, hcc'⟩ := HU.out.2.2.at (k := k) hlt
     have c1 := hcc k hlt wr hb
     have c2 := hcc' k hlt wr hb
     clear hcc hcc'
     generalize (digs n).getD k 0 = x at *
     go_wp2_with fail
     go_quiet (fail)
     go_wp2_with fail
     go_roundw
     case rel => exact ⟨k + 1, by omega, by go_num, below_drewN hb _⟩
     case measure => simp [intOf]; omega
   · go_wp2_with fail
     go_ret
     exact ⟨rfl, hb⟩
set_option maxHeartbeats 1000000 in
theorem part_any (n d : Int) (w : World) (h1 : -9223372036854775808 ≤ n) (h2 : n ≤ 9223372036854775807) (h3 : -9223372036854775808 ≤ d) (h4 : d ≤ 9223372036854775807) (hd0 : d ≠ 0) :
   Calls Tryz.prog 43 #[.int .i64 n, .int .i64 d] w fun e w' => ∃ v, e = .returned v ∧ RatN w.heap.size w' v (Rat.divInt n d) ∧ Rsz (Rat.divInt n d) 2 ∧ Below w.heap.size w w' := by
 go_enter Tryz.func43, Tryz.ntmps43
 go_wp2_with fail
 have hbx : Below w.heap.size w (w.alloc (.cells #[.bool false, .slice none 0 0, .slice none 0 0] 28)) := ((Below.refl _ _).alloc (Nat.le_refl _) _)
 generalize hWW : (w.alloc (.cells #[.bool false, .slice none 0 0, .slice none 0 0] 28)) = w0 at *
 have cR0 : w0.cell? ⟨w.heap.size, 0, none⟩ = some (.bool false) := by subst hWW; go_simp
 have fR0 : w0.frozen? ⟨w.heap.size, 0, none⟩ = false := by subst hWW; go_simp
 have cR1 : w0.cell? ⟨w.heap.size, 1, none⟩ = some (.slice none 0 0) := by subst hWW; go_simp
 have fR1 : w0.frozen? ⟨w.heap.size, 1, none⟩ = false := by subst hWW; go_simp
 have cR2 : w0.cell? ⟨w.heap.size, 2, none⟩ = some (.slice none 0 0) := by subst hWW; go_simp
 have fR2 : w0.frozen? ⟨w.heap.size, 2, none⟩ = false := by subst hWW; go_simp
 have ltR : w.heap.size < w0.heap.size := by subst hWW; simp
 have hB := hbx
 clear hbx hWW
 have hs1 := ltR
 refine (qof_any n d _ h1 h2 h3 h4 hd0).mono ?_
 rintro e w1 ⟨v1, rfl, hv1, hsz, hb⟩
 replace cR0 := bc hb ltR cR0
 replace fR0 := bf hb ltR fR0
 replace cR1 := bc hb ltR cR1
 replace fR1 := bf hb ltR fR1
 replace cR2 := bc hb ltR cR2
 replace fR2 := bf hb ltR fR2
 replace ltR := bl hb ltR
 replace hB := hB.trans (hb.mono hB.size)
 obtain ⟨x', l', k', x, l, k, rfl, h1, h2, h3, h4⟩ := hv1
 have HSz := Lib.hid hsz
 have HFin := Lib.hid (rat_store (B := w0.heap.size) (B' := w.heap.size) (g := w.heap.size) (r := Rat.divInt n d) ⟨x', l', k', x, l, k, rfl, h1, h2, h3, h4⟩ hs1 (by omega))
 clear h1 h2 h3 h4 hsz
 generalize decide ((Rat.divInt n d).num < 0) = dn at *
 clear hb
 go_wp2_with fail
 exact bodyPost_ret (v := .agg #[.bool dn, .slice x' l' k', .slice x l k]) (by simp [results, Tryz.results43, go_sem, cR0, cR1, cR2, ltR]) rfl ⟨_, rfl, HFin.out.alloc _ _, HSz.out, ((((hB.setCell (p := ⟨w.heap.size, 0, none⟩) (by simp) _).setCell (p := ⟨w.heap.size, 1, none⟩) (by simp) _).setCell (p := ⟨w.heap.size, 2, none⟩) (by simp) _).alloc (by simpa using hB.size) _)⟩
set_option maxHeartbeats 1000000 in
theorem equal_any (v u : Value) (r : Rat) (B B' : Nat) (w : World) (hv : RatN B w v r) (hu : RatN B' w u r) :
   Calls Tryz.prog 12 #[v, u] w fun e w' => e = .returned (.bool true) ∧ Below w.heap.size w w' := by
 obtain ⟨a1', l1', c1', a1, l1, c1, rfl, h1, -, h2, -⟩ := hv
 obtain ⟨a2', l2', c2', a2, l2, c2, rfl, h3, -, h4, -⟩ := hu
 have H1 : Hid (Num w (.slice a1' l1' c1') r.num.natAbs) := Lib.hid ⟨_, _, _, rfl, h1⟩
 have H2 : Hid (Num w (.slice a1 l1 c1) r.den) := Lib.hid ⟨_, _, _, rfl, h2⟩
 have H3 : Hid (Num w (.slice a2' l2' c2') r.num.natAbs) := Lib.hid ⟨_, _, _, rfl, h3⟩
 have H4 : Hid (Num w (.slice a2 l2 c2) r.den) := Lib.hid ⟨_, _, _, rfl, h4⟩
 clear h1 h2 h3 h4
 have hdd : (decide (r.num < 0) == decide (r.num < 0)) = true := by simp
 generalize decide (r.num < 0) = dn at *
 go_enter Tryz.func12, Tryz.ntmps12
 go_wp2_with fail
 have hbx : Below w.heap.size w ((w.alloc (.cells #[.bool dn, .slice a1' l1' c1', .slice a1 l1 c1] 28)).alloc (.cells #[.bool dn, .slice a2' l2' c2', .slice a2 l2 c2] 28)) := (((Below.refl _ _).alloc (Nat.le_refl _) _).alloc (by simp) _)
 generalize hWW : ((w.alloc (.cells #[.bool dn, .slice a1' l1' c1', .slice a1 l1 c1] 28)).alloc (.cells #[.bool dn, .slice a2' l2' c2', .slice a2 l2 c2] 28)) = w0 at *
 replace H1 := Lib.hid (H1.out.below hbx)
 replace H2 := Lib.hid (H2.out.below hbx)
 replace H3 := Lib.hid (H3.out.below hbx)
 replace H4 := Lib.hid (H4.out.below hbx)
 have cA0 : w0.cell? ⟨w.heap.size, 0, none⟩ = some (.bool dn) := by subst hWW; go_simp
 have cA1 : w0.cell? ⟨w.heap.size, 1, none⟩ = some (.slice a1' l1' c1') := by subst hWW; go_simp
 have cA2 : w0.cell? ⟨w.heap.size, 2, none⟩ = some (.slice a1 l1 c1) := by subst hWW; go_simp
 have ltA : w.heap.size < w0.heap.size := by subst hWW; simp <;> omega
 have cB0 : w0.cell? ⟨w.heap.size + 1, 0, none⟩ = some (.bool dn) := by subst hWW; go_simp
 have cB1 : w0.cell? ⟨w.heap.size + 1, 1, none⟩ = some (.slice a2' l2' c2') := by subst hWW; go_simp
 have cB2 : w0.cell? ⟨w.heap.size + 1, 2, none⟩ = some (.slice a2 l2 c2) := by subst hWW; go_simp
 have ltB : w.heap.size + 1 < w0.heap.size := by subst hWW; simp
 have hB := hbx
 clear hbx hWW
 refine (limbs_same _ _ _ _ H1.out H3.out).mono ?_
 rintro e w1 ⟨rfl, hb⟩
 replace cA0 := bc hb ltA cA0
 replace cA1 := bc hb ltA cA1
 replace cA2 := bc hb ltA cA2
 replace ltA := bl hb ltA
 replace cB0 := bc hb ltB cB0
 replace cB1 := bc hb ltB cB1
 replace cB2 := bc hb ltB cB2
 replace ltB := bl hb ltB
 replace H1 := Lib.hid (H1.out.below hb)
 replace H2 := Lib.hid (H2.out.below hb)
 replace H3 := Lib.hid (H3.out.below hb)
 replace H4 := Lib.hid (H4.out.below hb)
 replace hB := hB.trans (hb.mono hB.size)
 clear hb
 go_wp2_with fail
 refine (limbs_same _ _ _ _ H2.out H4.out).mono ?_
 rintro e w2 ⟨rfl, hb⟩
 replace cA0 := bc hb ltA cA0
 replace cA1 := bc hb ltA cA1
 replace cA2 := bc hb ltA cA2
 replace ltA := bl hb ltA
 replace cB0 := bc hb ltB cB0
 replace cB1 := bc hb ltB cB1
 replace cB2 := bc hb ltB cB2
 replace ltB := bl hb ltB
 replace H1 := Lib.hid (H1.out.below hb)
 replace H2 := Lib.hid (H2.out.below hb)
 replace H3 := Lib.hid (H3.out.below hb)
 replace H4 := Lib.hid (H4.out.below hb)
 replace hB := hB.trans (hb.mono hB.size)
 clear hb
 go_wp2_with fail
 go_ret
 exact ⟨rfl, hB⟩
set_option maxHeartbeats 2000000 in
theorem equals_any (rs : List Rat) (a1 a2 : Option Addr) (n c1 c2 L M : Nat) (w : World) (h1 : RatsN w a1 n c1 rs L) (h2 : RatsN w a2 n c2 rs M) :
   Calls Tryz.prog 18 #[.slice a1 n c1, .slice a2 n c2] w fun e w' => e = .returned (.bool true) ∧ Below w.heap.size w w' := by
 have hlm : n ≤ 9223372036854775807 := by have h3 := h1.2.1; have h4 := h1.2.2.1; unfold maxLen at h4; omega
 have H1 := Lib.hid h1
 have H2 := Lib.hid h2
 clear h1 h2
 go_enter Tryz.func18, Tryz.ntmps18
 go_wp2_with fail
 go_loopw [13] (fun i wr => ∃ k : Nat, k ≤ n ∧ i = .int .i64 k ∧ Hid (Below w.heap.size w wr)) (fun i _ => n - (intOf i).toNat)
 case atStart => exact ⟨0, by omega, rfl, Lib.hid (Below.refl _ _)⟩
 case round =>
   obtain ⟨k, hk, rfl, HB⟩ := hrel
   by_cases hlt : k < n
   · obtain ⟨b1, o1, rfl, hb1, hc1⟩ := H1.out.at hlt
     obtain ⟨b2, o2, rfl, hb2, hc2⟩ := H2.out.at hlt
     obtain ⟨d, x', l', p', x, l, p, e0, e1, e2, hX, -⟩ := (hc1 k hlt).below hb1 HB.out
     obtain ⟨e, y', m', q', y, m, q, g0, g1, g2, hY, -⟩ := (hc2 k hlt).below hb2 HB.out
     have hs1 := Nat.lt_of_lt_of_le hb1 HB.out.size
     have hs2 := Nat.lt_of_lt_of_le hb2 HB.out.size
     have E0 := box_ext (B := wr.heap.size) e0 hs1
     have E1 := box_ext (B := wr.heap.size) e1 hs1
     have E2 := box_ext (B := wr.heap.size) e2 hs1
     have G0 := box_ext (B := wr.heap.size) g0 hs2
     have G1 := box_ext (B := wr.heap.size) g1 hs2
     have G2 := box_ext (B := wr.heap.size) g2 hs2
     have HX := Lib.hid hX
     have HY := Lib.hid hY
     generalize rs.getD k 0 = r at *
     clear hc1 hc2 hX hY e0 e1 e2 g0 g1 g2 hb1 hb2
     go_wp2_with fail
     refine wp_region_sched [(0, false), (1, false), (2, false), (3, false), (4, false), (5, false), (6, false), (7, false), (8, true), (9, false)] (fun w' => ∃ W : Ext wr.heap.size wr, w' = W.1) (by kernel_rfl) (by kernel_rfl) ⟨⟨wr.drew, (Below.refl _ _).drew⟩, rfl⟩ ?_
     repeat (refine wpSched_calm rfl (fun K hK => ?_); go_simp; refine hK _ ?_; clear hK K)
     clear E0 E1 E2 G0 G1 G2
     have hbd : Below wr.heap.size wr wr.drew := (Below.refl _ _).drew
     refine wpSched_eff rfl rfl (fun K hK => ?_)
     go_simp
     refine (equal_any _ _ r _ _ _ (HX.out.below hbd) (HY.out.below hbd)).mono ?_
     rintro e w2 ⟨rfl, hb⟩
     have hM := hbd.trans (hb.mono hbd.size)
     have HB2 := Lib.hid (HB.out.trans (hM.mono HB.out.size))
     refine hK _ _ ⟨⟨w2, hM⟩, rfl⟩ ?_
     clear hK K hb hbd
     repeat (refine wpSched_calm rfl (fun K hK => ?_); go_simp; refine hK _ ?_; clear hK K)
     refine wpSched_nil ?_
     go_wp2_with fail
     go_roundw
     case rel => exact ⟨k + 1, by omega, by go_num, HB2⟩
     case measure => simp [intOf]; omega
   · go_wp2_with fail
     go_ret
     exact ⟨rfl, HB.out⟩
end Go.Proofs.YtahmndacoanfiaaGreat
namespace Go.Proofs.YtahmndacoanfiaaGreat
set_option maxRecDepth 100000
open Go.RowKit
theorem aw_inv {f : List Int} {q : Rat} {k : Nat} (h1 : k < f.length) (h2 : 0 < f.getD k 0) (h3 : q ≤ (preS f (k + 1) : Rat)) (h4 : ∀ j, j < k → f.getD j 0 = 0 ∨ (preS f (j + 1) : Rat) < q) : invR f q = invV f q k :=
 invR_eq ⟨h1, ⟨h2, h3⟩, fun j hj h => by
   rcases h4 j hj with h5 | h5
   · have := h.1; omega
   · have := h.2; grind⟩
theorem aw_r : rankR [1, 2, 1] 0 = 1/8 := by kernel_rfl
theorem aw_s : invR [1, 2, 1] (1/4 * (([1, 2, 1] : List Int).sum : Rat)) = 1/2 := by
 rw [aw_inv (k := 0) (by decide) (by decide) (of_decide_eq_true (by kernel_rfl)) (fun j hj => by omega)]; kernel_rfl
theorem aw_ok : OkF [1, 2, 1] := eqE_OkF.1 (by decide)
theorem aw_ok2 : OkF [0, 1, 2, 1] := eqE_OkF.1 (by decide)
theorem aw_t0 : scoreR [1, 2, 1] [0, 1, 2, 1] 0 = 1 := by
 unfold scoreR
 rw [show rankR [1, 2, 1] ((0 : Nat) : Rat) = 1/8 by kernel_rfl]
 rw [aw_inv (k := 1) (by decide) (by decide) (of_decide_eq_true (by kernel_rfl)) (fun j hj => by
   match j, hj with
   | 0, _ => left; rfl)]; kernel_rfl
theorem aw_t1 : scoreR [1, 2, 1] [0, 1, 2, 1] 1 = 2 := by
 unfold scoreR
 rw [show rankR [1, 2, 1] ((1 : Nat) : Rat) = 1/2 by kernel_rfl]
 rw [aw_inv (k := 2) (by decide) (by decide) (of_decide_eq_true (by kernel_rfl)) (fun j hj => by
   match j, hj with
   | 0, _ => left; rfl
   | 1, _ => right; exact of_decide_eq_true (by kernel_rfl))]; kernel_rfl
theorem aw_t2 : scoreR [1, 2, 1] [0, 1, 2, 1] 2 = 3 := by
 unfold scoreR
 rw [show rankR [1, 2, 1] ((2 : Nat) : Rat) = 7/8 by kernel_rfl]
 rw [aw_inv (k := 3) (by decide) (by decide) (of_decide_eq_true (by kernel_rfl)) (fun j hj => by
   match j, hj with
   | 0, _ => left; rfl
   | 1, _ => right; exact of_decide_eq_true (by kernel_rfl)
   | 2, _ => right; exact of_decide_eq_true (by kernel_rfl))]; kernel_rfl
theorem aw_t : tableL [1, 2, 1] [0, 1, 2, 1] = [1, 2, 3] := by
 show [scoreR [1, 2, 1] [0, 1, 2, 1] 0, scoreR [1, 2, 1] [0, 1, 2, 1] 1, scoreR [1, 2, 1] [0, 1, 2, 1] 2] = _
 rw [aw_t0, aw_t1, aw_t2]
theorem aw_l : rndL (-1) 5 1 [1/2, -3/2, 9] = [0, -1, 5] := by kernel_rfl
theorem aw_m : meanR [1, 2, 1] = 1 := by kernel_rfl
theorem aw_v : varR [1, 2, 1] = 1/2 := by kernel_rfl
theorem ratsN_three {w : World} {b : Nat} {n0 n1 n2 : Bool} {x0' x0 x1' x1 x2' x2 : Option Addr} {l0' c0' l0 c0 l1' c1' l1 c1 l2' c2' l2 c2 : Nat} {r0 r1 r2 : Rat} {L : Nat} (hlt : b < w.heap.size)
   (h : w.heap[b]? = some (.cells #[.bool n0, .slice x0' l0' c0', .slice x0 l0 c0, .bool n1, .slice x1' l1' c1', .slice x1 l1 c1, .bool n2, .slice x2' l2' c2', .slice x2 l2 c2] 28))
   (hX : RatN 0 w (.agg #[.bool n0, .slice x0' l0' c0', .slice x0 l0 c0]) r0) (hY : RatN 0 w (.agg #[.bool n1, .slice x1' l1' c1', .slice x1 l1 c1]) r1) (hZ : RatN 0 w (.agg #[.bool n2, .slice x2' l2' c2', .slice x2 l2 c2]) r2) (s0 : Rsz r0 L) (s1 : Rsz r1 L) (s2 : Rsz r2 L) :
   RatsN w (some ⟨b, 0, none⟩) 3 3 [r0, r1, r2] L :=
 ⟨rfl, Nat.le_refl _, by simp [maxLen], .inr ⟨b, 0, rfl, hlt, fun i hi => by
   match i, hi with
   | 0, _ => exact ⟨_, _, _, _, _, _, _, by rw [blk_cell h]; rfl, by rw [blk_cell h]; rfl, by rw [blk_cell h]; rfl, hX, s0⟩
   | 1, _ => exact ⟨_, _, _, _, _, _, _, by rw [blk_cell h]; rfl, by rw [blk_cell h]; rfl, by rw [blk_cell h]; rfl, hY, s1⟩
   | 2, _ => exact ⟨_, _, _, _, _, _, _, by rw [blk_cell h]; rfl, by rw [blk_cell h]; rfl, by rw [blk_cell h]; rfl, hZ, s2⟩⟩⟩
set_option maxHeartbeats 8000000 in
theorem awake_any (w : World) :
   Calls Tryz.prog 13 #[] w fun e w' => e = .returned (.bool true) ∧ Below w.heap.size w w' := by
 go_enter Tryz.func13, Tryz.ntmps13
 go_wp2_with fail
 have hbx : Below w.heap.size w (w.alloc (.cells #[.int .i64 1, .int .i64 2, .int .i64 1] 3)) := ((Below.refl _ _).alloc (Nat.le_refl _) _)
 generalize hWW : (w.alloc (.cells #[.int .i64 1, .int .i64 2, .int .i64 1] 3)) = w0 at *
 have hB := hbx
 have HF := Lib.hid (show Ints w0 (some ⟨w.heap.size, 0, none⟩) 3 3 [1, 2, 1] by rw [← hWW]; exact ints_lit w 3 [1, 2, 1] (by simp [maxLen]))
 clear hbx hWW
 refine (part_any (0) 1 _ (by omega) (by omega) (by omega) (by omega) (by omega)).mono ?_
 rintro e w1 ⟨v1, rfl, hv, hsz, hb⟩
 replace HF := Lib.hid (HF.out.below hb)
 replace hB := hB.trans (hb.mono hB.size)
 rw [show Rat.divInt (0) 1 = (0 : Rat) from by kernel_rfl] at hv hsz
 have HZ1 := Lib.hid hsz
 have HV1 := Lib.hid (hv.mono (Nat.zero_le _))
 obtain ⟨p1', m1', q1', p1, m1, q1, rfl, -, -, -, -⟩ := hv
 clear hsz
 generalize decide ((0 : Rat).num < 0) = d1 at *
 clear hb
 go_wp2_with fail
 refine (erank_any [1, 2, 1] _ 3 3 _ 0 2 _ HF.out (HV1.out.raw HZ1.out) (by omega) (by omega) aw_ok).mono ?_
 rintro e w2 ⟨v2, rfl, hv, hsz, hb⟩
 replace HF := Lib.hid (HF.out.below hb)
 replace HV1 := Lib.hid (HV1.out.below hb)
 replace hB := hB.trans (hb.mono hB.size)
 rw [show rankR [1, 2, 1] 0 = (1/8 : Rat) from aw_r] at hv hsz
 have HZ2 := Lib.hid hsz
 have HV2 := Lib.hid (hv.mono (Nat.zero_le _))
 obtain ⟨p2', m2', q2', p2, m2, q2, rfl, -, -, -, -⟩ := hv
 clear hsz
 generalize decide (((1/8 : Rat) : Rat).num < 0) = d2 at *
 clear hb
 clear HV1
 clear HZ1
 go_wp2_with fail
 have hbx : Below w2.heap.size w2 (w2.alloc (.cells #[.bool d2, .slice p2' m2' q2', .slice p2 m2 q2] 28)) := ((Below.refl _ _).alloc (Nat.le_refl _) _)
 generalize hWW : (w2.alloc (.cells #[.bool d2, .slice p2' m2' q2', .slice p2 m2 q2] 28)) = w2a at *
 replace HF := Lib.hid (HF.out.below hbx)
 replace HV2 := Lib.hid (HV2.out.below hbx)
 have cA0 : w2a.cell? ⟨w2.heap.size, 0, none⟩ = some (.bool d2) := by subst hWW; go_simp
 have cA1 : w2a.cell? ⟨w2.heap.size, 1, none⟩ = some (.slice p2' m2' q2') := by subst hWW; go_simp
 have cA2 : w2a.cell? ⟨w2.heap.size, 2, none⟩ = some (.slice p2 m2 q2) := by subst hWW; go_simp
 have ltA : w2.heap.size < w2a.heap.size := by subst hWW; simp
 replace hB := hB.trans (hbx.mono hB.size)
 clear hbx hWW
 refine (part_any (1) 4 _ (by omega) (by omega) (by omega) (by omega) (by omega)).mono ?_
 rintro e w3 ⟨v3, rfl, hv, hsz, hb⟩
 replace cA0 := bc hb ltA cA0
 replace cA1 := bc hb ltA cA1
 replace cA2 := bc hb ltA cA2
 replace ltA := bl hb ltA
 replace HF := Lib.hid (HF.out.below hb)
 replace HV2 := Lib.hid (HV2.out.below hb)
 replace hB := hB.trans (hb.mono hB.size)
 rw [show Rat.divInt (1) 4 = (1/4 : Rat) from by kernel_rfl] at hv hsz
 have HZ3 := Lib.hid hsz
 have HV3 := Lib.hid (hv.mono (Nat.zero_le _))
 obtain ⟨p3', m3', q3', p3, m3, q3, rfl, -, -, -, -⟩ := hv
 clear hsz
 generalize decide ((1/4 : Rat).num < 0) = d3 at *
 clear hb
 go_wp2_with fail
 refine (einv_any [1, 2, 1] _ 3 3 _ (1/4) 2 _ HF.out (HV3.out.raw HZ3.out) (by omega) (by omega) aw_ok (of_decide_eq_true (by kernel_rfl)) (of_decide_eq_true (by kernel_rfl))).mono ?_
 rintro e w4 ⟨v4, rfl, hv, hsz, hb⟩
 replace cA0 := bc hb ltA cA0
 replace cA1 := bc hb ltA cA1
 replace cA2 := bc hb ltA cA2
 replace ltA := bl hb ltA
 replace HF := Lib.hid (HF.out.below hb)
 replace HV2 := Lib.hid (HV2.out.below hb)
 replace HV3 := Lib.hid (HV3.out.below hb)
 replace hB := hB.trans (hb.mono hB.size)
 rw [show invR [1, 2, 1] (1/4 * (([1, 2, 1] : List Int).sum : Rat)) = (1/2 : Rat) from aw_s] at hv hsz
 have HZ4 := Lib.hid hsz
 have HV4 := Lib.hid (hv.mono (Nat.zero_le _))
 obtain ⟨p4', m4', q4', p4, m4, q4, rfl, -, -, -, -⟩ := hv
 clear hsz
 generalize decide (((1/2 : Rat) : Rat).num < 0) = d4 at *
 clear hb
 clear HV3
 clear HZ3
 go_wp2_with fail
 have hbx : Below w4.heap.size w4 ((w4.alloc (.cells #[.bool d4, .slice p4' m4' q4', .slice p4 m4 q4] 28)).alloc (.cells #[.int .i64 0, .int .i64 1, .int .i64 2, .int .i64 1] 3)) := (((Below.refl _ _).alloc (Nat.le_refl _) _).alloc (by simp) _)
 generalize hWW : ((w4.alloc (.cells #[.bool d4, .slice p4' m4' q4', .slice p4 m4 q4] 28)).alloc (.cells #[.int .i64 0, .int .i64 1, .int .i64 2, .int .i64 1] 3)) = w4a at *
 replace cA0 := bc hbx ltA cA0
 replace cA1 := bc hbx ltA cA1
 replace cA2 := bc hbx ltA cA2
 replace ltA := bl hbx ltA
 replace HF := Lib.hid (HF.out.below hbx)
 replace HV2 := Lib.hid (HV2.out.below hbx)
 replace HV4 := Lib.hid (HV4.out.below hbx)
 have cB0 : w4a.cell? ⟨w4.heap.size, 0, none⟩ = some (.bool d4) := by subst hWW; go_simp
 have cB1 : w4a.cell? ⟨w4.heap.size, 1, none⟩ = some (.slice p4' m4' q4') := by subst hWW; go_simp
 have cB2 : w4a.cell? ⟨w4.heap.size, 2, none⟩ = some (.slice p4 m4 q4) := by subst hWW; go_simp
 have ltB : w4.heap.size < w4a.heap.size := by subst hWW; simp <;> omega
 replace hB := hB.trans (hbx.mono hB.size)
 have HG := Lib.hid (show Ints w4a (some ⟨w4.heap.size + 1, 0, none⟩) 4 4 [0, 1, 2, 1] by
   have := ints_lit (w4.alloc (.cells #[.bool d4, .slice p4' m4' q4', .slice p4 m4 q4] 28)) 3 [0, 1, 2, 1] (by simp [maxLen])
   rw [heap_alloc_size] at this
   rw [← hWW]; exact this)
 clear hbx hWW
 refine (etable_any [1, 2, 1] [0, 1, 2, 1] _ 3 3 _ 4 4 _ HF.out HG.out aw_ok aw_ok2).mono ?_
 rintro e w5 ⟨bt, rfl, ht, hb⟩
 replace cA0 := bc hb ltA cA0
 replace cA1 := bc hb ltA cA1
 replace cA2 := bc hb ltA cA2
 replace ltA := bl hb ltA
 replace cB0 := bc hb ltB cB0
 replace cB1 := bc hb ltB cB1
 replace cB2 := bc hb ltB cB2
 replace ltB := bl hb ltB
 replace HF := Lib.hid (HF.out.below hb)
 replace HV2 := Lib.hid (HV2.out.below hb)
 replace HV4 := Lib.hid (HV4.out.below hb)
 replace HG := Lib.hid (HG.out.below hb)
 replace hB := hB.trans (hb.mono hB.size)
 rw [aw_t] at ht
 have HT := Lib.hid ht
 clear ht
 clear hb
 clear HG
 go_wp2_with fail
 refine (part_any (1) 2 _ (by omega) (by omega) (by omega) (by omega) (by omega)).mono ?_
 rintro e w6 ⟨v5, rfl, hv, hsz, hb⟩
 replace cA0 := bc hb ltA cA0
 replace cA1 := bc hb ltA cA1
 replace cA2 := bc hb ltA cA2
 replace ltA := bl hb ltA
 replace cB0 := bc hb ltB cB0
 replace cB1 := bc hb ltB cB1
 replace cB2 := bc hb ltB cB2
 replace ltB := bl hb ltB
 replace HF := Lib.hid (HF.out.below hb)
 replace HV2 := Lib.hid (HV2.out.below hb)
 replace HV4 := Lib.hid (HV4.out.below hb)
 replace HT := Lib.hid (HT.out.below hb)
 replace hB := hB.trans (hb.mono hB.size)
 rw [show Rat.divInt (1) 2 = (1/2 : Rat) from by kernel_rfl] at hv hsz
 have HZ5 := Lib.hid hsz
 have HV5 := Lib.hid (hv.mono (Nat.zero_le _))
 obtain ⟨p5', m5', q5', p5, m5, q5, rfl, -, -, -, -⟩ := hv
 clear hsz
 generalize decide ((1/2 : Rat).num < 0) = d5 at *
 clear hb
 go_wp2_with fail
 refine (part_any (-3) 2 _ (by omega) (by omega) (by omega) (by omega) (by omega)).mono ?_
 rintro e w7 ⟨v6, rfl, hv, hsz, hb⟩
 replace cA0 := bc hb ltA cA0
 replace cA1 := bc hb ltA cA1
 replace cA2 := bc hb ltA cA2
 replace ltA := bl hb ltA
 replace cB0 := bc hb ltB cB0
 replace cB1 := bc hb ltB cB1
 replace cB2 := bc hb ltB cB2
 replace ltB := bl hb ltB
 replace HF := Lib.hid (HF.out.below hb)
 replace HV2 := Lib.hid (HV2.out.below hb)
 replace HV4 := Lib.hid (HV4.out.below hb)
 replace HT := Lib.hid (HT.out.below hb)
 replace HV5 := Lib.hid (HV5.out.below hb)
 replace hB := hB.trans (hb.mono hB.size)
 rw [show Rat.divInt (-3) 2 = (-3/2 : Rat) from by kernel_rfl] at hv hsz
 have HZ6 := Lib.hid hsz
 have HV6 := Lib.hid (hv.mono (Nat.zero_le _))
 obtain ⟨p6', m6', q6', p6, m6, q6, rfl, -, -, -, -⟩ := hv
 clear hsz
 generalize decide ((-3/2 : Rat).num < 0) = d6 at *
 clear hb
 go_wp2_with fail
 refine (part_any (9) 1 _ (by omega) (by omega) (by omega) (by omega) (by omega)).mono ?_
 rintro e w8 ⟨v7, rfl, hv, hsz, hb⟩
 replace cA0 := bc hb ltA cA0
 replace cA1 := bc hb ltA cA1
 replace cA2 := bc hb ltA cA2
 replace ltA := bl hb ltA
 replace cB0 := bc hb ltB cB0
 replace cB1 := bc hb ltB cB1
 replace cB2 := bc hb ltB cB2
 replace ltB := bl hb ltB
 replace HF := Lib.hid (HF.out.below hb)
 replace HV2 := Lib.hid (HV2.out.below hb)
 replace HV4 := Lib.hid (HV4.out.below hb)
 replace HT := Lib.hid (HT.out.below hb)
 replace HV5 := Lib.hid (HV5.out.below hb)
 replace HV6 := Lib.hid (HV6.out.below hb)
 replace hB := hB.trans (hb.mono hB.size)
 rw [show Rat.divInt (9) 1 = (9 : Rat) from by kernel_rfl] at hv hsz
 have HZ7 := Lib.hid hsz
 have HV7 := Lib.hid (hv.mono (Nat.zero_le _))
 obtain ⟨p7', m7', q7', p7, m7, q7, rfl, -, -, -, -⟩ := hv
 clear hsz
 generalize decide ((9 : Rat).num < 0) = d7 at *
 clear hb
 go_wp2_with fail
 have hbx : Below w8.heap.size w8 (w8.alloc (.cells #[.bool d5, .slice p5' m5' q5', .slice p5 m5 q5, .bool d6, .slice p6' m6' q6', .slice p6 m6 q6, .bool d7, .slice p7' m7' q7', .slice p7 m7 q7] 28)) := ((Below.refl _ _).alloc (Nat.le_refl _) _)
 generalize hWW : (w8.alloc (.cells #[.bool d5, .slice p5' m5' q5', .slice p5 m5 q5, .bool d6, .slice p6' m6' q6', .slice p6 m6 q6, .bool d7, .slice p7' m7' q7', .slice p7 m7 q7] 28)) = w8a at *
 replace cA0 := bc hbx ltA cA0
 replace cA1 := bc hbx ltA cA1
 replace cA2 := bc hbx ltA cA2
 replace ltA := bl hbx ltA
 replace cB0 := bc hbx ltB cB0
 replace cB1 := bc hbx ltB cB1
 replace cB2 := bc hbx ltB cB2
 replace ltB := bl hbx ltB
 replace HF := Lib.hid (HF.out.below hbx)
 replace HV2 := Lib.hid (HV2.out.below hbx)
 replace HV4 := Lib.hid (HV4.out.below hbx)
 replace HT := Lib.hid (HT.out.below hbx)
 replace HV5 := Lib.hid (HV5.out.below hbx)
 replace HV6 := Lib.hid (HV6.out.below hbx)
 replace HV7 := Lib.hid (HV7.out.below hbx)
 replace hB := hB.trans (hbx.mono hB.size)
 have hblk : w8a.heap[w8.heap.size]? = some (.cells #[.bool d5, .slice p5' m5' q5', .slice p5 m5 q5, .bool d6, .slice p6' m6' q6', .slice p6 m6 q6, .bool d7, .slice p7' m7' q7', .slice p7 m7 q7] 28) := by rw [← hWW]; exact heap_alloc_new _ _
 have HL := Lib.hid (ratsN_three (blk_lt hblk) hblk HV5.out HV6.out HV7.out HZ5.out HZ6.out HZ7.out)
 clear hblk HZ5 HZ6 HZ7
 clear hbx hWW
 clear HV5 HV6 HV7
 refine (erounded_any [1/2, -3/2, 9] _ 3 3 2 1 (-1) 5 _ HL.out.rats (by omega) (by omega) (by omega) (by omega) (by omega) (by omega) (by omega) (by omega) (by omega) (by omega)).mono ?_
 rintro e w9 ⟨ar, cr, rfl, hi, hb⟩
 replace cA0 := bc hb ltA cA0
 replace cA1 := bc hb ltA cA1
 replace cA2 := bc hb ltA cA2
 replace ltA := bl hb ltA
 replace cB0 := bc hb ltB cB0
 replace cB1 := bc hb ltB cB1
 replace cB2 := bc hb ltB cB2
 replace ltB := bl hb ltB
 replace HF := Lib.hid (HF.out.below hb)
 replace HV2 := Lib.hid (HV2.out.below hb)
 replace HV4 := Lib.hid (HV4.out.below hb)
 replace HT := Lib.hid (HT.out.below hb)
 replace HL := Lib.hid (HL.out.below hb)
 replace hB := hB.trans (hb.mono hB.size)
 rw [aw_l] at hi
 have HR := Lib.hid hi
 clear hi
 clear hb
 clear HL
 go_wp2_with fail
 refine (emom_any [1, 2, 1] _ 3 3 _ HF.out aw_ok).mono ?_
 rintro e w10 ⟨vm, vv, rfl, hv, hu, hsz, hsu, hb⟩
 replace cA0 := bc hb ltA cA0
 replace cA1 := bc hb ltA cA1
 replace cA2 := bc hb ltA cA2
 replace ltA := bl hb ltA
 replace cB0 := bc hb ltB cB0
 replace cB1 := bc hb ltB cB1
 replace cB2 := bc hb ltB cB2
 replace ltB := bl hb ltB
 replace HF := Lib.hid (HF.out.below hb)
 replace HV2 := Lib.hid (HV2.out.below hb)
 replace HV4 := Lib.hid (HV4.out.below hb)
 replace HT := Lib.hid (HT.out.below hb)
 replace HR := Lib.hid (HR.out.below hb)
 replace hB := hB.trans (hb.mono hB.size)
 rw [aw_m] at hv
 rw [aw_v] at hu
 have HVm := Lib.hid (hv.mono (Nat.zero_le _))
 have HVv := Lib.hid (hu.mono (Nat.zero_le _))
 obtain ⟨pm', mm', qm', pm, mm, qm, rfl, -, -, -, -⟩ := hv
 obtain ⟨pv', mv', qv', pv, mv, qv, rfl, -, -, -, -⟩ := hu
 clear hsz hsu
 generalize decide ((1 : Rat).num < 0) = dm at *
 generalize decide ((1/2 : Rat).num < 0) = dv at *
 clear hb
 clear HF
 go_wp2_with fail
 have hbx : Below w10.heap.size w10 ((w10.alloc (.cells #[.bool dm, .slice pm' mm' qm', .slice pm mm qm] 28)).alloc (.cells #[.bool dv, .slice pv' mv' qv', .slice pv mv qv] 28)) := (((Below.refl _ _).alloc (Nat.le_refl _) _).alloc (by simp) _)
 generalize hWW : ((w10.alloc (.cells #[.bool dm, .slice pm' mm' qm', .slice pm mm qm] 28)).alloc (.cells #[.bool dv, .slice pv' mv' qv', .slice pv mv qv] 28)) = w10a at *
 replace cA0 := bc hbx ltA cA0
 replace cA1 := bc hbx ltA cA1
 replace cA2 := bc hbx ltA cA2
 replace ltA := bl hbx ltA
 replace cB0 := bc hbx ltB cB0
 replace cB1 := bc hbx ltB cB1
 replace cB2 := bc hbx ltB cB2
 replace ltB := bl hbx ltB
 replace HV2 := Lib.hid (HV2.out.below hbx)
 replace HV4 := Lib.hid (HV4.out.below hbx)
 replace HT := Lib.hid (HT.out.below hbx)
 replace HR := Lib.hid (HR.out.below hbx)
 replace HVm := Lib.hid (HVm.out.below hbx)
 replace HVv := Lib.hid (HVv.out.below hbx)
 have cM0 : w10a.cell? ⟨w10.heap.size, 0, none⟩ = some (.bool dm) := by subst hWW; go_simp
 have cM1 : w10a.cell? ⟨w10.heap.size, 1, none⟩ = some (.slice pm' mm' qm') := by subst hWW; go_simp
 have cM2 : w10a.cell? ⟨w10.heap.size, 2, none⟩ = some (.slice pm mm qm) := by subst hWW; go_simp
 have ltM : w10.heap.size < w10a.heap.size := by subst hWW; simp <;> omega
 have cV0 : w10a.cell? ⟨w10.heap.size + 1, 0, none⟩ = some (.bool dv) := by subst hWW; go_simp
 have cV1 : w10a.cell? ⟨w10.heap.size + 1, 1, none⟩ = some (.slice pv' mv' qv') := by subst hWW; go_simp
 have cV2 : w10a.cell? ⟨w10.heap.size + 1, 2, none⟩ = some (.slice pv mv qv) := by subst hWW; go_simp
 have ltV : w10.heap.size + 1 < w10a.heap.size := by subst hWW; simp
 replace hB := hB.trans (hbx.mono hB.size)
 clear hbx hWW
 obtain ⟨br, offr, rfl, hbr, hcr⟩ := HR.out.2.at (k := 0) (by omega)
 have r0 := box_ext (B := w10a.heap.size) (hcr 0 (by omega) _ (Below.refl _ _)) hbr
 have r1 := box_ext (B := w10a.heap.size) (hcr 1 (by omega) _ (Below.refl _ _)) hbr
 have r2 := box_ext (B := w10a.heap.size) (hcr 2 (by omega) _ (Below.refl _ _)) hbr
 simp at r0 r1 r2
 clear hcr hbr
 have eA0 := box_ext (B := w10a.heap.size) cA0 ltA
 have eA1 := box_ext (B := w10a.heap.size) cA1 ltA
 have eA2 := box_ext (B := w10a.heap.size) cA2 ltA
 have eB0 := box_ext (B := w10a.heap.size) cB0 ltB
 have eB1 := box_ext (B := w10a.heap.size) cB1 ltB
 have eB2 := box_ext (B := w10a.heap.size) cB2 ltB
 have eM0 := box_ext (B := w10a.heap.size) cM0 ltM
 have eM1 := box_ext (B := w10a.heap.size) cM1 ltM
 have eM2 := box_ext (B := w10a.heap.size) cM2 ltM
 have eV0 := box_ext (B := w10a.heap.size) cV0 ltV
 have eV1 := box_ext (B := w10a.heap.size) cV1 ltV
 have eV2 := box_ext (B := w10a.heap.size) cV2 ltV
 refine wp_region_sched [(0, false), (1, true), (2, true), (3, false), (4, false), (5, true), (6, true), (7, false), (8, false), (9, false), (10, true), (11, true), (12, true), (13, true), (14, true), (15, false), (16, false), (17, false), (18, false), (19, false), (20, false), (21, false), (22, false), (23, false), (24, false), (25, false), (26, false), (27, false), (28, false), (29, false), (30, false), (31, false), (32, false), (33, false), (34, false), (35, false), (36, true), (37, true), (38, false), (39, false), (40, false), (41, true), (42, true), (43, false), (44, false)] (fun w' => ∃ W : Ext w10a.heap.size w10a, w' = W.1) (by kernel_rfl) (by kernel_rfl) ⟨⟨w10a.drew, (Below.refl _ _).drew⟩, rfl⟩ ?_
 repeat (refine wpSched_calm rfl (fun K hK => ?_); go_simp; refine hK _ ?_; clear hK K)
 have hbx : Below w10a.heap.size w10a w10a.drew := (Below.refl _ _).drew
 have hM := hbx
 replace cA0 := bc hbx ltA cA0
 replace cA1 := bc hbx ltA cA1
 replace cA2 := bc hbx ltA cA2
 replace ltA := bl hbx ltA
 replace cB0 := bc hbx ltB cB0
 replace cB1 := bc hbx ltB cB1
 replace cB2 := bc hbx ltB cB2
 replace ltB := bl hbx ltB
 replace cM0 := bc hbx ltM cM0
 replace cM1 := bc hbx ltM cM1
 replace cM2 := bc hbx ltM cM2
 replace ltM := bl hbx ltM
 replace cV0 := bc hbx ltV cV0
 replace cV1 := bc hbx ltV cV1
 replace cV2 := bc hbx ltV cV2
 replace ltV := bl hbx ltV
 replace HV2 := Lib.hid (HV2.out.below hbx)
 replace HV4 := Lib.hid (HV4.out.below hbx)
 replace HT := Lib.hid (HT.out.below hbx)
 replace HR := Lib.hid (HR.out.below hbx)
 replace HVm := Lib.hid (HVm.out.below hbx)
 replace HVv := Lib.hid (HVv.out.below hbx)
 replace hB := hB.trans (hbx.mono hB.size)
 clear hbx
 generalize w10a.drew = ww10ad at *
 refine wpSched_geff rfl ?_ (fun K hK => ?_)
 · go_simp
 go_simp
 refine (part_any (1) 8 _ (by omega) (by omega) (by omega) (by omega) (by omega)).mono ?_
 rintro e w11 ⟨v8, rfl, hv, hsz, hb⟩
 replace cA0 := bc hb ltA cA0
 replace cA1 := bc hb ltA cA1
 replace cA2 := bc hb ltA cA2
 replace ltA := bl hb ltA
 replace cB0 := bc hb ltB cB0
 replace cB1 := bc hb ltB cB1
 replace cB2 := bc hb ltB cB2
 replace ltB := bl hb ltB
 replace cM0 := bc hb ltM cM0
 replace cM1 := bc hb ltM cM1
 replace cM2 := bc hb ltM cM2
 replace ltM := bl hb ltM
 replace cV0 := bc hb ltV cV0
 replace cV1 := bc hb ltV cV1
 replace cV2 := bc hb ltV cV2
 replace ltV := bl hb ltV
 replace HV2 := Lib.hid (HV2.out.below hb)
 replace HV4 := Lib.hid (HV4.out.below hb)
 replace HT := Lib.hid (HT.out.below hb)
 replace HR := Lib.hid (HR.out.below hb)
 replace HVm := Lib.hid (HVm.out.below hb)
 replace HVv := Lib.hid (HVv.out.below hb)
 replace hM := hM.trans (hb.mono hM.size)
 replace hB := hB.trans (hb.mono hB.size)
 rw [show Rat.divInt (1) 8 = (1/8 : Rat) from by kernel_rfl] at hv hsz
 have HZ8 := Lib.hid hsz
 have HV8 := Lib.hid (hv.mono (Nat.zero_le _))
 obtain ⟨p8', m8', q8', p8, m8, q8, rfl, -, -, -, -⟩ := hv
 clear hsz
 generalize decide ((1/8 : Rat).num < 0) = d8 at *
 clear hb
 refine hK _ _ ⟨⟨w11, hM⟩, rfl⟩ ?_
 clear hK K
 refine wpSched_geff rfl ?_ (fun K hK => ?_)
 · go_simp
 go_simp
 refine (equal_any _ _ (1/8) _ _ _ HV2.out HV8.out).mono ?_
 rintro e w12 ⟨rfl, hb⟩
 replace cA0 := bc hb ltA cA0
 replace cA1 := bc hb ltA cA1
 replace cA2 := bc hb ltA cA2
 replace ltA := bl hb ltA
 replace cB0 := bc hb ltB cB0
 replace cB1 := bc hb ltB cB1
 replace cB2 := bc hb ltB cB2
 replace ltB := bl hb ltB
 replace cM0 := bc hb ltM cM0
 replace cM1 := bc hb ltM cM1
 replace cM2 := bc hb ltM cM2
 replace ltM := bl hb ltM
 replace cV0 := bc hb ltV cV0
 replace cV1 := bc hb ltV cV1
 replace cV2 := bc hb ltV cV2
 replace ltV := bl hb ltV
 replace HV2 := Lib.hid (HV2.out.below hb)
 replace HV4 := Lib.hid (HV4.out.below hb)
 replace HT := Lib.hid (HT.out.below hb)
 replace HR := Lib.hid (HR.out.below hb)
 replace HVm := Lib.hid (HVm.out.below hb)
 replace HVv := Lib.hid (HVv.out.below hb)
 replace HV8 := Lib.hid (HV8.out.below hb)
 replace hM := hM.trans (hb.mono hM.size)
 replace hB := hB.trans (hb.mono hB.size)
 clear hb
 refine hK _ _ ⟨⟨w12, hM⟩, rfl⟩ ?_
 clear hK K
 clear HV8
 clear HZ8
 repeat (refine wpSched_calm rfl (fun K hK => ?_); go_simp; refine hK _ ?_; clear hK K)
 refine wpSched_geff rfl ?_ (fun K hK => ?_)
 · go_simp
 go_simp
 refine (part_any (1) 2 _ (by omega) (by omega) (by omega) (by omega) (by omega)).mono ?_
 rintro e w13 ⟨v9, rfl, hv, hsz, hb⟩
 replace cA0 := bc hb ltA cA0
 replace cA1 := bc hb ltA cA1
 replace cA2 := bc hb ltA cA2
 replace ltA := bl hb ltA
 replace cB0 := bc hb ltB cB0
 replace cB1 := bc hb ltB cB1
 replace cB2 := bc hb ltB cB2
 replace ltB := bl hb ltB
 replace cM0 := bc hb ltM cM0
 replace cM1 := bc hb ltM cM1
 replace cM2 := bc hb ltM cM2
 replace ltM := bl hb ltM
 replace cV0 := bc hb ltV cV0
 replace cV1 := bc hb ltV cV1
 replace cV2 := bc hb ltV cV2
 replace ltV := bl hb ltV
 replace HV2 := Lib.hid (HV2.out.below hb)
 replace HV4 := Lib.hid (HV4.out.below hb)
 replace HT := Lib.hid (HT.out.below hb)
 replace HR := Lib.hid (HR.out.below hb)
 replace HVm := Lib.hid (HVm.out.below hb)
 replace HVv := Lib.hid (HVv.out.below hb)
 replace hM := hM.trans (hb.mono hM.size)
 replace hB := hB.trans (hb.mono hB.size)
 rw [show Rat.divInt (1) 2 = (1/2 : Rat) from by kernel_rfl] at hv hsz
 have HZ9 := Lib.hid hsz
 have HV9 := Lib.hid (hv.mono (Nat.zero_le _))
 obtain ⟨p9', m9', q9', p9, m9, q9, rfl, -, -, -, -⟩ := hv
 clear hsz
 generalize decide ((1/2 : Rat).num < 0) = d9 at *
 clear hb
 refine hK _ _ ⟨⟨w13, hM⟩, rfl⟩ ?_
 clear hK K
 refine wpSched_geff rfl ?_ (fun K hK => ?_)
 · go_simp
 go_simp
 refine (equal_any _ _ (1/2) _ _ _ HV4.out HV9.out).mono ?_
 rintro e w14 ⟨rfl, hb⟩
 replace cA0 := bc hb ltA cA0
 replace cA1 := bc hb ltA cA1
 replace cA2 := bc hb ltA cA2
 replace ltA := bl hb ltA
 replace cB0 := bc hb ltB cB0
 replace cB1 := bc hb ltB cB1
 replace cB2 := bc hb ltB cB2
 replace ltB := bl hb ltB
 replace cM0 := bc hb ltM cM0
 replace cM1 := bc hb ltM cM1
 replace cM2 := bc hb ltM cM2
 replace ltM := bl hb ltM
 replace cV0 := bc hb ltV cV0
 replace cV1 := bc hb ltV cV1
 replace cV2 := bc hb ltV cV2
 replace ltV := bl hb ltV
 replace HV2 := Lib.hid (HV2.out.below hb)
 replace HV4 := Lib.hid (HV4.out.below hb)
 replace HT := Lib.hid (HT.out.below hb)
 replace HR := Lib.hid (HR.out.below hb)
 replace HVm := Lib.hid (HVm.out.below hb)
 replace HVv := Lib.hid (HVv.out.below hb)
 replace HV9 := Lib.hid (HV9.out.below hb)
 replace hM := hM.trans (hb.mono hM.size)
 replace hB := hB.trans (hb.mono hB.size)
 clear hb
 refine hK _ _ ⟨⟨w14, hM⟩, rfl⟩ ?_
 clear hK K
 clear HV9
 clear HZ9
 repeat (refine wpSched_calm rfl (fun K hK => ?_); go_simp; refine hK _ ?_; clear hK K)
 refine wpSched_geff rfl ?_ (fun K hK => ?_)
 · go_simp
 go_simp
 refine (part_any (1) 1 _ (by omega) (by omega) (by omega) (by omega) (by omega)).mono ?_
 rintro e w15 ⟨va, rfl, hv, hsz, hb⟩
 replace cA0 := bc hb ltA cA0
 replace cA1 := bc hb ltA cA1
 replace cA2 := bc hb ltA cA2
 replace ltA := bl hb ltA
 replace cB0 := bc hb ltB cB0
 replace cB1 := bc hb ltB cB1
 replace cB2 := bc hb ltB cB2
 replace ltB := bl hb ltB
 replace cM0 := bc hb ltM cM0
 replace cM1 := bc hb ltM cM1
 replace cM2 := bc hb ltM cM2
 replace ltM := bl hb ltM
 replace cV0 := bc hb ltV cV0
 replace cV1 := bc hb ltV cV1
 replace cV2 := bc hb ltV cV2
 replace ltV := bl hb ltV
 replace HV2 := Lib.hid (HV2.out.below hb)
 replace HV4 := Lib.hid (HV4.out.below hb)
 replace HT := Lib.hid (HT.out.below hb)
 replace HR := Lib.hid (HR.out.below hb)
 replace HVm := Lib.hid (HVm.out.below hb)
 replace HVv := Lib.hid (HVv.out.below hb)
 replace hM := hM.trans (hb.mono hM.size)
 replace hB := hB.trans (hb.mono hB.size)
 rw [show Rat.divInt (1) 1 = (1 : Rat) from by kernel_rfl] at hv hsz
 have HZa := Lib.hid hsz
 have HVa := Lib.hid (hv.mono (Nat.zero_le _))
 obtain ⟨pa', ma', qa', pa, ma, qa, rfl, -, -, -, -⟩ := hv
 clear hsz
 generalize decide ((1 : Rat).num < 0) = da at *
 clear hb
 refine hK _ _ ⟨⟨w15, hM⟩, rfl⟩ ?_
 clear hK K
 refine wpSched_geff rfl ?_ (fun K hK => ?_)
 · go_simp
 go_simp
 refine (part_any (2) 1 _ (by omega) (by omega) (by omega) (by omega) (by omega)).mono ?_
 rintro e w16 ⟨vb, rfl, hv, hsz, hb⟩
 replace cA0 := bc hb ltA cA0
 replace cA1 := bc hb ltA cA1
 replace cA2 := bc hb ltA cA2
 replace ltA := bl hb ltA
 replace cB0 := bc hb ltB cB0
 replace cB1 := bc hb ltB cB1
 replace cB2 := bc hb ltB cB2
 replace ltB := bl hb ltB
 replace cM0 := bc hb ltM cM0
 replace cM1 := bc hb ltM cM1
 replace cM2 := bc hb ltM cM2
 replace ltM := bl hb ltM
 replace cV0 := bc hb ltV cV0
 replace cV1 := bc hb ltV cV1
 replace cV2 := bc hb ltV cV2
 replace ltV := bl hb ltV
 replace HV2 := Lib.hid (HV2.out.below hb)
 replace HV4 := Lib.hid (HV4.out.below hb)
 replace HT := Lib.hid (HT.out.below hb)
 replace HR := Lib.hid (HR.out.below hb)
 replace HVm := Lib.hid (HVm.out.below hb)
 replace HVv := Lib.hid (HVv.out.below hb)
 replace HVa := Lib.hid (HVa.out.below hb)
 replace hM := hM.trans (hb.mono hM.size)
 replace hB := hB.trans (hb.mono hB.size)
 rw [show Rat.divInt (2) 1 = (2 : Rat) from by kernel_rfl] at hv hsz
 have HZb := Lib.hid hsz
 have HVb := Lib.hid (hv.mono (Nat.zero_le _))
 obtain ⟨pb', mb', qb', pb, mb, qb, rfl, -, -, -, -⟩ := hv
 clear hsz
 generalize decide ((2 : Rat).num < 0) = db at *
 clear hb
 refine hK _ _ ⟨⟨w16, hM⟩, rfl⟩ ?_
 clear hK K
 refine wpSched_geff rfl ?_ (fun K hK => ?_)
 · go_simp
 go_simp
 refine (part_any (3) 1 _ (by omega) (by omega) (by omega) (by omega) (by omega)).mono ?_
 rintro e w17 ⟨vc, rfl, hv, hsz, hb⟩
 replace cA0 := bc hb ltA cA0
 replace cA1 := bc hb ltA cA1
 replace cA2 := bc hb ltA cA2
 replace ltA := bl hb ltA
 replace cB0 := bc hb ltB cB0
 replace cB1 := bc hb ltB cB1
 replace cB2 := bc hb ltB cB2
 replace ltB := bl hb ltB
 replace cM0 := bc hb ltM cM0
 replace cM1 := bc hb ltM cM1
 replace cM2 := bc hb ltM cM2
 replace ltM := bl hb ltM
 replace cV0 := bc hb ltV cV0
 replace cV1 := bc hb ltV cV1
 replace cV2 := bc hb ltV cV2
 replace ltV := bl hb ltV
 replace HV2 := Lib.hid (HV2.out.below hb)
 replace HV4 := Lib.hid (HV4.out.below hb)
 replace HT := Lib.hid (HT.out.below hb)
 replace HR := Lib.hid (HR.out.below hb)
 replace HVm := Lib.hid (HVm.out.below hb)
 replace HVv := Lib.hid (HVv.out.below hb)
 replace HVa := Lib.hid (HVa.out.below hb)
 replace HVb := Lib.hid (HVb.out.below hb)
 replace hM := hM.trans (hb.mono hM.size)
 replace hB := hB.trans (hb.mono hB.size)
 rw [show Rat.divInt (3) 1 = (3 : Rat) from by kernel_rfl] at hv hsz
 have HZc := Lib.hid hsz
 have HVc := Lib.hid (hv.mono (Nat.zero_le _))
 obtain ⟨pc', mc', qc', pc, mc, qc, rfl, -, -, -, -⟩ := hv
 clear hsz
 generalize decide ((3 : Rat).num < 0) = dc at *
 clear hb
 refine hK _ _ ⟨⟨w17, hM⟩, rfl⟩ ?_
 clear hK K
 refine wpSched_geff rfl ?_ (fun K hK => ?_)
 · go_simp
 go_simp
 have hb : Below w17.heap.size w17 (w17.alloc (.cells #[.bool da, .slice pa' ma' qa', .slice pa ma qa, .bool db, .slice pb' mb' qb', .slice pb mb qb, .bool dc, .slice pc' mc' qc', .slice pc mc qc] 28)) := (Below.refl _ _).alloc (Nat.le_refl _) _
 have hblk : (w17.alloc (.cells #[.bool da, .slice pa' ma' qa', .slice pa ma qa, .bool db, .slice pb' mb' qb', .slice pb mb qb, .bool dc, .slice pc' mc' qc', .slice pc mc qc] 28)).heap[w17.heap.size]? = some (.cells #[.bool da, .slice pa' ma' qa', .slice pa ma qa, .bool db, .slice pb' mb' qb', .slice pb mb qb, .bool dc, .slice pc' mc' qc', .slice pc mc qc] 28) := heap_alloc_new _ _
 replace cA0 := bc hb ltA cA0
 replace cA1 := bc hb ltA cA1
 replace cA2 := bc hb ltA cA2
 replace ltA := bl hb ltA
 replace cB0 := bc hb ltB cB0
 replace cB1 := bc hb ltB cB1
 replace cB2 := bc hb ltB cB2
 replace ltB := bl hb ltB
 replace cM0 := bc hb ltM cM0
 replace cM1 := bc hb ltM cM1
 replace cM2 := bc hb ltM cM2
 replace ltM := bl hb ltM
 replace cV0 := bc hb ltV cV0
 replace cV1 := bc hb ltV cV1
 replace cV2 := bc hb ltV cV2
 replace ltV := bl hb ltV
 replace HV2 := Lib.hid (HV2.out.below hb)
 replace HV4 := Lib.hid (HV4.out.below hb)
 replace HT := Lib.hid (HT.out.below hb)
 replace HR := Lib.hid (HR.out.below hb)
 replace HVm := Lib.hid (HVm.out.below hb)
 replace HVv := Lib.hid (HVv.out.below hb)
 replace HVa := Lib.hid (HVa.out.below hb)
 replace HVb := Lib.hid (HVb.out.below hb)
 replace HVc := Lib.hid (HVc.out.below hb)
 replace hM := hM.trans (hb.mono hM.size)
 replace hB := hB.trans (hb.mono hB.size)
 have HL := Lib.hid (ratsN_three (blk_lt hblk) hblk HVa.out HVb.out HVc.out HZa.out HZb.out HZc.out)
 clear hblk hb HZa HZb HZc HVa HVb HVc
 refine hK _ _ ⟨⟨_, hM⟩, rfl⟩ ?_
 clear hK K
 generalize w17.alloc (.cells #[.bool da, .slice pa' ma' qa', .slice pa ma qa, .bool db, .slice pb' mb' qb', .slice pb mb qb, .bool dc, .slice pc' mc' qc', .slice pc mc qc] 28) = w18 at *
 refine wpSched_geff rfl ?_ (fun K hK => ?_)
 · go_simp
 go_simp
 refine (equals_any [1, 2, 3] _ _ 3 3 3 _ _ _ HT.out HL.out).mono ?_
 rintro e w19 ⟨rfl, hb⟩
 replace cA0 := bc hb ltA cA0
 replace cA1 := bc hb ltA cA1
 replace cA2 := bc hb ltA cA2
 replace ltA := bl hb ltA
 replace cB0 := bc hb ltB cB0
 replace cB1 := bc hb ltB cB1
 replace cB2 := bc hb ltB cB2
 replace ltB := bl hb ltB
 replace cM0 := bc hb ltM cM0
 replace cM1 := bc hb ltM cM1
 replace cM2 := bc hb ltM cM2
 replace ltM := bl hb ltM
 replace cV0 := bc hb ltV cV0
 replace cV1 := bc hb ltV cV1
 replace cV2 := bc hb ltV cV2
 replace ltV := bl hb ltV
 replace HV2 := Lib.hid (HV2.out.below hb)
 replace HV4 := Lib.hid (HV4.out.below hb)
 replace HT := Lib.hid (HT.out.below hb)
 replace HR := Lib.hid (HR.out.below hb)
 replace HVm := Lib.hid (HVm.out.below hb)
 replace HVv := Lib.hid (HVv.out.below hb)
 replace HL := Lib.hid (HL.out.below hb)
 replace hM := hM.trans (hb.mono hM.size)
 replace hB := hB.trans (hb.mono hB.size)
 clear hb
 refine hK _ _ ⟨⟨w19, hM⟩, rfl⟩ ?_
 clear hK K
 clear HL HT
 repeat (refine wpSched_calm rfl (fun K hK => ?_); go_simp; refine hK _ ?_; clear hK K)
 refine wpSched_geff rfl ?_ (fun K hK => ?_)
 · go_simp
 go_simp
 refine (part_any (1) 1 _ (by omega) (by omega) (by omega) (by omega) (by omega)).mono ?_
 rintro e w20 ⟨ve, rfl, hv, hsz, hb⟩
 replace cA0 := bc hb ltA cA0
 replace cA1 := bc hb ltA cA1
 replace cA2 := bc hb ltA cA2
 replace ltA := bl hb ltA
 replace cB0 := bc hb ltB cB0
 replace cB1 := bc hb ltB cB1
 replace cB2 := bc hb ltB cB2
 replace ltB := bl hb ltB
 replace cM0 := bc hb ltM cM0
 replace cM1 := bc hb ltM cM1
 replace cM2 := bc hb ltM cM2
 replace ltM := bl hb ltM
 replace cV0 := bc hb ltV cV0
 replace cV1 := bc hb ltV cV1
 replace cV2 := bc hb ltV cV2
 replace ltV := bl hb ltV
 replace HV2 := Lib.hid (HV2.out.below hb)
 replace HV4 := Lib.hid (HV4.out.below hb)
 replace HR := Lib.hid (HR.out.below hb)
 replace HVm := Lib.hid (HVm.out.below hb)
 replace HVv := Lib.hid (HVv.out.below hb)
 replace hM := hM.trans (hb.mono hM.size)
 replace hB := hB.trans (hb.mono hB.size)
 rw [show Rat.divInt (1) 1 = (1 : Rat) from by kernel_rfl] at hv hsz
 have HZe := Lib.hid hsz
 have HVe := Lib.hid (hv.mono (Nat.zero_le _))
 obtain ⟨pe', me', qe', pe, me, qe, rfl, -, -, -, -⟩ := hv
 clear hsz
 generalize decide ((1 : Rat).num < 0) = de at *
 clear hb
 refine hK _ _ ⟨⟨w20, hM⟩, rfl⟩ ?_
 clear hK K
 refine wpSched_geff rfl ?_ (fun K hK => ?_)
 · go_simp
 go_simp
 refine (equal_any _ _ (1) _ _ _ HVm.out HVe.out).mono ?_
 rintro e w21 ⟨rfl, hb⟩
 replace cA0 := bc hb ltA cA0
 replace cA1 := bc hb ltA cA1
 replace cA2 := bc hb ltA cA2
 replace ltA := bl hb ltA
 replace cB0 := bc hb ltB cB0
 replace cB1 := bc hb ltB cB1
 replace cB2 := bc hb ltB cB2
 replace ltB := bl hb ltB
 replace cM0 := bc hb ltM cM0
 replace cM1 := bc hb ltM cM1
 replace cM2 := bc hb ltM cM2
 replace ltM := bl hb ltM
 replace cV0 := bc hb ltV cV0
 replace cV1 := bc hb ltV cV1
 replace cV2 := bc hb ltV cV2
 replace ltV := bl hb ltV
 replace HV2 := Lib.hid (HV2.out.below hb)
 replace HV4 := Lib.hid (HV4.out.below hb)
 replace HR := Lib.hid (HR.out.below hb)
 replace HVm := Lib.hid (HVm.out.below hb)
 replace HVv := Lib.hid (HVv.out.below hb)
 replace HVe := Lib.hid (HVe.out.below hb)
 replace hM := hM.trans (hb.mono hM.size)
 replace hB := hB.trans (hb.mono hB.size)
 clear hb
 refine hK _ _ ⟨⟨w21, hM⟩, rfl⟩ ?_
 clear hK K
 clear HVe
 clear HZe
 repeat (refine wpSched_calm rfl (fun K hK => ?_); go_simp; refine hK _ ?_; clear hK K)
 refine wpSched_geff rfl ?_ (fun K hK => ?_)
 · go_simp
 go_simp
 refine (part_any (1) 2 _ (by omega) (by omega) (by omega) (by omega) (by omega)).mono ?_
 rintro e w22 ⟨vf, rfl, hv, hsz, hb⟩
 replace cA0 := bc hb ltA cA0
 replace cA1 := bc hb ltA cA1
 replace cA2 := bc hb ltA cA2
 replace ltA := bl hb ltA
 replace cB0 := bc hb ltB cB0
 replace cB1 := bc hb ltB cB1
 replace cB2 := bc hb ltB cB2
 replace ltB := bl hb ltB
 replace cM0 := bc hb ltM cM0
 replace cM1 := bc hb ltM cM1
 replace cM2 := bc hb ltM cM2
 replace ltM := bl hb ltM
 replace cV0 := bc hb ltV cV0
 replace cV1 := bc hb ltV cV1
 replace cV2 := bc hb ltV cV2
 replace ltV := bl hb ltV
 replace HV2 := Lib.hid (HV2.out.below hb)
 replace HV4 := Lib.hid (HV4.out.below hb)
 replace HR := Lib.hid (HR.out.below hb)
 replace HVm := Lib.hid (HVm.out.below hb)
 replace HVv := Lib.hid (HVv.out.below hb)
 replace hM := hM.trans (hb.mono hM.size)
 replace hB := hB.trans (hb.mono hB.size)
 rw [show Rat.divInt (1) 2 = (1/2 : Rat) from by kernel_rfl] at hv hsz
 have HZf := Lib.hid hsz
 have HVf := Lib.hid (hv.mono (Nat.zero_le _))
 obtain ⟨pf', mf', qf', pf, mf, qf, rfl, -, -, -, -⟩ := hv
 clear hsz
 generalize decide ((1/2 : Rat).num < 0) = df at *
 clear hb
 refine hK _ _ ⟨⟨w22, hM⟩, rfl⟩ ?_
 clear hK K
 refine wpSched_geff rfl ?_ (fun K hK => ?_)
 · go_simp
 go_simp
 refine (equal_any _ _ (1/2) _ _ _ HVv.out HVf.out).mono ?_
 rintro e w23 ⟨rfl, hb⟩
 replace cA0 := bc hb ltA cA0
 replace cA1 := bc hb ltA cA1
 replace cA2 := bc hb ltA cA2
 replace ltA := bl hb ltA
 replace cB0 := bc hb ltB cB0
 replace cB1 := bc hb ltB cB1
 replace cB2 := bc hb ltB cB2
 replace ltB := bl hb ltB
 replace cM0 := bc hb ltM cM0
 replace cM1 := bc hb ltM cM1
 replace cM2 := bc hb ltM cM2
 replace ltM := bl hb ltM
 replace cV0 := bc hb ltV cV0
 replace cV1 := bc hb ltV cV1
 replace cV2 := bc hb ltV cV2
 replace ltV := bl hb ltV
 replace HV2 := Lib.hid (HV2.out.below hb)
 replace HV4 := Lib.hid (HV4.out.below hb)
 replace HR := Lib.hid (HR.out.below hb)
 replace HVm := Lib.hid (HVm.out.below hb)
 replace HVv := Lib.hid (HVv.out.below hb)
 replace HVf := Lib.hid (HVf.out.below hb)
 replace hM := hM.trans (hb.mono hM.size)
 replace hB := hB.trans (hb.mono hB.size)
 clear hb
 refine hK _ _ ⟨⟨w23, hM⟩, rfl⟩ ?_
 clear hK K
 clear HVf
 clear HZf
 repeat (refine wpSched_calm rfl (fun K hK => ?_); go_simp; refine hK _ ?_; clear hK K)
 refine wpSched_nil ?_
 clear eA0 eA1 eA2 eB0 eB1 eB2 eM0 eM1 eM2 eV0 eV1 eV2
 clear r0 r1 r2
 go_wp2_with fail
 go_ret
 exact ⟨rfl, hB⟩
end Go.Proofs.YtahmndacoanfiaaGreat
