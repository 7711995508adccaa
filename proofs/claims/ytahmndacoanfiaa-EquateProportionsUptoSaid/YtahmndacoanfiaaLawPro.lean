/- The law EquateProportions, for arguments of bulk at most 1048576: multiplying all frequencies changes neither ranks nor scores nor moments, and a form whose scores are raised by 1 is equated by subtracting 1. -/
import Derived.Test.YtahmndacoanfiaaEqV
import Derived.Test.YtahmndacoanfiaaFrame
import Derived.Test.YtahmndacoanfiaaBulk
namespace Go.Proofs.Ytahmndacoanfiaa
set_option maxRecDepth 100000
open Go.ChangeShapes Go.WideShapes Go.ChangeAt Go.RowKit

theorem rise_long {f : List Int} (h : OkF f) (hr : eqE (0 :: f) ≠ 0) : f.length = 61 := by
  rcases Nat.lt_or_ge f.length 61 with h1 | h1
  · refine absurd (eqE_OkF.2 ⟨by simp; omega, fun n hn => ?_, by simpa using h.2.2⟩) hr
    rcases List.mem_cons.1 hn with rfl | hn
    · omega
    · exact h.2.1 n hn
  · have := h.1; omega
theorem rise_score {f : List Int} (h : OkF f) {k : Nat} (hk : k < f.length) (h0 : 0 < f.getD k 0) : scoreR (0 :: f) f (k + 1) = (k : Rat) := by
  have hs := cast_lt h.pos
  have e0 : ((0 : Int) : Rat) = 0 := rfl
  obtain ⟨a, b⟩ := inv_mid h.nn hk h0
  have e : rankR (0 :: f) ((k + 1 : Nat) : Rat) * (f.sum : Rat) = (preS f k : Rat) + (f.getD k 0 : Rat) * (1/2) := by
    unfold rankR
    rw [rise_mid hk, show (0 :: f).sum = f.sum by simp, Rat.div_mul_cancel]; grind
  unfold scoreR
  rw [e, invR_eq a, b]
theorem mul_rank {f : List Int} {c : Int} (hc : 0 < c) (x : Rat) : rankR (mulF c f) x = rankR f x := by
  unfold rankR; rw [mulF_rk, mulF_sum, Rat.intCast_mul, div_same hc]
theorem mul_inv {f : List Int} (h : OkF f) {c : Int} (hc : 0 < c) {p : Rat} (h1 : p ≤ 1) : invR (mulF c f) (p * ((mulF c f).sum : Rat)) = invR f (p * (f.sum : Rat)) := by
  have hs := cast_lt h.pos
  have e0 : ((0 : Int) : Rat) = 0 := rfl
  have hq : p * (f.sum : Rat) ≤ (f.sum : Rat) := by
    have := Rat.mul_le_mul_of_nonneg_right h1 (show (0 : Rat) ≤ (f.sum : Rat) by grind)
    grind
  obtain ⟨k, hk⟩ := inv_ex h.nn h.2.2 hq
  obtain ⟨a, b⟩ := mulF_inv hc hk
  rw [mulF_sum, Rat.intCast_mul, ← Rat.mul_assoc, invR_eq a, b, invR_eq hk]
theorem Ints.vals {w : World} {a : Option Addr} {len cap : Nat} {f : List Int} (h : Ints w a len cap f) : Cells w a len cap (fun i => (ivs f).getD i .nilFunc) :=
  h.2.congr fun i hi => by rw [ivs_at f i (by rw [h.1]; exact hi)]; rfl
theorem etable_v (f g : List Int) (a : Option Addr) (len cap : Nat) (a2 : Option Addr) (len2 cap2 : Nat) (w : World) (hI : Ints w a len cap f) (hI2 : Ints w a2 len2 cap2 g) (hO : OkF f) (hO2 : OkF g) :
    Calls Try.prog 7 #[.slice a len cap, .slice a2 len2 cap2] w fun e w' => ∃ a' c', e = .returned (.tuple #[.slice a' len c', .int .i64 0]) ∧ RatsN w' a' len c' (tableL f g) 28 ∧ Below w.heap.size w w' :=
  (etable_any f g a len cap a2 len2 cap2 w hI hI2 hO hO2).mono fun _ _ ⟨_, h1, h2, h3⟩ => ⟨_, _, h1, h2, h3⟩
theorem mulF_snoc (c : Int) (f : List Int) (k : Nat) (h : k < f.length) : mulF c (f.take (k + 1)) = mulF c (f.take k) ++ [f.getD k 0 * c] := by
  unfold mulF
  rw [List.take_add_one, List.map_append, List.getElem?_eq_getElem h]
  simp [List.getD, h]

set_option maxHeartbeats 4000000 in
theorem props_no (f : List Int) (a : Option Addr) (len cap : Nat) (vx vp : Value) (x p : Rat) (by_ : Nat) (L : Nat) (w : World) (hI : Ints w a len cap f) (hx : RatV w vx x L) (hp : RatV w vp p L) (hE : eqE f ≠ 0) :
    Calls Try.prog 5 #[.slice a len cap, vx, vp, .int .u8 (by_ : Int)] w fun e w' => e = .returned (.bool true) ∧ Below w.heap.size w w' := by
  have HI := Lib.hid hI
  have HX := Lib.hid hx
  have HP := Lib.hid hp
  obtain ⟨negx, ax', lenx', capx', ax, lenx, capx, rfl, -, -⟩ := hx.form
  obtain ⟨negp, ap', lenp', capp', ap, lenp, capp, rfl, -, -⟩ := hp.form
  clear hI hx hp
  have hz2 : (eqE f != 0) = true := by simpa using hE
  clear hE
  generalize hef : eqE f = ef at *
  have HEF := Lib.hid hef
  clear hef
  go_enter Try.func5, Try.ntmps5
  go_wp2_with fail
  have hbx : Below w.heap.size w ((w.alloc (.cells #[.bool negx, .slice ax' lenx' capx', .slice ax lenx capx] 33)).alloc (.cells #[.bool negp, .slice ap' lenp' capp', .slice ap lenp capp] 33)) := (((Below.refl _ _).alloc (Nat.le_refl _) _).alloc (by simp) _)
  generalize hWW : ((w.alloc (.cells #[.bool negx, .slice ax' lenx' capx', .slice ax lenx capx] 33)).alloc (.cells #[.bool negp, .slice ap' lenp' capp', .slice ap lenp capp] 33)) = w0 at *
  replace HI := Lib.hid (HI.out.below hbx)
  replace HX := Lib.hid (HX.out.below hbx)
  replace HP := Lib.hid (HP.out.below hbx)
  have cA0 : w0.cell? ⟨w.heap.size, 0, none⟩ = some (.bool negx) := by subst hWW; go_simp
  have cA1 : w0.cell? ⟨w.heap.size, 1, none⟩ = some (.slice ax' lenx' capx') := by subst hWW; go_simp
  have cA2 : w0.cell? ⟨w.heap.size, 2, none⟩ = some (.slice ax lenx capx) := by subst hWW; go_simp
  have ltA : w.heap.size < w0.heap.size := by subst hWW; simp <;> omega
  have cB0 : w0.cell? ⟨w.heap.size + 1, 0, none⟩ = some (.bool negp) := by subst hWW; go_simp
  have cB1 : w0.cell? ⟨w.heap.size + 1, 1, none⟩ = some (.slice ap' lenp' capp') := by subst hWW; go_simp
  have cB2 : w0.cell? ⟨w.heap.size + 1, 2, none⟩ = some (.slice ap lenp capp) := by subst hWW; go_simp
  have ltB : w.heap.size + 1 < w0.heap.size := by subst hWW; simp
  have hB := hbx
  clear hbx hWW
  refine (evalid_b f a len cap _ HI.out).mono ?_
  rintro e w1 ⟨rfl, hb⟩
  replace cA0 := bc hb ltA cA0
  replace cA1 := bc hb ltA cA1
  replace cA2 := bc hb ltA cA2
  replace ltA := bl hb ltA
  replace cB0 := bc hb ltB cB0
  replace cB1 := bc hb ltB cB1
  replace cB2 := bc hb ltB cB2
  replace ltB := bl hb ltB
  replace HI := Lib.hid (HI.out.below hb)
  replace HX := Lib.hid (HX.out.below hb)
  replace HP := Lib.hid (HP.out.below hb)
  replace hB := hB.trans (hb.mono hB.size)
  rw [HEF.out]
  clear hb
  go_wp2_with fail
  refine (awake_any _).mono ?_
  rintro e w2 ⟨rfl, hb⟩
  replace cA0 := bc hb ltA cA0
  replace cA1 := bc hb ltA cA1
  replace cA2 := bc hb ltA cA2
  replace ltA := bl hb ltA
  replace cB0 := bc hb ltB cB0
  replace cB1 := bc hb ltB cB1
  replace cB2 := bc hb ltB cB2
  replace ltB := bl hb ltB
  replace HI := Lib.hid (HI.out.below hb)
  replace HX := Lib.hid (HX.out.below hb)
  replace HP := Lib.hid (HP.out.below hb)
  replace hB := hB.trans (hb.mono hB.size)
  clear hb
  go_wp2_with fail
  go_ret
  exact ⟨rfl, hB⟩
set_option maxHeartbeats 8000000 in
theorem props_nv (f : List Int) (a : Option Addr) (len cap : Nat) (vx vp : Value) (x p : Rat) (by_ : Nat) (L : Nat) (w : World) (hI : Ints w a len cap f) (hx : RatV w vx x L) (hp : RatV w vp p L) (hb255 : by_ < 256) (hO : OkF f) (hG : eqE (mulF ((by_ : Int) + 1) f) ≠ 0) (hR : eqE (0 :: f) = 0) :
    Calls Try.prog 5 #[.slice a len cap, vx, vp, .int .u8 (by_ : Int)] w fun e w' => e = .returned (.bool true) ∧ Below w.heap.size w w' := by
  have HI := Lib.hid hI
  have HX := Lib.hid hx
  have HP := Lib.hid hp
  have HN := Lib.hid hI.1
  obtain ⟨negx, ax', lenx', capx', ax, lenx, capx, rfl, -, -⟩ := hx.form
  obtain ⟨negp, ap', lenp', capp', ap, lenp, capp, rfl, -, -⟩ := hp.form
  clear hI hx hp
  have HO := Lib.hid (eqE_OkF.2 hO)
  have HF := Lib.hid hO
  have h61 : len ≤ 61 := by rw [← HN.out]; exact hO.1
  have HAt := Lib.hid (preS_at hO.2.1 hO.1)
  have hzg : (eqE (mulF ((by_ : Int) + 1) f) == 0) = false := by simpa using hG
  generalize heg : eqE (mulF ((by_ : Int) + 1) f) = eg at hzg
  have HGv := Lib.hid heg
  clear heg
  have HRv := Lib.hid hR
  have HFr := Lib.hid (eqE_OkF.1 hR)
  have HSc := Lib.hid (fun (k : Nat) (hk : k < f.length) (h0 : 0 < f.getD k 0) => rise_score hO hk h0)
  clear hO hG hR
  go_enter Try.func5, Try.ntmps5
  go_wp2_with fail
  have hbx : Below w.heap.size w ((w.alloc (.cells #[.bool negx, .slice ax' lenx' capx', .slice ax lenx capx] 33)).alloc (.cells #[.bool negp, .slice ap' lenp' capp', .slice ap lenp capp] 33)) := (((Below.refl _ _).alloc (Nat.le_refl _) _).alloc (by simp) _)
  generalize hWW : ((w.alloc (.cells #[.bool negx, .slice ax' lenx' capx', .slice ax lenx capx] 33)).alloc (.cells #[.bool negp, .slice ap' lenp' capp', .slice ap lenp capp] 33)) = w0 at *
  replace HI := Lib.hid (HI.out.below hbx)
  replace HX := Lib.hid (HX.out.below hbx)
  replace HP := Lib.hid (HP.out.below hbx)
  have cA0 : w0.cell? ⟨w.heap.size, 0, none⟩ = some (.bool negx) := by subst hWW; go_simp
  have cA1 : w0.cell? ⟨w.heap.size, 1, none⟩ = some (.slice ax' lenx' capx') := by subst hWW; go_simp
  have cA2 : w0.cell? ⟨w.heap.size, 2, none⟩ = some (.slice ax lenx capx) := by subst hWW; go_simp
  have ltA : w.heap.size < w0.heap.size := by subst hWW; simp <;> omega
  have cB0 : w0.cell? ⟨w.heap.size + 1, 0, none⟩ = some (.bool negp) := by subst hWW; go_simp
  have cB1 : w0.cell? ⟨w.heap.size + 1, 1, none⟩ = some (.slice ap' lenp' capp') := by subst hWW; go_simp
  have cB2 : w0.cell? ⟨w.heap.size + 1, 2, none⟩ = some (.slice ap lenp capp) := by subst hWW; go_simp
  have ltB : w.heap.size + 1 < w0.heap.size := by subst hWW; simp
  have hB := hbx
  clear hbx hWW
  refine (evalid_b f a len cap _ HI.out).mono ?_
  rintro e w1 ⟨rfl, hb⟩
  replace cA0 := bc hb ltA cA0
  replace cA1 := bc hb ltA cA1
  replace cA2 := bc hb ltA cA2
  replace ltA := bl hb ltA
  replace cB0 := bc hb ltB cB0
  replace cB1 := bc hb ltB cB1
  replace cB2 := bc hb ltB cB2
  replace ltB := bl hb ltB
  replace HI := Lib.hid (HI.out.below hb)
  replace HX := Lib.hid (HX.out.below hb)
  replace HP := Lib.hid (HP.out.below hb)
  replace hB := hB.trans (hb.mono hB.size)
  rw [HO.out]
  clear hb
  go_wp2_with fail
  go_loopw [9, 37] (fun u i wr => ∃ k : Nat, k ≤ len ∧ i = .int .i64 k ∧ Hid (Owns wr w1.heap.size 3 u (ivs (mulF ((by_ : Int) + 1) (f.take k)))) ∧ Hid (Below w1.heap.size w1 wr)) (fun _ i _ => len - (intOf i).toNat)
  case atStart => exact ⟨0, by omega, rfl, Lib.hid (by simpa [mulF, ivs] using Owns.nil _ _ _), Lib.hid (Below.refl _ _)⟩
  case round =>
    obtain ⟨k, hk, rfl, HOk, HBk⟩ := hrel
    by_cases hlt : k < len
    · obtain ⟨bb, off, rfl, hbs, hcc⟩ := HI.out.2.at hlt
      have ec := hcc k hlt _ HBk.out
      obtain ⟨-, -, p1, p2⟩ := HAt.out k
      have HSn := Lib.hid (mulF_snoc ((by_ : Int) + 1) f k (by rw [HN.out]; exact hlt))
      have HNl := Lib.hid (show ((ivs (mulF ((by_ : Int) + 1) (f.take k))).length + 1) * 8 ≤ 140737488355328 ∧ (ivs (mulF ((by_ : Int) + 1) (f.take k))).length + 1 ≤ maxLen by
        rw [ivs_length, mulF_len, List.length_take]; simp only [maxLen]; omega)
      generalize f.getD k 0 = fk at *
      have hm1 : 0 ≤ fk * ((by_ : Int) + 1) := Int.mul_nonneg p1 (by omega)
      have hm2 : fk * ((by_ : Int) + 1) ≤ 1000000 * 256 := Int.mul_le_mul p2 (by omega) (by omega) (by omega)
      have hsz2 := HBk.out.size
      have hba : Below wr.heap.size wr (wr.alloc (.cells #[.int .i64 (fk * ((by_ : Int) + 1))] 3)) := (Below.refl _ _).alloc (Nat.le_refl _) _
      have HBa := Lib.hid (HBk.out.trans (hba.mono HBk.out.size))
      have HLt := Lib.hid HOk.out.lt
      clear hcc hba HAt
      generalize mulF ((by_ : Int) + 1) (f.take k) = cur at *
      go_wp2_with (at_builtin; go_must (refine wpList_app1 rfl _ _ 22 rfl w1.heap.size 3 (.int .i64 0) 8 Try.underlying22 infoInt rfl u9 (ivs cur) rfl (.int .i64 (fk * ((by_ : Int) + 1))) rfl HOk.out rfl HNl.out.1 HNl.out.2 hsz2 fun v' w' h1 h2 => ?_))
      have hbm := HBk.out.trans (h2.below hsz2 HLt.out)
      have HBm := Lib.hid hbm
      have HO3 := Lib.hid (show Owns w' w1.heap.size 3 v' (ivs (mulF ((by_ : Int) + 1) (f.take (k + 1)))) by rw [HSn.out, ivs_append]; exact h1)
      clear h1 h2 hbm
      go_wp2_with fail
      go_roundw
      case rel => exact ⟨k + 1, by omega, by go_num, HO3, HBm⟩
      case measure => simp [intOf]; omega
    · obtain ⟨a2, n2, c2, rfl, hI⟩ := HOk.out.ints
      rw [List.take_of_length_le (by rw [HN.out]; omega)] at hI
      obtain rfl : len = n2 := by have := hI.1; rw [mulF_len, HN.out] at this; exact this
      have HG := Lib.hid hI
      have hb := HBk.out
      clear HOk hI HBk
      replace cA0 := bc hb ltA cA0
      replace cA1 := bc hb ltA cA1
      replace cA2 := bc hb ltA cA2
      replace ltA := bl hb ltA
      replace cB0 := bc hb ltB cB0
      replace cB1 := bc hb ltB cB1
      replace cB2 := bc hb ltB cB2
      replace ltB := bl hb ltB
      replace HI := Lib.hid (HI.out.below hb)
      replace HX := Lib.hid (HX.out.below hb)
      replace HP := Lib.hid (HP.out.below hb)
      replace hB := hB.trans (hb.mono hB.size)
      clear hb
      go_wp2_with fail
      refine (evalid_b _ _ _ _ _ HG.out).mono ?_
      rintro e w3 ⟨rfl, hb⟩
      replace cA0 := bc hb ltA cA0
      replace cA1 := bc hb ltA cA1
      replace cA2 := bc hb ltA cA2
      replace ltA := bl hb ltA
      replace cB0 := bc hb ltB cB0
      replace cB1 := bc hb ltB cB1
      replace cB2 := bc hb ltB cB2
      replace ltB := bl hb ltB
      replace HI := Lib.hid (HI.out.below hb)
      replace HX := Lib.hid (HX.out.below hb)
      replace HP := Lib.hid (HP.out.below hb)
      replace HG := Lib.hid (HG.out.below hb)
      replace hB := hB.trans (hb.mono hB.size)
      rw [HGv.out]
      clear hb
      have hzg2 := hzg
      have hba : Below w3.heap.size w3 (w3.alloc (.cells #[.int .i64 0] 3)) := (Below.refl _ _).alloc (Nat.le_refl _) _
      have HOw := Lib.hid (owns_lit w3 w3.heap.size 3 [.int .i64 0] (by simp [maxLen]) (Nat.le_refl _))
      have HNl := Lib.hid (show (([.int .i64 0] : List Value).length + len) * 8 ≤ 140737488355328 ∧ ([.int .i64 0] : List Value).length + len ≤ maxLen by simp only [List.length_singleton, maxLen]; omega)
      have HIa := Lib.hid (HI.out.below hba)
      have HLv := Lib.hid (show (ivs f).length = len by rw [ivs_length, HN.out])
      go_wp2_with (at_builtin; go_must (refine wpList_app rfl _ _ 22 rfl w3.heap.size 3 (.int .i64 0) 8 Try.underlying22 infoInt rfl (.slice (some ⟨w3.heap.size, 0, none⟩) 1 1) [.int .i64 0] rfl HOw.out _ len cap (ivs f) rfl HLv.out HIa.out.vals (ivs_one _) HNl.out.1 HNl.out.2 (by simp) fun v' wz h1 h2 => ?_))
      have hb := (h2.below (by simp) HOw.out.lt : Below w3.heap.size _ wz)
      replace hb : Below w3.heap.size w3 wz := hba.trans hb
      obtain ⟨a3, n3, c3, rfl, hI⟩ := Owns.ints (xs := 0 :: f) (by simpa [ivs, iv] using h1)
      have hn3 : len + 1 = n3 := by have := hI.1; rw [List.length_cons, HN.out] at this; exact this
      have hna : n3 ≤ len + 1 := by omega
      have hnb : len + 1 ≤ n3 := by omega
      have HRd := Lib.hid hI
      clear h1 h2 hI hba HOw HIa hn3
      replace cA0 := bc hb ltA cA0
      replace cA1 := bc hb ltA cA1
      replace cA2 := bc hb ltA cA2
      replace ltA := bl hb ltA
      replace cB0 := bc hb ltB cB0
      replace cB1 := bc hb ltB cB1
      replace cB2 := bc hb ltB cB2
      replace ltB := bl hb ltB
      replace HI := Lib.hid (HI.out.below hb)
      replace HX := Lib.hid (HX.out.below hb)
      replace HP := Lib.hid (HP.out.below hb)
      replace HG := Lib.hid (HG.out.below hb)
      replace hB := hB.trans (hb.mono hB.size)
      clear hb
      go_wp2_with fail
      refine (evalid_b (0 :: f) a3 n3 c3 _ HRd.out).mono ?_
      rintro e wv ⟨rfl, hb⟩
      replace cA0 := bc hb ltA cA0
      replace cA1 := bc hb ltA cA1
      replace cA2 := bc hb ltA cA2
      replace ltA := bl hb ltA
      replace cB0 := bc hb ltB cB0
      replace cB1 := bc hb ltB cB1
      replace cB2 := bc hb ltB cB2
      replace ltB := bl hb ltB
      replace HI := Lib.hid (HI.out.below hb)
      replace HX := Lib.hid (HX.out.below hb)
      replace HP := Lib.hid (HP.out.below hb)
      replace HG := Lib.hid (HG.out.below hb)
      replace HRd := Lib.hid (HRd.out.below hb)
      replace hB := hB.trans (hb.mono hB.size)
      rw [HRv.out]
      clear hb
      go_wp2_with fail
      refine (etable_v (0 :: f) f a3 n3 c3 a len cap _ HRd.out HI.out HFr.out HF.out).mono ?_
      rintro e wt ⟨at', ct', rfl, ht, hb⟩
      replace cA0 := bc hb ltA cA0
      replace cA1 := bc hb ltA cA1
      replace cA2 := bc hb ltA cA2
      replace ltA := bl hb ltA
      replace cB0 := bc hb ltB cB0
      replace cB1 := bc hb ltB cB1
      replace cB2 := bc hb ltB cB2
      replace ltB := bl hb ltB
      replace HI := Lib.hid (HI.out.below hb)
      replace HX := Lib.hid (HX.out.below hb)
      replace HP := Lib.hid (HP.out.below hb)
      replace HG := Lib.hid (HG.out.below hb)
      replace HRd := Lib.hid (HRd.out.below hb)
      replace hB := hB.trans (hb.mono hB.size)
      have HT := Lib.hid ht
      clear ht
      clear hb
      go_wp2_with fail
      have HBt := Lib.hid hB
      go_loopw [153] (fun i wr => ∃ k : Nat, k ≤ len ∧ i = .int .i64 k ∧ Hid (Below wt.heap.size wt wr)) (fun i _ => len - (intOf i).toNat)
      case atStart => exact ⟨0, by omega, rfl, Lib.hid (Below.refl _ _)⟩
      case round =>
        generalize wr = wq at *
        obtain ⟨k, hk, rfl, HBq⟩ := hrel
        by_cases hlt : k < len
        · obtain ⟨j, hj⟩ : ∃ j, k + 1 = j := ⟨_, rfl⟩
          have hjn : j < n3 := by omega
          obtain ⟨b1, o1, rfl, hb1, hc1⟩ := HT.out.at hjn
          obtain ⟨d, x', l', p', xx, l, pp, e0, e1, e2, hX, -⟩ := (hc1 j hjn).below hb1 HBq.out
          obtain ⟨bf, of, rfl, hbf, hcf⟩ := HI.out.2.at hlt
          have ec := hcf k hlt _ HBq.out
          have HX1 := Lib.hid hX
          have HK2 := Lib.hid (HSc.out k (by rw [HN.out]; exact hlt))
          have HTl : Hid ((tableL (0 :: f) f).getD j 0 = scoreR (0 :: f) f (k + 1)) := Lib.hid (by rw [← hj]; exact tableL_at (0 :: f) f (k := k + 1) (by rw [List.length_cons, HN.out]; omega))
          rw [HTl.out] at HX1
          have hfl : bf < wq.heap.size := Nat.lt_of_lt_of_le hbf HBq.out.size
          have hbl : b1 < wq.heap.size := Nat.lt_of_lt_of_le hb1 HBq.out.size
          generalize f.getD k 0 = fk at *
          generalize scoreR (0 :: f) f (k + 1) = tk at *
          have X0 := box_ext (B := wq.heap.size) e0 hbl
          have X1 := box_ext (B := wq.heap.size) e1 hbl
          have X2 := box_ext (B := wq.heap.size) e2 hbl
          have hw : IntKind.i64.wrap ((k : Int) + 1) = (j : Int) := by rw [IntWalk.i64_in _ (by omega)]; omega
          clear hj
          clear hc1 hcf hX e0 e1 e2 HTl
          have hbd : Below wq.heap.size wq wq.drew := (Below.refl _ _).drew
          by_cases hf0 : 0 < fk
          · have d0 : decide (0 < fk) = true := by simpa using hf0
            have HTk := Lib.hid (HK2.out hf0)
            have HDv := Lib.hid (show Rat.divInt (k : Int) 1 = (k : Rat) by rw [rat_whole, Rat.intCast_natCast])
            go_wp2_with fail
            refine wp_region_sched [(0, false), (1, false), (2, false), (3, false), (4, false), (5, false), (6, false), (7, false), (8, false), (9, true), (10, true), (11, false), (12, false)] (fun w' => ∃ W : Ext wq.heap.size wq, w' = W.1) (by kernel_rfl) (by kernel_rfl) ⟨⟨wq.drew, (Below.refl _ _).drew⟩, rfl⟩ ?_
            repeat (refine wpSched_calm rfl (fun K hK => ?_); go_simp; refine hK _ ?_; clear hK K)
            clear ec X0 X1 X2 hw
            refine wpSched_geff rfl ?_ (fun K hK => ?_)
            · go_simp
            go_simp
            refine (part_any (k : Int) 1 _ (by omega) (by omega) (by omega) (by omega) (by omega)).mono ?_
            rintro e w5 ⟨v5, rfl, hv, hsz, hb⟩
            rw [HDv.out] at hv
            have hM := hbd.trans (hb.mono hbd.size)
            have HV := Lib.hid hv
            refine hK _ _ ⟨⟨w5, hM⟩, rfl⟩ ?_
            clear hK K hb hv hsz
            refine wpSched_geff rfl ?_ (fun K hK => ?_)
            · go_simp
            go_simp
            refine (equal_any _ _ tk _ _ _ (HX1.out.below hM) (by rw [HTk.out]; exact HV.out)).mono ?_
            rintro e w6 ⟨rfl, hb⟩
            have hM6 := hM.trans (hb.mono hM.size)
            have HBq6 := Lib.hid (HBq.out.trans (hM6.mono HBq.out.size))
            refine hK _ _ ⟨⟨w6, hM6⟩, rfl⟩ ?_
            clear hK K hb hM hbd
            repeat (refine wpSched_calm rfl (fun K hK => ?_); go_simp; refine hK _ ?_; clear hK K)
            refine wpSched_nil ?_
            go_wp2_with fail
            go_roundw
            case rel => exact ⟨k + 1, by omega, by go_num, HBq6⟩
            case measure => simp [intOf]; omega
          · have d0 : decide (0 < fk) = false := by simpa using hf0
            go_wp2_with fail
            refine wp_region_sched [(0, false), (1, false), (2, false), (3, false), (4, false), (5, false), (6, false), (7, false), (8, false), (9, true), (10, true), (11, false), (12, false)] (fun w' => ∃ W : Ext wq.heap.size wq, w' = W.1) (by kernel_rfl) (by kernel_rfl) ⟨⟨wq.drew, (Below.refl _ _).drew⟩, rfl⟩ ?_
            repeat (refine wpSched_calm rfl (fun K hK => ?_); go_simp; refine hK _ ?_; clear hK K)
            clear ec X0 X1 X2 hw
            have HBq6 := Lib.hid (HBq.out.trans (hbd.mono HBq.out.size))
            refine wpSched_skip rfl ?_ ⟨⟨_, hbd⟩, rfl⟩ ?_
            · go_simp
            go_simp
            refine wpSched_skip rfl ?_ ⟨⟨_, hbd⟩, rfl⟩ ?_
            · go_simp
            go_simp
            repeat (refine wpSched_calm rfl (fun K hK => ?_); go_simp; refine hK _ ?_; clear hK K)
            refine wpSched_nil ?_
            clear hbd
            go_wp2_with fail
            go_roundw
            case rel => exact ⟨k + 1, by omega, by go_num, HBq6⟩
            case measure => simp [intOf]; omega
        · go_wp2_with fail
          refine (awake_any wq).mono ?_
          rintro e w9 ⟨rfl, hb⟩
          have HB9 := Lib.hid (HBt.out.trans ((HBq.out.trans (hb.mono HBq.out.size)).mono HBt.out.size))
          clear hb
          go_wp2_with fail
          go_ret
          exact ⟨rfl, HB9.out⟩
set_option maxHeartbeats 8000000 in
theorem props_nn (f : List Int) (a : Option Addr) (len cap : Nat) (vx vp : Value) (x p : Rat) (by_ : Nat) (L : Nat) (w : World) (hI : Ints w a len cap f) (hx : RatV w vx x L) (hp : RatV w vp p L) (hb255 : by_ < 256) (hO : OkF f) (hG : eqE (mulF ((by_ : Int) + 1) f) ≠ 0) (hR : eqE (0 :: f) ≠ 0) :
    Calls Try.prog 5 #[.slice a len cap, vx, vp, .int .u8 (by_ : Int)] w fun e w' => e = .returned (.bool true) ∧ Below w.heap.size w w' := by
  have HI := Lib.hid hI
  have HX := Lib.hid hx
  have HP := Lib.hid hp
  have HN := Lib.hid hI.1
  obtain ⟨negx, ax', lenx', capx', ax, lenx, capx, rfl, -, -⟩ := hx.form
  obtain ⟨negp, ap', lenp', capp', ap, lenp, capp, rfl, -, -⟩ := hp.form
  clear hI hx hp
  have HO := Lib.hid (eqE_OkF.2 hO)
  have HF := Lib.hid hO
  have h61 : len ≤ 61 := by rw [← HN.out]; exact hO.1
  have HAt := Lib.hid (preS_at hO.2.1 hO.1)
  have hzg : (eqE (mulF ((by_ : Int) + 1) f) == 0) = false := by simpa using hG
  generalize heg : eqE (mulF ((by_ : Int) + 1) f) = eg at hzg
  have HGv := Lib.hid heg
  clear heg
  have HL61 := Lib.hid (rise_long hO hR)
  have hzr : (eqE (0 :: f) != 0) = true := by simpa using hR
  generalize her : eqE (0 :: f) = er at hzr
  have HRv := Lib.hid her
  clear her
  clear hO hG hR
  go_enter Try.func5, Try.ntmps5
  go_wp2_with fail
  have hbx : Below w.heap.size w ((w.alloc (.cells #[.bool negx, .slice ax' lenx' capx', .slice ax lenx capx] 33)).alloc (.cells #[.bool negp, .slice ap' lenp' capp', .slice ap lenp capp] 33)) := (((Below.refl _ _).alloc (Nat.le_refl _) _).alloc (by simp) _)
  generalize hWW : ((w.alloc (.cells #[.bool negx, .slice ax' lenx' capx', .slice ax lenx capx] 33)).alloc (.cells #[.bool negp, .slice ap' lenp' capp', .slice ap lenp capp] 33)) = w0 at *
  replace HI := Lib.hid (HI.out.below hbx)
  replace HX := Lib.hid (HX.out.below hbx)
  replace HP := Lib.hid (HP.out.below hbx)
  have cA0 : w0.cell? ⟨w.heap.size, 0, none⟩ = some (.bool negx) := by subst hWW; go_simp
  have cA1 : w0.cell? ⟨w.heap.size, 1, none⟩ = some (.slice ax' lenx' capx') := by subst hWW; go_simp
  have cA2 : w0.cell? ⟨w.heap.size, 2, none⟩ = some (.slice ax lenx capx) := by subst hWW; go_simp
  have ltA : w.heap.size < w0.heap.size := by subst hWW; simp <;> omega
  have cB0 : w0.cell? ⟨w.heap.size + 1, 0, none⟩ = some (.bool negp) := by subst hWW; go_simp
  have cB1 : w0.cell? ⟨w.heap.size + 1, 1, none⟩ = some (.slice ap' lenp' capp') := by subst hWW; go_simp
  have cB2 : w0.cell? ⟨w.heap.size + 1, 2, none⟩ = some (.slice ap lenp capp) := by subst hWW; go_simp
  have ltB : w.heap.size + 1 < w0.heap.size := by subst hWW; simp
  have hB := hbx
  clear hbx hWW
  refine (evalid_b f a len cap _ HI.out).mono ?_
  rintro e w1 ⟨rfl, hb⟩
  replace cA0 := bc hb ltA cA0
  replace cA1 := bc hb ltA cA1
  replace cA2 := bc hb ltA cA2
  replace ltA := bl hb ltA
  replace cB0 := bc hb ltB cB0
  replace cB1 := bc hb ltB cB1
  replace cB2 := bc hb ltB cB2
  replace ltB := bl hb ltB
  replace HI := Lib.hid (HI.out.below hb)
  replace HX := Lib.hid (HX.out.below hb)
  replace HP := Lib.hid (HP.out.below hb)
  replace hB := hB.trans (hb.mono hB.size)
  rw [HO.out]
  clear hb
  go_wp2_with fail
  go_loopw [9, 37] (fun u i wr => ∃ k : Nat, k ≤ len ∧ i = .int .i64 k ∧ Hid (Owns wr w1.heap.size 3 u (ivs (mulF ((by_ : Int) + 1) (f.take k)))) ∧ Hid (Below w1.heap.size w1 wr)) (fun _ i _ => len - (intOf i).toNat)
  case atStart => exact ⟨0, by omega, rfl, Lib.hid (by simpa [mulF, ivs] using Owns.nil _ _ _), Lib.hid (Below.refl _ _)⟩
  case round =>
    obtain ⟨k, hk, rfl, HOk, HBk⟩ := hrel
    by_cases hlt : k < len
    · obtain ⟨bb, off, rfl, hbs, hcc⟩ := HI.out.2.at hlt
      have ec := hcc k hlt _ HBk.out
      obtain ⟨-, -, p1, p2⟩ := HAt.out k
      have HSn := Lib.hid (mulF_snoc ((by_ : Int) + 1) f k (by rw [HN.out]; exact hlt))
      have HNl := Lib.hid (show ((ivs (mulF ((by_ : Int) + 1) (f.take k))).length + 1) * 8 ≤ 140737488355328 ∧ (ivs (mulF ((by_ : Int) + 1) (f.take k))).length + 1 ≤ maxLen by
        rw [ivs_length, mulF_len, List.length_take]; simp only [maxLen]; omega)
      generalize f.getD k 0 = fk at *
      have hm1 : 0 ≤ fk * ((by_ : Int) + 1) := Int.mul_nonneg p1 (by omega)
      have hm2 : fk * ((by_ : Int) + 1) ≤ 1000000 * 256 := Int.mul_le_mul p2 (by omega) (by omega) (by omega)
      have hsz2 := HBk.out.size
      have hba : Below wr.heap.size wr (wr.alloc (.cells #[.int .i64 (fk * ((by_ : Int) + 1))] 3)) := (Below.refl _ _).alloc (Nat.le_refl _) _
      have HBa := Lib.hid (HBk.out.trans (hba.mono HBk.out.size))
      have HLt := Lib.hid HOk.out.lt
      clear hcc hba HAt
      generalize mulF ((by_ : Int) + 1) (f.take k) = cur at *
      go_wp2_with (at_builtin; go_must (refine wpList_app1 rfl _ _ 22 rfl w1.heap.size 3 (.int .i64 0) 8 Try.underlying22 infoInt rfl u9 (ivs cur) rfl (.int .i64 (fk * ((by_ : Int) + 1))) rfl HOk.out rfl HNl.out.1 HNl.out.2 hsz2 fun v' w' h1 h2 => ?_))
      have hbm := HBk.out.trans (h2.below hsz2 HLt.out)
      have HBm := Lib.hid hbm
      have HO3 := Lib.hid (show Owns w' w1.heap.size 3 v' (ivs (mulF ((by_ : Int) + 1) (f.take (k + 1)))) by rw [HSn.out, ivs_append]; exact h1)
      clear h1 h2 hbm
      go_wp2_with fail
      go_roundw
      case rel => exact ⟨k + 1, by omega, by go_num, HO3, HBm⟩
      case measure => simp [intOf]; omega
    · obtain ⟨a2, n2, c2, rfl, hI⟩ := HOk.out.ints
      rw [List.take_of_length_le (by rw [HN.out]; omega)] at hI
      obtain rfl : len = n2 := by have := hI.1; rw [mulF_len, HN.out] at this; exact this
      have HG := Lib.hid hI
      have hb := HBk.out
      clear HOk hI HBk
      replace cA0 := bc hb ltA cA0
      replace cA1 := bc hb ltA cA1
      replace cA2 := bc hb ltA cA2
      replace ltA := bl hb ltA
      replace cB0 := bc hb ltB cB0
      replace cB1 := bc hb ltB cB1
      replace cB2 := bc hb ltB cB2
      replace ltB := bl hb ltB
      replace HI := Lib.hid (HI.out.below hb)
      replace HX := Lib.hid (HX.out.below hb)
      replace HP := Lib.hid (HP.out.below hb)
      replace hB := hB.trans (hb.mono hB.size)
      clear hb
      go_wp2_with fail
      refine (evalid_b _ _ _ _ _ HG.out).mono ?_
      rintro e w3 ⟨rfl, hb⟩
      replace cA0 := bc hb ltA cA0
      replace cA1 := bc hb ltA cA1
      replace cA2 := bc hb ltA cA2
      replace ltA := bl hb ltA
      replace cB0 := bc hb ltB cB0
      replace cB1 := bc hb ltB cB1
      replace cB2 := bc hb ltB cB2
      replace ltB := bl hb ltB
      replace HI := Lib.hid (HI.out.below hb)
      replace HX := Lib.hid (HX.out.below hb)
      replace HP := Lib.hid (HP.out.below hb)
      replace HG := Lib.hid (HG.out.below hb)
      replace hB := hB.trans (hb.mono hB.size)
      rw [HGv.out]
      clear hb
      have hzg2 := hzg
      have hba : Below w3.heap.size w3 (w3.alloc (.cells #[.int .i64 0] 3)) := (Below.refl _ _).alloc (Nat.le_refl _) _
      have HOw := Lib.hid (owns_lit w3 w3.heap.size 3 [.int .i64 0] (by simp [maxLen]) (Nat.le_refl _))
      have HNl := Lib.hid (show (([.int .i64 0] : List Value).length + len) * 8 ≤ 140737488355328 ∧ ([.int .i64 0] : List Value).length + len ≤ maxLen by simp only [List.length_singleton, maxLen]; omega)
      have HIa := Lib.hid (HI.out.below hba)
      have HLv := Lib.hid (show (ivs f).length = len by rw [ivs_length, HN.out])
      go_wp2_with (at_builtin; go_must (refine wpList_app rfl _ _ 22 rfl w3.heap.size 3 (.int .i64 0) 8 Try.underlying22 infoInt rfl (.slice (some ⟨w3.heap.size, 0, none⟩) 1 1) [.int .i64 0] rfl HOw.out _ len cap (ivs f) rfl HLv.out HIa.out.vals (ivs_one _) HNl.out.1 HNl.out.2 (by simp) fun v' wz h1 h2 => ?_))
      have hb := (h2.below (by simp) HOw.out.lt : Below w3.heap.size _ wz)
      replace hb : Below w3.heap.size w3 wz := hba.trans hb
      obtain ⟨a3, n3, c3, rfl, hI⟩ := Owns.ints (xs := 0 :: f) (by simpa [ivs, iv] using h1)
      have hn3 : len + 1 = n3 := by have := hI.1; rw [List.length_cons, HN.out] at this; exact this
      have hna : n3 ≤ len + 1 := by omega
      have hnb : len + 1 ≤ n3 := by omega
      have HRd := Lib.hid hI
      clear h1 h2 hI hba HOw HIa hn3
      replace cA0 := bc hb ltA cA0
      replace cA1 := bc hb ltA cA1
      replace cA2 := bc hb ltA cA2
      replace ltA := bl hb ltA
      replace cB0 := bc hb ltB cB0
      replace cB1 := bc hb ltB cB1
      replace cB2 := bc hb ltB cB2
      replace ltB := bl hb ltB
      replace HI := Lib.hid (HI.out.below hb)
      replace HX := Lib.hid (HX.out.below hb)
      replace HP := Lib.hid (HP.out.below hb)
      replace HG := Lib.hid (HG.out.below hb)
      replace hB := hB.trans (hb.mono hB.size)
      clear hb
      go_wp2_with fail
      refine (evalid_b (0 :: f) a3 n3 c3 _ HRd.out).mono ?_
      rintro e wv ⟨rfl, hb⟩
      replace cA0 := bc hb ltA cA0
      replace cA1 := bc hb ltA cA1
      replace cA2 := bc hb ltA cA2
      replace ltA := bl hb ltA
      replace cB0 := bc hb ltB cB0
      replace cB1 := bc hb ltB cB1
      replace cB2 := bc hb ltB cB2
      replace ltB := bl hb ltB
      replace HI := Lib.hid (HI.out.below hb)
      replace HX := Lib.hid (HX.out.below hb)
      replace HP := Lib.hid (HP.out.below hb)
      replace HG := Lib.hid (HG.out.below hb)
      replace HRd := Lib.hid (HRd.out.below hb)
      replace hB := hB.trans (hb.mono hB.size)
      rw [HRv.out]
      clear hb
      have hl61 : ((len : Int) == 61) = true := by have := HL61.out; rw [HN.out] at this; simp; omega
      go_wp2_with fail
      refine (awake_any _).mono ?_
      rintro e ww ⟨rfl, hb⟩
      replace cA0 := bc hb ltA cA0
      replace cA1 := bc hb ltA cA1
      replace cA2 := bc hb ltA cA2
      replace ltA := bl hb ltA
      replace cB0 := bc hb ltB cB0
      replace cB1 := bc hb ltB cB1
      replace cB2 := bc hb ltB cB2
      replace ltB := bl hb ltB
      replace HI := Lib.hid (HI.out.below hb)
      replace HX := Lib.hid (HX.out.below hb)
      replace HP := Lib.hid (HP.out.below hb)
      replace HG := Lib.hid (HG.out.below hb)
      replace HRd := Lib.hid (HRd.out.below hb)
      replace hB := hB.trans (hb.mono hB.size)
      clear hb
      go_wp2_with fail
      go_ret
      exact ⟨rfl, hB⟩
set_option maxHeartbeats 8000000 in
theorem props_iv (f : List Int) (a : Option Addr) (len cap : Nat) (vx vp : Value) (x p : Rat) (by_ : Nat) (L : Nat) (w : World) (hI : Ints w a len cap f) (hx : RatV w vx x L) (hp : RatV w vp p L) (hb255 : by_ < 256) (hL : 1 ≤ L) (hm : (2 * L + 200) * 4 ≤ 140737488355328) (hO : OkF f) (hG : eqE (mulF ((by_ : Int) + 1) f) = 0) (hp0 : 0 ≤ p) (hp1 : p ≤ 1) (hR : eqE (0 :: f) = 0) :
    Calls Try.prog 5 #[.slice a len cap, vx, vp, .int .u8 (by_ : Int)] w fun e w' => e = .returned (.bool true) ∧ Below w.heap.size w w' := by
  have HI := Lib.hid hI
  have HX := Lib.hid hx
  have HP := Lib.hid hp
  have HN := Lib.hid hI.1
  obtain ⟨negx, ax', lenx', capx', ax, lenx, capx, rfl, -, -⟩ := hx.form
  obtain ⟨negp, ap', lenp', capp', ap, lenp, capp, rfl, -, -⟩ := hp.form
  clear hI hx hp
  have HO := Lib.hid (eqE_OkF.2 hO)
  have HF := Lib.hid hO
  have h61 : len ≤ 61 := by rw [← HN.out]; exact hO.1
  have HAt := Lib.hid (preS_at hO.2.1 hO.1)
  have HGv := Lib.hid hG
  have HFg := Lib.hid (eqE_OkF.1 hG)
  have HRk := Lib.hid (mul_rank (f := f) (c := (by_ : Int) + 1) (by omega) x)
  have HMo := Lib.hid (mulF_mom (c := (by_ : Int) + 1) (by omega) hO.pos)
  have HIv := Lib.hid (mul_inv (c := (by_ : Int) + 1) hO (by omega) hp1)
  have HIn := Lib.hid (And.intro hp0 hp1)
  clear hp0 hp1
  have HRv := Lib.hid hR
  have HFr := Lib.hid (eqE_OkF.1 hR)
  have HSc := Lib.hid (fun (k : Nat) (hk : k < f.length) (h0 : 0 < f.getD k 0) => rise_score hO hk h0)
  clear hO hG hR
  go_enter Try.func5, Try.ntmps5
  go_wp2_with fail
  have hbx : Below w.heap.size w ((w.alloc (.cells #[.bool negx, .slice ax' lenx' capx', .slice ax lenx capx] 33)).alloc (.cells #[.bool negp, .slice ap' lenp' capp', .slice ap lenp capp] 33)) := (((Below.refl _ _).alloc (Nat.le_refl _) _).alloc (by simp) _)
  generalize hWW : ((w.alloc (.cells #[.bool negx, .slice ax' lenx' capx', .slice ax lenx capx] 33)).alloc (.cells #[.bool negp, .slice ap' lenp' capp', .slice ap lenp capp] 33)) = w0 at *
  replace HI := Lib.hid (HI.out.below hbx)
  replace HX := Lib.hid (HX.out.below hbx)
  replace HP := Lib.hid (HP.out.below hbx)
  have cA0 : w0.cell? ⟨w.heap.size, 0, none⟩ = some (.bool negx) := by subst hWW; go_simp
  have cA1 : w0.cell? ⟨w.heap.size, 1, none⟩ = some (.slice ax' lenx' capx') := by subst hWW; go_simp
  have cA2 : w0.cell? ⟨w.heap.size, 2, none⟩ = some (.slice ax lenx capx) := by subst hWW; go_simp
  have ltA : w.heap.size < w0.heap.size := by subst hWW; simp <;> omega
  have cB0 : w0.cell? ⟨w.heap.size + 1, 0, none⟩ = some (.bool negp) := by subst hWW; go_simp
  have cB1 : w0.cell? ⟨w.heap.size + 1, 1, none⟩ = some (.slice ap' lenp' capp') := by subst hWW; go_simp
  have cB2 : w0.cell? ⟨w.heap.size + 1, 2, none⟩ = some (.slice ap lenp capp) := by subst hWW; go_simp
  have ltB : w.heap.size + 1 < w0.heap.size := by subst hWW; simp
  have hB := hbx
  clear hbx hWW
  refine (evalid_b f a len cap _ HI.out).mono ?_
  rintro e w1 ⟨rfl, hb⟩
  replace cA0 := bc hb ltA cA0
  replace cA1 := bc hb ltA cA1
  replace cA2 := bc hb ltA cA2
  replace ltA := bl hb ltA
  replace cB0 := bc hb ltB cB0
  replace cB1 := bc hb ltB cB1
  replace cB2 := bc hb ltB cB2
  replace ltB := bl hb ltB
  replace HI := Lib.hid (HI.out.below hb)
  replace HX := Lib.hid (HX.out.below hb)
  replace HP := Lib.hid (HP.out.below hb)
  replace hB := hB.trans (hb.mono hB.size)
  rw [HO.out]
  clear hb
  go_wp2_with fail
  go_loopw [9, 37] (fun u i wr => ∃ k : Nat, k ≤ len ∧ i = .int .i64 k ∧ Hid (Owns wr w1.heap.size 3 u (ivs (mulF ((by_ : Int) + 1) (f.take k)))) ∧ Hid (Below w1.heap.size w1 wr)) (fun _ i _ => len - (intOf i).toNat)
  case atStart => exact ⟨0, by omega, rfl, Lib.hid (by simpa [mulF, ivs] using Owns.nil _ _ _), Lib.hid (Below.refl _ _)⟩
  case round =>
    obtain ⟨k, hk, rfl, HOk, HBk⟩ := hrel
    by_cases hlt : k < len
    · obtain ⟨bb, off, rfl, hbs, hcc⟩ := HI.out.2.at hlt
      have ec := hcc k hlt _ HBk.out
      obtain ⟨-, -, p1, p2⟩ := HAt.out k
      have HSn := Lib.hid (mulF_snoc ((by_ : Int) + 1) f k (by rw [HN.out]; exact hlt))
      have HNl := Lib.hid (show ((ivs (mulF ((by_ : Int) + 1) (f.take k))).length + 1) * 8 ≤ 140737488355328 ∧ (ivs (mulF ((by_ : Int) + 1) (f.take k))).length + 1 ≤ maxLen by
        rw [ivs_length, mulF_len, List.length_take]; simp only [maxLen]; omega)
      generalize f.getD k 0 = fk at *
      have hm1 : 0 ≤ fk * ((by_ : Int) + 1) := Int.mul_nonneg p1 (by omega)
      have hm2 : fk * ((by_ : Int) + 1) ≤ 1000000 * 256 := Int.mul_le_mul p2 (by omega) (by omega) (by omega)
      have hsz2 := HBk.out.size
      have hba : Below wr.heap.size wr (wr.alloc (.cells #[.int .i64 (fk * ((by_ : Int) + 1))] 3)) := (Below.refl _ _).alloc (Nat.le_refl _) _
      have HBa := Lib.hid (HBk.out.trans (hba.mono HBk.out.size))
      have HLt := Lib.hid HOk.out.lt
      clear hcc hba HAt
      generalize mulF ((by_ : Int) + 1) (f.take k) = cur at *
      go_wp2_with (at_builtin; go_must (refine wpList_app1 rfl _ _ 22 rfl w1.heap.size 3 (.int .i64 0) 8 Try.underlying22 infoInt rfl u9 (ivs cur) rfl (.int .i64 (fk * ((by_ : Int) + 1))) rfl HOk.out rfl HNl.out.1 HNl.out.2 hsz2 fun v' w' h1 h2 => ?_))
      have hbm := HBk.out.trans (h2.below hsz2 HLt.out)
      have HBm := Lib.hid hbm
      have HO3 := Lib.hid (show Owns w' w1.heap.size 3 v' (ivs (mulF ((by_ : Int) + 1) (f.take (k + 1)))) by rw [HSn.out, ivs_append]; exact h1)
      clear h1 h2 hbm
      go_wp2_with fail
      go_roundw
      case rel => exact ⟨k + 1, by omega, by go_num, HO3, HBm⟩
      case measure => simp [intOf]; omega
    · obtain ⟨a2, n2, c2, rfl, hI⟩ := HOk.out.ints
      rw [List.take_of_length_le (by rw [HN.out]; omega)] at hI
      obtain rfl : len = n2 := by have := hI.1; rw [mulF_len, HN.out] at this; exact this
      have HG := Lib.hid hI
      have hb := HBk.out
      clear HOk hI HBk
      replace cA0 := bc hb ltA cA0
      replace cA1 := bc hb ltA cA1
      replace cA2 := bc hb ltA cA2
      replace ltA := bl hb ltA
      replace cB0 := bc hb ltB cB0
      replace cB1 := bc hb ltB cB1
      replace cB2 := bc hb ltB cB2
      replace ltB := bl hb ltB
      replace HI := Lib.hid (HI.out.below hb)
      replace HX := Lib.hid (HX.out.below hb)
      replace HP := Lib.hid (HP.out.below hb)
      replace hB := hB.trans (hb.mono hB.size)
      clear hb
      go_wp2_with fail
      refine (evalid_b _ _ _ _ _ HG.out).mono ?_
      rintro e w3 ⟨rfl, hb⟩
      replace cA0 := bc hb ltA cA0
      replace cA1 := bc hb ltA cA1
      replace cA2 := bc hb ltA cA2
      replace ltA := bl hb ltA
      replace cB0 := bc hb ltB cB0
      replace cB1 := bc hb ltB cB1
      replace cB2 := bc hb ltB cB2
      replace ltB := bl hb ltB
      replace HI := Lib.hid (HI.out.below hb)
      replace HX := Lib.hid (HX.out.below hb)
      replace HP := Lib.hid (HP.out.below hb)
      replace HG := Lib.hid (HG.out.below hb)
      replace hB := hB.trans (hb.mono hB.size)
      rw [HGv.out]
      clear hb
      go_wp2_with fail
      refine (erank_any f _ _ _ _ x L _ HI.out HX.out hL (by omega) HF.out).mono ?_
      rintro e w4 ⟨v4, rfl, hv, hsz, hb⟩
      replace cA0 := bc hb ltA cA0
      replace cA1 := bc hb ltA cA1
      replace cA2 := bc hb ltA cA2
      replace ltA := bl hb ltA
      replace cB0 := bc hb ltB cB0
      replace cB1 := bc hb ltB cB1
      replace cB2 := bc hb ltB cB2
      replace ltB := bl hb ltB
      replace HI := Lib.hid (HI.out.below hb)
      replace HX := Lib.hid (HX.out.below hb)
      replace HP := Lib.hid (HP.out.below hb)
      replace HG := Lib.hid (HG.out.below hb)
      replace hB := hB.trans (hb.mono hB.size)
      have HZ4 := Lib.hid hsz
      have HV4 := Lib.hid (hv.mono (Nat.zero_le _))
      obtain ⟨p4', m4', q4', p4, m4, q4, rfl, -, -, -, -⟩ := hv
      generalize decide ((rankR f x : Rat).num < 0) = d4 at *
      clear hsz
      clear hb
      go_wp2_with fail
      have hbx : Below w4.heap.size w4 (w4.alloc (.cells #[.bool d4, .slice p4' m4' q4', .slice p4 m4 q4] 33)) := ((Below.refl _ _).alloc (Nat.le_refl _) _)
      generalize hWW : (w4.alloc (.cells #[.bool d4, .slice p4' m4' q4', .slice p4 m4 q4] 33)) = w4a at *
      replace cA0 := bc hbx ltA cA0
      replace cA1 := bc hbx ltA cA1
      replace cA2 := bc hbx ltA cA2
      replace ltA := bl hbx ltA
      replace cB0 := bc hbx ltB cB0
      replace cB1 := bc hbx ltB cB1
      replace cB2 := bc hbx ltB cB2
      replace ltB := bl hbx ltB
      replace HI := Lib.hid (HI.out.below hbx)
      replace HX := Lib.hid (HX.out.below hbx)
      replace HP := Lib.hid (HP.out.below hbx)
      replace HG := Lib.hid (HG.out.below hbx)
      replace HV4 := Lib.hid (HV4.out.below hbx)
      have cr0 : w4a.cell? ⟨w4.heap.size, 0, none⟩ = some (.bool d4) := by subst hWW; go_simp
      have cr1 : w4a.cell? ⟨w4.heap.size, 1, none⟩ = some (.slice p4' m4' q4') := by subst hWW; go_simp
      have cr2 : w4a.cell? ⟨w4.heap.size, 2, none⟩ = some (.slice p4 m4 q4) := by subst hWW; go_simp
      have ltr : w4.heap.size < w4a.heap.size := by subst hWW; simp
      replace hB := hB.trans (hbx.mono hB.size)
      clear hbx hWW
      refine (erank_any (mulF ((by_ : Int) + 1) f) _ _ _ _ x L _ HG.out HX.out hL (by omega) HFg.out).mono ?_
      rintro e w5 ⟨v5, rfl, hv, hsz, hb⟩
      replace cA0 := bc hb ltA cA0
      replace cA1 := bc hb ltA cA1
      replace cA2 := bc hb ltA cA2
      replace ltA := bl hb ltA
      replace cB0 := bc hb ltB cB0
      replace cB1 := bc hb ltB cB1
      replace cB2 := bc hb ltB cB2
      replace ltB := bl hb ltB
      replace cr0 := bc hb ltr cr0
      replace cr1 := bc hb ltr cr1
      replace cr2 := bc hb ltr cr2
      replace ltr := bl hb ltr
      replace HI := Lib.hid (HI.out.below hb)
      replace HX := Lib.hid (HX.out.below hb)
      replace HP := Lib.hid (HP.out.below hb)
      replace HG := Lib.hid (HG.out.below hb)
      replace HV4 := Lib.hid (HV4.out.below hb)
      replace hB := hB.trans (hb.mono hB.size)
      rw [HRk.out] at hv hsz
      have HZ5 := Lib.hid hsz
      have HV5 := Lib.hid (hv.mono (Nat.zero_le _))
      obtain ⟨p5', m5', q5', p5, m5, q5, rfl, -, -, -, -⟩ := hv
      generalize decide ((rankR f x : Rat).num < 0) = d5 at *
      clear hsz
      clear hb
      go_wp2_with fail
      have hbx : Below w5.heap.size w5 (w5.alloc (.cells #[.bool d5, .slice p5' m5' q5', .slice p5 m5 q5] 33)) := ((Below.refl _ _).alloc (Nat.le_refl _) _)
      generalize hWW : (w5.alloc (.cells #[.bool d5, .slice p5' m5' q5', .slice p5 m5 q5] 33)) = w5a at *
      replace cA0 := bc hbx ltA cA0
      replace cA1 := bc hbx ltA cA1
      replace cA2 := bc hbx ltA cA2
      replace ltA := bl hbx ltA
      replace cB0 := bc hbx ltB cB0
      replace cB1 := bc hbx ltB cB1
      replace cB2 := bc hbx ltB cB2
      replace ltB := bl hbx ltB
      replace cr0 := bc hbx ltr cr0
      replace cr1 := bc hbx ltr cr1
      replace cr2 := bc hbx ltr cr2
      replace ltr := bl hbx ltr
      replace HI := Lib.hid (HI.out.below hbx)
      replace HX := Lib.hid (HX.out.below hbx)
      replace HP := Lib.hid (HP.out.below hbx)
      replace HG := Lib.hid (HG.out.below hbx)
      replace HV4 := Lib.hid (HV4.out.below hbx)
      replace HV5 := Lib.hid (HV5.out.below hbx)
      have cs0 : w5a.cell? ⟨w5.heap.size, 0, none⟩ = some (.bool d5) := by subst hWW; go_simp
      have cs1 : w5a.cell? ⟨w5.heap.size, 1, none⟩ = some (.slice p5' m5' q5') := by subst hWW; go_simp
      have cs2 : w5a.cell? ⟨w5.heap.size, 2, none⟩ = some (.slice p5 m5 q5) := by subst hWW; go_simp
      have lts : w5.heap.size < w5a.heap.size := by subst hWW; simp
      replace hB := hB.trans (hbx.mono hB.size)
      clear hbx hWW
      refine (einv_any f _ _ _ _ p L _ HI.out HP.out hL (by omega) HF.out HIn.out.1 HIn.out.2).mono ?_
      rintro e w6 ⟨v6, rfl, hv, hsz, hb⟩
      replace cA0 := bc hb ltA cA0
      replace cA1 := bc hb ltA cA1
      replace cA2 := bc hb ltA cA2
      replace ltA := bl hb ltA
      replace cB0 := bc hb ltB cB0
      replace cB1 := bc hb ltB cB1
      replace cB2 := bc hb ltB cB2
      replace ltB := bl hb ltB
      replace cr0 := bc hb ltr cr0
      replace cr1 := bc hb ltr cr1
      replace cr2 := bc hb ltr cr2
      replace ltr := bl hb ltr
      replace cs0 := bc hb lts cs0
      replace cs1 := bc hb lts cs1
      replace cs2 := bc hb lts cs2
      replace lts := bl hb lts
      replace HI := Lib.hid (HI.out.below hb)
      replace HX := Lib.hid (HX.out.below hb)
      replace HP := Lib.hid (HP.out.below hb)
      replace HG := Lib.hid (HG.out.below hb)
      replace HV4 := Lib.hid (HV4.out.below hb)
      replace HV5 := Lib.hid (HV5.out.below hb)
      replace hB := hB.trans (hb.mono hB.size)
      have HZ6 := Lib.hid hsz
      have HV6 := Lib.hid (hv.mono (Nat.zero_le _))
      obtain ⟨p6', m6', q6', p6, m6, q6, rfl, -, -, -, -⟩ := hv
      generalize decide ((invR f (p * (f.sum : Rat)) : Rat).num < 0) = d6 at *
      clear hsz
      clear hb
      go_wp2_with fail
      have hbx : Below w6.heap.size w6 (w6.alloc (.cells #[.bool d6, .slice p6' m6' q6', .slice p6 m6 q6] 33)) := ((Below.refl _ _).alloc (Nat.le_refl _) _)
      generalize hWW : (w6.alloc (.cells #[.bool d6, .slice p6' m6' q6', .slice p6 m6 q6] 33)) = w6a at *
      replace cA0 := bc hbx ltA cA0
      replace cA1 := bc hbx ltA cA1
      replace cA2 := bc hbx ltA cA2
      replace ltA := bl hbx ltA
      replace cB0 := bc hbx ltB cB0
      replace cB1 := bc hbx ltB cB1
      replace cB2 := bc hbx ltB cB2
      replace ltB := bl hbx ltB
      replace cr0 := bc hbx ltr cr0
      replace cr1 := bc hbx ltr cr1
      replace cr2 := bc hbx ltr cr2
      replace ltr := bl hbx ltr
      replace cs0 := bc hbx lts cs0
      replace cs1 := bc hbx lts cs1
      replace cs2 := bc hbx lts cs2
      replace lts := bl hbx lts
      replace HI := Lib.hid (HI.out.below hbx)
      replace HX := Lib.hid (HX.out.below hbx)
      replace HP := Lib.hid (HP.out.below hbx)
      replace HG := Lib.hid (HG.out.below hbx)
      replace HV4 := Lib.hid (HV4.out.below hbx)
      replace HV5 := Lib.hid (HV5.out.below hbx)
      replace HV6 := Lib.hid (HV6.out.below hbx)
      have cu0 : w6a.cell? ⟨w6.heap.size, 0, none⟩ = some (.bool d6) := by subst hWW; go_simp
      have cu1 : w6a.cell? ⟨w6.heap.size, 1, none⟩ = some (.slice p6' m6' q6') := by subst hWW; go_simp
      have cu2 : w6a.cell? ⟨w6.heap.size, 2, none⟩ = some (.slice p6 m6 q6) := by subst hWW; go_simp
      have ltu : w6.heap.size < w6a.heap.size := by subst hWW; simp
      replace hB := hB.trans (hbx.mono hB.size)
      clear hbx hWW
      refine (einv_any (mulF ((by_ : Int) + 1) f) _ _ _ _ p L _ HG.out HP.out hL (by omega) HFg.out HIn.out.1 HIn.out.2).mono ?_
      rintro e w7 ⟨v7, rfl, hv, hsz, hb⟩
      replace cA0 := bc hb ltA cA0
      replace cA1 := bc hb ltA cA1
      replace cA2 := bc hb ltA cA2
      replace ltA := bl hb ltA
      replace cB0 := bc hb ltB cB0
      replace cB1 := bc hb ltB cB1
      replace cB2 := bc hb ltB cB2
      replace ltB := bl hb ltB
      replace cr0 := bc hb ltr cr0
      replace cr1 := bc hb ltr cr1
      replace cr2 := bc hb ltr cr2
      replace ltr := bl hb ltr
      replace cs0 := bc hb lts cs0
      replace cs1 := bc hb lts cs1
      replace cs2 := bc hb lts cs2
      replace lts := bl hb lts
      replace cu0 := bc hb ltu cu0
      replace cu1 := bc hb ltu cu1
      replace cu2 := bc hb ltu cu2
      replace ltu := bl hb ltu
      replace HI := Lib.hid (HI.out.below hb)
      replace HX := Lib.hid (HX.out.below hb)
      replace HP := Lib.hid (HP.out.below hb)
      replace HG := Lib.hid (HG.out.below hb)
      replace HV4 := Lib.hid (HV4.out.below hb)
      replace HV5 := Lib.hid (HV5.out.below hb)
      replace HV6 := Lib.hid (HV6.out.below hb)
      replace hB := hB.trans (hb.mono hB.size)
      rw [HIv.out] at hv hsz
      have HZ7 := Lib.hid hsz
      have HV7 := Lib.hid (hv.mono (Nat.zero_le _))
      obtain ⟨p7', m7', q7', p7, m7, q7, rfl, -, -, -, -⟩ := hv
      generalize decide ((invR f (p * (f.sum : Rat)) : Rat).num < 0) = d7 at *
      clear hsz
      clear hb
      go_wp2_with fail
      have hbx : Below w7.heap.size w7 (w7.alloc (.cells #[.bool d7, .slice p7' m7' q7', .slice p7 m7 q7] 33)) := ((Below.refl _ _).alloc (Nat.le_refl _) _)
      generalize hWW : (w7.alloc (.cells #[.bool d7, .slice p7' m7' q7', .slice p7 m7 q7] 33)) = w7a at *
      replace cA0 := bc hbx ltA cA0
      replace cA1 := bc hbx ltA cA1
      replace cA2 := bc hbx ltA cA2
      replace ltA := bl hbx ltA
      replace cB0 := bc hbx ltB cB0
      replace cB1 := bc hbx ltB cB1
      replace cB2 := bc hbx ltB cB2
      replace ltB := bl hbx ltB
      replace cr0 := bc hbx ltr cr0
      replace cr1 := bc hbx ltr cr1
      replace cr2 := bc hbx ltr cr2
      replace ltr := bl hbx ltr
      replace cs0 := bc hbx lts cs0
      replace cs1 := bc hbx lts cs1
      replace cs2 := bc hbx lts cs2
      replace lts := bl hbx lts
      replace cu0 := bc hbx ltu cu0
      replace cu1 := bc hbx ltu cu1
      replace cu2 := bc hbx ltu cu2
      replace ltu := bl hbx ltu
      replace HI := Lib.hid (HI.out.below hbx)
      replace HX := Lib.hid (HX.out.below hbx)
      replace HP := Lib.hid (HP.out.below hbx)
      replace HG := Lib.hid (HG.out.below hbx)
      replace HV4 := Lib.hid (HV4.out.below hbx)
      replace HV5 := Lib.hid (HV5.out.below hbx)
      replace HV6 := Lib.hid (HV6.out.below hbx)
      replace HV7 := Lib.hid (HV7.out.below hbx)
      have cv0 : w7a.cell? ⟨w7.heap.size, 0, none⟩ = some (.bool d7) := by subst hWW; go_simp
      have cv1 : w7a.cell? ⟨w7.heap.size, 1, none⟩ = some (.slice p7' m7' q7') := by subst hWW; go_simp
      have cv2 : w7a.cell? ⟨w7.heap.size, 2, none⟩ = some (.slice p7 m7 q7) := by subst hWW; go_simp
      have ltv : w7.heap.size < w7a.heap.size := by subst hWW; simp
      replace hB := hB.trans (hbx.mono hB.size)
      clear hbx hWW
      refine (equal_any _ _ _ _ _ _ HV4.out HV5.out).mono ?_
      rintro e w8 ⟨rfl, hb⟩
      replace cA0 := bc hb ltA cA0
      replace cA1 := bc hb ltA cA1
      replace cA2 := bc hb ltA cA2
      replace ltA := bl hb ltA
      replace cB0 := bc hb ltB cB0
      replace cB1 := bc hb ltB cB1
      replace cB2 := bc hb ltB cB2
      replace ltB := bl hb ltB
      replace cr0 := bc hb ltr cr0
      replace cr1 := bc hb ltr cr1
      replace cr2 := bc hb ltr cr2
      replace ltr := bl hb ltr
      replace cs0 := bc hb lts cs0
      replace cs1 := bc hb lts cs1
      replace cs2 := bc hb lts cs2
      replace lts := bl hb lts
      replace cu0 := bc hb ltu cu0
      replace cu1 := bc hb ltu cu1
      replace cu2 := bc hb ltu cu2
      replace ltu := bl hb ltu
      replace cv0 := bc hb ltv cv0
      replace cv1 := bc hb ltv cv1
      replace cv2 := bc hb ltv cv2
      replace ltv := bl hb ltv
      replace HI := Lib.hid (HI.out.below hb)
      replace HX := Lib.hid (HX.out.below hb)
      replace HP := Lib.hid (HP.out.below hb)
      replace HG := Lib.hid (HG.out.below hb)
      replace HV4 := Lib.hid (HV4.out.below hb)
      replace HV5 := Lib.hid (HV5.out.below hb)
      replace HV6 := Lib.hid (HV6.out.below hb)
      replace HV7 := Lib.hid (HV7.out.below hb)
      replace hB := hB.trans (hb.mono hB.size)
      clear hb
      go_wp2_with fail
      refine (equal_any _ _ _ _ _ _ HV6.out HV7.out).mono ?_
      rintro e w9 ⟨rfl, hb⟩
      replace cA0 := bc hb ltA cA0
      replace cA1 := bc hb ltA cA1
      replace cA2 := bc hb ltA cA2
      replace ltA := bl hb ltA
      replace cB0 := bc hb ltB cB0
      replace cB1 := bc hb ltB cB1
      replace cB2 := bc hb ltB cB2
      replace ltB := bl hb ltB
      replace cr0 := bc hb ltr cr0
      replace cr1 := bc hb ltr cr1
      replace cr2 := bc hb ltr cr2
      replace ltr := bl hb ltr
      replace cs0 := bc hb lts cs0
      replace cs1 := bc hb lts cs1
      replace cs2 := bc hb lts cs2
      replace lts := bl hb lts
      replace cu0 := bc hb ltu cu0
      replace cu1 := bc hb ltu cu1
      replace cu2 := bc hb ltu cu2
      replace ltu := bl hb ltu
      replace cv0 := bc hb ltv cv0
      replace cv1 := bc hb ltv cv1
      replace cv2 := bc hb ltv cv2
      replace ltv := bl hb ltv
      replace HI := Lib.hid (HI.out.below hb)
      replace HX := Lib.hid (HX.out.below hb)
      replace HP := Lib.hid (HP.out.below hb)
      replace HG := Lib.hid (HG.out.below hb)
      replace HV4 := Lib.hid (HV4.out.below hb)
      replace HV5 := Lib.hid (HV5.out.below hb)
      replace HV6 := Lib.hid (HV6.out.below hb)
      replace HV7 := Lib.hid (HV7.out.below hb)
      replace hB := hB.trans (hb.mono hB.size)
      clear hb
      go_wp2_with fail
      clear HV4 HV5 HV6 HV7
      clear cr0 cr1 cr2 ltr
      clear cs0 cs1 cs2 lts
      clear cu0 cu1 cu2 ltu
      clear cv0 cv1 cv2 ltv
      refine (emom_any f _ _ _ _ HI.out HF.out).mono ?_
      rintro e wa ⟨vm, vv, rfl, hv, hu, hsz, hsu, hb⟩
      replace cA0 := bc hb ltA cA0
      replace cA1 := bc hb ltA cA1
      replace cA2 := bc hb ltA cA2
      replace ltA := bl hb ltA
      replace cB0 := bc hb ltB cB0
      replace cB1 := bc hb ltB cB1
      replace cB2 := bc hb ltB cB2
      replace ltB := bl hb ltB
      replace HI := Lib.hid (HI.out.below hb)
      replace HX := Lib.hid (HX.out.below hb)
      replace HP := Lib.hid (HP.out.below hb)
      replace HG := Lib.hid (HG.out.below hb)
      replace hB := hB.trans (hb.mono hB.size)
      have HVm := Lib.hid (hv.mono (Nat.zero_le _))
      have HVn := Lib.hid (hu.mono (Nat.zero_le _))
      obtain ⟨pm', mm', qm', pm, mm, qm, rfl, -, -, -, -⟩ := hv
      obtain ⟨pn', mn', qn', pn, mn, qn, rfl, -, -, -, -⟩ := hu
      generalize decide ((meanR f).num < 0) = dm at *
      generalize decide ((varR f).num < 0) = dn at *
      clear hsz hsu
      clear hb
      go_wp2_with fail
      have hbx : Below wa.heap.size wa ((wa.alloc (.cells #[.bool dm, .slice pm' mm' qm', .slice pm mm qm] 33)).alloc (.cells #[.bool dn, .slice pn' mn' qn', .slice pn mn qn] 33)) := (((Below.refl _ _).alloc (Nat.le_refl _) _).alloc (by simp) _)
      generalize hWW : ((wa.alloc (.cells #[.bool dm, .slice pm' mm' qm', .slice pm mm qm] 33)).alloc (.cells #[.bool dn, .slice pn' mn' qn', .slice pn mn qn] 33)) = wa2 at *
      replace cA0 := bc hbx ltA cA0
      replace cA1 := bc hbx ltA cA1
      replace cA2 := bc hbx ltA cA2
      replace ltA := bl hbx ltA
      replace cB0 := bc hbx ltB cB0
      replace cB1 := bc hbx ltB cB1
      replace cB2 := bc hbx ltB cB2
      replace ltB := bl hbx ltB
      replace HI := Lib.hid (HI.out.below hbx)
      replace HX := Lib.hid (HX.out.below hbx)
      replace HP := Lib.hid (HP.out.below hbx)
      replace HG := Lib.hid (HG.out.below hbx)
      replace HVm := Lib.hid (HVm.out.below hbx)
      replace HVn := Lib.hid (HVn.out.below hbx)
      have cM0 : wa2.cell? ⟨wa.heap.size, 0, none⟩ = some (.bool dm) := by subst hWW; go_simp
      have cM1 : wa2.cell? ⟨wa.heap.size, 1, none⟩ = some (.slice pm' mm' qm') := by subst hWW; go_simp
      have cM2 : wa2.cell? ⟨wa.heap.size, 2, none⟩ = some (.slice pm mm qm) := by subst hWW; go_simp
      have ltM : wa.heap.size < wa2.heap.size := by subst hWW; simp <;> omega
      have cN0 : wa2.cell? ⟨wa.heap.size + 1, 0, none⟩ = some (.bool dn) := by subst hWW; go_simp
      have cN1 : wa2.cell? ⟨wa.heap.size + 1, 1, none⟩ = some (.slice pn' mn' qn') := by subst hWW; go_simp
      have cN2 : wa2.cell? ⟨wa.heap.size + 1, 2, none⟩ = some (.slice pn mn qn) := by subst hWW; go_simp
      have ltN : wa.heap.size + 1 < wa2.heap.size := by subst hWW; simp
      replace hB := hB.trans (hbx.mono hB.size)
      clear hbx hWW
      refine (emom_any (mulF ((by_ : Int) + 1) f) _ _ _ _ HG.out HFg.out).mono ?_
      rintro e wb ⟨vm2, vv2, rfl, hv, hu, hsz, hsu, hb⟩
      replace cA0 := bc hb ltA cA0
      replace cA1 := bc hb ltA cA1
      replace cA2 := bc hb ltA cA2
      replace ltA := bl hb ltA
      replace cB0 := bc hb ltB cB0
      replace cB1 := bc hb ltB cB1
      replace cB2 := bc hb ltB cB2
      replace ltB := bl hb ltB
      replace cM0 := bc hb ltM cM0
      replace cM1 := bc hb ltM cM1
      replace cM2 := bc hb ltM cM2
      replace ltM := bl hb ltM
      replace cN0 := bc hb ltN cN0
      replace cN1 := bc hb ltN cN1
      replace cN2 := bc hb ltN cN2
      replace ltN := bl hb ltN
      replace HI := Lib.hid (HI.out.below hb)
      replace HX := Lib.hid (HX.out.below hb)
      replace HP := Lib.hid (HP.out.below hb)
      replace HG := Lib.hid (HG.out.below hb)
      replace HVm := Lib.hid (HVm.out.below hb)
      replace HVn := Lib.hid (HVn.out.below hb)
      replace hB := hB.trans (hb.mono hB.size)
      rw [HMo.out.1] at hv hsz
      rw [HMo.out.2] at hu hsu
      have HVo1 := Lib.hid (hv.mono (Nat.zero_le _))
      have HVq1 := Lib.hid (hu.mono (Nat.zero_le _))
      obtain ⟨po1', mo1', qo1', po1, mo1, qo1, rfl, -, -, -, -⟩ := hv
      obtain ⟨pq1', mq1', qq1', pq1, mq1, qq1, rfl, -, -, -, -⟩ := hu
      generalize decide ((meanR f).num < 0) = do1 at *
      generalize decide ((varR f).num < 0) = dq1 at *
      clear hsz hsu
      clear hb
      go_wp2_with fail
      have hbx : Below wb.heap.size wb ((wb.alloc (.cells #[.bool do1, .slice po1' mo1' qo1', .slice po1 mo1 qo1] 33)).alloc (.cells #[.bool dq1, .slice pq1' mq1' qq1', .slice pq1 mq1 qq1] 33)) := (((Below.refl _ _).alloc (Nat.le_refl _) _).alloc (by simp) _)
      generalize hWW : ((wb.alloc (.cells #[.bool do1, .slice po1' mo1' qo1', .slice po1 mo1 qo1] 33)).alloc (.cells #[.bool dq1, .slice pq1' mq1' qq1', .slice pq1 mq1 qq1] 33)) = wb2 at *
      replace cA0 := bc hbx ltA cA0
      replace cA1 := bc hbx ltA cA1
      replace cA2 := bc hbx ltA cA2
      replace ltA := bl hbx ltA
      replace cB0 := bc hbx ltB cB0
      replace cB1 := bc hbx ltB cB1
      replace cB2 := bc hbx ltB cB2
      replace ltB := bl hbx ltB
      replace cM0 := bc hbx ltM cM0
      replace cM1 := bc hbx ltM cM1
      replace cM2 := bc hbx ltM cM2
      replace ltM := bl hbx ltM
      replace cN0 := bc hbx ltN cN0
      replace cN1 := bc hbx ltN cN1
      replace cN2 := bc hbx ltN cN2
      replace ltN := bl hbx ltN
      replace HI := Lib.hid (HI.out.below hbx)
      replace HX := Lib.hid (HX.out.below hbx)
      replace HP := Lib.hid (HP.out.below hbx)
      replace HG := Lib.hid (HG.out.below hbx)
      replace HVm := Lib.hid (HVm.out.below hbx)
      replace HVn := Lib.hid (HVn.out.below hbx)
      replace HVo1 := Lib.hid (HVo1.out.below hbx)
      replace HVq1 := Lib.hid (HVq1.out.below hbx)
      have cO0 : wb2.cell? ⟨wb.heap.size, 0, none⟩ = some (.bool do1) := by subst hWW; go_simp
      have cO1 : wb2.cell? ⟨wb.heap.size, 1, none⟩ = some (.slice po1' mo1' qo1') := by subst hWW; go_simp
      have cO2 : wb2.cell? ⟨wb.heap.size, 2, none⟩ = some (.slice po1 mo1 qo1) := by subst hWW; go_simp
      have ltO : wb.heap.size < wb2.heap.size := by subst hWW; simp <;> omega
      have cQ0 : wb2.cell? ⟨wb.heap.size + 1, 0, none⟩ = some (.bool dq1) := by subst hWW; go_simp
      have cQ1 : wb2.cell? ⟨wb.heap.size + 1, 1, none⟩ = some (.slice pq1' mq1' qq1') := by subst hWW; go_simp
      have cQ2 : wb2.cell? ⟨wb.heap.size + 1, 2, none⟩ = some (.slice pq1 mq1 qq1) := by subst hWW; go_simp
      have ltQ : wb.heap.size + 1 < wb2.heap.size := by subst hWW; simp
      replace hB := hB.trans (hbx.mono hB.size)
      clear hbx hWW
      refine (equal_any _ _ _ _ _ _ HVm.out HVo1.out).mono ?_
      rintro e wc ⟨rfl, hb⟩
      replace cA0 := bc hb ltA cA0
      replace cA1 := bc hb ltA cA1
      replace cA2 := bc hb ltA cA2
      replace ltA := bl hb ltA
      replace cB0 := bc hb ltB cB0
      replace cB1 := bc hb ltB cB1
      replace cB2 := bc hb ltB cB2
      replace ltB := bl hb ltB
      replace cM0 := bc hb ltM cM0
      replace cM1 := bc hb ltM cM1
      replace cM2 := bc hb ltM cM2
      replace ltM := bl hb ltM
      replace cN0 := bc hb ltN cN0
      replace cN1 := bc hb ltN cN1
      replace cN2 := bc hb ltN cN2
      replace ltN := bl hb ltN
      replace cO0 := bc hb ltO cO0
      replace cO1 := bc hb ltO cO1
      replace cO2 := bc hb ltO cO2
      replace ltO := bl hb ltO
      replace cQ0 := bc hb ltQ cQ0
      replace cQ1 := bc hb ltQ cQ1
      replace cQ2 := bc hb ltQ cQ2
      replace ltQ := bl hb ltQ
      replace HI := Lib.hid (HI.out.below hb)
      replace HX := Lib.hid (HX.out.below hb)
      replace HP := Lib.hid (HP.out.below hb)
      replace HG := Lib.hid (HG.out.below hb)
      replace HVm := Lib.hid (HVm.out.below hb)
      replace HVn := Lib.hid (HVn.out.below hb)
      replace HVo1 := Lib.hid (HVo1.out.below hb)
      replace HVq1 := Lib.hid (HVq1.out.below hb)
      replace hB := hB.trans (hb.mono hB.size)
      clear hb
      go_wp2_with fail
      refine (equal_any _ _ _ _ _ _ HVn.out HVq1.out).mono ?_
      rintro e wd ⟨rfl, hb⟩
      replace cA0 := bc hb ltA cA0
      replace cA1 := bc hb ltA cA1
      replace cA2 := bc hb ltA cA2
      replace ltA := bl hb ltA
      replace cB0 := bc hb ltB cB0
      replace cB1 := bc hb ltB cB1
      replace cB2 := bc hb ltB cB2
      replace ltB := bl hb ltB
      replace cM0 := bc hb ltM cM0
      replace cM1 := bc hb ltM cM1
      replace cM2 := bc hb ltM cM2
      replace ltM := bl hb ltM
      replace cN0 := bc hb ltN cN0
      replace cN1 := bc hb ltN cN1
      replace cN2 := bc hb ltN cN2
      replace ltN := bl hb ltN
      replace cO0 := bc hb ltO cO0
      replace cO1 := bc hb ltO cO1
      replace cO2 := bc hb ltO cO2
      replace ltO := bl hb ltO
      replace cQ0 := bc hb ltQ cQ0
      replace cQ1 := bc hb ltQ cQ1
      replace cQ2 := bc hb ltQ cQ2
      replace ltQ := bl hb ltQ
      replace HI := Lib.hid (HI.out.below hb)
      replace HX := Lib.hid (HX.out.below hb)
      replace HP := Lib.hid (HP.out.below hb)
      replace HG := Lib.hid (HG.out.below hb)
      replace HVm := Lib.hid (HVm.out.below hb)
      replace HVn := Lib.hid (HVn.out.below hb)
      replace HVo1 := Lib.hid (HVo1.out.below hb)
      replace HVq1 := Lib.hid (HVq1.out.below hb)
      replace hB := hB.trans (hb.mono hB.size)
      clear hb
      clear HVm HVn HVo1 HVq1
      have hba : Below wd.heap.size wd (wd.alloc (.cells #[.int .i64 0] 3)) := (Below.refl _ _).alloc (Nat.le_refl _) _
      have HOw := Lib.hid (owns_lit wd wd.heap.size 3 [.int .i64 0] (by simp [maxLen]) (Nat.le_refl _))
      have HNl := Lib.hid (show (([.int .i64 0] : List Value).length + len) * 8 ≤ 140737488355328 ∧ ([.int .i64 0] : List Value).length + len ≤ maxLen by simp only [List.length_singleton, maxLen]; omega)
      have HIa := Lib.hid (HI.out.below hba)
      have HLv := Lib.hid (show (ivs f).length = len by rw [ivs_length, HN.out])
      go_wp2_with (at_builtin; go_must (refine wpList_app rfl _ _ 22 rfl wd.heap.size 3 (.int .i64 0) 8 Try.underlying22 infoInt rfl (.slice (some ⟨wd.heap.size, 0, none⟩) 1 1) [.int .i64 0] rfl HOw.out _ len cap (ivs f) rfl HLv.out HIa.out.vals (ivs_one _) HNl.out.1 HNl.out.2 (by simp) fun v' wz h1 h2 => ?_))
      have hb := (h2.below (by simp) HOw.out.lt : Below wd.heap.size _ wz)
      replace hb : Below wd.heap.size wd wz := hba.trans hb
      obtain ⟨a3, n3, c3, rfl, hI⟩ := Owns.ints (xs := 0 :: f) (by simpa [ivs, iv] using h1)
      have hn3 : len + 1 = n3 := by have := hI.1; rw [List.length_cons, HN.out] at this; exact this
      have hna : n3 ≤ len + 1 := by omega
      have hnb : len + 1 ≤ n3 := by omega
      have HRd := Lib.hid hI
      clear h1 h2 hI hba HOw HIa hn3
      replace cA0 := bc hb ltA cA0
      replace cA1 := bc hb ltA cA1
      replace cA2 := bc hb ltA cA2
      replace ltA := bl hb ltA
      replace cB0 := bc hb ltB cB0
      replace cB1 := bc hb ltB cB1
      replace cB2 := bc hb ltB cB2
      replace ltB := bl hb ltB
      replace cM0 := bc hb ltM cM0
      replace cM1 := bc hb ltM cM1
      replace cM2 := bc hb ltM cM2
      replace ltM := bl hb ltM
      replace cN0 := bc hb ltN cN0
      replace cN1 := bc hb ltN cN1
      replace cN2 := bc hb ltN cN2
      replace ltN := bl hb ltN
      replace cO0 := bc hb ltO cO0
      replace cO1 := bc hb ltO cO1
      replace cO2 := bc hb ltO cO2
      replace ltO := bl hb ltO
      replace cQ0 := bc hb ltQ cQ0
      replace cQ1 := bc hb ltQ cQ1
      replace cQ2 := bc hb ltQ cQ2
      replace ltQ := bl hb ltQ
      replace HI := Lib.hid (HI.out.below hb)
      replace HX := Lib.hid (HX.out.below hb)
      replace HP := Lib.hid (HP.out.below hb)
      replace HG := Lib.hid (HG.out.below hb)
      replace hB := hB.trans (hb.mono hB.size)
      clear hb
      go_wp2_with fail
      refine (evalid_b (0 :: f) a3 n3 c3 _ HRd.out).mono ?_
      rintro e wv ⟨rfl, hb⟩
      replace cA0 := bc hb ltA cA0
      replace cA1 := bc hb ltA cA1
      replace cA2 := bc hb ltA cA2
      replace ltA := bl hb ltA
      replace cB0 := bc hb ltB cB0
      replace cB1 := bc hb ltB cB1
      replace cB2 := bc hb ltB cB2
      replace ltB := bl hb ltB
      replace cM0 := bc hb ltM cM0
      replace cM1 := bc hb ltM cM1
      replace cM2 := bc hb ltM cM2
      replace ltM := bl hb ltM
      replace cN0 := bc hb ltN cN0
      replace cN1 := bc hb ltN cN1
      replace cN2 := bc hb ltN cN2
      replace ltN := bl hb ltN
      replace cO0 := bc hb ltO cO0
      replace cO1 := bc hb ltO cO1
      replace cO2 := bc hb ltO cO2
      replace ltO := bl hb ltO
      replace cQ0 := bc hb ltQ cQ0
      replace cQ1 := bc hb ltQ cQ1
      replace cQ2 := bc hb ltQ cQ2
      replace ltQ := bl hb ltQ
      replace HI := Lib.hid (HI.out.below hb)
      replace HX := Lib.hid (HX.out.below hb)
      replace HP := Lib.hid (HP.out.below hb)
      replace HG := Lib.hid (HG.out.below hb)
      replace HRd := Lib.hid (HRd.out.below hb)
      replace hB := hB.trans (hb.mono hB.size)
      rw [HRv.out]
      clear hb
      go_wp2_with fail
      refine (etable_v (0 :: f) f a3 n3 c3 a len cap _ HRd.out HI.out HFr.out HF.out).mono ?_
      rintro e wt ⟨at', ct', rfl, ht, hb⟩
      replace cA0 := bc hb ltA cA0
      replace cA1 := bc hb ltA cA1
      replace cA2 := bc hb ltA cA2
      replace ltA := bl hb ltA
      replace cB0 := bc hb ltB cB0
      replace cB1 := bc hb ltB cB1
      replace cB2 := bc hb ltB cB2
      replace ltB := bl hb ltB
      replace cM0 := bc hb ltM cM0
      replace cM1 := bc hb ltM cM1
      replace cM2 := bc hb ltM cM2
      replace ltM := bl hb ltM
      replace cN0 := bc hb ltN cN0
      replace cN1 := bc hb ltN cN1
      replace cN2 := bc hb ltN cN2
      replace ltN := bl hb ltN
      replace cO0 := bc hb ltO cO0
      replace cO1 := bc hb ltO cO1
      replace cO2 := bc hb ltO cO2
      replace ltO := bl hb ltO
      replace cQ0 := bc hb ltQ cQ0
      replace cQ1 := bc hb ltQ cQ1
      replace cQ2 := bc hb ltQ cQ2
      replace ltQ := bl hb ltQ
      replace HI := Lib.hid (HI.out.below hb)
      replace HX := Lib.hid (HX.out.below hb)
      replace HP := Lib.hid (HP.out.below hb)
      replace HG := Lib.hid (HG.out.below hb)
      replace HRd := Lib.hid (HRd.out.below hb)
      replace hB := hB.trans (hb.mono hB.size)
      have HT := Lib.hid ht
      clear ht
      clear hb
      go_wp2_with fail
      have HBt := Lib.hid hB
      go_loopw [153] (fun i wr => ∃ k : Nat, k ≤ len ∧ i = .int .i64 k ∧ Hid (Below wt.heap.size wt wr)) (fun i _ => len - (intOf i).toNat)
      case atStart => exact ⟨0, by omega, rfl, Lib.hid (Below.refl _ _)⟩
      case round =>
        generalize wr = wq at *
        obtain ⟨k, hk, rfl, HBq⟩ := hrel
        by_cases hlt : k < len
        · obtain ⟨j, hj⟩ : ∃ j, k + 1 = j := ⟨_, rfl⟩
          have hjn : j < n3 := by omega
          obtain ⟨b1, o1, rfl, hb1, hc1⟩ := HT.out.at hjn
          obtain ⟨d, x', l', p', xx, l, pp, e0, e1, e2, hX, -⟩ := (hc1 j hjn).below hb1 HBq.out
          obtain ⟨bf, of, rfl, hbf, hcf⟩ := HI.out.2.at hlt
          have ec := hcf k hlt _ HBq.out
          have HX1 := Lib.hid hX
          have HK2 := Lib.hid (HSc.out k (by rw [HN.out]; exact hlt))
          have HTl : Hid ((tableL (0 :: f) f).getD j 0 = scoreR (0 :: f) f (k + 1)) := Lib.hid (by rw [← hj]; exact tableL_at (0 :: f) f (k := k + 1) (by rw [List.length_cons, HN.out]; omega))
          rw [HTl.out] at HX1
          have hfl : bf < wq.heap.size := Nat.lt_of_lt_of_le hbf HBq.out.size
          have hbl : b1 < wq.heap.size := Nat.lt_of_lt_of_le hb1 HBq.out.size
          generalize f.getD k 0 = fk at *
          generalize scoreR (0 :: f) f (k + 1) = tk at *
          have X0 := box_ext (B := wq.heap.size) e0 hbl
          have X1 := box_ext (B := wq.heap.size) e1 hbl
          have X2 := box_ext (B := wq.heap.size) e2 hbl
          have hw : IntKind.i64.wrap ((k : Int) + 1) = (j : Int) := by rw [IntWalk.i64_in _ (by omega)]; omega
          clear hj
          clear hc1 hcf hX e0 e1 e2 HTl
          have hbd : Below wq.heap.size wq wq.drew := (Below.refl _ _).drew
          by_cases hf0 : 0 < fk
          · have d0 : decide (0 < fk) = true := by simpa using hf0
            have HTk := Lib.hid (HK2.out hf0)
            have HDv := Lib.hid (show Rat.divInt (k : Int) 1 = (k : Rat) by rw [rat_whole, Rat.intCast_natCast])
            go_wp2_with fail
            refine wp_region_sched [(0, false), (1, false), (2, false), (3, false), (4, false), (5, false), (6, false), (7, false), (8, false), (9, true), (10, true), (11, false), (12, false)] (fun w' => ∃ W : Ext wq.heap.size wq, w' = W.1) (by kernel_rfl) (by kernel_rfl) ⟨⟨wq.drew, (Below.refl _ _).drew⟩, rfl⟩ ?_
            repeat (refine wpSched_calm rfl (fun K hK => ?_); go_simp; refine hK _ ?_; clear hK K)
            clear ec X0 X1 X2 hw
            refine wpSched_geff rfl ?_ (fun K hK => ?_)
            · go_simp
            go_simp
            refine (part_any (k : Int) 1 _ (by omega) (by omega) (by omega) (by omega) (by omega)).mono ?_
            rintro e w5 ⟨v5, rfl, hv, hsz, hb⟩
            rw [HDv.out] at hv
            have hM := hbd.trans (hb.mono hbd.size)
            have HV := Lib.hid hv
            refine hK _ _ ⟨⟨w5, hM⟩, rfl⟩ ?_
            clear hK K hb hv hsz
            refine wpSched_geff rfl ?_ (fun K hK => ?_)
            · go_simp
            go_simp
            refine (equal_any _ _ tk _ _ _ (HX1.out.below hM) (by rw [HTk.out]; exact HV.out)).mono ?_
            rintro e w6 ⟨rfl, hb⟩
            have hM6 := hM.trans (hb.mono hM.size)
            have HBq6 := Lib.hid (HBq.out.trans (hM6.mono HBq.out.size))
            refine hK _ _ ⟨⟨w6, hM6⟩, rfl⟩ ?_
            clear hK K hb hM hbd
            repeat (refine wpSched_calm rfl (fun K hK => ?_); go_simp; refine hK _ ?_; clear hK K)
            refine wpSched_nil ?_
            go_wp2_with fail
            go_roundw
            case rel => exact ⟨k + 1, by omega, by go_num, HBq6⟩
            case measure => simp [intOf]; omega
          · have d0 : decide (0 < fk) = false := by simpa using hf0
            go_wp2_with fail
            refine wp_region_sched [(0, false), (1, false), (2, false), (3, false), (4, false), (5, false), (6, false), (7, false), (8, false), (9, true), (10, true), (11, false), (12, false)] (fun w' => ∃ W : Ext wq.heap.size wq, w' = W.1) (by kernel_rfl) (by kernel_rfl) ⟨⟨wq.drew, (Below.refl _ _).drew⟩, rfl⟩ ?_
            repeat (refine wpSched_calm rfl (fun K hK => ?_); go_simp; refine hK _ ?_; clear hK K)
            clear ec X0 X1 X2 hw
            have HBq6 := Lib.hid (HBq.out.trans (hbd.mono HBq.out.size))
            refine wpSched_skip rfl ?_ ⟨⟨_, hbd⟩, rfl⟩ ?_
            · go_simp
            go_simp
            refine wpSched_skip rfl ?_ ⟨⟨_, hbd⟩, rfl⟩ ?_
            · go_simp
            go_simp
            repeat (refine wpSched_calm rfl (fun K hK => ?_); go_simp; refine hK _ ?_; clear hK K)
            refine wpSched_nil ?_
            clear hbd
            go_wp2_with fail
            go_roundw
            case rel => exact ⟨k + 1, by omega, by go_num, HBq6⟩
            case measure => simp [intOf]; omega
        · go_wp2_with fail
          refine (awake_any wq).mono ?_
          rintro e w9 ⟨rfl, hb⟩
          have HB9 := Lib.hid (HBt.out.trans ((HBq.out.trans (hb.mono HBq.out.size)).mono HBt.out.size))
          clear hb
          go_wp2_with fail
          go_ret
          exact ⟨rfl, HB9.out⟩
set_option maxHeartbeats 8000000 in
theorem props_in (f : List Int) (a : Option Addr) (len cap : Nat) (vx vp : Value) (x p : Rat) (by_ : Nat) (L : Nat) (w : World) (hI : Ints w a len cap f) (hx : RatV w vx x L) (hp : RatV w vp p L) (hb255 : by_ < 256) (hL : 1 ≤ L) (hm : (2 * L + 200) * 4 ≤ 140737488355328) (hO : OkF f) (hG : eqE (mulF ((by_ : Int) + 1) f) = 0) (hp0 : 0 ≤ p) (hp1 : p ≤ 1) (hR : eqE (0 :: f) ≠ 0) :
    Calls Try.prog 5 #[.slice a len cap, vx, vp, .int .u8 (by_ : Int)] w fun e w' => e = .returned (.bool true) ∧ Below w.heap.size w w' := by
  have HI := Lib.hid hI
  have HX := Lib.hid hx
  have HP := Lib.hid hp
  have HN := Lib.hid hI.1
  obtain ⟨negx, ax', lenx', capx', ax, lenx, capx, rfl, -, -⟩ := hx.form
  obtain ⟨negp, ap', lenp', capp', ap, lenp, capp, rfl, -, -⟩ := hp.form
  clear hI hx hp
  have HO := Lib.hid (eqE_OkF.2 hO)
  have HF := Lib.hid hO
  have h61 : len ≤ 61 := by rw [← HN.out]; exact hO.1
  have HAt := Lib.hid (preS_at hO.2.1 hO.1)
  have HGv := Lib.hid hG
  have HFg := Lib.hid (eqE_OkF.1 hG)
  have HRk := Lib.hid (mul_rank (f := f) (c := (by_ : Int) + 1) (by omega) x)
  have HMo := Lib.hid (mulF_mom (c := (by_ : Int) + 1) (by omega) hO.pos)
  have HIv := Lib.hid (mul_inv (c := (by_ : Int) + 1) hO (by omega) hp1)
  have HIn := Lib.hid (And.intro hp0 hp1)
  clear hp0 hp1
  have HL61 := Lib.hid (rise_long hO hR)
  have hzr : (eqE (0 :: f) != 0) = true := by simpa using hR
  generalize her : eqE (0 :: f) = er at hzr
  have HRv := Lib.hid her
  clear her
  clear hO hG hR
  go_enter Try.func5, Try.ntmps5
  go_wp2_with fail
  have hbx : Below w.heap.size w ((w.alloc (.cells #[.bool negx, .slice ax' lenx' capx', .slice ax lenx capx] 33)).alloc (.cells #[.bool negp, .slice ap' lenp' capp', .slice ap lenp capp] 33)) := (((Below.refl _ _).alloc (Nat.le_refl _) _).alloc (by simp) _)
  generalize hWW : ((w.alloc (.cells #[.bool negx, .slice ax' lenx' capx', .slice ax lenx capx] 33)).alloc (.cells #[.bool negp, .slice ap' lenp' capp', .slice ap lenp capp] 33)) = w0 at *
  replace HI := Lib.hid (HI.out.below hbx)
  replace HX := Lib.hid (HX.out.below hbx)
  replace HP := Lib.hid (HP.out.below hbx)
  have cA0 : w0.cell? ⟨w.heap.size, 0, none⟩ = some (.bool negx) := by subst hWW; go_simp
  have cA1 : w0.cell? ⟨w.heap.size, 1, none⟩ = some (.slice ax' lenx' capx') := by subst hWW; go_simp
  have cA2 : w0.cell? ⟨w.heap.size, 2, none⟩ = some (.slice ax lenx capx) := by subst hWW; go_simp
  have ltA : w.heap.size < w0.heap.size := by subst hWW; simp <;> omega
  have cB0 : w0.cell? ⟨w.heap.size + 1, 0, none⟩ = some (.bool negp) := by subst hWW; go_simp
  have cB1 : w0.cell? ⟨w.heap.size + 1, 1, none⟩ = some (.slice ap' lenp' capp') := by subst hWW; go_simp
  have cB2 : w0.cell? ⟨w.heap.size + 1, 2, none⟩ = some (.slice ap lenp capp) := by subst hWW; go_simp
  have ltB : w.heap.size + 1 < w0.heap.size := by subst hWW; simp
  have hB := hbx
  clear hbx hWW
  refine (evalid_b f a len cap _ HI.out).mono ?_
  rintro e w1 ⟨rfl, hb⟩
  replace cA0 := bc hb ltA cA0
  replace cA1 := bc hb ltA cA1
  replace cA2 := bc hb ltA cA2
  replace ltA := bl hb ltA
  replace cB0 := bc hb ltB cB0
  replace cB1 := bc hb ltB cB1
  replace cB2 := bc hb ltB cB2
  replace ltB := bl hb ltB
  replace HI := Lib.hid (HI.out.below hb)
  replace HX := Lib.hid (HX.out.below hb)
  replace HP := Lib.hid (HP.out.below hb)
  replace hB := hB.trans (hb.mono hB.size)
  rw [HO.out]
  clear hb
  go_wp2_with fail
  go_loopw [9, 37] (fun u i wr => ∃ k : Nat, k ≤ len ∧ i = .int .i64 k ∧ Hid (Owns wr w1.heap.size 3 u (ivs (mulF ((by_ : Int) + 1) (f.take k)))) ∧ Hid (Below w1.heap.size w1 wr)) (fun _ i _ => len - (intOf i).toNat)
  case atStart => exact ⟨0, by omega, rfl, Lib.hid (by simpa [mulF, ivs] using Owns.nil _ _ _), Lib.hid (Below.refl _ _)⟩
  case round =>
    obtain ⟨k, hk, rfl, HOk, HBk⟩ := hrel
    by_cases hlt : k < len
    · obtain ⟨bb, off, rfl, hbs, hcc⟩ := HI.out.2.at hlt
      have ec := hcc k hlt _ HBk.out
      obtain ⟨-, -, p1, p2⟩ := HAt.out k
      have HSn := Lib.hid (mulF_snoc ((by_ : Int) + 1) f k (by rw [HN.out]; exact hlt))
      have HNl := Lib.hid (show ((ivs (mulF ((by_ : Int) + 1) (f.take k))).length + 1) * 8 ≤ 140737488355328 ∧ (ivs (mulF ((by_ : Int) + 1) (f.take k))).length + 1 ≤ maxLen by
        rw [ivs_length, mulF_len, List.length_take]; simp only [maxLen]; omega)
      generalize f.getD k 0 = fk at *
      have hm1 : 0 ≤ fk * ((by_ : Int) + 1) := Int.mul_nonneg p1 (by omega)
      have hm2 : fk * ((by_ : Int) + 1) ≤ 1000000 * 256 := Int.mul_le_mul p2 (by omega) (by omega) (by omega)
      have hsz2 := HBk.out.size
      have hba : Below wr.heap.size wr (wr.alloc (.cells #[.int .i64 (fk * ((by_ : Int) + 1))] 3)) := (Below.refl _ _).alloc (Nat.le_refl _) _
      have HBa := Lib.hid (HBk.out.trans (hba.mono HBk.out.size))
      have HLt := Lib.hid HOk.out.lt
      clear hcc hba HAt
      generalize mulF ((by_ : Int) + 1) (f.take k) = cur at *
      go_wp2_with (at_builtin; go_must (refine wpList_app1 rfl _ _ 22 rfl w1.heap.size 3 (.int .i64 0) 8 Try.underlying22 infoInt rfl u9 (ivs cur) rfl (.int .i64 (fk * ((by_ : Int) + 1))) rfl HOk.out rfl HNl.out.1 HNl.out.2 hsz2 fun v' w' h1 h2 => ?_))
      have hbm := HBk.out.trans (h2.below hsz2 HLt.out)
      have HBm := Lib.hid hbm
      have HO3 := Lib.hid (show Owns w' w1.heap.size 3 v' (ivs (mulF ((by_ : Int) + 1) (f.take (k + 1)))) by rw [HSn.out, ivs_append]; exact h1)
      clear h1 h2 hbm
      go_wp2_with fail
      go_roundw
      case rel => exact ⟨k + 1, by omega, by go_num, HO3, HBm⟩
      case measure => simp [intOf]; omega
    · obtain ⟨a2, n2, c2, rfl, hI⟩ := HOk.out.ints
      rw [List.take_of_length_le (by rw [HN.out]; omega)] at hI
      obtain rfl : len = n2 := by have := hI.1; rw [mulF_len, HN.out] at this; exact this
      have HG := Lib.hid hI
      have hb := HBk.out
      clear HOk hI HBk
      replace cA0 := bc hb ltA cA0
      replace cA1 := bc hb ltA cA1
      replace cA2 := bc hb ltA cA2
      replace ltA := bl hb ltA
      replace cB0 := bc hb ltB cB0
      replace cB1 := bc hb ltB cB1
      replace cB2 := bc hb ltB cB2
      replace ltB := bl hb ltB
      replace HI := Lib.hid (HI.out.below hb)
      replace HX := Lib.hid (HX.out.below hb)
      replace HP := Lib.hid (HP.out.below hb)
      replace hB := hB.trans (hb.mono hB.size)
      clear hb
      go_wp2_with fail
      refine (evalid_b _ _ _ _ _ HG.out).mono ?_
      rintro e w3 ⟨rfl, hb⟩
      replace cA0 := bc hb ltA cA0
      replace cA1 := bc hb ltA cA1
      replace cA2 := bc hb ltA cA2
      replace ltA := bl hb ltA
      replace cB0 := bc hb ltB cB0
      replace cB1 := bc hb ltB cB1
      replace cB2 := bc hb ltB cB2
      replace ltB := bl hb ltB
      replace HI := Lib.hid (HI.out.below hb)
      replace HX := Lib.hid (HX.out.below hb)
      replace HP := Lib.hid (HP.out.below hb)
      replace HG := Lib.hid (HG.out.below hb)
      replace hB := hB.trans (hb.mono hB.size)
      rw [HGv.out]
      clear hb
      go_wp2_with fail
      refine (erank_any f _ _ _ _ x L _ HI.out HX.out hL (by omega) HF.out).mono ?_
      rintro e w4 ⟨v4, rfl, hv, hsz, hb⟩
      replace cA0 := bc hb ltA cA0
      replace cA1 := bc hb ltA cA1
      replace cA2 := bc hb ltA cA2
      replace ltA := bl hb ltA
      replace cB0 := bc hb ltB cB0
      replace cB1 := bc hb ltB cB1
      replace cB2 := bc hb ltB cB2
      replace ltB := bl hb ltB
      replace HI := Lib.hid (HI.out.below hb)
      replace HX := Lib.hid (HX.out.below hb)
      replace HP := Lib.hid (HP.out.below hb)
      replace HG := Lib.hid (HG.out.below hb)
      replace hB := hB.trans (hb.mono hB.size)
      have HZ4 := Lib.hid hsz
      have HV4 := Lib.hid (hv.mono (Nat.zero_le _))
      obtain ⟨p4', m4', q4', p4, m4, q4, rfl, -, -, -, -⟩ := hv
      generalize decide ((rankR f x : Rat).num < 0) = d4 at *
      clear hsz
      clear hb
      go_wp2_with fail
      have hbx : Below w4.heap.size w4 (w4.alloc (.cells #[.bool d4, .slice p4' m4' q4', .slice p4 m4 q4] 33)) := ((Below.refl _ _).alloc (Nat.le_refl _) _)
      generalize hWW : (w4.alloc (.cells #[.bool d4, .slice p4' m4' q4', .slice p4 m4 q4] 33)) = w4a at *
      replace cA0 := bc hbx ltA cA0
      replace cA1 := bc hbx ltA cA1
      replace cA2 := bc hbx ltA cA2
      replace ltA := bl hbx ltA
      replace cB0 := bc hbx ltB cB0
      replace cB1 := bc hbx ltB cB1
      replace cB2 := bc hbx ltB cB2
      replace ltB := bl hbx ltB
      replace HI := Lib.hid (HI.out.below hbx)
      replace HX := Lib.hid (HX.out.below hbx)
      replace HP := Lib.hid (HP.out.below hbx)
      replace HG := Lib.hid (HG.out.below hbx)
      replace HV4 := Lib.hid (HV4.out.below hbx)
      have cr0 : w4a.cell? ⟨w4.heap.size, 0, none⟩ = some (.bool d4) := by subst hWW; go_simp
      have cr1 : w4a.cell? ⟨w4.heap.size, 1, none⟩ = some (.slice p4' m4' q4') := by subst hWW; go_simp
      have cr2 : w4a.cell? ⟨w4.heap.size, 2, none⟩ = some (.slice p4 m4 q4) := by subst hWW; go_simp
      have ltr : w4.heap.size < w4a.heap.size := by subst hWW; simp
      replace hB := hB.trans (hbx.mono hB.size)
      clear hbx hWW
      refine (erank_any (mulF ((by_ : Int) + 1) f) _ _ _ _ x L _ HG.out HX.out hL (by omega) HFg.out).mono ?_
      rintro e w5 ⟨v5, rfl, hv, hsz, hb⟩
      replace cA0 := bc hb ltA cA0
      replace cA1 := bc hb ltA cA1
      replace cA2 := bc hb ltA cA2
      replace ltA := bl hb ltA
      replace cB0 := bc hb ltB cB0
      replace cB1 := bc hb ltB cB1
      replace cB2 := bc hb ltB cB2
      replace ltB := bl hb ltB
      replace cr0 := bc hb ltr cr0
      replace cr1 := bc hb ltr cr1
      replace cr2 := bc hb ltr cr2
      replace ltr := bl hb ltr
      replace HI := Lib.hid (HI.out.below hb)
      replace HX := Lib.hid (HX.out.below hb)
      replace HP := Lib.hid (HP.out.below hb)
      replace HG := Lib.hid (HG.out.below hb)
      replace HV4 := Lib.hid (HV4.out.below hb)
      replace hB := hB.trans (hb.mono hB.size)
      rw [HRk.out] at hv hsz
      have HZ5 := Lib.hid hsz
      have HV5 := Lib.hid (hv.mono (Nat.zero_le _))
      obtain ⟨p5', m5', q5', p5, m5, q5, rfl, -, -, -, -⟩ := hv
      generalize decide ((rankR f x : Rat).num < 0) = d5 at *
      clear hsz
      clear hb
      go_wp2_with fail
      have hbx : Below w5.heap.size w5 (w5.alloc (.cells #[.bool d5, .slice p5' m5' q5', .slice p5 m5 q5] 33)) := ((Below.refl _ _).alloc (Nat.le_refl _) _)
      generalize hWW : (w5.alloc (.cells #[.bool d5, .slice p5' m5' q5', .slice p5 m5 q5] 33)) = w5a at *
      replace cA0 := bc hbx ltA cA0
      replace cA1 := bc hbx ltA cA1
      replace cA2 := bc hbx ltA cA2
      replace ltA := bl hbx ltA
      replace cB0 := bc hbx ltB cB0
      replace cB1 := bc hbx ltB cB1
      replace cB2 := bc hbx ltB cB2
      replace ltB := bl hbx ltB
      replace cr0 := bc hbx ltr cr0
      replace cr1 := bc hbx ltr cr1
      replace cr2 := bc hbx ltr cr2
      replace ltr := bl hbx ltr
      replace HI := Lib.hid (HI.out.below hbx)
      replace HX := Lib.hid (HX.out.below hbx)
      replace HP := Lib.hid (HP.out.below hbx)
      replace HG := Lib.hid (HG.out.below hbx)
      replace HV4 := Lib.hid (HV4.out.below hbx)
      replace HV5 := Lib.hid (HV5.out.below hbx)
      have cs0 : w5a.cell? ⟨w5.heap.size, 0, none⟩ = some (.bool d5) := by subst hWW; go_simp
      have cs1 : w5a.cell? ⟨w5.heap.size, 1, none⟩ = some (.slice p5' m5' q5') := by subst hWW; go_simp
      have cs2 : w5a.cell? ⟨w5.heap.size, 2, none⟩ = some (.slice p5 m5 q5) := by subst hWW; go_simp
      have lts : w5.heap.size < w5a.heap.size := by subst hWW; simp
      replace hB := hB.trans (hbx.mono hB.size)
      clear hbx hWW
      refine (einv_any f _ _ _ _ p L _ HI.out HP.out hL (by omega) HF.out HIn.out.1 HIn.out.2).mono ?_
      rintro e w6 ⟨v6, rfl, hv, hsz, hb⟩
      replace cA0 := bc hb ltA cA0
      replace cA1 := bc hb ltA cA1
      replace cA2 := bc hb ltA cA2
      replace ltA := bl hb ltA
      replace cB0 := bc hb ltB cB0
      replace cB1 := bc hb ltB cB1
      replace cB2 := bc hb ltB cB2
      replace ltB := bl hb ltB
      replace cr0 := bc hb ltr cr0
      replace cr1 := bc hb ltr cr1
      replace cr2 := bc hb ltr cr2
      replace ltr := bl hb ltr
      replace cs0 := bc hb lts cs0
      replace cs1 := bc hb lts cs1
      replace cs2 := bc hb lts cs2
      replace lts := bl hb lts
      replace HI := Lib.hid (HI.out.below hb)
      replace HX := Lib.hid (HX.out.below hb)
      replace HP := Lib.hid (HP.out.below hb)
      replace HG := Lib.hid (HG.out.below hb)
      replace HV4 := Lib.hid (HV4.out.below hb)
      replace HV5 := Lib.hid (HV5.out.below hb)
      replace hB := hB.trans (hb.mono hB.size)
      have HZ6 := Lib.hid hsz
      have HV6 := Lib.hid (hv.mono (Nat.zero_le _))
      obtain ⟨p6', m6', q6', p6, m6, q6, rfl, -, -, -, -⟩ := hv
      generalize decide ((invR f (p * (f.sum : Rat)) : Rat).num < 0) = d6 at *
      clear hsz
      clear hb
      go_wp2_with fail
      have hbx : Below w6.heap.size w6 (w6.alloc (.cells #[.bool d6, .slice p6' m6' q6', .slice p6 m6 q6] 33)) := ((Below.refl _ _).alloc (Nat.le_refl _) _)
      generalize hWW : (w6.alloc (.cells #[.bool d6, .slice p6' m6' q6', .slice p6 m6 q6] 33)) = w6a at *
      replace cA0 := bc hbx ltA cA0
      replace cA1 := bc hbx ltA cA1
      replace cA2 := bc hbx ltA cA2
      replace ltA := bl hbx ltA
      replace cB0 := bc hbx ltB cB0
      replace cB1 := bc hbx ltB cB1
      replace cB2 := bc hbx ltB cB2
      replace ltB := bl hbx ltB
      replace cr0 := bc hbx ltr cr0
      replace cr1 := bc hbx ltr cr1
      replace cr2 := bc hbx ltr cr2
      replace ltr := bl hbx ltr
      replace cs0 := bc hbx lts cs0
      replace cs1 := bc hbx lts cs1
      replace cs2 := bc hbx lts cs2
      replace lts := bl hbx lts
      replace HI := Lib.hid (HI.out.below hbx)
      replace HX := Lib.hid (HX.out.below hbx)
      replace HP := Lib.hid (HP.out.below hbx)
      replace HG := Lib.hid (HG.out.below hbx)
      replace HV4 := Lib.hid (HV4.out.below hbx)
      replace HV5 := Lib.hid (HV5.out.below hbx)
      replace HV6 := Lib.hid (HV6.out.below hbx)
      have cu0 : w6a.cell? ⟨w6.heap.size, 0, none⟩ = some (.bool d6) := by subst hWW; go_simp
      have cu1 : w6a.cell? ⟨w6.heap.size, 1, none⟩ = some (.slice p6' m6' q6') := by subst hWW; go_simp
      have cu2 : w6a.cell? ⟨w6.heap.size, 2, none⟩ = some (.slice p6 m6 q6) := by subst hWW; go_simp
      have ltu : w6.heap.size < w6a.heap.size := by subst hWW; simp
      replace hB := hB.trans (hbx.mono hB.size)
      clear hbx hWW
      refine (einv_any (mulF ((by_ : Int) + 1) f) _ _ _ _ p L _ HG.out HP.out hL (by omega) HFg.out HIn.out.1 HIn.out.2).mono ?_
      rintro e w7 ⟨v7, rfl, hv, hsz, hb⟩
      replace cA0 := bc hb ltA cA0
      replace cA1 := bc hb ltA cA1
      replace cA2 := bc hb ltA cA2
      replace ltA := bl hb ltA
      replace cB0 := bc hb ltB cB0
      replace cB1 := bc hb ltB cB1
      replace cB2 := bc hb ltB cB2
      replace ltB := bl hb ltB
      replace cr0 := bc hb ltr cr0
      replace cr1 := bc hb ltr cr1
      replace cr2 := bc hb ltr cr2
      replace ltr := bl hb ltr
      replace cs0 := bc hb lts cs0
      replace cs1 := bc hb lts cs1
      replace cs2 := bc hb lts cs2
      replace lts := bl hb lts
      replace cu0 := bc hb ltu cu0
      replace cu1 := bc hb ltu cu1
      replace cu2 := bc hb ltu cu2
      replace ltu := bl hb ltu
      replace HI := Lib.hid (HI.out.below hb)
      replace HX := Lib.hid (HX.out.below hb)
      replace HP := Lib.hid (HP.out.below hb)
      replace HG := Lib.hid (HG.out.below hb)
      replace HV4 := Lib.hid (HV4.out.below hb)
      replace HV5 := Lib.hid (HV5.out.below hb)
      replace HV6 := Lib.hid (HV6.out.below hb)
      replace hB := hB.trans (hb.mono hB.size)
      rw [HIv.out] at hv hsz
      have HZ7 := Lib.hid hsz
      have HV7 := Lib.hid (hv.mono (Nat.zero_le _))
      obtain ⟨p7', m7', q7', p7, m7, q7, rfl, -, -, -, -⟩ := hv
      generalize decide ((invR f (p * (f.sum : Rat)) : Rat).num < 0) = d7 at *
      clear hsz
      clear hb
      go_wp2_with fail
      have hbx : Below w7.heap.size w7 (w7.alloc (.cells #[.bool d7, .slice p7' m7' q7', .slice p7 m7 q7] 33)) := ((Below.refl _ _).alloc (Nat.le_refl _) _)
      generalize hWW : (w7.alloc (.cells #[.bool d7, .slice p7' m7' q7', .slice p7 m7 q7] 33)) = w7a at *
      replace cA0 := bc hbx ltA cA0
      replace cA1 := bc hbx ltA cA1
      replace cA2 := bc hbx ltA cA2
      replace ltA := bl hbx ltA
      replace cB0 := bc hbx ltB cB0
      replace cB1 := bc hbx ltB cB1
      replace cB2 := bc hbx ltB cB2
      replace ltB := bl hbx ltB
      replace cr0 := bc hbx ltr cr0
      replace cr1 := bc hbx ltr cr1
      replace cr2 := bc hbx ltr cr2
      replace ltr := bl hbx ltr
      replace cs0 := bc hbx lts cs0
      replace cs1 := bc hbx lts cs1
      replace cs2 := bc hbx lts cs2
      replace lts := bl hbx lts
      replace cu0 := bc hbx ltu cu0
      replace cu1 := bc hbx ltu cu1
      replace cu2 := bc hbx ltu cu2
      replace ltu := bl hbx ltu
      replace HI := Lib.hid (HI.out.below hbx)
      replace HX := Lib.hid (HX.out.below hbx)
      replace HP := Lib.hid (HP.out.below hbx)
      replace HG := Lib.hid (HG.out.below hbx)
      replace HV4 := Lib.hid (HV4.out.below hbx)
      replace HV5 := Lib.hid (HV5.out.below hbx)
      replace HV6 := Lib.hid (HV6.out.below hbx)
      replace HV7 := Lib.hid (HV7.out.below hbx)
      have cv0 : w7a.cell? ⟨w7.heap.size, 0, none⟩ = some (.bool d7) := by subst hWW; go_simp
      have cv1 : w7a.cell? ⟨w7.heap.size, 1, none⟩ = some (.slice p7' m7' q7') := by subst hWW; go_simp
      have cv2 : w7a.cell? ⟨w7.heap.size, 2, none⟩ = some (.slice p7 m7 q7) := by subst hWW; go_simp
      have ltv : w7.heap.size < w7a.heap.size := by subst hWW; simp
      replace hB := hB.trans (hbx.mono hB.size)
      clear hbx hWW
      refine (equal_any _ _ _ _ _ _ HV4.out HV5.out).mono ?_
      rintro e w8 ⟨rfl, hb⟩
      replace cA0 := bc hb ltA cA0
      replace cA1 := bc hb ltA cA1
      replace cA2 := bc hb ltA cA2
      replace ltA := bl hb ltA
      replace cB0 := bc hb ltB cB0
      replace cB1 := bc hb ltB cB1
      replace cB2 := bc hb ltB cB2
      replace ltB := bl hb ltB
      replace cr0 := bc hb ltr cr0
      replace cr1 := bc hb ltr cr1
      replace cr2 := bc hb ltr cr2
      replace ltr := bl hb ltr
      replace cs0 := bc hb lts cs0
      replace cs1 := bc hb lts cs1
      replace cs2 := bc hb lts cs2
      replace lts := bl hb lts
      replace cu0 := bc hb ltu cu0
      replace cu1 := bc hb ltu cu1
      replace cu2 := bc hb ltu cu2
      replace ltu := bl hb ltu
      replace cv0 := bc hb ltv cv0
      replace cv1 := bc hb ltv cv1
      replace cv2 := bc hb ltv cv2
      replace ltv := bl hb ltv
      replace HI := Lib.hid (HI.out.below hb)
      replace HX := Lib.hid (HX.out.below hb)
      replace HP := Lib.hid (HP.out.below hb)
      replace HG := Lib.hid (HG.out.below hb)
      replace HV4 := Lib.hid (HV4.out.below hb)
      replace HV5 := Lib.hid (HV5.out.below hb)
      replace HV6 := Lib.hid (HV6.out.below hb)
      replace HV7 := Lib.hid (HV7.out.below hb)
      replace hB := hB.trans (hb.mono hB.size)
      clear hb
      go_wp2_with fail
      refine (equal_any _ _ _ _ _ _ HV6.out HV7.out).mono ?_
      rintro e w9 ⟨rfl, hb⟩
      replace cA0 := bc hb ltA cA0
      replace cA1 := bc hb ltA cA1
      replace cA2 := bc hb ltA cA2
      replace ltA := bl hb ltA
      replace cB0 := bc hb ltB cB0
      replace cB1 := bc hb ltB cB1
      replace cB2 := bc hb ltB cB2
      replace ltB := bl hb ltB
      replace cr0 := bc hb ltr cr0
      replace cr1 := bc hb ltr cr1
      replace cr2 := bc hb ltr cr2
      replace ltr := bl hb ltr
      replace cs0 := bc hb lts cs0
      replace cs1 := bc hb lts cs1
      replace cs2 := bc hb lts cs2
      replace lts := bl hb lts
      replace cu0 := bc hb ltu cu0
      replace cu1 := bc hb ltu cu1
      replace cu2 := bc hb ltu cu2
      replace ltu := bl hb ltu
      replace cv0 := bc hb ltv cv0
      replace cv1 := bc hb ltv cv1
      replace cv2 := bc hb ltv cv2
      replace ltv := bl hb ltv
      replace HI := Lib.hid (HI.out.below hb)
      replace HX := Lib.hid (HX.out.below hb)
      replace HP := Lib.hid (HP.out.below hb)
      replace HG := Lib.hid (HG.out.below hb)
      replace HV4 := Lib.hid (HV4.out.below hb)
      replace HV5 := Lib.hid (HV5.out.below hb)
      replace HV6 := Lib.hid (HV6.out.below hb)
      replace HV7 := Lib.hid (HV7.out.below hb)
      replace hB := hB.trans (hb.mono hB.size)
      clear hb
      go_wp2_with fail
      clear HV4 HV5 HV6 HV7
      clear cr0 cr1 cr2 ltr
      clear cs0 cs1 cs2 lts
      clear cu0 cu1 cu2 ltu
      clear cv0 cv1 cv2 ltv
      refine (emom_any f _ _ _ _ HI.out HF.out).mono ?_
      rintro e wa ⟨vm, vv, rfl, hv, hu, hsz, hsu, hb⟩
      replace cA0 := bc hb ltA cA0
      replace cA1 := bc hb ltA cA1
      replace cA2 := bc hb ltA cA2
      replace ltA := bl hb ltA
      replace cB0 := bc hb ltB cB0
      replace cB1 := bc hb ltB cB1
      replace cB2 := bc hb ltB cB2
      replace ltB := bl hb ltB
      replace HI := Lib.hid (HI.out.below hb)
      replace HX := Lib.hid (HX.out.below hb)
      replace HP := Lib.hid (HP.out.below hb)
      replace HG := Lib.hid (HG.out.below hb)
      replace hB := hB.trans (hb.mono hB.size)
      have HVm := Lib.hid (hv.mono (Nat.zero_le _))
      have HVn := Lib.hid (hu.mono (Nat.zero_le _))
      obtain ⟨pm', mm', qm', pm, mm, qm, rfl, -, -, -, -⟩ := hv
      obtain ⟨pn', mn', qn', pn, mn, qn, rfl, -, -, -, -⟩ := hu
      generalize decide ((meanR f).num < 0) = dm at *
      generalize decide ((varR f).num < 0) = dn at *
      clear hsz hsu
      clear hb
      go_wp2_with fail
      have hbx : Below wa.heap.size wa ((wa.alloc (.cells #[.bool dm, .slice pm' mm' qm', .slice pm mm qm] 33)).alloc (.cells #[.bool dn, .slice pn' mn' qn', .slice pn mn qn] 33)) := (((Below.refl _ _).alloc (Nat.le_refl _) _).alloc (by simp) _)
      generalize hWW : ((wa.alloc (.cells #[.bool dm, .slice pm' mm' qm', .slice pm mm qm] 33)).alloc (.cells #[.bool dn, .slice pn' mn' qn', .slice pn mn qn] 33)) = wa2 at *
      replace cA0 := bc hbx ltA cA0
      replace cA1 := bc hbx ltA cA1
      replace cA2 := bc hbx ltA cA2
      replace ltA := bl hbx ltA
      replace cB0 := bc hbx ltB cB0
      replace cB1 := bc hbx ltB cB1
      replace cB2 := bc hbx ltB cB2
      replace ltB := bl hbx ltB
      replace HI := Lib.hid (HI.out.below hbx)
      replace HX := Lib.hid (HX.out.below hbx)
      replace HP := Lib.hid (HP.out.below hbx)
      replace HG := Lib.hid (HG.out.below hbx)
      replace HVm := Lib.hid (HVm.out.below hbx)
      replace HVn := Lib.hid (HVn.out.below hbx)
      have cM0 : wa2.cell? ⟨wa.heap.size, 0, none⟩ = some (.bool dm) := by subst hWW; go_simp
      have cM1 : wa2.cell? ⟨wa.heap.size, 1, none⟩ = some (.slice pm' mm' qm') := by subst hWW; go_simp
      have cM2 : wa2.cell? ⟨wa.heap.size, 2, none⟩ = some (.slice pm mm qm) := by subst hWW; go_simp
      have ltM : wa.heap.size < wa2.heap.size := by subst hWW; simp <;> omega
      have cN0 : wa2.cell? ⟨wa.heap.size + 1, 0, none⟩ = some (.bool dn) := by subst hWW; go_simp
      have cN1 : wa2.cell? ⟨wa.heap.size + 1, 1, none⟩ = some (.slice pn' mn' qn') := by subst hWW; go_simp
      have cN2 : wa2.cell? ⟨wa.heap.size + 1, 2, none⟩ = some (.slice pn mn qn) := by subst hWW; go_simp
      have ltN : wa.heap.size + 1 < wa2.heap.size := by subst hWW; simp
      replace hB := hB.trans (hbx.mono hB.size)
      clear hbx hWW
      refine (emom_any (mulF ((by_ : Int) + 1) f) _ _ _ _ HG.out HFg.out).mono ?_
      rintro e wb ⟨vm2, vv2, rfl, hv, hu, hsz, hsu, hb⟩
      replace cA0 := bc hb ltA cA0
      replace cA1 := bc hb ltA cA1
      replace cA2 := bc hb ltA cA2
      replace ltA := bl hb ltA
      replace cB0 := bc hb ltB cB0
      replace cB1 := bc hb ltB cB1
      replace cB2 := bc hb ltB cB2
      replace ltB := bl hb ltB
      replace cM0 := bc hb ltM cM0
      replace cM1 := bc hb ltM cM1
      replace cM2 := bc hb ltM cM2
      replace ltM := bl hb ltM
      replace cN0 := bc hb ltN cN0
      replace cN1 := bc hb ltN cN1
      replace cN2 := bc hb ltN cN2
      replace ltN := bl hb ltN
      replace HI := Lib.hid (HI.out.below hb)
      replace HX := Lib.hid (HX.out.below hb)
      replace HP := Lib.hid (HP.out.below hb)
      replace HG := Lib.hid (HG.out.below hb)
      replace HVm := Lib.hid (HVm.out.below hb)
      replace HVn := Lib.hid (HVn.out.below hb)
      replace hB := hB.trans (hb.mono hB.size)
      rw [HMo.out.1] at hv hsz
      rw [HMo.out.2] at hu hsu
      have HVo1 := Lib.hid (hv.mono (Nat.zero_le _))
      have HVq1 := Lib.hid (hu.mono (Nat.zero_le _))
      obtain ⟨po1', mo1', qo1', po1, mo1, qo1, rfl, -, -, -, -⟩ := hv
      obtain ⟨pq1', mq1', qq1', pq1, mq1, qq1, rfl, -, -, -, -⟩ := hu
      generalize decide ((meanR f).num < 0) = do1 at *
      generalize decide ((varR f).num < 0) = dq1 at *
      clear hsz hsu
      clear hb
      go_wp2_with fail
      have hbx : Below wb.heap.size wb ((wb.alloc (.cells #[.bool do1, .slice po1' mo1' qo1', .slice po1 mo1 qo1] 33)).alloc (.cells #[.bool dq1, .slice pq1' mq1' qq1', .slice pq1 mq1 qq1] 33)) := (((Below.refl _ _).alloc (Nat.le_refl _) _).alloc (by simp) _)
      generalize hWW : ((wb.alloc (.cells #[.bool do1, .slice po1' mo1' qo1', .slice po1 mo1 qo1] 33)).alloc (.cells #[.bool dq1, .slice pq1' mq1' qq1', .slice pq1 mq1 qq1] 33)) = wb2 at *
      replace cA0 := bc hbx ltA cA0
      replace cA1 := bc hbx ltA cA1
      replace cA2 := bc hbx ltA cA2
      replace ltA := bl hbx ltA
      replace cB0 := bc hbx ltB cB0
      replace cB1 := bc hbx ltB cB1
      replace cB2 := bc hbx ltB cB2
      replace ltB := bl hbx ltB
      replace cM0 := bc hbx ltM cM0
      replace cM1 := bc hbx ltM cM1
      replace cM2 := bc hbx ltM cM2
      replace ltM := bl hbx ltM
      replace cN0 := bc hbx ltN cN0
      replace cN1 := bc hbx ltN cN1
      replace cN2 := bc hbx ltN cN2
      replace ltN := bl hbx ltN
      replace HI := Lib.hid (HI.out.below hbx)
      replace HX := Lib.hid (HX.out.below hbx)
      replace HP := Lib.hid (HP.out.below hbx)
      replace HG := Lib.hid (HG.out.below hbx)
      replace HVm := Lib.hid (HVm.out.below hbx)
      replace HVn := Lib.hid (HVn.out.below hbx)
      replace HVo1 := Lib.hid (HVo1.out.below hbx)
      replace HVq1 := Lib.hid (HVq1.out.below hbx)
      have cO0 : wb2.cell? ⟨wb.heap.size, 0, none⟩ = some (.bool do1) := by subst hWW; go_simp
      have cO1 : wb2.cell? ⟨wb.heap.size, 1, none⟩ = some (.slice po1' mo1' qo1') := by subst hWW; go_simp
      have cO2 : wb2.cell? ⟨wb.heap.size, 2, none⟩ = some (.slice po1 mo1 qo1) := by subst hWW; go_simp
      have ltO : wb.heap.size < wb2.heap.size := by subst hWW; simp <;> omega
      have cQ0 : wb2.cell? ⟨wb.heap.size + 1, 0, none⟩ = some (.bool dq1) := by subst hWW; go_simp
      have cQ1 : wb2.cell? ⟨wb.heap.size + 1, 1, none⟩ = some (.slice pq1' mq1' qq1') := by subst hWW; go_simp
      have cQ2 : wb2.cell? ⟨wb.heap.size + 1, 2, none⟩ = some (.slice pq1 mq1 qq1) := by subst hWW; go_simp
      have ltQ : wb.heap.size + 1 < wb2.heap.size := by subst hWW; simp
      replace hB := hB.trans (hbx.mono hB.size)
      clear hbx hWW
      refine (equal_any _ _ _ _ _ _ HVm.out HVo1.out).mono ?_
      rintro e wc ⟨rfl, hb⟩
      replace cA0 := bc hb ltA cA0
      replace cA1 := bc hb ltA cA1
      replace cA2 := bc hb ltA cA2
      replace ltA := bl hb ltA
      replace cB0 := bc hb ltB cB0
      replace cB1 := bc hb ltB cB1
      replace cB2 := bc hb ltB cB2
      replace ltB := bl hb ltB
      replace cM0 := bc hb ltM cM0
      replace cM1 := bc hb ltM cM1
      replace cM2 := bc hb ltM cM2
      replace ltM := bl hb ltM
      replace cN0 := bc hb ltN cN0
      replace cN1 := bc hb ltN cN1
      replace cN2 := bc hb ltN cN2
      replace ltN := bl hb ltN
      replace cO0 := bc hb ltO cO0
      replace cO1 := bc hb ltO cO1
      replace cO2 := bc hb ltO cO2
      replace ltO := bl hb ltO
      replace cQ0 := bc hb ltQ cQ0
      replace cQ1 := bc hb ltQ cQ1
      replace cQ2 := bc hb ltQ cQ2
      replace ltQ := bl hb ltQ
      replace HI := Lib.hid (HI.out.below hb)
      replace HX := Lib.hid (HX.out.below hb)
      replace HP := Lib.hid (HP.out.below hb)
      replace HG := Lib.hid (HG.out.below hb)
      replace HVm := Lib.hid (HVm.out.below hb)
      replace HVn := Lib.hid (HVn.out.below hb)
      replace HVo1 := Lib.hid (HVo1.out.below hb)
      replace HVq1 := Lib.hid (HVq1.out.below hb)
      replace hB := hB.trans (hb.mono hB.size)
      clear hb
      go_wp2_with fail
      refine (equal_any _ _ _ _ _ _ HVn.out HVq1.out).mono ?_
      rintro e wd ⟨rfl, hb⟩
      replace cA0 := bc hb ltA cA0
      replace cA1 := bc hb ltA cA1
      replace cA2 := bc hb ltA cA2
      replace ltA := bl hb ltA
      replace cB0 := bc hb ltB cB0
      replace cB1 := bc hb ltB cB1
      replace cB2 := bc hb ltB cB2
      replace ltB := bl hb ltB
      replace cM0 := bc hb ltM cM0
      replace cM1 := bc hb ltM cM1
      replace cM2 := bc hb ltM cM2
      replace ltM := bl hb ltM
      replace cN0 := bc hb ltN cN0
      replace cN1 := bc hb ltN cN1
      replace cN2 := bc hb ltN cN2
      replace ltN := bl hb ltN
      replace cO0 := bc hb ltO cO0
      replace cO1 := bc hb ltO cO1
      replace cO2 := bc hb ltO cO2
      replace ltO := bl hb ltO
      replace cQ0 := bc hb ltQ cQ0
      replace cQ1 := bc hb ltQ cQ1
      replace cQ2 := bc hb ltQ cQ2
      replace ltQ := bl hb ltQ
      replace HI := Lib.hid (HI.out.below hb)
      replace HX := Lib.hid (HX.out.below hb)
      replace HP := Lib.hid (HP.out.below hb)
      replace HG := Lib.hid (HG.out.below hb)
      replace HVm := Lib.hid (HVm.out.below hb)
      replace HVn := Lib.hid (HVn.out.below hb)
      replace HVo1 := Lib.hid (HVo1.out.below hb)
      replace HVq1 := Lib.hid (HVq1.out.below hb)
      replace hB := hB.trans (hb.mono hB.size)
      clear hb
      clear HVm HVn HVo1 HVq1
      have hba : Below wd.heap.size wd (wd.alloc (.cells #[.int .i64 0] 3)) := (Below.refl _ _).alloc (Nat.le_refl _) _
      have HOw := Lib.hid (owns_lit wd wd.heap.size 3 [.int .i64 0] (by simp [maxLen]) (Nat.le_refl _))
      have HNl := Lib.hid (show (([.int .i64 0] : List Value).length + len) * 8 ≤ 140737488355328 ∧ ([.int .i64 0] : List Value).length + len ≤ maxLen by simp only [List.length_singleton, maxLen]; omega)
      have HIa := Lib.hid (HI.out.below hba)
      have HLv := Lib.hid (show (ivs f).length = len by rw [ivs_length, HN.out])
      go_wp2_with (at_builtin; go_must (refine wpList_app rfl _ _ 22 rfl wd.heap.size 3 (.int .i64 0) 8 Try.underlying22 infoInt rfl (.slice (some ⟨wd.heap.size, 0, none⟩) 1 1) [.int .i64 0] rfl HOw.out _ len cap (ivs f) rfl HLv.out HIa.out.vals (ivs_one _) HNl.out.1 HNl.out.2 (by simp) fun v' wz h1 h2 => ?_))
      have hb := (h2.below (by simp) HOw.out.lt : Below wd.heap.size _ wz)
      replace hb : Below wd.heap.size wd wz := hba.trans hb
      obtain ⟨a3, n3, c3, rfl, hI⟩ := Owns.ints (xs := 0 :: f) (by simpa [ivs, iv] using h1)
      have hn3 : len + 1 = n3 := by have := hI.1; rw [List.length_cons, HN.out] at this; exact this
      have hna : n3 ≤ len + 1 := by omega
      have hnb : len + 1 ≤ n3 := by omega
      have HRd := Lib.hid hI
      clear h1 h2 hI hba HOw HIa hn3
      replace cA0 := bc hb ltA cA0
      replace cA1 := bc hb ltA cA1
      replace cA2 := bc hb ltA cA2
      replace ltA := bl hb ltA
      replace cB0 := bc hb ltB cB0
      replace cB1 := bc hb ltB cB1
      replace cB2 := bc hb ltB cB2
      replace ltB := bl hb ltB
      replace cM0 := bc hb ltM cM0
      replace cM1 := bc hb ltM cM1
      replace cM2 := bc hb ltM cM2
      replace ltM := bl hb ltM
      replace cN0 := bc hb ltN cN0
      replace cN1 := bc hb ltN cN1
      replace cN2 := bc hb ltN cN2
      replace ltN := bl hb ltN
      replace cO0 := bc hb ltO cO0
      replace cO1 := bc hb ltO cO1
      replace cO2 := bc hb ltO cO2
      replace ltO := bl hb ltO
      replace cQ0 := bc hb ltQ cQ0
      replace cQ1 := bc hb ltQ cQ1
      replace cQ2 := bc hb ltQ cQ2
      replace ltQ := bl hb ltQ
      replace HI := Lib.hid (HI.out.below hb)
      replace HX := Lib.hid (HX.out.below hb)
      replace HP := Lib.hid (HP.out.below hb)
      replace HG := Lib.hid (HG.out.below hb)
      replace hB := hB.trans (hb.mono hB.size)
      clear hb
      go_wp2_with fail
      refine (evalid_b (0 :: f) a3 n3 c3 _ HRd.out).mono ?_
      rintro e wv ⟨rfl, hb⟩
      replace cA0 := bc hb ltA cA0
      replace cA1 := bc hb ltA cA1
      replace cA2 := bc hb ltA cA2
      replace ltA := bl hb ltA
      replace cB0 := bc hb ltB cB0
      replace cB1 := bc hb ltB cB1
      replace cB2 := bc hb ltB cB2
      replace ltB := bl hb ltB
      replace cM0 := bc hb ltM cM0
      replace cM1 := bc hb ltM cM1
      replace cM2 := bc hb ltM cM2
      replace ltM := bl hb ltM
      replace cN0 := bc hb ltN cN0
      replace cN1 := bc hb ltN cN1
      replace cN2 := bc hb ltN cN2
      replace ltN := bl hb ltN
      replace cO0 := bc hb ltO cO0
      replace cO1 := bc hb ltO cO1
      replace cO2 := bc hb ltO cO2
      replace ltO := bl hb ltO
      replace cQ0 := bc hb ltQ cQ0
      replace cQ1 := bc hb ltQ cQ1
      replace cQ2 := bc hb ltQ cQ2
      replace ltQ := bl hb ltQ
      replace HI := Lib.hid (HI.out.below hb)
      replace HX := Lib.hid (HX.out.below hb)
      replace HP := Lib.hid (HP.out.below hb)
      replace HG := Lib.hid (HG.out.below hb)
      replace HRd := Lib.hid (HRd.out.below hb)
      replace hB := hB.trans (hb.mono hB.size)
      rw [HRv.out]
      clear hb
      have hl61 : ((len : Int) == 61) = true := by have := HL61.out; rw [HN.out] at this; simp; omega
      go_wp2_with fail
      refine (awake_any _).mono ?_
      rintro e ww ⟨rfl, hb⟩
      replace cA0 := bc hb ltA cA0
      replace cA1 := bc hb ltA cA1
      replace cA2 := bc hb ltA cA2
      replace ltA := bl hb ltA
      replace cB0 := bc hb ltB cB0
      replace cB1 := bc hb ltB cB1
      replace cB2 := bc hb ltB cB2
      replace ltB := bl hb ltB
      replace cM0 := bc hb ltM cM0
      replace cM1 := bc hb ltM cM1
      replace cM2 := bc hb ltM cM2
      replace ltM := bl hb ltM
      replace cN0 := bc hb ltN cN0
      replace cN1 := bc hb ltN cN1
      replace cN2 := bc hb ltN cN2
      replace ltN := bl hb ltN
      replace cO0 := bc hb ltO cO0
      replace cO1 := bc hb ltO cO1
      replace cO2 := bc hb ltO cO2
      replace ltO := bl hb ltO
      replace cQ0 := bc hb ltQ cQ0
      replace cQ1 := bc hb ltQ cQ1
      replace cQ2 := bc hb ltQ cQ2
      replace ltQ := bl hb ltQ
      replace HI := Lib.hid (HI.out.below hb)
      replace HX := Lib.hid (HX.out.below hb)
      replace HP := Lib.hid (HP.out.below hb)
      replace HG := Lib.hid (HG.out.below hb)
      replace HRd := Lib.hid (HRd.out.below hb)
      replace hB := hB.trans (hb.mono hB.size)
      clear hb
      go_wp2_with fail
      go_ret
      exact ⟨rfl, hB⟩
set_option maxHeartbeats 8000000 in
theorem props_ov (f : List Int) (a : Option Addr) (len cap : Nat) (vx vp : Value) (x p : Rat) (by_ : Nat) (L : Nat) (w : World) (hI : Ints w a len cap f) (hx : RatV w vx x L) (hp : RatV w vp p L) (hb255 : by_ < 256) (hL : 1 ≤ L) (hm : (2 * L + 200) * 4 ≤ 140737488355328) (hO : OkF f) (hG : eqE (mulF ((by_ : Int) + 1) f) = 0) (hpo : ¬ (0 ≤ p ∧ p ≤ 1)) (hR : eqE (0 :: f) = 0) :
    Calls Try.prog 5 #[.slice a len cap, vx, vp, .int .u8 (by_ : Int)] w fun e w' => e = .returned (.bool true) ∧ Below w.heap.size w w' := by
  have HI := Lib.hid hI
  have HX := Lib.hid hx
  have HP := Lib.hid hp
  have HN := Lib.hid hI.1
  obtain ⟨negx, ax', lenx', capx', ax, lenx, capx, rfl, -, -⟩ := hx.form
  obtain ⟨negp, ap', lenp', capp', ap, lenp, capp, rfl, -, -⟩ := hp.form
  clear hI hx hp
  have HO := Lib.hid (eqE_OkF.2 hO)
  have HF := Lib.hid hO
  have h61 : len ≤ 61 := by rw [← HN.out]; exact hO.1
  have HAt := Lib.hid (preS_at hO.2.1 hO.1)
  have HGv := Lib.hid hG
  have HFg := Lib.hid (eqE_OkF.1 hG)
  have HRk := Lib.hid (mul_rank (f := f) (c := (by_ : Int) + 1) (by omega) x)
  have HMo := Lib.hid (mulF_mom (c := (by_ : Int) + 1) (by omega) hO.pos)
  have HPo := Lib.hid hpo
  clear hpo
  have HRv := Lib.hid hR
  have HFr := Lib.hid (eqE_OkF.1 hR)
  have HSc := Lib.hid (fun (k : Nat) (hk : k < f.length) (h0 : 0 < f.getD k 0) => rise_score hO hk h0)
  clear hO hG hR
  go_enter Try.func5, Try.ntmps5
  go_wp2_with fail
  have hbx : Below w.heap.size w ((w.alloc (.cells #[.bool negx, .slice ax' lenx' capx', .slice ax lenx capx] 33)).alloc (.cells #[.bool negp, .slice ap' lenp' capp', .slice ap lenp capp] 33)) := (((Below.refl _ _).alloc (Nat.le_refl _) _).alloc (by simp) _)
  generalize hWW : ((w.alloc (.cells #[.bool negx, .slice ax' lenx' capx', .slice ax lenx capx] 33)).alloc (.cells #[.bool negp, .slice ap' lenp' capp', .slice ap lenp capp] 33)) = w0 at *
  replace HI := Lib.hid (HI.out.below hbx)
  replace HX := Lib.hid (HX.out.below hbx)
  replace HP := Lib.hid (HP.out.below hbx)
  have cA0 : w0.cell? ⟨w.heap.size, 0, none⟩ = some (.bool negx) := by subst hWW; go_simp
  have cA1 : w0.cell? ⟨w.heap.size, 1, none⟩ = some (.slice ax' lenx' capx') := by subst hWW; go_simp
  have cA2 : w0.cell? ⟨w.heap.size, 2, none⟩ = some (.slice ax lenx capx) := by subst hWW; go_simp
  have ltA : w.heap.size < w0.heap.size := by subst hWW; simp <;> omega
  have cB0 : w0.cell? ⟨w.heap.size + 1, 0, none⟩ = some (.bool negp) := by subst hWW; go_simp
  have cB1 : w0.cell? ⟨w.heap.size + 1, 1, none⟩ = some (.slice ap' lenp' capp') := by subst hWW; go_simp
  have cB2 : w0.cell? ⟨w.heap.size + 1, 2, none⟩ = some (.slice ap lenp capp) := by subst hWW; go_simp
  have ltB : w.heap.size + 1 < w0.heap.size := by subst hWW; simp
  have hB := hbx
  clear hbx hWW
  refine (evalid_b f a len cap _ HI.out).mono ?_
  rintro e w1 ⟨rfl, hb⟩
  replace cA0 := bc hb ltA cA0
  replace cA1 := bc hb ltA cA1
  replace cA2 := bc hb ltA cA2
  replace ltA := bl hb ltA
  replace cB0 := bc hb ltB cB0
  replace cB1 := bc hb ltB cB1
  replace cB2 := bc hb ltB cB2
  replace ltB := bl hb ltB
  replace HI := Lib.hid (HI.out.below hb)
  replace HX := Lib.hid (HX.out.below hb)
  replace HP := Lib.hid (HP.out.below hb)
  replace hB := hB.trans (hb.mono hB.size)
  rw [HO.out]
  clear hb
  go_wp2_with fail
  go_loopw [9, 37] (fun u i wr => ∃ k : Nat, k ≤ len ∧ i = .int .i64 k ∧ Hid (Owns wr w1.heap.size 3 u (ivs (mulF ((by_ : Int) + 1) (f.take k)))) ∧ Hid (Below w1.heap.size w1 wr)) (fun _ i _ => len - (intOf i).toNat)
  case atStart => exact ⟨0, by omega, rfl, Lib.hid (by simpa [mulF, ivs] using Owns.nil _ _ _), Lib.hid (Below.refl _ _)⟩
  case round =>
    obtain ⟨k, hk, rfl, HOk, HBk⟩ := hrel
    by_cases hlt : k < len
    · obtain ⟨bb, off, rfl, hbs, hcc⟩ := HI.out.2.at hlt
      have ec := hcc k hlt _ HBk.out
      obtain ⟨-, -, p1, p2⟩ := HAt.out k
      have HSn := Lib.hid (mulF_snoc ((by_ : Int) + 1) f k (by rw [HN.out]; exact hlt))
      have HNl := Lib.hid (show ((ivs (mulF ((by_ : Int) + 1) (f.take k))).length + 1) * 8 ≤ 140737488355328 ∧ (ivs (mulF ((by_ : Int) + 1) (f.take k))).length + 1 ≤ maxLen by
        rw [ivs_length, mulF_len, List.length_take]; simp only [maxLen]; omega)
      generalize f.getD k 0 = fk at *
      have hm1 : 0 ≤ fk * ((by_ : Int) + 1) := Int.mul_nonneg p1 (by omega)
      have hm2 : fk * ((by_ : Int) + 1) ≤ 1000000 * 256 := Int.mul_le_mul p2 (by omega) (by omega) (by omega)
      have hsz2 := HBk.out.size
      have hba : Below wr.heap.size wr (wr.alloc (.cells #[.int .i64 (fk * ((by_ : Int) + 1))] 3)) := (Below.refl _ _).alloc (Nat.le_refl _) _
      have HBa := Lib.hid (HBk.out.trans (hba.mono HBk.out.size))
      have HLt := Lib.hid HOk.out.lt
      clear hcc hba HAt
      generalize mulF ((by_ : Int) + 1) (f.take k) = cur at *
      go_wp2_with (at_builtin; go_must (refine wpList_app1 rfl _ _ 22 rfl w1.heap.size 3 (.int .i64 0) 8 Try.underlying22 infoInt rfl u9 (ivs cur) rfl (.int .i64 (fk * ((by_ : Int) + 1))) rfl HOk.out rfl HNl.out.1 HNl.out.2 hsz2 fun v' w' h1 h2 => ?_))
      have hbm := HBk.out.trans (h2.below hsz2 HLt.out)
      have HBm := Lib.hid hbm
      have HO3 := Lib.hid (show Owns w' w1.heap.size 3 v' (ivs (mulF ((by_ : Int) + 1) (f.take (k + 1)))) by rw [HSn.out, ivs_append]; exact h1)
      clear h1 h2 hbm
      go_wp2_with fail
      go_roundw
      case rel => exact ⟨k + 1, by omega, by go_num, HO3, HBm⟩
      case measure => simp [intOf]; omega
    · obtain ⟨a2, n2, c2, rfl, hI⟩ := HOk.out.ints
      rw [List.take_of_length_le (by rw [HN.out]; omega)] at hI
      obtain rfl : len = n2 := by have := hI.1; rw [mulF_len, HN.out] at this; exact this
      have HG := Lib.hid hI
      have hb := HBk.out
      clear HOk hI HBk
      replace cA0 := bc hb ltA cA0
      replace cA1 := bc hb ltA cA1
      replace cA2 := bc hb ltA cA2
      replace ltA := bl hb ltA
      replace cB0 := bc hb ltB cB0
      replace cB1 := bc hb ltB cB1
      replace cB2 := bc hb ltB cB2
      replace ltB := bl hb ltB
      replace HI := Lib.hid (HI.out.below hb)
      replace HX := Lib.hid (HX.out.below hb)
      replace HP := Lib.hid (HP.out.below hb)
      replace hB := hB.trans (hb.mono hB.size)
      clear hb
      go_wp2_with fail
      refine (evalid_b _ _ _ _ _ HG.out).mono ?_
      rintro e w3 ⟨rfl, hb⟩
      replace cA0 := bc hb ltA cA0
      replace cA1 := bc hb ltA cA1
      replace cA2 := bc hb ltA cA2
      replace ltA := bl hb ltA
      replace cB0 := bc hb ltB cB0
      replace cB1 := bc hb ltB cB1
      replace cB2 := bc hb ltB cB2
      replace ltB := bl hb ltB
      replace HI := Lib.hid (HI.out.below hb)
      replace HX := Lib.hid (HX.out.below hb)
      replace HP := Lib.hid (HP.out.below hb)
      replace HG := Lib.hid (HG.out.below hb)
      replace hB := hB.trans (hb.mono hB.size)
      rw [HGv.out]
      clear hb
      go_wp2_with fail
      refine (erank_any f _ _ _ _ x L _ HI.out HX.out hL (by omega) HF.out).mono ?_
      rintro e w4 ⟨v4, rfl, hv, hsz, hb⟩
      replace cA0 := bc hb ltA cA0
      replace cA1 := bc hb ltA cA1
      replace cA2 := bc hb ltA cA2
      replace ltA := bl hb ltA
      replace cB0 := bc hb ltB cB0
      replace cB1 := bc hb ltB cB1
      replace cB2 := bc hb ltB cB2
      replace ltB := bl hb ltB
      replace HI := Lib.hid (HI.out.below hb)
      replace HX := Lib.hid (HX.out.below hb)
      replace HP := Lib.hid (HP.out.below hb)
      replace HG := Lib.hid (HG.out.below hb)
      replace hB := hB.trans (hb.mono hB.size)
      have HZ4 := Lib.hid hsz
      have HV4 := Lib.hid (hv.mono (Nat.zero_le _))
      obtain ⟨p4', m4', q4', p4, m4, q4, rfl, -, -, -, -⟩ := hv
      generalize decide ((rankR f x : Rat).num < 0) = d4 at *
      clear hsz
      clear hb
      go_wp2_with fail
      have hbx : Below w4.heap.size w4 (w4.alloc (.cells #[.bool d4, .slice p4' m4' q4', .slice p4 m4 q4] 33)) := ((Below.refl _ _).alloc (Nat.le_refl _) _)
      generalize hWW : (w4.alloc (.cells #[.bool d4, .slice p4' m4' q4', .slice p4 m4 q4] 33)) = w4a at *
      replace cA0 := bc hbx ltA cA0
      replace cA1 := bc hbx ltA cA1
      replace cA2 := bc hbx ltA cA2
      replace ltA := bl hbx ltA
      replace cB0 := bc hbx ltB cB0
      replace cB1 := bc hbx ltB cB1
      replace cB2 := bc hbx ltB cB2
      replace ltB := bl hbx ltB
      replace HI := Lib.hid (HI.out.below hbx)
      replace HX := Lib.hid (HX.out.below hbx)
      replace HP := Lib.hid (HP.out.below hbx)
      replace HG := Lib.hid (HG.out.below hbx)
      replace HV4 := Lib.hid (HV4.out.below hbx)
      have cr0 : w4a.cell? ⟨w4.heap.size, 0, none⟩ = some (.bool d4) := by subst hWW; go_simp
      have cr1 : w4a.cell? ⟨w4.heap.size, 1, none⟩ = some (.slice p4' m4' q4') := by subst hWW; go_simp
      have cr2 : w4a.cell? ⟨w4.heap.size, 2, none⟩ = some (.slice p4 m4 q4) := by subst hWW; go_simp
      have ltr : w4.heap.size < w4a.heap.size := by subst hWW; simp
      replace hB := hB.trans (hbx.mono hB.size)
      clear hbx hWW
      refine (erank_any (mulF ((by_ : Int) + 1) f) _ _ _ _ x L _ HG.out HX.out hL (by omega) HFg.out).mono ?_
      rintro e w5 ⟨v5, rfl, hv, hsz, hb⟩
      replace cA0 := bc hb ltA cA0
      replace cA1 := bc hb ltA cA1
      replace cA2 := bc hb ltA cA2
      replace ltA := bl hb ltA
      replace cB0 := bc hb ltB cB0
      replace cB1 := bc hb ltB cB1
      replace cB2 := bc hb ltB cB2
      replace ltB := bl hb ltB
      replace cr0 := bc hb ltr cr0
      replace cr1 := bc hb ltr cr1
      replace cr2 := bc hb ltr cr2
      replace ltr := bl hb ltr
      replace HI := Lib.hid (HI.out.below hb)
      replace HX := Lib.hid (HX.out.below hb)
      replace HP := Lib.hid (HP.out.below hb)
      replace HG := Lib.hid (HG.out.below hb)
      replace HV4 := Lib.hid (HV4.out.below hb)
      replace hB := hB.trans (hb.mono hB.size)
      rw [HRk.out] at hv hsz
      have HZ5 := Lib.hid hsz
      have HV5 := Lib.hid (hv.mono (Nat.zero_le _))
      obtain ⟨p5', m5', q5', p5, m5, q5, rfl, -, -, -, -⟩ := hv
      generalize decide ((rankR f x : Rat).num < 0) = d5 at *
      clear hsz
      clear hb
      go_wp2_with fail
      have hbx : Below w5.heap.size w5 (w5.alloc (.cells #[.bool d5, .slice p5' m5' q5', .slice p5 m5 q5] 33)) := ((Below.refl _ _).alloc (Nat.le_refl _) _)
      generalize hWW : (w5.alloc (.cells #[.bool d5, .slice p5' m5' q5', .slice p5 m5 q5] 33)) = w5a at *
      replace cA0 := bc hbx ltA cA0
      replace cA1 := bc hbx ltA cA1
      replace cA2 := bc hbx ltA cA2
      replace ltA := bl hbx ltA
      replace cB0 := bc hbx ltB cB0
      replace cB1 := bc hbx ltB cB1
      replace cB2 := bc hbx ltB cB2
      replace ltB := bl hbx ltB
      replace cr0 := bc hbx ltr cr0
      replace cr1 := bc hbx ltr cr1
      replace cr2 := bc hbx ltr cr2
      replace ltr := bl hbx ltr
      replace HI := Lib.hid (HI.out.below hbx)
      replace HX := Lib.hid (HX.out.below hbx)
      replace HP := Lib.hid (HP.out.below hbx)
      replace HG := Lib.hid (HG.out.below hbx)
      replace HV4 := Lib.hid (HV4.out.below hbx)
      replace HV5 := Lib.hid (HV5.out.below hbx)
      have cs0 : w5a.cell? ⟨w5.heap.size, 0, none⟩ = some (.bool d5) := by subst hWW; go_simp
      have cs1 : w5a.cell? ⟨w5.heap.size, 1, none⟩ = some (.slice p5' m5' q5') := by subst hWW; go_simp
      have cs2 : w5a.cell? ⟨w5.heap.size, 2, none⟩ = some (.slice p5 m5 q5) := by subst hWW; go_simp
      have lts : w5.heap.size < w5a.heap.size := by subst hWW; simp
      replace hB := hB.trans (hbx.mono hB.size)
      clear hbx hWW
      refine (einv_out f _ _ _ _ p L _ HI.out HP.out hL (by omega) HF.out HPo.out).mono ?_
      rintro e w6 ⟨v6, rfl, hv, hb⟩
      replace cA0 := bc hb ltA cA0
      replace cA1 := bc hb ltA cA1
      replace cA2 := bc hb ltA cA2
      replace ltA := bl hb ltA
      replace cB0 := bc hb ltB cB0
      replace cB1 := bc hb ltB cB1
      replace cB2 := bc hb ltB cB2
      replace ltB := bl hb ltB
      replace cr0 := bc hb ltr cr0
      replace cr1 := bc hb ltr cr1
      replace cr2 := bc hb ltr cr2
      replace ltr := bl hb ltr
      replace cs0 := bc hb lts cs0
      replace cs1 := bc hb lts cs1
      replace cs2 := bc hb lts cs2
      replace lts := bl hb lts
      replace HI := Lib.hid (HI.out.below hb)
      replace HX := Lib.hid (HX.out.below hb)
      replace HP := Lib.hid (HP.out.below hb)
      replace HG := Lib.hid (HG.out.below hb)
      replace HV4 := Lib.hid (HV4.out.below hb)
      replace HV5 := Lib.hid (HV5.out.below hb)
      replace hB := hB.trans (hb.mono hB.size)
      have HV6 := Lib.hid (hv.mono (Nat.zero_le _))
      obtain ⟨p6', m6', q6', p6, m6, q6, rfl, -, -, -, -⟩ := hv
      generalize decide ((0 : Rat).num < 0) = d6 at *
      clear hb
      go_wp2_with fail
      have hbx : Below w6.heap.size w6 (w6.alloc (.cells #[.bool d6, .slice p6' m6' q6', .slice p6 m6 q6] 33)) := ((Below.refl _ _).alloc (Nat.le_refl _) _)
      generalize hWW : (w6.alloc (.cells #[.bool d6, .slice p6' m6' q6', .slice p6 m6 q6] 33)) = w6a at *
      replace cA0 := bc hbx ltA cA0
      replace cA1 := bc hbx ltA cA1
      replace cA2 := bc hbx ltA cA2
      replace ltA := bl hbx ltA
      replace cB0 := bc hbx ltB cB0
      replace cB1 := bc hbx ltB cB1
      replace cB2 := bc hbx ltB cB2
      replace ltB := bl hbx ltB
      replace cr0 := bc hbx ltr cr0
      replace cr1 := bc hbx ltr cr1
      replace cr2 := bc hbx ltr cr2
      replace ltr := bl hbx ltr
      replace cs0 := bc hbx lts cs0
      replace cs1 := bc hbx lts cs1
      replace cs2 := bc hbx lts cs2
      replace lts := bl hbx lts
      replace HI := Lib.hid (HI.out.below hbx)
      replace HX := Lib.hid (HX.out.below hbx)
      replace HP := Lib.hid (HP.out.below hbx)
      replace HG := Lib.hid (HG.out.below hbx)
      replace HV4 := Lib.hid (HV4.out.below hbx)
      replace HV5 := Lib.hid (HV5.out.below hbx)
      replace HV6 := Lib.hid (HV6.out.below hbx)
      have cu0 : w6a.cell? ⟨w6.heap.size, 0, none⟩ = some (.bool d6) := by subst hWW; go_simp
      have cu1 : w6a.cell? ⟨w6.heap.size, 1, none⟩ = some (.slice p6' m6' q6') := by subst hWW; go_simp
      have cu2 : w6a.cell? ⟨w6.heap.size, 2, none⟩ = some (.slice p6 m6 q6) := by subst hWW; go_simp
      have ltu : w6.heap.size < w6a.heap.size := by subst hWW; simp
      replace hB := hB.trans (hbx.mono hB.size)
      clear hbx hWW
      refine (einv_out (mulF ((by_ : Int) + 1) f) _ _ _ _ p L _ HG.out HP.out hL (by omega) HFg.out HPo.out).mono ?_
      rintro e w7 ⟨v7, rfl, hv, hb⟩
      replace cA0 := bc hb ltA cA0
      replace cA1 := bc hb ltA cA1
      replace cA2 := bc hb ltA cA2
      replace ltA := bl hb ltA
      replace cB0 := bc hb ltB cB0
      replace cB1 := bc hb ltB cB1
      replace cB2 := bc hb ltB cB2
      replace ltB := bl hb ltB
      replace cr0 := bc hb ltr cr0
      replace cr1 := bc hb ltr cr1
      replace cr2 := bc hb ltr cr2
      replace ltr := bl hb ltr
      replace cs0 := bc hb lts cs0
      replace cs1 := bc hb lts cs1
      replace cs2 := bc hb lts cs2
      replace lts := bl hb lts
      replace cu0 := bc hb ltu cu0
      replace cu1 := bc hb ltu cu1
      replace cu2 := bc hb ltu cu2
      replace ltu := bl hb ltu
      replace HI := Lib.hid (HI.out.below hb)
      replace HX := Lib.hid (HX.out.below hb)
      replace HP := Lib.hid (HP.out.below hb)
      replace HG := Lib.hid (HG.out.below hb)
      replace HV4 := Lib.hid (HV4.out.below hb)
      replace HV5 := Lib.hid (HV5.out.below hb)
      replace HV6 := Lib.hid (HV6.out.below hb)
      replace hB := hB.trans (hb.mono hB.size)
      have HV7 := Lib.hid (hv.mono (Nat.zero_le _))
      obtain ⟨p7', m7', q7', p7, m7, q7, rfl, -, -, -, -⟩ := hv
      generalize decide ((0 : Rat).num < 0) = d7 at *
      clear hb
      go_wp2_with fail
      have hbx : Below w7.heap.size w7 (w7.alloc (.cells #[.bool d7, .slice p7' m7' q7', .slice p7 m7 q7] 33)) := ((Below.refl _ _).alloc (Nat.le_refl _) _)
      generalize hWW : (w7.alloc (.cells #[.bool d7, .slice p7' m7' q7', .slice p7 m7 q7] 33)) = w7a at *
      replace cA0 := bc hbx ltA cA0
      replace cA1 := bc hbx ltA cA1
      replace cA2 := bc hbx ltA cA2
      replace ltA := bl hbx ltA
      replace cB0 := bc hbx ltB cB0
      replace cB1 := bc hbx ltB cB1
      replace cB2 := bc hbx ltB cB2
      replace ltB := bl hbx ltB
      replace cr0 := bc hbx ltr cr0
      replace cr1 := bc hbx ltr cr1
      replace cr2 := bc hbx ltr cr2
      replace ltr := bl hbx ltr
      replace cs0 := bc hbx lts cs0
      replace cs1 := bc hbx lts cs1
      replace cs2 := bc hbx lts cs2
      replace lts := bl hbx lts
      replace cu0 := bc hbx ltu cu0
      replace cu1 := bc hbx ltu cu1
      replace cu2 := bc hbx ltu cu2
      replace ltu := bl hbx ltu
      replace HI := Lib.hid (HI.out.below hbx)
      replace HX := Lib.hid (HX.out.below hbx)
      replace HP := Lib.hid (HP.out.below hbx)
      replace HG := Lib.hid (HG.out.below hbx)
      replace HV4 := Lib.hid (HV4.out.below hbx)
      replace HV5 := Lib.hid (HV5.out.below hbx)
      replace HV6 := Lib.hid (HV6.out.below hbx)
      replace HV7 := Lib.hid (HV7.out.below hbx)
      have cv0 : w7a.cell? ⟨w7.heap.size, 0, none⟩ = some (.bool d7) := by subst hWW; go_simp
      have cv1 : w7a.cell? ⟨w7.heap.size, 1, none⟩ = some (.slice p7' m7' q7') := by subst hWW; go_simp
      have cv2 : w7a.cell? ⟨w7.heap.size, 2, none⟩ = some (.slice p7 m7 q7) := by subst hWW; go_simp
      have ltv : w7.heap.size < w7a.heap.size := by subst hWW; simp
      replace hB := hB.trans (hbx.mono hB.size)
      clear hbx hWW
      refine (equal_any _ _ _ _ _ _ HV4.out HV5.out).mono ?_
      rintro e w8 ⟨rfl, hb⟩
      replace cA0 := bc hb ltA cA0
      replace cA1 := bc hb ltA cA1
      replace cA2 := bc hb ltA cA2
      replace ltA := bl hb ltA
      replace cB0 := bc hb ltB cB0
      replace cB1 := bc hb ltB cB1
      replace cB2 := bc hb ltB cB2
      replace ltB := bl hb ltB
      replace cr0 := bc hb ltr cr0
      replace cr1 := bc hb ltr cr1
      replace cr2 := bc hb ltr cr2
      replace ltr := bl hb ltr
      replace cs0 := bc hb lts cs0
      replace cs1 := bc hb lts cs1
      replace cs2 := bc hb lts cs2
      replace lts := bl hb lts
      replace cu0 := bc hb ltu cu0
      replace cu1 := bc hb ltu cu1
      replace cu2 := bc hb ltu cu2
      replace ltu := bl hb ltu
      replace cv0 := bc hb ltv cv0
      replace cv1 := bc hb ltv cv1
      replace cv2 := bc hb ltv cv2
      replace ltv := bl hb ltv
      replace HI := Lib.hid (HI.out.below hb)
      replace HX := Lib.hid (HX.out.below hb)
      replace HP := Lib.hid (HP.out.below hb)
      replace HG := Lib.hid (HG.out.below hb)
      replace HV4 := Lib.hid (HV4.out.below hb)
      replace HV5 := Lib.hid (HV5.out.below hb)
      replace HV6 := Lib.hid (HV6.out.below hb)
      replace HV7 := Lib.hid (HV7.out.below hb)
      replace hB := hB.trans (hb.mono hB.size)
      clear hb
      go_wp2_with fail
      refine (equal_any _ _ _ _ _ _ HV6.out HV7.out).mono ?_
      rintro e w9 ⟨rfl, hb⟩
      replace cA0 := bc hb ltA cA0
      replace cA1 := bc hb ltA cA1
      replace cA2 := bc hb ltA cA2
      replace ltA := bl hb ltA
      replace cB0 := bc hb ltB cB0
      replace cB1 := bc hb ltB cB1
      replace cB2 := bc hb ltB cB2
      replace ltB := bl hb ltB
      replace cr0 := bc hb ltr cr0
      replace cr1 := bc hb ltr cr1
      replace cr2 := bc hb ltr cr2
      replace ltr := bl hb ltr
      replace cs0 := bc hb lts cs0
      replace cs1 := bc hb lts cs1
      replace cs2 := bc hb lts cs2
      replace lts := bl hb lts
      replace cu0 := bc hb ltu cu0
      replace cu1 := bc hb ltu cu1
      replace cu2 := bc hb ltu cu2
      replace ltu := bl hb ltu
      replace cv0 := bc hb ltv cv0
      replace cv1 := bc hb ltv cv1
      replace cv2 := bc hb ltv cv2
      replace ltv := bl hb ltv
      replace HI := Lib.hid (HI.out.below hb)
      replace HX := Lib.hid (HX.out.below hb)
      replace HP := Lib.hid (HP.out.below hb)
      replace HG := Lib.hid (HG.out.below hb)
      replace HV4 := Lib.hid (HV4.out.below hb)
      replace HV5 := Lib.hid (HV5.out.below hb)
      replace HV6 := Lib.hid (HV6.out.below hb)
      replace HV7 := Lib.hid (HV7.out.below hb)
      replace hB := hB.trans (hb.mono hB.size)
      clear hb
      go_wp2_with fail
      clear HV4 HV5 HV6 HV7
      clear cr0 cr1 cr2 ltr
      clear cs0 cs1 cs2 lts
      clear cu0 cu1 cu2 ltu
      clear cv0 cv1 cv2 ltv
      refine (emom_any f _ _ _ _ HI.out HF.out).mono ?_
      rintro e wa ⟨vm, vv, rfl, hv, hu, hsz, hsu, hb⟩
      replace cA0 := bc hb ltA cA0
      replace cA1 := bc hb ltA cA1
      replace cA2 := bc hb ltA cA2
      replace ltA := bl hb ltA
      replace cB0 := bc hb ltB cB0
      replace cB1 := bc hb ltB cB1
      replace cB2 := bc hb ltB cB2
      replace ltB := bl hb ltB
      replace HI := Lib.hid (HI.out.below hb)
      replace HX := Lib.hid (HX.out.below hb)
      replace HP := Lib.hid (HP.out.below hb)
      replace HG := Lib.hid (HG.out.below hb)
      replace hB := hB.trans (hb.mono hB.size)
      have HVm := Lib.hid (hv.mono (Nat.zero_le _))
      have HVn := Lib.hid (hu.mono (Nat.zero_le _))
      obtain ⟨pm', mm', qm', pm, mm, qm, rfl, -, -, -, -⟩ := hv
      obtain ⟨pn', mn', qn', pn, mn, qn, rfl, -, -, -, -⟩ := hu
      generalize decide ((meanR f).num < 0) = dm at *
      generalize decide ((varR f).num < 0) = dn at *
      clear hsz hsu
      clear hb
      go_wp2_with fail
      have hbx : Below wa.heap.size wa ((wa.alloc (.cells #[.bool dm, .slice pm' mm' qm', .slice pm mm qm] 33)).alloc (.cells #[.bool dn, .slice pn' mn' qn', .slice pn mn qn] 33)) := (((Below.refl _ _).alloc (Nat.le_refl _) _).alloc (by simp) _)
      generalize hWW : ((wa.alloc (.cells #[.bool dm, .slice pm' mm' qm', .slice pm mm qm] 33)).alloc (.cells #[.bool dn, .slice pn' mn' qn', .slice pn mn qn] 33)) = wa2 at *
      replace cA0 := bc hbx ltA cA0
      replace cA1 := bc hbx ltA cA1
      replace cA2 := bc hbx ltA cA2
      replace ltA := bl hbx ltA
      replace cB0 := bc hbx ltB cB0
      replace cB1 := bc hbx ltB cB1
      replace cB2 := bc hbx ltB cB2
      replace ltB := bl hbx ltB
      replace HI := Lib.hid (HI.out.below hbx)
      replace HX := Lib.hid (HX.out.below hbx)
      replace HP := Lib.hid (HP.out.below hbx)
      replace HG := Lib.hid (HG.out.below hbx)
      replace HVm := Lib.hid (HVm.out.below hbx)
      replace HVn := Lib.hid (HVn.out.below hbx)
      have cM0 : wa2.cell? ⟨wa.heap.size, 0, none⟩ = some (.bool dm) := by subst hWW; go_simp
      have cM1 : wa2.cell? ⟨wa.heap.size, 1, none⟩ = some (.slice pm' mm' qm') := by subst hWW; go_simp
      have cM2 : wa2.cell? ⟨wa.heap.size, 2, none⟩ = some (.slice pm mm qm) := by subst hWW; go_simp
      have ltM : wa.heap.size < wa2.heap.size := by subst hWW; simp <;> omega
      have cN0 : wa2.cell? ⟨wa.heap.size + 1, 0, none⟩ = some (.bool dn) := by subst hWW; go_simp
      have cN1 : wa2.cell? ⟨wa.heap.size + 1, 1, none⟩ = some (.slice pn' mn' qn') := by subst hWW; go_simp
      have cN2 : wa2.cell? ⟨wa.heap.size + 1, 2, none⟩ = some (.slice pn mn qn) := by subst hWW; go_simp
      have ltN : wa.heap.size + 1 < wa2.heap.size := by subst hWW; simp
      replace hB := hB.trans (hbx.mono hB.size)
      clear hbx hWW
      refine (emom_any (mulF ((by_ : Int) + 1) f) _ _ _ _ HG.out HFg.out).mono ?_
      rintro e wb ⟨vm2, vv2, rfl, hv, hu, hsz, hsu, hb⟩
      replace cA0 := bc hb ltA cA0
      replace cA1 := bc hb ltA cA1
      replace cA2 := bc hb ltA cA2
      replace ltA := bl hb ltA
      replace cB0 := bc hb ltB cB0
      replace cB1 := bc hb ltB cB1
      replace cB2 := bc hb ltB cB2
      replace ltB := bl hb ltB
      replace cM0 := bc hb ltM cM0
      replace cM1 := bc hb ltM cM1
      replace cM2 := bc hb ltM cM2
      replace ltM := bl hb ltM
      replace cN0 := bc hb ltN cN0
      replace cN1 := bc hb ltN cN1
      replace cN2 := bc hb ltN cN2
      replace ltN := bl hb ltN
      replace HI := Lib.hid (HI.out.below hb)
      replace HX := Lib.hid (HX.out.below hb)
      replace HP := Lib.hid (HP.out.below hb)
      replace HG := Lib.hid (HG.out.below hb)
      replace HVm := Lib.hid (HVm.out.below hb)
      replace HVn := Lib.hid (HVn.out.below hb)
      replace hB := hB.trans (hb.mono hB.size)
      rw [HMo.out.1] at hv hsz
      rw [HMo.out.2] at hu hsu
      have HVo1 := Lib.hid (hv.mono (Nat.zero_le _))
      have HVq1 := Lib.hid (hu.mono (Nat.zero_le _))
      obtain ⟨po1', mo1', qo1', po1, mo1, qo1, rfl, -, -, -, -⟩ := hv
      obtain ⟨pq1', mq1', qq1', pq1, mq1, qq1, rfl, -, -, -, -⟩ := hu
      generalize decide ((meanR f).num < 0) = do1 at *
      generalize decide ((varR f).num < 0) = dq1 at *
      clear hsz hsu
      clear hb
      go_wp2_with fail
      have hbx : Below wb.heap.size wb ((wb.alloc (.cells #[.bool do1, .slice po1' mo1' qo1', .slice po1 mo1 qo1] 33)).alloc (.cells #[.bool dq1, .slice pq1' mq1' qq1', .slice pq1 mq1 qq1] 33)) := (((Below.refl _ _).alloc (Nat.le_refl _) _).alloc (by simp) _)
      generalize hWW : ((wb.alloc (.cells #[.bool do1, .slice po1' mo1' qo1', .slice po1 mo1 qo1] 33)).alloc (.cells #[.bool dq1, .slice pq1' mq1' qq1', .slice pq1 mq1 qq1] 33)) = wb2 at *
      replace cA0 := bc hbx ltA cA0
      replace cA1 := bc hbx ltA cA1
      replace cA2 := bc hbx ltA cA2
      replace ltA := bl hbx ltA
      replace cB0 := bc hbx ltB cB0
      replace cB1 := bc hbx ltB cB1
      replace cB2 := bc hbx ltB cB2
      replace ltB := bl hbx ltB
      replace cM0 := bc hbx ltM cM0
      replace cM1 := bc hbx ltM cM1
      replace cM2 := bc hbx ltM cM2
      replace ltM := bl hbx ltM
      replace cN0 := bc hbx ltN cN0
      replace cN1 := bc hbx ltN cN1
      replace cN2 := bc hbx ltN cN2
      replace ltN := bl hbx ltN
      replace HI := Lib.hid (HI.out.below hbx)
      replace HX := Lib.hid (HX.out.below hbx)
      replace HP := Lib.hid (HP.out.below hbx)
      replace HG := Lib.hid (HG.out.below hbx)
      replace HVm := Lib.hid (HVm.out.below hbx)
      replace HVn := Lib.hid (HVn.out.below hbx)
      replace HVo1 := Lib.hid (HVo1.out.below hbx)
      replace HVq1 := Lib.hid (HVq1.out.below hbx)
      have cO0 : wb2.cell? ⟨wb.heap.size, 0, none⟩ = some (.bool do1) := by subst hWW; go_simp
      have cO1 : wb2.cell? ⟨wb.heap.size, 1, none⟩ = some (.slice po1' mo1' qo1') := by subst hWW; go_simp
      have cO2 : wb2.cell? ⟨wb.heap.size, 2, none⟩ = some (.slice po1 mo1 qo1) := by subst hWW; go_simp
      have ltO : wb.heap.size < wb2.heap.size := by subst hWW; simp <;> omega
      have cQ0 : wb2.cell? ⟨wb.heap.size + 1, 0, none⟩ = some (.bool dq1) := by subst hWW; go_simp
      have cQ1 : wb2.cell? ⟨wb.heap.size + 1, 1, none⟩ = some (.slice pq1' mq1' qq1') := by subst hWW; go_simp
      have cQ2 : wb2.cell? ⟨wb.heap.size + 1, 2, none⟩ = some (.slice pq1 mq1 qq1) := by subst hWW; go_simp
      have ltQ : wb.heap.size + 1 < wb2.heap.size := by subst hWW; simp
      replace hB := hB.trans (hbx.mono hB.size)
      clear hbx hWW
      refine (equal_any _ _ _ _ _ _ HVm.out HVo1.out).mono ?_
      rintro e wc ⟨rfl, hb⟩
      replace cA0 := bc hb ltA cA0
      replace cA1 := bc hb ltA cA1
      replace cA2 := bc hb ltA cA2
      replace ltA := bl hb ltA
      replace cB0 := bc hb ltB cB0
      replace cB1 := bc hb ltB cB1
      replace cB2 := bc hb ltB cB2
      replace ltB := bl hb ltB
      replace cM0 := bc hb ltM cM0
      replace cM1 := bc hb ltM cM1
      replace cM2 := bc hb ltM cM2
      replace ltM := bl hb ltM
      replace cN0 := bc hb ltN cN0
      replace cN1 := bc hb ltN cN1
      replace cN2 := bc hb ltN cN2
      replace ltN := bl hb ltN
      replace cO0 := bc hb ltO cO0
      replace cO1 := bc hb ltO cO1
      replace cO2 := bc hb ltO cO2
      replace ltO := bl hb ltO
      replace cQ0 := bc hb ltQ cQ0
      replace cQ1 := bc hb ltQ cQ1
      replace cQ2 := bc hb ltQ cQ2
      replace ltQ := bl hb ltQ
      replace HI := Lib.hid (HI.out.below hb)
      replace HX := Lib.hid (HX.out.below hb)
      replace HP := Lib.hid (HP.out.below hb)
      replace HG := Lib.hid (HG.out.below hb)
      replace HVm := Lib.hid (HVm.out.below hb)
      replace HVn := Lib.hid (HVn.out.below hb)
      replace HVo1 := Lib.hid (HVo1.out.below hb)
      replace HVq1 := Lib.hid (HVq1.out.below hb)
      replace hB := hB.trans (hb.mono hB.size)
      clear hb
      go_wp2_with fail
      refine (equal_any _ _ _ _ _ _ HVn.out HVq1.out).mono ?_
      rintro e wd ⟨rfl, hb⟩
      replace cA0 := bc hb ltA cA0
      replace cA1 := bc hb ltA cA1
      replace cA2 := bc hb ltA cA2
      replace ltA := bl hb ltA
      replace cB0 := bc hb ltB cB0
      replace cB1 := bc hb ltB cB1
      replace cB2 := bc hb ltB cB2
      replace ltB := bl hb ltB
      replace cM0 := bc hb ltM cM0
      replace cM1 := bc hb ltM cM1
      replace cM2 := bc hb ltM cM2
      replace ltM := bl hb ltM
      replace cN0 := bc hb ltN cN0
      replace cN1 := bc hb ltN cN1
      replace cN2 := bc hb ltN cN2
      replace ltN := bl hb ltN
      replace cO0 := bc hb ltO cO0
      replace cO1 := bc hb ltO cO1
      replace cO2 := bc hb ltO cO2
      replace ltO := bl hb ltO
      replace cQ0 := bc hb ltQ cQ0
      replace cQ1 := bc hb ltQ cQ1
      replace cQ2 := bc hb ltQ cQ2
      replace ltQ := bl hb ltQ
      replace HI := Lib.hid (HI.out.below hb)
      replace HX := Lib.hid (HX.out.below hb)
      replace HP := Lib.hid (HP.out.below hb)
      replace HG := Lib.hid (HG.out.below hb)
      replace HVm := Lib.hid (HVm.out.below hb)
      replace HVn := Lib.hid (HVn.out.below hb)
      replace HVo1 := Lib.hid (HVo1.out.below hb)
      replace HVq1 := Lib.hid (HVq1.out.below hb)
      replace hB := hB.trans (hb.mono hB.size)
      clear hb
      clear HVm HVn HVo1 HVq1
      have hba : Below wd.heap.size wd (wd.alloc (.cells #[.int .i64 0] 3)) := (Below.refl _ _).alloc (Nat.le_refl _) _
      have HOw := Lib.hid (owns_lit wd wd.heap.size 3 [.int .i64 0] (by simp [maxLen]) (Nat.le_refl _))
      have HNl := Lib.hid (show (([.int .i64 0] : List Value).length + len) * 8 ≤ 140737488355328 ∧ ([.int .i64 0] : List Value).length + len ≤ maxLen by simp only [List.length_singleton, maxLen]; omega)
      have HIa := Lib.hid (HI.out.below hba)
      have HLv := Lib.hid (show (ivs f).length = len by rw [ivs_length, HN.out])
      go_wp2_with (at_builtin; go_must (refine wpList_app rfl _ _ 22 rfl wd.heap.size 3 (.int .i64 0) 8 Try.underlying22 infoInt rfl (.slice (some ⟨wd.heap.size, 0, none⟩) 1 1) [.int .i64 0] rfl HOw.out _ len cap (ivs f) rfl HLv.out HIa.out.vals (ivs_one _) HNl.out.1 HNl.out.2 (by simp) fun v' wz h1 h2 => ?_))
      have hb := (h2.below (by simp) HOw.out.lt : Below wd.heap.size _ wz)
      replace hb : Below wd.heap.size wd wz := hba.trans hb
      obtain ⟨a3, n3, c3, rfl, hI⟩ := Owns.ints (xs := 0 :: f) (by simpa [ivs, iv] using h1)
      have hn3 : len + 1 = n3 := by have := hI.1; rw [List.length_cons, HN.out] at this; exact this
      have hna : n3 ≤ len + 1 := by omega
      have hnb : len + 1 ≤ n3 := by omega
      have HRd := Lib.hid hI
      clear h1 h2 hI hba HOw HIa hn3
      replace cA0 := bc hb ltA cA0
      replace cA1 := bc hb ltA cA1
      replace cA2 := bc hb ltA cA2
      replace ltA := bl hb ltA
      replace cB0 := bc hb ltB cB0
      replace cB1 := bc hb ltB cB1
      replace cB2 := bc hb ltB cB2
      replace ltB := bl hb ltB
      replace cM0 := bc hb ltM cM0
      replace cM1 := bc hb ltM cM1
      replace cM2 := bc hb ltM cM2
      replace ltM := bl hb ltM
      replace cN0 := bc hb ltN cN0
      replace cN1 := bc hb ltN cN1
      replace cN2 := bc hb ltN cN2
      replace ltN := bl hb ltN
      replace cO0 := bc hb ltO cO0
      replace cO1 := bc hb ltO cO1
      replace cO2 := bc hb ltO cO2
      replace ltO := bl hb ltO
      replace cQ0 := bc hb ltQ cQ0
      replace cQ1 := bc hb ltQ cQ1
      replace cQ2 := bc hb ltQ cQ2
      replace ltQ := bl hb ltQ
      replace HI := Lib.hid (HI.out.below hb)
      replace HX := Lib.hid (HX.out.below hb)
      replace HP := Lib.hid (HP.out.below hb)
      replace HG := Lib.hid (HG.out.below hb)
      replace hB := hB.trans (hb.mono hB.size)
      clear hb
      go_wp2_with fail
      refine (evalid_b (0 :: f) a3 n3 c3 _ HRd.out).mono ?_
      rintro e wv ⟨rfl, hb⟩
      replace cA0 := bc hb ltA cA0
      replace cA1 := bc hb ltA cA1
      replace cA2 := bc hb ltA cA2
      replace ltA := bl hb ltA
      replace cB0 := bc hb ltB cB0
      replace cB1 := bc hb ltB cB1
      replace cB2 := bc hb ltB cB2
      replace ltB := bl hb ltB
      replace cM0 := bc hb ltM cM0
      replace cM1 := bc hb ltM cM1
      replace cM2 := bc hb ltM cM2
      replace ltM := bl hb ltM
      replace cN0 := bc hb ltN cN0
      replace cN1 := bc hb ltN cN1
      replace cN2 := bc hb ltN cN2
      replace ltN := bl hb ltN
      replace cO0 := bc hb ltO cO0
      replace cO1 := bc hb ltO cO1
      replace cO2 := bc hb ltO cO2
      replace ltO := bl hb ltO
      replace cQ0 := bc hb ltQ cQ0
      replace cQ1 := bc hb ltQ cQ1
      replace cQ2 := bc hb ltQ cQ2
      replace ltQ := bl hb ltQ
      replace HI := Lib.hid (HI.out.below hb)
      replace HX := Lib.hid (HX.out.below hb)
      replace HP := Lib.hid (HP.out.below hb)
      replace HG := Lib.hid (HG.out.below hb)
      replace HRd := Lib.hid (HRd.out.below hb)
      replace hB := hB.trans (hb.mono hB.size)
      rw [HRv.out]
      clear hb
      go_wp2_with fail
      refine (etable_v (0 :: f) f a3 n3 c3 a len cap _ HRd.out HI.out HFr.out HF.out).mono ?_
      rintro e wt ⟨at', ct', rfl, ht, hb⟩
      replace cA0 := bc hb ltA cA0
      replace cA1 := bc hb ltA cA1
      replace cA2 := bc hb ltA cA2
      replace ltA := bl hb ltA
      replace cB0 := bc hb ltB cB0
      replace cB1 := bc hb ltB cB1
      replace cB2 := bc hb ltB cB2
      replace ltB := bl hb ltB
      replace cM0 := bc hb ltM cM0
      replace cM1 := bc hb ltM cM1
      replace cM2 := bc hb ltM cM2
      replace ltM := bl hb ltM
      replace cN0 := bc hb ltN cN0
      replace cN1 := bc hb ltN cN1
      replace cN2 := bc hb ltN cN2
      replace ltN := bl hb ltN
      replace cO0 := bc hb ltO cO0
      replace cO1 := bc hb ltO cO1
      replace cO2 := bc hb ltO cO2
      replace ltO := bl hb ltO
      replace cQ0 := bc hb ltQ cQ0
      replace cQ1 := bc hb ltQ cQ1
      replace cQ2 := bc hb ltQ cQ2
      replace ltQ := bl hb ltQ
      replace HI := Lib.hid (HI.out.below hb)
      replace HX := Lib.hid (HX.out.below hb)
      replace HP := Lib.hid (HP.out.below hb)
      replace HG := Lib.hid (HG.out.below hb)
      replace HRd := Lib.hid (HRd.out.below hb)
      replace hB := hB.trans (hb.mono hB.size)
      have HT := Lib.hid ht
      clear ht
      clear hb
      go_wp2_with fail
      have HBt := Lib.hid hB
      go_loopw [153] (fun i wr => ∃ k : Nat, k ≤ len ∧ i = .int .i64 k ∧ Hid (Below wt.heap.size wt wr)) (fun i _ => len - (intOf i).toNat)
      case atStart => exact ⟨0, by omega, rfl, Lib.hid (Below.refl _ _)⟩
      case round =>
        generalize wr = wq at *
        obtain ⟨k, hk, rfl, HBq⟩ := hrel
        by_cases hlt : k < len
        · obtain ⟨j, hj⟩ : ∃ j, k + 1 = j := ⟨_, rfl⟩
          have hjn : j < n3 := by omega
          obtain ⟨b1, o1, rfl, hb1, hc1⟩ := HT.out.at hjn
          obtain ⟨d, x', l', p', xx, l, pp, e0, e1, e2, hX, -⟩ := (hc1 j hjn).below hb1 HBq.out
          obtain ⟨bf, of, rfl, hbf, hcf⟩ := HI.out.2.at hlt
          have ec := hcf k hlt _ HBq.out
          have HX1 := Lib.hid hX
          have HK2 := Lib.hid (HSc.out k (by rw [HN.out]; exact hlt))
          have HTl : Hid ((tableL (0 :: f) f).getD j 0 = scoreR (0 :: f) f (k + 1)) := Lib.hid (by rw [← hj]; exact tableL_at (0 :: f) f (k := k + 1) (by rw [List.length_cons, HN.out]; omega))
          rw [HTl.out] at HX1
          have hfl : bf < wq.heap.size := Nat.lt_of_lt_of_le hbf HBq.out.size
          have hbl : b1 < wq.heap.size := Nat.lt_of_lt_of_le hb1 HBq.out.size
          generalize f.getD k 0 = fk at *
          generalize scoreR (0 :: f) f (k + 1) = tk at *
          have X0 := box_ext (B := wq.heap.size) e0 hbl
          have X1 := box_ext (B := wq.heap.size) e1 hbl
          have X2 := box_ext (B := wq.heap.size) e2 hbl
          have hw : IntKind.i64.wrap ((k : Int) + 1) = (j : Int) := by rw [IntWalk.i64_in _ (by omega)]; omega
          clear hj
          clear hc1 hcf hX e0 e1 e2 HTl
          have hbd : Below wq.heap.size wq wq.drew := (Below.refl _ _).drew
          by_cases hf0 : 0 < fk
          · have d0 : decide (0 < fk) = true := by simpa using hf0
            have HTk := Lib.hid (HK2.out hf0)
            have HDv := Lib.hid (show Rat.divInt (k : Int) 1 = (k : Rat) by rw [rat_whole, Rat.intCast_natCast])
            go_wp2_with fail
            refine wp_region_sched [(0, false), (1, false), (2, false), (3, false), (4, false), (5, false), (6, false), (7, false), (8, false), (9, true), (10, true), (11, false), (12, false)] (fun w' => ∃ W : Ext wq.heap.size wq, w' = W.1) (by kernel_rfl) (by kernel_rfl) ⟨⟨wq.drew, (Below.refl _ _).drew⟩, rfl⟩ ?_
            repeat (refine wpSched_calm rfl (fun K hK => ?_); go_simp; refine hK _ ?_; clear hK K)
            clear ec X0 X1 X2 hw
            refine wpSched_geff rfl ?_ (fun K hK => ?_)
            · go_simp
            go_simp
            refine (part_any (k : Int) 1 _ (by omega) (by omega) (by omega) (by omega) (by omega)).mono ?_
            rintro e w5 ⟨v5, rfl, hv, hsz, hb⟩
            rw [HDv.out] at hv
            have hM := hbd.trans (hb.mono hbd.size)
            have HV := Lib.hid hv
            refine hK _ _ ⟨⟨w5, hM⟩, rfl⟩ ?_
            clear hK K hb hv hsz
            refine wpSched_geff rfl ?_ (fun K hK => ?_)
            · go_simp
            go_simp
            refine (equal_any _ _ tk _ _ _ (HX1.out.below hM) (by rw [HTk.out]; exact HV.out)).mono ?_
            rintro e w6 ⟨rfl, hb⟩
            have hM6 := hM.trans (hb.mono hM.size)
            have HBq6 := Lib.hid (HBq.out.trans (hM6.mono HBq.out.size))
            refine hK _ _ ⟨⟨w6, hM6⟩, rfl⟩ ?_
            clear hK K hb hM hbd
            repeat (refine wpSched_calm rfl (fun K hK => ?_); go_simp; refine hK _ ?_; clear hK K)
            refine wpSched_nil ?_
            go_wp2_with fail
            go_roundw
            case rel => exact ⟨k + 1, by omega, by go_num, HBq6⟩
            case measure => simp [intOf]; omega
          · have d0 : decide (0 < fk) = false := by simpa using hf0
            go_wp2_with fail
            refine wp_region_sched [(0, false), (1, false), (2, false), (3, false), (4, false), (5, false), (6, false), (7, false), (8, false), (9, true), (10, true), (11, false), (12, false)] (fun w' => ∃ W : Ext wq.heap.size wq, w' = W.1) (by kernel_rfl) (by kernel_rfl) ⟨⟨wq.drew, (Below.refl _ _).drew⟩, rfl⟩ ?_
            repeat (refine wpSched_calm rfl (fun K hK => ?_); go_simp; refine hK _ ?_; clear hK K)
            clear ec X0 X1 X2 hw
            have HBq6 := Lib.hid (HBq.out.trans (hbd.mono HBq.out.size))
            refine wpSched_skip rfl ?_ ⟨⟨_, hbd⟩, rfl⟩ ?_
            · go_simp
            go_simp
            refine wpSched_skip rfl ?_ ⟨⟨_, hbd⟩, rfl⟩ ?_
            · go_simp
            go_simp
            repeat (refine wpSched_calm rfl (fun K hK => ?_); go_simp; refine hK _ ?_; clear hK K)
            refine wpSched_nil ?_
            clear hbd
            go_wp2_with fail
            go_roundw
            case rel => exact ⟨k + 1, by omega, by go_num, HBq6⟩
            case measure => simp [intOf]; omega
        · go_wp2_with fail
          refine (awake_any wq).mono ?_
          rintro e w9 ⟨rfl, hb⟩
          have HB9 := Lib.hid (HBt.out.trans ((HBq.out.trans (hb.mono HBq.out.size)).mono HBt.out.size))
          clear hb
          go_wp2_with fail
          go_ret
          exact ⟨rfl, HB9.out⟩
set_option maxHeartbeats 8000000 in
theorem props_on (f : List Int) (a : Option Addr) (len cap : Nat) (vx vp : Value) (x p : Rat) (by_ : Nat) (L : Nat) (w : World) (hI : Ints w a len cap f) (hx : RatV w vx x L) (hp : RatV w vp p L) (hb255 : by_ < 256) (hL : 1 ≤ L) (hm : (2 * L + 200) * 4 ≤ 140737488355328) (hO : OkF f) (hG : eqE (mulF ((by_ : Int) + 1) f) = 0) (hpo : ¬ (0 ≤ p ∧ p ≤ 1)) (hR : eqE (0 :: f) ≠ 0) :
    Calls Try.prog 5 #[.slice a len cap, vx, vp, .int .u8 (by_ : Int)] w fun e w' => e = .returned (.bool true) ∧ Below w.heap.size w w' := by
  have HI := Lib.hid hI
  have HX := Lib.hid hx
  have HP := Lib.hid hp
  have HN := Lib.hid hI.1
  obtain ⟨negx, ax', lenx', capx', ax, lenx, capx, rfl, -, -⟩ := hx.form
  obtain ⟨negp, ap', lenp', capp', ap, lenp, capp, rfl, -, -⟩ := hp.form
  clear hI hx hp
  have HO := Lib.hid (eqE_OkF.2 hO)
  have HF := Lib.hid hO
  have h61 : len ≤ 61 := by rw [← HN.out]; exact hO.1
  have HAt := Lib.hid (preS_at hO.2.1 hO.1)
  have HGv := Lib.hid hG
  have HFg := Lib.hid (eqE_OkF.1 hG)
  have HRk := Lib.hid (mul_rank (f := f) (c := (by_ : Int) + 1) (by omega) x)
  have HMo := Lib.hid (mulF_mom (c := (by_ : Int) + 1) (by omega) hO.pos)
  have HPo := Lib.hid hpo
  clear hpo
  have HL61 := Lib.hid (rise_long hO hR)
  have hzr : (eqE (0 :: f) != 0) = true := by simpa using hR
  generalize her : eqE (0 :: f) = er at hzr
  have HRv := Lib.hid her
  clear her
  clear hO hG hR
  go_enter Try.func5, Try.ntmps5
  go_wp2_with fail
  have hbx : Below w.heap.size w ((w.alloc (.cells #[.bool negx, .slice ax' lenx' capx', .slice ax lenx capx] 33)).alloc (.cells #[.bool negp, .slice ap' lenp' capp', .slice ap lenp capp] 33)) := (((Below.refl _ _).alloc (Nat.le_refl _) _).alloc (by simp) _)
  generalize hWW : ((w.alloc (.cells #[.bool negx, .slice ax' lenx' capx', .slice ax lenx capx] 33)).alloc (.cells #[.bool negp, .slice ap' lenp' capp', .slice ap lenp capp] 33)) = w0 at *
  replace HI := Lib.hid (HI.out.below hbx)
  replace HX := Lib.hid (HX.out.below hbx)
  replace HP := Lib.hid (HP.out.below hbx)
  have cA0 : w0.cell? ⟨w.heap.size, 0, none⟩ = some (.bool negx) := by subst hWW; go_simp
  have cA1 : w0.cell? ⟨w.heap.size, 1, none⟩ = some (.slice ax' lenx' capx') := by subst hWW; go_simp
  have cA2 : w0.cell? ⟨w.heap.size, 2, none⟩ = some (.slice ax lenx capx) := by subst hWW; go_simp
  have ltA : w.heap.size < w0.heap.size := by subst hWW; simp <;> omega
  have cB0 : w0.cell? ⟨w.heap.size + 1, 0, none⟩ = some (.bool negp) := by subst hWW; go_simp
  have cB1 : w0.cell? ⟨w.heap.size + 1, 1, none⟩ = some (.slice ap' lenp' capp') := by subst hWW; go_simp
  have cB2 : w0.cell? ⟨w.heap.size + 1, 2, none⟩ = some (.slice ap lenp capp) := by subst hWW; go_simp
  have ltB : w.heap.size + 1 < w0.heap.size := by subst hWW; simp
  have hB := hbx
  clear hbx hWW
  refine (evalid_b f a len cap _ HI.out).mono ?_
  rintro e w1 ⟨rfl, hb⟩
  replace cA0 := bc hb ltA cA0
  replace cA1 := bc hb ltA cA1
  replace cA2 := bc hb ltA cA2
  replace ltA := bl hb ltA
  replace cB0 := bc hb ltB cB0
  replace cB1 := bc hb ltB cB1
  replace cB2 := bc hb ltB cB2
  replace ltB := bl hb ltB
  replace HI := Lib.hid (HI.out.below hb)
  replace HX := Lib.hid (HX.out.below hb)
  replace HP := Lib.hid (HP.out.below hb)
  replace hB := hB.trans (hb.mono hB.size)
  rw [HO.out]
  clear hb
  go_wp2_with fail
  go_loopw [9, 37] (fun u i wr => ∃ k : Nat, k ≤ len ∧ i = .int .i64 k ∧ Hid (Owns wr w1.heap.size 3 u (ivs (mulF ((by_ : Int) + 1) (f.take k)))) ∧ Hid (Below w1.heap.size w1 wr)) (fun _ i _ => len - (intOf i).toNat)
  case atStart => exact ⟨0, by omega, rfl, Lib.hid (by simpa [mulF, ivs] using Owns.nil _ _ _), Lib.hid (Below.refl _ _)⟩
  case round =>
    obtain ⟨k, hk, rfl, HOk, HBk⟩ := hrel
    by_cases hlt : k < len
    · obtain ⟨bb, off, rfl, hbs, hcc⟩ := HI.out.2.at hlt
      have ec := hcc k hlt _ HBk.out
      obtain ⟨-, -, p1, p2⟩ := HAt.out k
      have HSn := Lib.hid (mulF_snoc ((by_ : Int) + 1) f k (by rw [HN.out]; exact hlt))
      have HNl := Lib.hid (show ((ivs (mulF ((by_ : Int) + 1) (f.take k))).length + 1) * 8 ≤ 140737488355328 ∧ (ivs (mulF ((by_ : Int) + 1) (f.take k))).length + 1 ≤ maxLen by
        rw [ivs_length, mulF_len, List.length_take]; simp only [maxLen]; omega)
      generalize f.getD k 0 = fk at *
      have hm1 : 0 ≤ fk * ((by_ : Int) + 1) := Int.mul_nonneg p1 (by omega)
      have hm2 : fk * ((by_ : Int) + 1) ≤ 1000000 * 256 := Int.mul_le_mul p2 (by omega) (by omega) (by omega)
      have hsz2 := HBk.out.size
      have hba : Below wr.heap.size wr (wr.alloc (.cells #[.int .i64 (fk * ((by_ : Int) + 1))] 3)) := (Below.refl _ _).alloc (Nat.le_refl _) _
      have HBa := Lib.hid (HBk.out.trans (hba.mono HBk.out.size))
      have HLt := Lib.hid HOk.out.lt
      clear hcc hba HAt
      generalize mulF ((by_ : Int) + 1) (f.take k) = cur at *
      go_wp2_with (at_builtin; go_must (refine wpList_app1 rfl _ _ 22 rfl w1.heap.size 3 (.int .i64 0) 8 Try.underlying22 infoInt rfl u9 (ivs cur) rfl (.int .i64 (fk * ((by_ : Int) + 1))) rfl HOk.out rfl HNl.out.1 HNl.out.2 hsz2 fun v' w' h1 h2 => ?_))
      have hbm := HBk.out.trans (h2.below hsz2 HLt.out)
      have HBm := Lib.hid hbm
      have HO3 := Lib.hid (show Owns w' w1.heap.size 3 v' (ivs (mulF ((by_ : Int) + 1) (f.take (k + 1)))) by rw [HSn.out, ivs_append]; exact h1)
      clear h1 h2 hbm
      go_wp2_with fail
      go_roundw
      case rel => exact ⟨k + 1, by omega, by go_num, HO3, HBm⟩
      case measure => simp [intOf]; omega
    · obtain ⟨a2, n2, c2, rfl, hI⟩ := HOk.out.ints
      rw [List.take_of_length_le (by rw [HN.out]; omega)] at hI
      obtain rfl : len = n2 := by have := hI.1; rw [mulF_len, HN.out] at this; exact this
      have HG := Lib.hid hI
      have hb := HBk.out
      clear HOk hI HBk
      replace cA0 := bc hb ltA cA0
      replace cA1 := bc hb ltA cA1
      replace cA2 := bc hb ltA cA2
      replace ltA := bl hb ltA
      replace cB0 := bc hb ltB cB0
      replace cB1 := bc hb ltB cB1
      replace cB2 := bc hb ltB cB2
      replace ltB := bl hb ltB
      replace HI := Lib.hid (HI.out.below hb)
      replace HX := Lib.hid (HX.out.below hb)
      replace HP := Lib.hid (HP.out.below hb)
      replace hB := hB.trans (hb.mono hB.size)
      clear hb
      go_wp2_with fail
      refine (evalid_b _ _ _ _ _ HG.out).mono ?_
      rintro e w3 ⟨rfl, hb⟩
      replace cA0 := bc hb ltA cA0
      replace cA1 := bc hb ltA cA1
      replace cA2 := bc hb ltA cA2
      replace ltA := bl hb ltA
      replace cB0 := bc hb ltB cB0
      replace cB1 := bc hb ltB cB1
      replace cB2 := bc hb ltB cB2
      replace ltB := bl hb ltB
      replace HI := Lib.hid (HI.out.below hb)
      replace HX := Lib.hid (HX.out.below hb)
      replace HP := Lib.hid (HP.out.below hb)
      replace HG := Lib.hid (HG.out.below hb)
      replace hB := hB.trans (hb.mono hB.size)
      rw [HGv.out]
      clear hb
      go_wp2_with fail
      refine (erank_any f _ _ _ _ x L _ HI.out HX.out hL (by omega) HF.out).mono ?_
      rintro e w4 ⟨v4, rfl, hv, hsz, hb⟩
      replace cA0 := bc hb ltA cA0
      replace cA1 := bc hb ltA cA1
      replace cA2 := bc hb ltA cA2
      replace ltA := bl hb ltA
      replace cB0 := bc hb ltB cB0
      replace cB1 := bc hb ltB cB1
      replace cB2 := bc hb ltB cB2
      replace ltB := bl hb ltB
      replace HI := Lib.hid (HI.out.below hb)
      replace HX := Lib.hid (HX.out.below hb)
      replace HP := Lib.hid (HP.out.below hb)
      replace HG := Lib.hid (HG.out.below hb)
      replace hB := hB.trans (hb.mono hB.size)
      have HZ4 := Lib.hid hsz
      have HV4 := Lib.hid (hv.mono (Nat.zero_le _))
      obtain ⟨p4', m4', q4', p4, m4, q4, rfl, -, -, -, -⟩ := hv
      generalize decide ((rankR f x : Rat).num < 0) = d4 at *
      clear hsz
      clear hb
      go_wp2_with fail
      have hbx : Below w4.heap.size w4 (w4.alloc (.cells #[.bool d4, .slice p4' m4' q4', .slice p4 m4 q4] 33)) := ((Below.refl _ _).alloc (Nat.le_refl _) _)
      generalize hWW : (w4.alloc (.cells #[.bool d4, .slice p4' m4' q4', .slice p4 m4 q4] 33)) = w4a at *
      replace cA0 := bc hbx ltA cA0
      replace cA1 := bc hbx ltA cA1
      replace cA2 := bc hbx ltA cA2
      replace ltA := bl hbx ltA
      replace cB0 := bc hbx ltB cB0
      replace cB1 := bc hbx ltB cB1
      replace cB2 := bc hbx ltB cB2
      replace ltB := bl hbx ltB
      replace HI := Lib.hid (HI.out.below hbx)
      replace HX := Lib.hid (HX.out.below hbx)
      replace HP := Lib.hid (HP.out.below hbx)
      replace HG := Lib.hid (HG.out.below hbx)
      replace HV4 := Lib.hid (HV4.out.below hbx)
      have cr0 : w4a.cell? ⟨w4.heap.size, 0, none⟩ = some (.bool d4) := by subst hWW; go_simp
      have cr1 : w4a.cell? ⟨w4.heap.size, 1, none⟩ = some (.slice p4' m4' q4') := by subst hWW; go_simp
      have cr2 : w4a.cell? ⟨w4.heap.size, 2, none⟩ = some (.slice p4 m4 q4) := by subst hWW; go_simp
      have ltr : w4.heap.size < w4a.heap.size := by subst hWW; simp
      replace hB := hB.trans (hbx.mono hB.size)
      clear hbx hWW
      refine (erank_any (mulF ((by_ : Int) + 1) f) _ _ _ _ x L _ HG.out HX.out hL (by omega) HFg.out).mono ?_
      rintro e w5 ⟨v5, rfl, hv, hsz, hb⟩
      replace cA0 := bc hb ltA cA0
      replace cA1 := bc hb ltA cA1
      replace cA2 := bc hb ltA cA2
      replace ltA := bl hb ltA
      replace cB0 := bc hb ltB cB0
      replace cB1 := bc hb ltB cB1
      replace cB2 := bc hb ltB cB2
      replace ltB := bl hb ltB
      replace cr0 := bc hb ltr cr0
      replace cr1 := bc hb ltr cr1
      replace cr2 := bc hb ltr cr2
      replace ltr := bl hb ltr
      replace HI := Lib.hid (HI.out.below hb)
      replace HX := Lib.hid (HX.out.below hb)
      replace HP := Lib.hid (HP.out.below hb)
      replace HG := Lib.hid (HG.out.below hb)
      replace HV4 := Lib.hid (HV4.out.below hb)
      replace hB := hB.trans (hb.mono hB.size)
      rw [HRk.out] at hv hsz
      have HZ5 := Lib.hid hsz
      have HV5 := Lib.hid (hv.mono (Nat.zero_le _))
      obtain ⟨p5', m5', q5', p5, m5, q5, rfl, -, -, -, -⟩ := hv
      generalize decide ((rankR f x : Rat).num < 0) = d5 at *
      clear hsz
      clear hb
      go_wp2_with fail
      have hbx : Below w5.heap.size w5 (w5.alloc (.cells #[.bool d5, .slice p5' m5' q5', .slice p5 m5 q5] 33)) := ((Below.refl _ _).alloc (Nat.le_refl _) _)
      generalize hWW : (w5.alloc (.cells #[.bool d5, .slice p5' m5' q5', .slice p5 m5 q5] 33)) = w5a at *
      replace cA0 := bc hbx ltA cA0
      replace cA1 := bc hbx ltA cA1
      replace cA2 := bc hbx ltA cA2
      replace ltA := bl hbx ltA
      replace cB0 := bc hbx ltB cB0
      replace cB1 := bc hbx ltB cB1
      replace cB2 := bc hbx ltB cB2
      replace ltB := bl hbx ltB
      replace cr0 := bc hbx ltr cr0
      replace cr1 := bc hbx ltr cr1
      replace cr2 := bc hbx ltr cr2
      replace ltr := bl hbx ltr
      replace HI := Lib.hid (HI.out.below hbx)
      replace HX := Lib.hid (HX.out.below hbx)
      replace HP := Lib.hid (HP.out.below hbx)
      replace HG := Lib.hid (HG.out.below hbx)
      replace HV4 := Lib.hid (HV4.out.below hbx)
      replace HV5 := Lib.hid (HV5.out.below hbx)
      have cs0 : w5a.cell? ⟨w5.heap.size, 0, none⟩ = some (.bool d5) := by subst hWW; go_simp
      have cs1 : w5a.cell? ⟨w5.heap.size, 1, none⟩ = some (.slice p5' m5' q5') := by subst hWW; go_simp
      have cs2 : w5a.cell? ⟨w5.heap.size, 2, none⟩ = some (.slice p5 m5 q5) := by subst hWW; go_simp
      have lts : w5.heap.size < w5a.heap.size := by subst hWW; simp
      replace hB := hB.trans (hbx.mono hB.size)
      clear hbx hWW
      refine (einv_out f _ _ _ _ p L _ HI.out HP.out hL (by omega) HF.out HPo.out).mono ?_
      rintro e w6 ⟨v6, rfl, hv, hb⟩
      replace cA0 := bc hb ltA cA0
      replace cA1 := bc hb ltA cA1
      replace cA2 := bc hb ltA cA2
      replace ltA := bl hb ltA
      replace cB0 := bc hb ltB cB0
      replace cB1 := bc hb ltB cB1
      replace cB2 := bc hb ltB cB2
      replace ltB := bl hb ltB
      replace cr0 := bc hb ltr cr0
      replace cr1 := bc hb ltr cr1
      replace cr2 := bc hb ltr cr2
      replace ltr := bl hb ltr
      replace cs0 := bc hb lts cs0
      replace cs1 := bc hb lts cs1
      replace cs2 := bc hb lts cs2
      replace lts := bl hb lts
      replace HI := Lib.hid (HI.out.below hb)
      replace HX := Lib.hid (HX.out.below hb)
      replace HP := Lib.hid (HP.out.below hb)
      replace HG := Lib.hid (HG.out.below hb)
      replace HV4 := Lib.hid (HV4.out.below hb)
      replace HV5 := Lib.hid (HV5.out.below hb)
      replace hB := hB.trans (hb.mono hB.size)
      have HV6 := Lib.hid (hv.mono (Nat.zero_le _))
      obtain ⟨p6', m6', q6', p6, m6, q6, rfl, -, -, -, -⟩ := hv
      generalize decide ((0 : Rat).num < 0) = d6 at *
      clear hb
      go_wp2_with fail
      have hbx : Below w6.heap.size w6 (w6.alloc (.cells #[.bool d6, .slice p6' m6' q6', .slice p6 m6 q6] 33)) := ((Below.refl _ _).alloc (Nat.le_refl _) _)
      generalize hWW : (w6.alloc (.cells #[.bool d6, .slice p6' m6' q6', .slice p6 m6 q6] 33)) = w6a at *
      replace cA0 := bc hbx ltA cA0
      replace cA1 := bc hbx ltA cA1
      replace cA2 := bc hbx ltA cA2
      replace ltA := bl hbx ltA
      replace cB0 := bc hbx ltB cB0
      replace cB1 := bc hbx ltB cB1
      replace cB2 := bc hbx ltB cB2
      replace ltB := bl hbx ltB
      replace cr0 := bc hbx ltr cr0
      replace cr1 := bc hbx ltr cr1
      replace cr2 := bc hbx ltr cr2
      replace ltr := bl hbx ltr
      replace cs0 := bc hbx lts cs0
      replace cs1 := bc hbx lts cs1
      replace cs2 := bc hbx lts cs2
      replace lts := bl hbx lts
      replace HI := Lib.hid (HI.out.below hbx)
      replace HX := Lib.hid (HX.out.below hbx)
      replace HP := Lib.hid (HP.out.below hbx)
      replace HG := Lib.hid (HG.out.below hbx)
      replace HV4 := Lib.hid (HV4.out.below hbx)
      replace HV5 := Lib.hid (HV5.out.below hbx)
      replace HV6 := Lib.hid (HV6.out.below hbx)
      have cu0 : w6a.cell? ⟨w6.heap.size, 0, none⟩ = some (.bool d6) := by subst hWW; go_simp
      have cu1 : w6a.cell? ⟨w6.heap.size, 1, none⟩ = some (.slice p6' m6' q6') := by subst hWW; go_simp
      have cu2 : w6a.cell? ⟨w6.heap.size, 2, none⟩ = some (.slice p6 m6 q6) := by subst hWW; go_simp
      have ltu : w6.heap.size < w6a.heap.size := by subst hWW; simp
      replace hB := hB.trans (hbx.mono hB.size)
      clear hbx hWW
      refine (einv_out (mulF ((by_ : Int) + 1) f) _ _ _ _ p L _ HG.out HP.out hL (by omega) HFg.out HPo.out).mono ?_
      rintro e w7 ⟨v7, rfl, hv, hb⟩
      replace cA0 := bc hb ltA cA0
      replace cA1 := bc hb ltA cA1
      replace cA2 := bc hb ltA cA2
      replace ltA := bl hb ltA
      replace cB0 := bc hb ltB cB0
      replace cB1 := bc hb ltB cB1
      replace cB2 := bc hb ltB cB2
      replace ltB := bl hb ltB
      replace cr0 := bc hb ltr cr0
      replace cr1 := bc hb ltr cr1
      replace cr2 := bc hb ltr cr2
      replace ltr := bl hb ltr
      replace cs0 := bc hb lts cs0
      replace cs1 := bc hb lts cs1
      replace cs2 := bc hb lts cs2
      replace lts := bl hb lts
      replace cu0 := bc hb ltu cu0
      replace cu1 := bc hb ltu cu1
      replace cu2 := bc hb ltu cu2
      replace ltu := bl hb ltu
      replace HI := Lib.hid (HI.out.below hb)
      replace HX := Lib.hid (HX.out.below hb)
      replace HP := Lib.hid (HP.out.below hb)
      replace HG := Lib.hid (HG.out.below hb)
      replace HV4 := Lib.hid (HV4.out.below hb)
      replace HV5 := Lib.hid (HV5.out.below hb)
      replace HV6 := Lib.hid (HV6.out.below hb)
      replace hB := hB.trans (hb.mono hB.size)
      have HV7 := Lib.hid (hv.mono (Nat.zero_le _))
      obtain ⟨p7', m7', q7', p7, m7, q7, rfl, -, -, -, -⟩ := hv
      generalize decide ((0 : Rat).num < 0) = d7 at *
      clear hb
      go_wp2_with fail
      have hbx : Below w7.heap.size w7 (w7.alloc (.cells #[.bool d7, .slice p7' m7' q7', .slice p7 m7 q7] 33)) := ((Below.refl _ _).alloc (Nat.le_refl _) _)
      generalize hWW : (w7.alloc (.cells #[.bool d7, .slice p7' m7' q7', .slice p7 m7 q7] 33)) = w7a at *
      replace cA0 := bc hbx ltA cA0
      replace cA1 := bc hbx ltA cA1
      replace cA2 := bc hbx ltA cA2
      replace ltA := bl hbx ltA
      replace cB0 := bc hbx ltB cB0
      replace cB1 := bc hbx ltB cB1
      replace cB2 := bc hbx ltB cB2
      replace ltB := bl hbx ltB
      replace cr0 := bc hbx ltr cr0
      replace cr1 := bc hbx ltr cr1
      replace cr2 := bc hbx ltr cr2
      replace ltr := bl hbx ltr
      replace cs0 := bc hbx lts cs0
      replace cs1 := bc hbx lts cs1
      replace cs2 := bc hbx lts cs2
      replace lts := bl hbx lts
      replace cu0 := bc hbx ltu cu0
      replace cu1 := bc hbx ltu cu1
      replace cu2 := bc hbx ltu cu2
      replace ltu := bl hbx ltu
      replace HI := Lib.hid (HI.out.below hbx)
      replace HX := Lib.hid (HX.out.below hbx)
      replace HP := Lib.hid (HP.out.below hbx)
      replace HG := Lib.hid (HG.out.below hbx)
      replace HV4 := Lib.hid (HV4.out.below hbx)
      replace HV5 := Lib.hid (HV5.out.below hbx)
      replace HV6 := Lib.hid (HV6.out.below hbx)
      replace HV7 := Lib.hid (HV7.out.below hbx)
      have cv0 : w7a.cell? ⟨w7.heap.size, 0, none⟩ = some (.bool d7) := by subst hWW; go_simp
      have cv1 : w7a.cell? ⟨w7.heap.size, 1, none⟩ = some (.slice p7' m7' q7') := by subst hWW; go_simp
      have cv2 : w7a.cell? ⟨w7.heap.size, 2, none⟩ = some (.slice p7 m7 q7) := by subst hWW; go_simp
      have ltv : w7.heap.size < w7a.heap.size := by subst hWW; simp
      replace hB := hB.trans (hbx.mono hB.size)
      clear hbx hWW
      refine (equal_any _ _ _ _ _ _ HV4.out HV5.out).mono ?_
      rintro e w8 ⟨rfl, hb⟩
      replace cA0 := bc hb ltA cA0
      replace cA1 := bc hb ltA cA1
      replace cA2 := bc hb ltA cA2
      replace ltA := bl hb ltA
      replace cB0 := bc hb ltB cB0
      replace cB1 := bc hb ltB cB1
      replace cB2 := bc hb ltB cB2
      replace ltB := bl hb ltB
      replace cr0 := bc hb ltr cr0
      replace cr1 := bc hb ltr cr1
      replace cr2 := bc hb ltr cr2
      replace ltr := bl hb ltr
      replace cs0 := bc hb lts cs0
      replace cs1 := bc hb lts cs1
      replace cs2 := bc hb lts cs2
      replace lts := bl hb lts
      replace cu0 := bc hb ltu cu0
      replace cu1 := bc hb ltu cu1
      replace cu2 := bc hb ltu cu2
      replace ltu := bl hb ltu
      replace cv0 := bc hb ltv cv0
      replace cv1 := bc hb ltv cv1
      replace cv2 := bc hb ltv cv2
      replace ltv := bl hb ltv
      replace HI := Lib.hid (HI.out.below hb)
      replace HX := Lib.hid (HX.out.below hb)
      replace HP := Lib.hid (HP.out.below hb)
      replace HG := Lib.hid (HG.out.below hb)
      replace HV4 := Lib.hid (HV4.out.below hb)
      replace HV5 := Lib.hid (HV5.out.below hb)
      replace HV6 := Lib.hid (HV6.out.below hb)
      replace HV7 := Lib.hid (HV7.out.below hb)
      replace hB := hB.trans (hb.mono hB.size)
      clear hb
      go_wp2_with fail
      refine (equal_any _ _ _ _ _ _ HV6.out HV7.out).mono ?_
      rintro e w9 ⟨rfl, hb⟩
      replace cA0 := bc hb ltA cA0
      replace cA1 := bc hb ltA cA1
      replace cA2 := bc hb ltA cA2
      replace ltA := bl hb ltA
      replace cB0 := bc hb ltB cB0
      replace cB1 := bc hb ltB cB1
      replace cB2 := bc hb ltB cB2
      replace ltB := bl hb ltB
      replace cr0 := bc hb ltr cr0
      replace cr1 := bc hb ltr cr1
      replace cr2 := bc hb ltr cr2
      replace ltr := bl hb ltr
      replace cs0 := bc hb lts cs0
      replace cs1 := bc hb lts cs1
      replace cs2 := bc hb lts cs2
      replace lts := bl hb lts
      replace cu0 := bc hb ltu cu0
      replace cu1 := bc hb ltu cu1
      replace cu2 := bc hb ltu cu2
      replace ltu := bl hb ltu
      replace cv0 := bc hb ltv cv0
      replace cv1 := bc hb ltv cv1
      replace cv2 := bc hb ltv cv2
      replace ltv := bl hb ltv
      replace HI := Lib.hid (HI.out.below hb)
      replace HX := Lib.hid (HX.out.below hb)
      replace HP := Lib.hid (HP.out.below hb)
      replace HG := Lib.hid (HG.out.below hb)
      replace HV4 := Lib.hid (HV4.out.below hb)
      replace HV5 := Lib.hid (HV5.out.below hb)
      replace HV6 := Lib.hid (HV6.out.below hb)
      replace HV7 := Lib.hid (HV7.out.below hb)
      replace hB := hB.trans (hb.mono hB.size)
      clear hb
      go_wp2_with fail
      clear HV4 HV5 HV6 HV7
      clear cr0 cr1 cr2 ltr
      clear cs0 cs1 cs2 lts
      clear cu0 cu1 cu2 ltu
      clear cv0 cv1 cv2 ltv
      refine (emom_any f _ _ _ _ HI.out HF.out).mono ?_
      rintro e wa ⟨vm, vv, rfl, hv, hu, hsz, hsu, hb⟩
      replace cA0 := bc hb ltA cA0
      replace cA1 := bc hb ltA cA1
      replace cA2 := bc hb ltA cA2
      replace ltA := bl hb ltA
      replace cB0 := bc hb ltB cB0
      replace cB1 := bc hb ltB cB1
      replace cB2 := bc hb ltB cB2
      replace ltB := bl hb ltB
      replace HI := Lib.hid (HI.out.below hb)
      replace HX := Lib.hid (HX.out.below hb)
      replace HP := Lib.hid (HP.out.below hb)
      replace HG := Lib.hid (HG.out.below hb)
      replace hB := hB.trans (hb.mono hB.size)
      have HVm := Lib.hid (hv.mono (Nat.zero_le _))
      have HVn := Lib.hid (hu.mono (Nat.zero_le _))
      obtain ⟨pm', mm', qm', pm, mm, qm, rfl, -, -, -, -⟩ := hv
      obtain ⟨pn', mn', qn', pn, mn, qn, rfl, -, -, -, -⟩ := hu
      generalize decide ((meanR f).num < 0) = dm at *
      generalize decide ((varR f).num < 0) = dn at *
      clear hsz hsu
      clear hb
      go_wp2_with fail
      have hbx : Below wa.heap.size wa ((wa.alloc (.cells #[.bool dm, .slice pm' mm' qm', .slice pm mm qm] 33)).alloc (.cells #[.bool dn, .slice pn' mn' qn', .slice pn mn qn] 33)) := (((Below.refl _ _).alloc (Nat.le_refl _) _).alloc (by simp) _)
      generalize hWW : ((wa.alloc (.cells #[.bool dm, .slice pm' mm' qm', .slice pm mm qm] 33)).alloc (.cells #[.bool dn, .slice pn' mn' qn', .slice pn mn qn] 33)) = wa2 at *
      replace cA0 := bc hbx ltA cA0
      replace cA1 := bc hbx ltA cA1
      replace cA2 := bc hbx ltA cA2
      replace ltA := bl hbx ltA
      replace cB0 := bc hbx ltB cB0
      replace cB1 := bc hbx ltB cB1
      replace cB2 := bc hbx ltB cB2
      replace ltB := bl hbx ltB
      replace HI := Lib.hid (HI.out.below hbx)
      replace HX := Lib.hid (HX.out.below hbx)
      replace HP := Lib.hid (HP.out.below hbx)
      replace HG := Lib.hid (HG.out.below hbx)
      replace HVm := Lib.hid (HVm.out.below hbx)
      replace HVn := Lib.hid (HVn.out.below hbx)
      have cM0 : wa2.cell? ⟨wa.heap.size, 0, none⟩ = some (.bool dm) := by subst hWW; go_simp
      have cM1 : wa2.cell? ⟨wa.heap.size, 1, none⟩ = some (.slice pm' mm' qm') := by subst hWW; go_simp
      have cM2 : wa2.cell? ⟨wa.heap.size, 2, none⟩ = some (.slice pm mm qm) := by subst hWW; go_simp
      have ltM : wa.heap.size < wa2.heap.size := by subst hWW; simp <;> omega
      have cN0 : wa2.cell? ⟨wa.heap.size + 1, 0, none⟩ = some (.bool dn) := by subst hWW; go_simp
      have cN1 : wa2.cell? ⟨wa.heap.size + 1, 1, none⟩ = some (.slice pn' mn' qn') := by subst hWW; go_simp
      have cN2 : wa2.cell? ⟨wa.heap.size + 1, 2, none⟩ = some (.slice pn mn qn) := by subst hWW; go_simp
      have ltN : wa.heap.size + 1 < wa2.heap.size := by subst hWW; simp
      replace hB := hB.trans (hbx.mono hB.size)
      clear hbx hWW
      refine (emom_any (mulF ((by_ : Int) + 1) f) _ _ _ _ HG.out HFg.out).mono ?_
      rintro e wb ⟨vm2, vv2, rfl, hv, hu, hsz, hsu, hb⟩
      replace cA0 := bc hb ltA cA0
      replace cA1 := bc hb ltA cA1
      replace cA2 := bc hb ltA cA2
      replace ltA := bl hb ltA
      replace cB0 := bc hb ltB cB0
      replace cB1 := bc hb ltB cB1
      replace cB2 := bc hb ltB cB2
      replace ltB := bl hb ltB
      replace cM0 := bc hb ltM cM0
      replace cM1 := bc hb ltM cM1
      replace cM2 := bc hb ltM cM2
      replace ltM := bl hb ltM
      replace cN0 := bc hb ltN cN0
      replace cN1 := bc hb ltN cN1
      replace cN2 := bc hb ltN cN2
      replace ltN := bl hb ltN
      replace HI := Lib.hid (HI.out.below hb)
      replace HX := Lib.hid (HX.out.below hb)
      replace HP := Lib.hid (HP.out.below hb)
      replace HG := Lib.hid (HG.out.below hb)
      replace HVm := Lib.hid (HVm.out.below hb)
      replace HVn := Lib.hid (HVn.out.below hb)
      replace hB := hB.trans (hb.mono hB.size)
      rw [HMo.out.1] at hv hsz
      rw [HMo.out.2] at hu hsu
      have HVo1 := Lib.hid (hv.mono (Nat.zero_le _))
      have HVq1 := Lib.hid (hu.mono (Nat.zero_le _))
      obtain ⟨po1', mo1', qo1', po1, mo1, qo1, rfl, -, -, -, -⟩ := hv
      obtain ⟨pq1', mq1', qq1', pq1, mq1, qq1, rfl, -, -, -, -⟩ := hu
      generalize decide ((meanR f).num < 0) = do1 at *
      generalize decide ((varR f).num < 0) = dq1 at *
      clear hsz hsu
      clear hb
      go_wp2_with fail
      have hbx : Below wb.heap.size wb ((wb.alloc (.cells #[.bool do1, .slice po1' mo1' qo1', .slice po1 mo1 qo1] 33)).alloc (.cells #[.bool dq1, .slice pq1' mq1' qq1', .slice pq1 mq1 qq1] 33)) := (((Below.refl _ _).alloc (Nat.le_refl _) _).alloc (by simp) _)
      generalize hWW : ((wb.alloc (.cells #[.bool do1, .slice po1' mo1' qo1', .slice po1 mo1 qo1] 33)).alloc (.cells #[.bool dq1, .slice pq1' mq1' qq1', .slice pq1 mq1 qq1] 33)) = wb2 at *
      replace cA0 := bc hbx ltA cA0
      replace cA1 := bc hbx ltA cA1
      replace cA2 := bc hbx ltA cA2
      replace ltA := bl hbx ltA
      replace cB0 := bc hbx ltB cB0
      replace cB1 := bc hbx ltB cB1
      replace cB2 := bc hbx ltB cB2
      replace ltB := bl hbx ltB
      replace cM0 := bc hbx ltM cM0
      replace cM1 := bc hbx ltM cM1
      replace cM2 := bc hbx ltM cM2
      replace ltM := bl hbx ltM
      replace cN0 := bc hbx ltN cN0
      replace cN1 := bc hbx ltN cN1
      replace cN2 := bc hbx ltN cN2
      replace ltN := bl hbx ltN
      replace HI := Lib.hid (HI.out.below hbx)
      replace HX := Lib.hid (HX.out.below hbx)
      replace HP := Lib.hid (HP.out.below hbx)
      replace HG := Lib.hid (HG.out.below hbx)
      replace HVm := Lib.hid (HVm.out.below hbx)
      replace HVn := Lib.hid (HVn.out.below hbx)
      replace HVo1 := Lib.hid (HVo1.out.below hbx)
      replace HVq1 := Lib.hid (HVq1.out.below hbx)
      have cO0 : wb2.cell? ⟨wb.heap.size, 0, none⟩ = some (.bool do1) := by subst hWW; go_simp
      have cO1 : wb2.cell? ⟨wb.heap.size, 1, none⟩ = some (.slice po1' mo1' qo1') := by subst hWW; go_simp
      have cO2 : wb2.cell? ⟨wb.heap.size, 2, none⟩ = some (.slice po1 mo1 qo1) := by subst hWW; go_simp
      have ltO : wb.heap.size < wb2.heap.size := by subst hWW; simp <;> omega
      have cQ0 : wb2.cell? ⟨wb.heap.size + 1, 0, none⟩ = some (.bool dq1) := by subst hWW; go_simp
      have cQ1 : wb2.cell? ⟨wb.heap.size + 1, 1, none⟩ = some (.slice pq1' mq1' qq1') := by subst hWW; go_simp
      have cQ2 : wb2.cell? ⟨wb.heap.size + 1, 2, none⟩ = some (.slice pq1 mq1 qq1) := by subst hWW; go_simp
      have ltQ : wb.heap.size + 1 < wb2.heap.size := by subst hWW; simp
      replace hB := hB.trans (hbx.mono hB.size)
      clear hbx hWW
      refine (equal_any _ _ _ _ _ _ HVm.out HVo1.out).mono ?_
      rintro e wc ⟨rfl, hb⟩
      replace cA0 := bc hb ltA cA0
      replace cA1 := bc hb ltA cA1
      replace cA2 := bc hb ltA cA2
      replace ltA := bl hb ltA
      replace cB0 := bc hb ltB cB0
      replace cB1 := bc hb ltB cB1
      replace cB2 := bc hb ltB cB2
      replace ltB := bl hb ltB
      replace cM0 := bc hb ltM cM0
      replace cM1 := bc hb ltM cM1
      replace cM2 := bc hb ltM cM2
      replace ltM := bl hb ltM
      replace cN0 := bc hb ltN cN0
      replace cN1 := bc hb ltN cN1
      replace cN2 := bc hb ltN cN2
      replace ltN := bl hb ltN
      replace cO0 := bc hb ltO cO0
      replace cO1 := bc hb ltO cO1
      replace cO2 := bc hb ltO cO2
      replace ltO := bl hb ltO
      replace cQ0 := bc hb ltQ cQ0
      replace cQ1 := bc hb ltQ cQ1
      replace cQ2 := bc hb ltQ cQ2
      replace ltQ := bl hb ltQ
      replace HI := Lib.hid (HI.out.below hb)
      replace HX := Lib.hid (HX.out.below hb)
      replace HP := Lib.hid (HP.out.below hb)
      replace HG := Lib.hid (HG.out.below hb)
      replace HVm := Lib.hid (HVm.out.below hb)
      replace HVn := Lib.hid (HVn.out.below hb)
      replace HVo1 := Lib.hid (HVo1.out.below hb)
      replace HVq1 := Lib.hid (HVq1.out.below hb)
      replace hB := hB.trans (hb.mono hB.size)
      clear hb
      go_wp2_with fail
      refine (equal_any _ _ _ _ _ _ HVn.out HVq1.out).mono ?_
      rintro e wd ⟨rfl, hb⟩
      replace cA0 := bc hb ltA cA0
      replace cA1 := bc hb ltA cA1
      replace cA2 := bc hb ltA cA2
      replace ltA := bl hb ltA
      replace cB0 := bc hb ltB cB0
      replace cB1 := bc hb ltB cB1
      replace cB2 := bc hb ltB cB2
      replace ltB := bl hb ltB
      replace cM0 := bc hb ltM cM0
      replace cM1 := bc hb ltM cM1
      replace cM2 := bc hb ltM cM2
      replace ltM := bl hb ltM
      replace cN0 := bc hb ltN cN0
      replace cN1 := bc hb ltN cN1
      replace cN2 := bc hb ltN cN2
      replace ltN := bl hb ltN
      replace cO0 := bc hb ltO cO0
      replace cO1 := bc hb ltO cO1
      replace cO2 := bc hb ltO cO2
      replace ltO := bl hb ltO
      replace cQ0 := bc hb ltQ cQ0
      replace cQ1 := bc hb ltQ cQ1
      replace cQ2 := bc hb ltQ cQ2
      replace ltQ := bl hb ltQ
      replace HI := Lib.hid (HI.out.below hb)
      replace HX := Lib.hid (HX.out.below hb)
      replace HP := Lib.hid (HP.out.below hb)
      replace HG := Lib.hid (HG.out.below hb)
      replace HVm := Lib.hid (HVm.out.below hb)
      replace HVn := Lib.hid (HVn.out.below hb)
      replace HVo1 := Lib.hid (HVo1.out.below hb)
      replace HVq1 := Lib.hid (HVq1.out.below hb)
      replace hB := hB.trans (hb.mono hB.size)
      clear hb
      clear HVm HVn HVo1 HVq1
      have hba : Below wd.heap.size wd (wd.alloc (.cells #[.int .i64 0] 3)) := (Below.refl _ _).alloc (Nat.le_refl _) _
      have HOw := Lib.hid (owns_lit wd wd.heap.size 3 [.int .i64 0] (by simp [maxLen]) (Nat.le_refl _))
      have HNl := Lib.hid (show (([.int .i64 0] : List Value).length + len) * 8 ≤ 140737488355328 ∧ ([.int .i64 0] : List Value).length + len ≤ maxLen by simp only [List.length_singleton, maxLen]; omega)
      have HIa := Lib.hid (HI.out.below hba)
      have HLv := Lib.hid (show (ivs f).length = len by rw [ivs_length, HN.out])
      go_wp2_with (at_builtin; go_must (refine wpList_app rfl _ _ 22 rfl wd.heap.size 3 (.int .i64 0) 8 Try.underlying22 infoInt rfl (.slice (some ⟨wd.heap.size, 0, none⟩) 1 1) [.int .i64 0] rfl HOw.out _ len cap (ivs f) rfl HLv.out HIa.out.vals (ivs_one _) HNl.out.1 HNl.out.2 (by simp) fun v' wz h1 h2 => ?_))
      have hb := (h2.below (by simp) HOw.out.lt : Below wd.heap.size _ wz)
      replace hb : Below wd.heap.size wd wz := hba.trans hb
      obtain ⟨a3, n3, c3, rfl, hI⟩ := Owns.ints (xs := 0 :: f) (by simpa [ivs, iv] using h1)
      have hn3 : len + 1 = n3 := by have := hI.1; rw [List.length_cons, HN.out] at this; exact this
      have hna : n3 ≤ len + 1 := by omega
      have hnb : len + 1 ≤ n3 := by omega
      have HRd := Lib.hid hI
      clear h1 h2 hI hba HOw HIa hn3
      replace cA0 := bc hb ltA cA0
      replace cA1 := bc hb ltA cA1
      replace cA2 := bc hb ltA cA2
      replace ltA := bl hb ltA
      replace cB0 := bc hb ltB cB0
      replace cB1 := bc hb ltB cB1
      replace cB2 := bc hb ltB cB2
      replace ltB := bl hb ltB
      replace cM0 := bc hb ltM cM0
      replace cM1 := bc hb ltM cM1
      replace cM2 := bc hb ltM cM2
      replace ltM := bl hb ltM
      replace cN0 := bc hb ltN cN0
      replace cN1 := bc hb ltN cN1
      replace cN2 := bc hb ltN cN2
      replace ltN := bl hb ltN
      replace cO0 := bc hb ltO cO0
      replace cO1 := bc hb ltO cO1
      replace cO2 := bc hb ltO cO2
      replace ltO := bl hb ltO
      replace cQ0 := bc hb ltQ cQ0
      replace cQ1 := bc hb ltQ cQ1
      replace cQ2 := bc hb ltQ cQ2
      replace ltQ := bl hb ltQ
      replace HI := Lib.hid (HI.out.below hb)
      replace HX := Lib.hid (HX.out.below hb)
      replace HP := Lib.hid (HP.out.below hb)
      replace HG := Lib.hid (HG.out.below hb)
      replace hB := hB.trans (hb.mono hB.size)
      clear hb
      go_wp2_with fail
      refine (evalid_b (0 :: f) a3 n3 c3 _ HRd.out).mono ?_
      rintro e wv ⟨rfl, hb⟩
      replace cA0 := bc hb ltA cA0
      replace cA1 := bc hb ltA cA1
      replace cA2 := bc hb ltA cA2
      replace ltA := bl hb ltA
      replace cB0 := bc hb ltB cB0
      replace cB1 := bc hb ltB cB1
      replace cB2 := bc hb ltB cB2
      replace ltB := bl hb ltB
      replace cM0 := bc hb ltM cM0
      replace cM1 := bc hb ltM cM1
      replace cM2 := bc hb ltM cM2
      replace ltM := bl hb ltM
      replace cN0 := bc hb ltN cN0
      replace cN1 := bc hb ltN cN1
      replace cN2 := bc hb ltN cN2
      replace ltN := bl hb ltN
      replace cO0 := bc hb ltO cO0
      replace cO1 := bc hb ltO cO1
      replace cO2 := bc hb ltO cO2
      replace ltO := bl hb ltO
      replace cQ0 := bc hb ltQ cQ0
      replace cQ1 := bc hb ltQ cQ1
      replace cQ2 := bc hb ltQ cQ2
      replace ltQ := bl hb ltQ
      replace HI := Lib.hid (HI.out.below hb)
      replace HX := Lib.hid (HX.out.below hb)
      replace HP := Lib.hid (HP.out.below hb)
      replace HG := Lib.hid (HG.out.below hb)
      replace HRd := Lib.hid (HRd.out.below hb)
      replace hB := hB.trans (hb.mono hB.size)
      rw [HRv.out]
      clear hb
      have hl61 : ((len : Int) == 61) = true := by have := HL61.out; rw [HN.out] at this; simp; omega
      go_wp2_with fail
      refine (awake_any _).mono ?_
      rintro e ww ⟨rfl, hb⟩
      replace cA0 := bc hb ltA cA0
      replace cA1 := bc hb ltA cA1
      replace cA2 := bc hb ltA cA2
      replace ltA := bl hb ltA
      replace cB0 := bc hb ltB cB0
      replace cB1 := bc hb ltB cB1
      replace cB2 := bc hb ltB cB2
      replace ltB := bl hb ltB
      replace cM0 := bc hb ltM cM0
      replace cM1 := bc hb ltM cM1
      replace cM2 := bc hb ltM cM2
      replace ltM := bl hb ltM
      replace cN0 := bc hb ltN cN0
      replace cN1 := bc hb ltN cN1
      replace cN2 := bc hb ltN cN2
      replace ltN := bl hb ltN
      replace cO0 := bc hb ltO cO0
      replace cO1 := bc hb ltO cO1
      replace cO2 := bc hb ltO cO2
      replace ltO := bl hb ltO
      replace cQ0 := bc hb ltQ cQ0
      replace cQ1 := bc hb ltQ cQ1
      replace cQ2 := bc hb ltQ cQ2
      replace ltQ := bl hb ltQ
      replace HI := Lib.hid (HI.out.below hb)
      replace HX := Lib.hid (HX.out.below hb)
      replace HP := Lib.hid (HP.out.below hb)
      replace HG := Lib.hid (HG.out.below hb)
      replace HRd := Lib.hid (HRd.out.below hb)
      replace hB := hB.trans (hb.mono hB.size)
      clear hb
      go_wp2_with fail
      go_ret
      exact ⟨rfl, hB⟩
theorem props_calls (f : List Int) (a : Option Addr) (len cap : Nat) (vx vp : Value) (x p : Rat) (by_ : Nat) (L : Nat) (w : World) (hI : Ints w a len cap f) (hx : RatV w vx x L) (hp : RatV w vp p L) (hb255 : by_ < 256) (hL : 1 ≤ L) (hm : (2 * L + 200) * 4 ≤ 140737488355328) :
    Calls Try.prog 5 #[.slice a len cap, vx, vp, .int .u8 (by_ : Int)] w fun e w' => e = .returned (.bool true) ∧ Below w.heap.size w w' := by
  by_cases hE : eqE f = 0
  · have hO := eqE_OkF.1 hE
    by_cases hG : eqE (mulF ((by_ : Int) + 1) f) = 0
    · by_cases hpp : 0 ≤ p ∧ p ≤ 1
      · by_cases hR : eqE (0 :: f) = 0
        · exact props_iv f a len cap vx vp x p by_ L w hI hx hp hb255 hL hm hO hG hpp.1 hpp.2 hR
        · exact props_in f a len cap vx vp x p by_ L w hI hx hp hb255 hL hm hO hG hpp.1 hpp.2 hR
      · by_cases hR : eqE (0 :: f) = 0
        · exact props_ov f a len cap vx vp x p by_ L w hI hx hp hb255 hL hm hO hG hpp hR
        · exact props_on f a len cap vx vp x p by_ L w hI hx hp hb255 hL hm hO hG hpp hR
    · by_cases hR : eqE (0 :: f) = 0
      · exact props_nv f a len cap vx vp x p by_ L w hI hx hp hb255 hO hG hR
      · exact props_nn f a len cap vx vp x p by_ L w hI hx hp hb255 hO hG hR
  · exact props_no f a len cap vx vp x p by_ L w hI hx hp hE



theorem equateProportions_walk {H : Type} {enc : TypeId × Value → H} (W : World) (base : Nat) (args : Array Value) (ds gs : List (DataW H)) (before : List MemPlace)
    (hval : ∀ (j : Nat) t v, Try.f5.params[j]? = some t → args[j]? = some v → Value.okWide Try.prog W .any base t v)
    (hW : DataW.Whole enc Try.prog Try.f5.params.toList Rows.equateProportionsSpec.vars false W args.toList ds gs before)
    (hk : Rows.uptoSmall H (ds ++ gs) = true)
    (_hsz : (DataW.weightsEach Try.prog (Try.f5.params.toList ++ (Rows.OpenSpec.upto Rows.equateProportionsSpec).bare.plain.varTypes Try.prog) (ds ++ gs)).all (· ≤ reachBytes) = true) :
    Calls Try.prog 5 args W fun e w' => e = .returned (.bool true) ∧ Below W.heap.size W w' := by
  obtain ⟨p, q, hA, hV, -, -, -⟩ := hW
  obtain ⟨rfl, -⟩ := trodVars_none hV
  rw [Try.params5] at hA hval
  obtain ⟨v0, vs0, d0, ds0, p0, q0, hargs, rfl, rfl, h0, r0⟩ := trodAll_cons hA
  obtain ⟨v1, vs1, d1, ds1, p1, q1, rfl, rfl, rfl, h1, r1⟩ := trodAll_cons r0
  obtain ⟨v2, vs2, d2, ds2, p2, q2, rfl, rfl, rfl, h2, r2⟩ := trodAll_cons r1
  obtain ⟨v3, vs3, d3, ds3, p3, q3, rfl, rfl, rfl, h3, r3⟩ := trodAll_cons r2
  obtain ⟨rfl, rfl, rfl⟩ := trodAll_nil r3
  obtain rfl : args = #[v0, v1, v2, v3] := by cases args; simp_all
  obtain ⟨a, len, cap, xs, rfl, hrow, -⟩ := open_row Try.underlying22 Try.underlying3 (by kernel_rfl) (hval 0 _ _ rfl rfl) h0
  obtain ⟨x, L, hX, -, hB⟩ := open_ratio (hval 1 _ _ rfl rfl) h1
  obtain ⟨p, N, hP, -, hB2⟩ := open_ratio (hval 2 _ _ rfl rfl) h2
  obtain ⟨n, rfl, -, wn⟩ := open_num Try.underlying5 (hval 3 _ _ rfl rfl) h3
  have hn : 0 ≤ n ∧ n ≤ 255 := by simpa [Lit.wf, IntKind.min, IntKind.max, IntKind.signed, IntKind.bits] using wn
  obtain ⟨m, rfl⟩ : ∃ m : Nat, n = (m : Int) := ⟨n.toNat, by omega⟩
  have hk' := of_decide_eq_true hk
  simp only [List.append_nil, Rows.uptoBulkAll] at hk'
  exact props_calls xs a len cap v1 v2 x p m 1048576 W hrow.ints (hX.mono (by omega)) (hP.mono (by omega)) (by omega) (by omega) (by omega)

set_option maxRecDepth 100000 in
theorem equateProportions_lifted (os : Os) (started : os.Started) (H : Type) (enc : TypeId × Value → H) (F : Stop.Interp) :
    ReturnsInHanded {} Try.checked os 5 .any ((Rows.OpenSpec.upto Rows.equateProportionsSpec).pre6 enc Try.prog Try.f5 Rows.equateProportionsUptoRow.domain false) (((Rows.OpenSpec.upto Rows.equateProportionsSpec).at F).post enc Try.prog Try.f5 false true false false) := by
  refine returnsInHanded_of_cond_sized (C := Try.checked) (s := Rows.OpenSpec.upto Rows.equateProportionsSpec) (k := Rows.uptoSmall) rfl own started (by kernel_rfl) Try.func5
    (OpenSpec.witness (enc := enc) (C := Try.checked) (s := Rows.OpenSpec.upto Rows.equateProportionsSpec) (k := Rows.uptoSmall) rfl false ⟨#[], #[.slice none 0 0, .agg #[.bool false, .slice none 0 0, .slice none 0 0], .agg #[.bool false, .slice none 0 0, .slice none 0 0], .int .u8 0], []⟩ 8 (by kernel_rfl) (by kernel_rfl) (by kernel_rfl)
      (x := ([.nil, .agg [.agg [.lit (.bool false), .nil], .nil], .agg [.agg [.lit (.bool false), .nil], .nil], .lit (.int .u8 0)], [], [])) (by kernel_rfl) rfl (by kernel_rfl)) ?_
  intro W base args ds gs before hval hW _ hk hsz _
  exact law_post (s := Rows.equateProportionsSpec) rfl (by kernel_rfl) (by kernel_rfl) (fun ds h => match ds, h with | [d0, d1, d2, d3], _ => ⟨rfl, rfl, rfl⟩) hW (equateProportions_walk W base args ds gs before hval hW hk hsz)

theorem equateProportions_over : Rows.equateProportionsUptoRow.holds Try.pinned (Rows.OpenSpec.upto Rows.equateProportionsSpec) :=
  OpenClaim.holds_of_cond 5 Try.f5 rfl rfl rfl rfl rfl rfl rfl ⟨rfl, rfl, rfl, rfl, rfl⟩ rfl rfl rfl rfl rfl (by kernel_rfl) Try.func5 (by kernel_rfl)
    (of_decide_eq_true (by kernel_rfl)) (by unfold Func.isWrapper; first | (rw [if_pos (by decide +kernel)]; kernel_rfl) | (rw [if_neg (by decide +kernel)]; exact ⟨rfl, rfl⟩))
    (fun os started H enc _ F => equateProportions_lifted os started H enc F)

theorem equateProportions_proved : Rows.EquateProportionsUptoSaid := equateProportions_over

end Go.Proofs.Ytahmndacoanfiaa
