/- Equating: the errors of Rounded, and what the reference's Rounded returns. Condition: fractions of at most L limbs. · What the bound of an '..UptoSaid' statement gives: each slice among the arguments is short. · The law EquateNumbers, for arguments of bulk at most 1048576: Rounded and Moments return what the document defines, or the first error. -/
import Derived.Test.YtahmndacoanfiaaGreatRQB
import Derived.Test.YtahmndacoanfiaaGreatEqV
import Derived.Test.YtahmndacoanfiaaGreatRRM
import Derived.Test.YtahmndacoanfiaaGreatFrame
import Derived.Test.YtahmndacoanfiaaGreatRQM
namespace Go.Proofs.YtahmndacoanfiaaGreat
set_option maxRecDepth 100000
open Go.RowKit
def rndE (len : Nat) (m lo hi : Int) : Int := if 61 < len then 5 else if m < 1 ∨ 7 < m then 1 else if lo < -1000000 ∨ 1000000 < lo ∨ hi < -1000000 ∨ 1000000 < hi then 3 else if hi < lo then 23 else 0
theorem rndE_ok {len : Nat} {m lo hi : Int} (h : rndE len m lo hi = 0) : len ≤ 61 ∧ 1 ≤ m ∧ m ≤ 7 ∧ -1000000 ≤ lo ∧ lo ≤ 1000000 ∧ -1000000 ≤ hi ∧ hi ≤ 1000000 ∧ lo ≤ hi := by
 unfold rndE at h
 split at h
 · omega
 split at h
 · omega
 split at h
 · omega
 split at h
 · omega
 omega
set_option maxHeartbeats 2000000 in
theorem erounded_err (a : Option Addr) (len cap : Nat) (m lo hi : Int) (w : World) (hlm : len ≤ 9223372036854775807) (hE : rndE len m lo hi ≠ 0) :
   Calls Tryz.prog 19 #[.slice a len cap, .int .i64 m, .int .i64 lo, .int .i64 hi] w fun e w' => e = .returned (.tuple #[.slice none 0 0, .int .i64 (rndE len m lo hi)]) ∧ Below w.heap.size w w' := by
 by_cases h1 : 61 < len
 · have HE := Lib.hid (show rndE len m lo hi = 5 by unfold rndE; rw [if_pos h1])
   have d0 : decide (61 < (len : Int)) = true := by simp; omega
   clear hE
   go_enter Tryz.func19, Tryz.ntmps19
   go_wp2_with fail
   go_ret2
   exact ⟨by rw [HE.out]; rfl, Below.refl _ _⟩
 have d0 : decide (61 < (len : Int)) = false := by simp; omega
 by_cases h2 : m < 1
 · have HE := Lib.hid (show rndE len m lo hi = 1 by unfold rndE; rw [if_neg h1, if_pos (.inl h2)])
   have d1 : decide (m < 1) = true := by simpa using h2
   clear hE
   go_enter Tryz.func19, Tryz.ntmps19
   go_wp2_with fail
   go_ret2
   exact ⟨by rw [HE.out]; rfl, Below.refl _ _⟩
 have d1 : decide (m < 1) = false := by simpa using h2
 by_cases h3 : 7 < m
 · have HE := Lib.hid (show rndE len m lo hi = 1 by unfold rndE; rw [if_neg h1, if_pos (.inr h3)])
   have d2 : decide (7 < m) = true := by simpa using h3
   clear hE
   go_enter Tryz.func19, Tryz.ntmps19
   go_wp2_with fail
   go_ret2
   exact ⟨by rw [HE.out]; rfl, Below.refl _ _⟩
 have d2 : decide (7 < m) = false := by simpa using h3
 by_cases h4 : lo < -1000000
 · have HE := Lib.hid (show rndE len m lo hi = 3 by unfold rndE; rw [if_neg h1, if_neg (by omega), if_pos (by omega)])
   have d3 : decide (lo < -1000000) = true := by simpa using h4
   clear hE
   go_enter Tryz.func19, Tryz.ntmps19
   go_wp2_with fail
   go_ret2
   exact ⟨by rw [HE.out]; rfl, Below.refl _ _⟩
 have d3 : decide (lo < -1000000) = false := by simpa using h4
 by_cases h5 : 1000000 < lo
 · have HE := Lib.hid (show rndE len m lo hi = 3 by unfold rndE; rw [if_neg h1, if_neg (by omega), if_pos (by omega)])
   have d4 : decide (1000000 < lo) = true := by simpa using h5
   clear hE
   go_enter Tryz.func19, Tryz.ntmps19
   go_wp2_with fail
   go_ret2
   exact ⟨by rw [HE.out]; rfl, Below.refl _ _⟩
 have d4 : decide (1000000 < lo) = false := by simpa using h5
 by_cases h6 : hi < -1000000
 · have HE := Lib.hid (show rndE len m lo hi = 3 by unfold rndE; rw [if_neg h1, if_neg (by omega), if_pos (by omega)])
   have d5 : decide (hi < -1000000) = true := by simpa using h6
   clear hE
   go_enter Tryz.func19, Tryz.ntmps19
   go_wp2_with fail
   go_ret2
   exact ⟨by rw [HE.out]; rfl, Below.refl _ _⟩
 have d5 : decide (hi < -1000000) = false := by simpa using h6
 by_cases h7 : 1000000 < hi
 · have HE := Lib.hid (show rndE len m lo hi = 3 by unfold rndE; rw [if_neg h1, if_neg (by omega), if_pos (by omega)])
   have d6 : decide (1000000 < hi) = true := by simpa using h7
   clear hE
   go_enter Tryz.func19, Tryz.ntmps19
   go_wp2_with fail
   go_ret2
   exact ⟨by rw [HE.out]; rfl, Below.refl _ _⟩
 have d6 : decide (1000000 < hi) = false := by simpa using h7
 by_cases h8 : hi < lo
 · have HE := Lib.hid (show rndE len m lo hi = 23 by unfold rndE; rw [if_neg h1, if_neg (by omega), if_neg (by omega), if_pos h8])
   have d7 : decide (hi < lo) = true := by simpa using h8
   clear hE
   go_enter Tryz.func19, Tryz.ntmps19
   go_wp2_with fail
   go_ret2
   exact ⟨by rw [HE.out]; rfl, Below.refl _ _⟩
 exact absurd (show rndE len m lo hi = 0 by unfold rndE; rw [if_neg h1, if_neg (by omega), if_neg (by omega), if_neg h8]) hE
set_option maxHeartbeats 2000000 in
theorem rrounded_err (a : Option Addr) (len cap : Nat) (m lo hi : Int) (w : World) (hlm : len ≤ 9223372036854775807) (hE : rndE len m lo hi ≠ 0) :
   Calls Tryz.prog 20 #[.slice a len cap, .int .i64 m, .int .i64 lo, .int .i64 hi] w fun e w' => e = .returned (.tuple #[.slice none 0 0, .int .i64 (rndE len m lo hi)]) ∧ Below w.heap.size w w' := by
 by_cases h1 : 61 < len
 · have HE := Lib.hid (show rndE len m lo hi = 5 by unfold rndE; rw [if_pos h1])
   have d0 : decide (61 < (len : Int)) = true := by simp; omega
   clear hE
   go_enter Tryz.func20, Tryz.ntmps20
   go_wp2_with fail
   go_ret2
   exact ⟨by rw [HE.out]; rfl, Below.refl _ _⟩
 have d0 : decide (61 < (len : Int)) = false := by simp; omega
 by_cases h2 : m < 1
 · have HE := Lib.hid (show rndE len m lo hi = 1 by unfold rndE; rw [if_neg h1, if_pos (.inl h2)])
   have d1 : decide (m < 1) = true := by simpa using h2
   clear hE
   go_enter Tryz.func20, Tryz.ntmps20
   go_wp2_with fail
   go_ret2
   exact ⟨by rw [HE.out]; rfl, Below.refl _ _⟩
 have d1 : decide (m < 1) = false := by simpa using h2
 by_cases h3 : 7 < m
 · have HE := Lib.hid (show rndE len m lo hi = 1 by unfold rndE; rw [if_neg h1, if_pos (.inr h3)])
   have d2 : decide (7 < m) = true := by simpa using h3
   clear hE
   go_enter Tryz.func20, Tryz.ntmps20
   go_wp2_with fail
   go_ret2
   exact ⟨by rw [HE.out]; rfl, Below.refl _ _⟩
 have d2 : decide (7 < m) = false := by simpa using h3
 by_cases h4 : lo < -1000000
 · have HE := Lib.hid (show rndE len m lo hi = 3 by unfold rndE; rw [if_neg h1, if_neg (by omega), if_pos (by omega)])
   have d3 : decide (lo < -1000000) = true := by simpa using h4
   clear hE
   go_enter Tryz.func20, Tryz.ntmps20
   go_wp2_with fail
   go_ret2
   exact ⟨by rw [HE.out]; rfl, Below.refl _ _⟩
 have d3 : decide (lo < -1000000) = false := by simpa using h4
 by_cases h5 : 1000000 < lo
 · have HE := Lib.hid (show rndE len m lo hi = 3 by unfold rndE; rw [if_neg h1, if_neg (by omega), if_pos (by omega)])
   have d4 : decide (1000000 < lo) = true := by simpa using h5
   clear hE
   go_enter Tryz.func20, Tryz.ntmps20
   go_wp2_with fail
   go_ret2
   exact ⟨by rw [HE.out]; rfl, Below.refl _ _⟩
 have d4 : decide (1000000 < lo) = false := by simpa using h5
 by_cases h6 : hi < -1000000
 · have HE := Lib.hid (show rndE len m lo hi = 3 by unfold rndE; rw [if_neg h1, if_neg (by omega), if_pos (by omega)])
   have d5 : decide (hi < -1000000) = true := by simpa using h6
   clear hE
   go_enter Tryz.func20, Tryz.ntmps20
   go_wp2_with fail
   go_ret2
   exact ⟨by rw [HE.out]; rfl, Below.refl _ _⟩
 have d5 : decide (hi < -1000000) = false := by simpa using h6
 by_cases h7 : 1000000 < hi
 · have HE := Lib.hid (show rndE len m lo hi = 3 by unfold rndE; rw [if_neg h1, if_neg (by omega), if_pos (by omega)])
   have d6 : decide (1000000 < hi) = true := by simpa using h7
   clear hE
   go_enter Tryz.func20, Tryz.ntmps20
   go_wp2_with fail
   go_ret2
   exact ⟨by rw [HE.out]; rfl, Below.refl _ _⟩
 have d6 : decide (1000000 < hi) = false := by simpa using h7
 by_cases h8 : hi < lo
 · have HE := Lib.hid (show rndE len m lo hi = 23 by unfold rndE; rw [if_neg h1, if_neg (by omega), if_neg (by omega), if_pos h8])
   have d7 : decide (hi < lo) = true := by simpa using h8
   clear hE
   go_enter Tryz.func20, Tryz.ntmps20
   go_wp2_with fail
   go_ret2
   exact ⟨by rw [HE.out]; rfl, Below.refl _ _⟩
 exact absurd (show rndE len m lo hi = 0 by unfold rndE; rw [if_neg h1, if_neg (by omega), if_neg (by omega), if_neg h8]) hE
theorem limI_ref {lo hi n : Int} (h : lo ≤ hi) : limI lo hi n = if n < lo then lo else if hi < n then hi else n := by
 unfold limI; split <;> split <;> (try split) <;> (try split) <;> omega
theorem sgn_lt0 {n m : Int} : (n - m).sign < 0 ↔ n < m := by
 have := sign_ge (n := n) (m := m); omega
theorem sgn_gt0 {n m : Int} : 0 < (n - m).sign ↔ m < n := by
 have := sign_le (n := n) (m := m); omega
theorem rndL_snoc (lo hi m : Int) (rs : List Rat) (k : Nat) (h : k < rs.length) : rndL lo hi m (rs.take (k + 1)) = rndL lo hi m (rs.take k) ++ [limI lo hi (roundI m (rs.getD k 0))] := by
 unfold rndL
 rw [List.take_add_one, List.map_append, List.getElem?_eq_getElem h]
 simp [List.getD, h]
theorem round_len (m : Int) (r : Rat) {L : Nat} (h : (digs r.num.natAbs).length ≤ L) : (digs (roundI m r).natAbs).length ≤ L + 2 := by
 have h1 := round_ge m r
 have h2 : (roundI m r).natAbs ≤ r.floor.natAbs + 1 := by omega
 refine Nat.le_trans (digs_len_le' h2) ?_
 exact digs_add_len r.floor.natAbs 1 (L + 1) (floor_len r h) (Nat.le_trans (digs_length_le (k := 1) (by simp)) (by omega))
theorem RatV.rsz {w : World} {v : Value} {r : Rat} {L : Nat} (h : RatV w v r L) : (digs r.num.natAbs).length ≤ L := by
 obtain ⟨p, q, hr, rfl⟩ := h
 have hl := hr.lens
 by_cases hq : q = 0
 · subst hq
   rw [show (mkRat p 0).num.natAbs = 0 by simp [mkRat], digs_zero]; simp
 · exact (rsz_mk' p q L hq hl.1 hl.2).1
theorem Owns.below {w w' : World} {B : Nat} {e : TypeId} {v : Value} {xs : List Value} (h : Owns w B e v xs) (hb : Below w.heap.size w w') : Owns w' B e v xs := h.later hb
set_option maxHeartbeats 4000000 in
theorem rrounded_any (rs : List Rat) (a : Option Addr) (len cap L : Nat) (m lo hi : Int) (w : World) (hr : Rats w a len cap rs L) (hL : 1 ≤ L) (hm : (2 * L + 8) * 4 ≤ 140737488355328) (h61 : len ≤ 61) (hm1 : 1 ≤ m) (hm2 : m ≤ 7) (h1 : -1000000 ≤ lo) (h2 : lo ≤ 1000000) (h3 : -1000000 ≤ hi) (h4 : hi ≤ 1000000) (h5 : lo ≤ hi) :
   Calls Tryz.prog 20 #[.slice a len cap, .int .i64 m, .int .i64 lo, .int .i64 hi] w fun e w' => ∃ a2 c2, e = .returned (.tuple #[.slice a2 len c2, .int .i64 0]) ∧ Ints w' a2 len c2 (rndL lo hi m rs) ∧ Below w.heap.size w w' := by
 have HRs := Lib.hid hr
 have HRl := Lib.hid hr.1
 clear hr
 have d0 : decide (61 < (len : Int)) = false := by simp; omega
 have d1 : decide (m < 1) = false := by simp; omega
 have d2 : decide (7 < m) = false := by simp; omega
 have d3 : decide (lo < -1000000) = false := by simp; omega
 have d4 : decide (1000000 < lo) = false := by simp; omega
 have d5 : decide (hi < -1000000) = false := by simp; omega
 have d6 : decide (1000000 < hi) = false := by simp; omega
 have d7 : decide (hi < lo) = false := by simp; omega
 go_enter Tryz.func20, Tryz.ntmps20
 go_wp2_with fail
 go_loopw [10, 45] (fun u i wr => ∃ k : Nat, k ≤ len ∧ i = .int .i64 k ∧ Hid (Owns wr w.heap.size 3 u (ivs (rndL lo hi m (rs.take k)))) ∧ Below w.heap.size w wr) (fun _ i _ => len - (intOf i).toNat)
 case atStart => exact ⟨0, by omega, rfl, Lib.hid (by simpa [rndL, ivs] using Owns.nil _ _ _), Below.refl _ _⟩
 case round =>
   obtain ⟨k, hk, rfl, HOw, hB⟩ := hrel
   by_cases hlt : k < len
   · obtain ⟨bb, off, rfl, hbs, hcc⟩ := HRs.out.at hlt
     obtain ⟨n, x', l', c', x, l, c, e0, e1, e2, hX⟩ := (hcc k hlt).below hbs hB
     have HSn := Lib.hid (rndL_snoc lo hi m rs k (by rw [HRl.out]; exact hlt))
     have HNl := Lib.hid (show ((ivs (rndL lo hi m (rs.take k))).length + 1) * 8 ≤ 140737488355328 ∧ (ivs (rndL lo hi m (rs.take k))).length + 1 ≤ maxLen by
       rw [ivs_length, rndL_length, List.length_take]; simp only [maxLen]; omega)
     have hbx : Below wr.heap.size wr (wr.alloc (.cells #[.bool n, .slice x' l' c', .slice x l c] 28)) := (Below.refl _ _).alloc (Nat.le_refl _) _
     have HRz := Lib.hid hX.rsz
     have HX := Lib.hid (hX.below hbx)
     replace HOw := Lib.hid (HOw.out.later hbx)
     replace hB := hB.trans (hbx.mono hB.size)
     generalize rs.getD k 0 = xk at *
     generalize rndL lo hi m (rs.take k) = cur at *
     clear hcc hX hbx
     go_wp2_with fail
     generalize wr.alloc (.cells #[.bool n, .slice x' l' c', .slice x l c] 28) = wx at *
     refine (jinteger_any _ xk m L _ HX.out hL hm hm1 hm2).mono ?_
     rintro e w3 ⟨v3, rfl, hv3, hb⟩
     replace HOw := Lib.hid (HOw.out.later hb)
     replace hB := hB.trans (hb.mono hB.size)
     obtain ⟨a3, n3, c3, rfl, -⟩ := id hv3
     have HV := Lib.hid (hv3.raw _ (Nat.le_refl _))
     have HLn := Lib.hid (show (digs (roundI m xk).natAbs).length * 4 ≤ 140737488355328 from by have := round_len m xk HRz.out; omega)
     generalize hLL : (digs (roundI m xk).natAbs).length = LL at *
     generalize hdd : decide (roundI m xk < 0) = dd at *
     generalize hnn : roundI m xk = nn at *
     clear hv3 hb HX e0 e1 e2 hLL hdd hnn
     go_wp2_with fail
     have hbx : Below w3.heap.size w3 (w3.alloc (.cells #[.bool dd, .slice a3 n3 c3] 26)) := ((Below.refl _ _).alloc (Nat.le_refl _) _)
     generalize hWW : (w3.alloc (.cells #[.bool dd, .slice a3 n3 c3] 26)) = w3a at *
     replace HV := Lib.hid (HV.out.below hbx)
     replace HOw := Lib.hid (HOw.out.below hbx)
     have cX0 : w3a.cell? ⟨w3.heap.size, 0, none⟩ = some (.bool dd) := by subst hWW; go_simp
     have cX1 : w3a.cell? ⟨w3.heap.size, 1, none⟩ = some (.slice a3 n3 c3) := by subst hWW; go_simp
     have ltX : w3.heap.size < w3a.heap.size := by subst hWW; simp
     replace hB := hB.trans (hbx.mono hB.size)
     clear hbx hWW
     by_cases hc1 : nn < lo
     · have HVal := Lib.hid (show limI lo hi nn = lo by rw [limI_ref h5, if_pos hc1])
       have eX0 := box_ext (B := w3a.heap.size) cX0 ltX
       have eX1 := box_ext (B := w3a.heap.size) cX1 ltX
       refine wp_region_sched [(0, false), (1, false), (2, true), (3, true), (4, false)] (fun w' => ∃ W : Ext w3a.heap.size w3a, w' = W.1) (by kernel_rfl) (by kernel_rfl) ⟨⟨w3a.drew, (Below.refl _ _).drew⟩, rfl⟩ ?_
       repeat (refine wpSched_calm rfl (fun K hK => ?_); go_simp; refine hK _ ?_; clear hK K)
       clear eX0 eX1
       have hbx : Below w3a.heap.size w3a w3a.drew := (Below.refl _ _).drew
       have hM := hbx
       replace cX0 := bc hbx ltX cX0
       replace cX1 := bc hbx ltX cX1
       replace ltX := bl hbx ltX
       replace HV := Lib.hid (HV.out.below hbx)
       replace HOw := Lib.hid (HOw.out.below hbx)
       replace hB := hB.trans (hbx.mono hB.size)
       clear hbx
       generalize w3a.drew = ww3ad at *
       refine wpSched_eff rfl rfl (fun K hK => ?_)
       go_simp
       refine (jof_any lo _ (by omega) (by omega)).mono ?_
       rintro e woa ⟨voa, rfl, hvo, hb⟩
       replace cX0 := bc hb ltX cX0
       replace cX1 := bc hb ltX cX1
       replace ltX := bl hb ltX
       replace HV := Lib.hid (HV.out.below hb)
       replace HOw := Lib.hid (HOw.out.below hb)
       replace hM := hM.trans (hb.mono hM.size)
       replace hB := hB.trans (hb.mono hB.size)
       have HVo := Lib.hid (hvo.raw 2 (digs_i64 (by omega) (by omega)))
       clear hvo
       clear hb
       refine hK _ _ ⟨⟨woa, hM⟩, rfl⟩ ?_
       clear hK K
       refine wpSched_eff rfl rfl (fun K hK => ?_)
       go_simp
       refine (jcmp_any _ _ nn lo (LL + 2) _ (HV.out.mono (by omega)) (HVo.out.mono (by omega)) (by have := HLn.out; omega)).mono ?_
       rintro e wpa ⟨rfl, hb⟩
       replace cX0 := bc hb ltX cX0
       replace cX1 := bc hb ltX cX1
       replace ltX := bl hb ltX
       replace HV := Lib.hid (HV.out.below hb)
       replace HOw := Lib.hid (HOw.out.below hb)
       replace HVo := Lib.hid (HVo.out.below hb)
       replace hM := hM.trans (hb.mono hM.size)
       replace hB := hB.trans (hb.mono hB.size)
       have hq := sgn_lt0.2 hc1
       generalize (nn - lo).sign = sga at *
       have dqa : decide (sga < 0) = true := by simpa using hq
       clear hq
       clear hb
       refine hK _ _ ⟨⟨wpa, hM⟩, rfl⟩ ?_
       clear hK K
       repeat (refine wpSched_calm rfl (fun K hK => ?_); go_simp; refine hK _ ?_; clear hK K)
       refine wpSched_nil ?_
       clear HVo
       have hszz := hB.size
       have HLt := Lib.hid HOw.out.lt
       have HBz := Lib.hid hB
       go_wp2_with (at_builtin; go_must (refine wpList_app1 rfl _ _ 22 rfl w.heap.size 3 (.int .i64 0) 8 Tryz.underlying22 infoInt rfl u10 (ivs cur) rfl (.int .i64 lo) rfl HOw.out rfl HNl.out.1 HNl.out.2 hszz fun v' w' g1 g2 => ?_))
       have HBm := Lib.hid (HBz.out.trans (g2.below hszz HLt.out))
       have HO3 := Lib.hid (show Owns w' w.heap.size 3 v' (ivs (rndL lo hi m (rs.take (k + 1)))) by rw [HSn.out, ivs_append, HVal.out]; exact g1)
       clear g1 g2
       go_wp2_with fail
       go_roundw
       case rel => exact ⟨k + 1, by omega, by go_num, HO3, HBm.out⟩
       case measure => simp [intOf]; omega
     · have HN1 := Lib.hid hc1
       have hn1 : ¬ (nn - lo).sign < 0 := fun h => hc1 (sgn_lt0.1 h)
       have eX0 := box_ext (B := w3a.heap.size) cX0 ltX
       have eX1 := box_ext (B := w3a.heap.size) cX1 ltX
       refine wp_region_sched [(0, false), (1, false), (2, true), (3, true), (4, false)] (fun w' => ∃ W : Ext w3a.heap.size w3a, w' = W.1) (by kernel_rfl) (by kernel_rfl) ⟨⟨w3a.drew, (Below.refl _ _).drew⟩, rfl⟩ ?_
       repeat (refine wpSched_calm rfl (fun K hK => ?_); go_simp; refine hK _ ?_; clear hK K)
       clear eX0 eX1
       have hbx : Below w3a.heap.size w3a w3a.drew := (Below.refl _ _).drew
       have hM := hbx
       replace cX0 := bc hbx ltX cX0
       replace cX1 := bc hbx ltX cX1
       replace ltX := bl hbx ltX
       replace HV := Lib.hid (HV.out.below hbx)
       replace HOw := Lib.hid (HOw.out.below hbx)
       replace hB := hB.trans (hbx.mono hB.size)
       clear hbx
       generalize w3a.drew = ww3ad at *
       refine wpSched_eff rfl rfl (fun K hK => ?_)
       go_simp
       refine (jof_any lo _ (by omega) (by omega)).mono ?_
       rintro e woa ⟨voa, rfl, hvo, hb⟩
       replace cX0 := bc hb ltX cX0
       replace cX1 := bc hb ltX cX1
       replace ltX := bl hb ltX
       replace HV := Lib.hid (HV.out.below hb)
       replace HOw := Lib.hid (HOw.out.below hb)
       replace hM := hM.trans (hb.mono hM.size)
       replace hB := hB.trans (hb.mono hB.size)
       have HVo := Lib.hid (hvo.raw 2 (digs_i64 (by omega) (by omega)))
       clear hvo
       clear hb
       refine hK _ _ ⟨⟨woa, hM⟩, rfl⟩ ?_
       clear hK K
       refine wpSched_eff rfl rfl (fun K hK => ?_)
       go_simp
       refine (jcmp_any _ _ nn lo (LL + 2) _ (HV.out.mono (by omega)) (HVo.out.mono (by omega)) (by have := HLn.out; omega)).mono ?_
       rintro e wpa ⟨rfl, hb⟩
       replace cX0 := bc hb ltX cX0
       replace cX1 := bc hb ltX cX1
       replace ltX := bl hb ltX
       replace HV := Lib.hid (HV.out.below hb)
       replace HOw := Lib.hid (HOw.out.below hb)
       replace HVo := Lib.hid (HVo.out.below hb)
       replace hM := hM.trans (hb.mono hM.size)
       replace hB := hB.trans (hb.mono hB.size)
       have hq := hn1
       generalize (nn - lo).sign = sga at *
       have dqa : decide (sga < 0) = false := by simpa using hq
       clear hq
       clear hb
       refine hK _ _ ⟨⟨wpa, hM⟩, rfl⟩ ?_
       clear hK K
       repeat (refine wpSched_calm rfl (fun K hK => ?_); go_simp; refine hK _ ?_; clear hK K)
       refine wpSched_nil ?_
       clear HVo
       clear hn1
       go_wp2_with fail
       by_cases hc2 : hi < nn
       · have HVal := Lib.hid (show limI lo hi nn = hi by rw [limI_ref h5, if_neg (show ¬ nn < lo by have := HN1.out; omega), if_pos hc2])
         have eX0 := box_ext (B := wpa.heap.size) cX0 ltX
         have eX1 := box_ext (B := wpa.heap.size) cX1 ltX
         refine wp_region_sched [(0, false), (1, false), (2, true), (3, true), (4, false)] (fun w' => ∃ W : Ext wpa.heap.size wpa, w' = W.1) (by kernel_rfl) (by kernel_rfl) ⟨⟨wpa.drew, (Below.refl _ _).drew⟩, rfl⟩ ?_
         repeat (refine wpSched_calm rfl (fun K hK => ?_); go_simp; refine hK _ ?_; clear hK K)
         clear eX0 eX1
         have hbx : Below wpa.heap.size wpa wpa.drew := (Below.refl _ _).drew
         have hM := hbx
         replace cX0 := bc hbx ltX cX0
         replace cX1 := bc hbx ltX cX1
         replace ltX := bl hbx ltX
         replace HV := Lib.hid (HV.out.below hbx)
         replace HOw := Lib.hid (HOw.out.below hbx)
         replace hB := hB.trans (hbx.mono hB.size)
         clear hbx
         generalize wpa.drew = wwpad at *
         refine wpSched_eff rfl rfl (fun K hK => ?_)
         go_simp
         refine (jof_any hi _ (by omega) (by omega)).mono ?_
         rintro e wob ⟨vob, rfl, hvo, hb⟩
         replace cX0 := bc hb ltX cX0
         replace cX1 := bc hb ltX cX1
         replace ltX := bl hb ltX
         replace HV := Lib.hid (HV.out.below hb)
         replace HOw := Lib.hid (HOw.out.below hb)
         replace hM := hM.trans (hb.mono hM.size)
         replace hB := hB.trans (hb.mono hB.size)
         have HVo := Lib.hid (hvo.raw 2 (digs_i64 (by omega) (by omega)))
         clear hvo
         clear hb
         refine hK _ _ ⟨⟨wob, hM⟩, rfl⟩ ?_
         clear hK K
         refine wpSched_eff rfl rfl (fun K hK => ?_)
         go_simp
         refine (jcmp_any _ _ nn hi (LL + 2) _ (HV.out.mono (by omega)) (HVo.out.mono (by omega)) (by have := HLn.out; omega)).mono ?_
         rintro e wpb ⟨rfl, hb⟩
         replace cX0 := bc hb ltX cX0
         replace cX1 := bc hb ltX cX1
         replace ltX := bl hb ltX
         replace HV := Lib.hid (HV.out.below hb)
         replace HOw := Lib.hid (HOw.out.below hb)
         replace HVo := Lib.hid (HVo.out.below hb)
         replace hM := hM.trans (hb.mono hM.size)
         replace hB := hB.trans (hb.mono hB.size)
         have hq := sgn_gt0.2 hc2
         generalize (nn - hi).sign = sgb at *
         have dqb : decide (0 < sgb) = true := by simpa using hq
         clear hq
         clear hb
         refine hK _ _ ⟨⟨wpb, hM⟩, rfl⟩ ?_
         clear hK K
         repeat (refine wpSched_calm rfl (fun K hK => ?_); go_simp; refine hK _ ?_; clear hK K)
         refine wpSched_nil ?_
         clear HVo
         have hszz := hB.size
         have HLt := Lib.hid HOw.out.lt
         have HBz := Lib.hid hB
         go_wp2_with (at_builtin; go_must (refine wpList_app1 rfl _ _ 22 rfl w.heap.size 3 (.int .i64 0) 8 Tryz.underlying22 infoInt rfl u10 (ivs cur) rfl (.int .i64 hi) rfl HOw.out rfl HNl.out.1 HNl.out.2 hszz fun v' w' g1 g2 => ?_))
         have HBm := Lib.hid (HBz.out.trans (g2.below hszz HLt.out))
         have HO3 := Lib.hid (show Owns w' w.heap.size 3 v' (ivs (rndL lo hi m (rs.take (k + 1)))) by rw [HSn.out, ivs_append, HVal.out]; exact g1)
         clear g1 g2
         go_wp2_with fail
         go_roundw
         case rel => exact ⟨k + 1, by omega, by go_num, HO3, HBm.out⟩
         case measure => simp [intOf]; omega
       · have HVal := Lib.hid (show limI lo hi nn = nn by rw [limI_ref h5, if_neg (show ¬ nn < lo by have := HN1.out; omega), if_neg (show ¬ hi < nn by omega)])
         have hn2 : ¬ 0 < (nn - hi).sign := fun h => hc2 (sgn_gt0.1 h)
         have eX0 := box_ext (B := wpa.heap.size) cX0 ltX
         have eX1 := box_ext (B := wpa.heap.size) cX1 ltX
         refine wp_region_sched [(0, false), (1, false), (2, true), (3, true), (4, false)] (fun w' => ∃ W : Ext wpa.heap.size wpa, w' = W.1) (by kernel_rfl) (by kernel_rfl) ⟨⟨wpa.drew, (Below.refl _ _).drew⟩, rfl⟩ ?_
         repeat (refine wpSched_calm rfl (fun K hK => ?_); go_simp; refine hK _ ?_; clear hK K)
         clear eX0 eX1
         have hbx : Below wpa.heap.size wpa wpa.drew := (Below.refl _ _).drew
         have hM := hbx
         replace cX0 := bc hbx ltX cX0
         replace cX1 := bc hbx ltX cX1
         replace ltX := bl hbx ltX
         replace HV := Lib.hid (HV.out.below hbx)
         replace HOw := Lib.hid (HOw.out.below hbx)
         replace hB := hB.trans (hbx.mono hB.size)
         clear hbx
         generalize wpa.drew = wwpad at *
         refine wpSched_eff rfl rfl (fun K hK => ?_)
         go_simp
         refine (jof_any hi _ (by omega) (by omega)).mono ?_
         rintro e wob ⟨vob, rfl, hvo, hb⟩
         replace cX0 := bc hb ltX cX0
         replace cX1 := bc hb ltX cX1
         replace ltX := bl hb ltX
         replace HV := Lib.hid (HV.out.below hb)
         replace HOw := Lib.hid (HOw.out.below hb)
         replace hM := hM.trans (hb.mono hM.size)
         replace hB := hB.trans (hb.mono hB.size)
         have HVo := Lib.hid (hvo.raw 2 (digs_i64 (by omega) (by omega)))
         clear hvo
         clear hb
         refine hK _ _ ⟨⟨wob, hM⟩, rfl⟩ ?_
         clear hK K
         refine wpSched_eff rfl rfl (fun K hK => ?_)
         go_simp
         refine (jcmp_any _ _ nn hi (LL + 2) _ (HV.out.mono (by omega)) (HVo.out.mono (by omega)) (by have := HLn.out; omega)).mono ?_
         rintro e wpb ⟨rfl, hb⟩
         replace cX0 := bc hb ltX cX0
         replace cX1 := bc hb ltX cX1
         replace ltX := bl hb ltX
         replace HV := Lib.hid (HV.out.below hb)
         replace HOw := Lib.hid (HOw.out.below hb)
         replace HVo := Lib.hid (HVo.out.below hb)
         replace hM := hM.trans (hb.mono hM.size)
         replace hB := hB.trans (hb.mono hB.size)
         have hq := hn2
         generalize (nn - hi).sign = sgb at *
         have dqb : decide (0 < sgb) = false := by simpa using hq
         clear hq
         clear hb
         refine hK _ _ ⟨⟨wpb, hM⟩, rfl⟩ ?_
         clear hK K
         repeat (refine wpSched_calm rfl (fun K hK => ?_); go_simp; refine hK _ ?_; clear hK K)
         refine wpSched_nil ?_
         clear HVo
         clear hn2
         go_wp2_with fail
         refine (jint64_small _ nn LL _ HV.out HLn.out (by omega) (by omega)).mono ?_
         rintro e wi ⟨rfl, hb⟩
         replace cX0 := bc hb ltX cX0
         replace cX1 := bc hb ltX cX1
         replace ltX := bl hb ltX
         replace HV := Lib.hid (HV.out.below hb)
         replace HOw := Lib.hid (HOw.out.below hb)
         replace hB := hB.trans (hb.mono hB.size)
         clear hb
         have hszz := hB.size
         have HLt := Lib.hid HOw.out.lt
         have HBz := Lib.hid hB
         go_wp2_with (at_builtin; go_must (refine wpList_app1 rfl _ _ 22 rfl w.heap.size 3 (.int .i64 0) 8 Tryz.underlying22 infoInt rfl u10 (ivs cur) rfl (.int .i64 nn) rfl HOw.out rfl HNl.out.1 HNl.out.2 hszz fun v' w' g1 g2 => ?_))
         have HBm := Lib.hid (HBz.out.trans (g2.below hszz HLt.out))
         have HO3 := Lib.hid (show Owns w' w.heap.size 3 v' (ivs (rndL lo hi m (rs.take (k + 1)))) by rw [HSn.out, ivs_append, HVal.out]; exact g1)
         clear g1 g2
         go_wp2_with fail
         go_roundw
         case rel => exact ⟨k + 1, by omega, by go_num, HO3, HBm.out⟩
         case measure => simp [intOf]; omega
   · obtain ⟨a2, n2, c2, rfl, hI⟩ := HOw.out.ints
     rw [List.take_of_length_le (by rw [HRl.out]; omega)] at hI
     obtain rfl : len = n2 := by have := hI.1; rw [rndL_length, HRl.out] at this; exact this
     have HI := Lib.hid hI
     clear HOw hI
     go_wp2_with fail
     go_ret2
     exact ⟨_, _, rfl, HI.out, hB⟩
end Go.Proofs.YtahmndacoanfiaaGreat
namespace Go.Proofs.YtahmndacoanfiaaGreat
set_option maxRecDepth 100000
open Go.ChangeShapes Go.WideShapes Go.ChangeAt Go.RowKit
theorem bulk_part {H : Type} : ∀ (l : List (DataW H)) (j : Nat) (d : DataW H), l[j]? = some d → Rows.uptoBulk d ≤ Rows.uptoBulkAll l
 | [], _, _, h => by simp at h
 | x :: l, 0, d, h => by simp at h; subst h; simp only [Rows.uptoBulkAll]; omega
 | x :: l, j + 1, d, h => by
   have := bulk_part l j d (by simpa using h)
   simp only [Rows.uptoBulkAll]; omega
end Go.Proofs.YtahmndacoanfiaaGreat
namespace Go.Proofs.YtahmndacoanfiaaGreat
set_option maxRecDepth 100000
open Go.ChangeShapes Go.WideShapes Go.ChangeAt Go.RowKit
section
variable {H : Type} {enc : TypeId × Value → H} {W : World}
theorem rats_trodB {fuel : Nat} {cs : List Value} {x : DataW H × List MemPlace} (h : DataW.trod enc Tryz.prog W 0 (fun _ => true) true fuel 37 cs = some x) :
   ∃ a len cap rs L, cs = [.slice a len cap] ∧ Rats W a len cap rs L ∧ L ≤ Rows.uptoBulk x.1 := by
 have c3 : Tryz.prog.cellsOf 28 = 3 := by kernel_rfl
 rcases DataW.trod_slice Tryz.underlying37 h with ⟨rfl, -⟩ | ⟨ad, len, cap, elems, rest, n, -, rfl, hx, hb, hl, hm, hlen, hel, -, -⟩
 · exact ⟨none, 0, 0, [], 0, rfl, ⟨rfl, Nat.le_refl _, by simp [maxLen], .inl rfl⟩, Nat.zero_le _⟩
 · have hU : Rows.uptoBulkAll (elems.map (·.1)) ≤ Rows.uptoBulk x.1 := by rw [hx]; simp only [Rows.uptoBulk]; omega
   generalize Rows.uptoBulk x.1 = U at hU ⊢
   obtain ⟨b, off, spot⟩ := ad
   by_cases h0 : len = 0
   · subst h0
     exact ⟨some ⟨b, off, spot⟩, 0, cap, [], 0, rfl, ⟨rfl, hl, hm, .inl rfl⟩, Nat.zero_le _⟩
   have key0 : ∀ i, i < len → ∃ cs', W.cells? 0 ((⟨b, off, spot⟩ : Addr).add (i * 3)) 3 = some cs' ∧ ∃ v0 v1 v2 p q L, cs' = [v0, v1, v2] ∧ RatR W (.agg #[v0, v1, v2]) p q L ∧ L ≤ U := by
     intro i hi
     have hE := hel i hi
     have hbp := fun d hd => bulk_part (elems.map (·.1)) i d hd
     rw [c3, List.getElem?_eq_getElem (by omega), Option.bind_eq_some_iff] at hE
     obtain ⟨cs', hc, hE⟩ := hE
     obtain ⟨v0, v1, v2, p, q, L, e, hR, -, hBk⟩ := ratio_trod hE
     have h9 := hbp (elems[i]'(by omega)).1 (by rw [List.getElem?_map, List.getElem?_eq_getElem (by omega)]; rfl)
     exact ⟨cs', hc, v0, v1, v2, p, q, L, e, hR, by omega⟩
   have hspot : spot = none := by
     obtain ⟨cs', hc, v0, v1, v2, p, q, L, rfl, -⟩ := key0 0 (by omega)
     obtain ⟨-, -, hcell⟩ := World.cells?_some hc
     have q0 := hcell 0 (by omega)
     have := World.cell?_spot (v := v0) (by simpa using q0)
     simpa [Addr.add] using this
   subst hspot
   have key : ∀ i, i < len → ∃ r L, b < W.heap.size ∧ RatAt W b (off + i * 3) r L ∧ L ≤ U := by
     intro i hi
     obtain ⟨cs', hc, v0, v1, v2, p, q, L, rfl, hR, hLU⟩ := key0 i hi
     obtain ⟨-, -, hcell⟩ := World.cells?_some hc
     have q0 := hcell 0 (by omega)
     have q1 := hcell 1 (by omega)
     have q2 := hcell 2 (by omega)
     rw [addr_add, addr_add] at q0 q1 q2
     simp at q0 q1 q2
     have hV : RatV W (.agg #[v0, v1, v2]) (mkRat p q) L := ⟨p, q, hR, rfl⟩
     obtain ⟨n, a', l', c', a, l, c, e, -, -⟩ := hV.form
     cases e
     refine ⟨mkRat p q, L, ?_, ⟨n, a', l', c', a, l, c, q0, q1, q2, hV⟩, hLU⟩
     simp only [World.cell?] at q0
     rcases Nat.lt_or_ge b W.heap.size with hlt' | hge
     · exact hlt'
     · rw [Array.getElem?_eq_none hge] at q0; cases q0
   have hex : ∃ (rs : List Rat) (M : Nat), rs.length = len ∧ M ≤ U ∧ ∀ i, i < len → b < W.heap.size ∧ RatAt W b (off + i * 3) (rs.getD i 0) M := by
     clear hel hlen hl hm h h0 key0 hx
     induction len with
     | zero => exact ⟨[], 0, rfl, Nat.zero_le _, fun i hi => by omega⟩
     | succ l ih =>
       obtain ⟨rs, M, h1, hMU, h2⟩ := ih fun i hi => key i (by omega)
       obtain ⟨r, L, k2, k3, k4⟩ := key l (by omega)
       have up : ∀ {o : Nat} {r : Rat} {N N' : Nat}, N ≤ N' → RatAt W b o r N → RatAt W b o r N' := fun hN ⟨n, a', l', c', a, l, c, h0, h1, h2, h3⟩ => ⟨n, a', l', c', a, l, c, h0, h1, h2, h3.mono hN⟩
       refine ⟨rs ++ [r], max M L, by simp [h1], by omega, fun i hi => ?_⟩
       by_cases hil : i < l
       · have : (rs ++ [r]).getD i 0 = rs.getD i 0 := by simp [List.getD, List.getElem?_append_left (by omega : i < rs.length)]
         rw [this]; exact ⟨k2, up (Nat.le_max_left _ _) (h2 i hil).2⟩
       · obtain rfl : i = l := by omega
         have : (rs ++ [r]).getD i 0 = r := by simp [List.getD, ← h1]
         rw [this]; exact ⟨k2, up (Nat.le_max_right _ _) k3⟩
   obtain ⟨rs, M, h1, hMU, h2⟩ := hex
   exact ⟨some ⟨b, off, none⟩, len, cap, rs, M, rfl, ⟨h1, hl, hm, .inr ⟨b, off, rfl, (h2 0 (by omega)).1, fun i hi => (h2 i hi).2⟩⟩, hMU⟩
theorem open_ratsB {base : Nat} {v : Value} {d : DataW H} {ps : List MemPlace} (hv : Value.okWide Tryz.prog W .any base 37 v) (h : DataW.Trod enc Tryz.prog W 0 (fun _ => true) true 37 v d ps) :
   ∃ a len cap rs L, v = .slice a len cap ∧ Rats W a len cap rs L ∧ L ≤ Rows.uptoBulk d := by
 obtain ⟨a, len, cap, rfl⟩ := okWide_slice Tryz.underlying37 hv
 obtain ⟨m, hm⟩ := h
 obtain ⟨a', len', cap', rs, L, e, hR⟩ := rats_trodB hm
 simp [Value.cells] at e
 obtain ⟨rfl, rfl, rfl⟩ := e
 exact ⟨a, len, cap, rs, L, rfl, hR⟩
end
theorem Rats.mono {w : World} {a : Option Addr} {len cap : Nat} {rs : List Rat} {L M : Nat} (h : Rats w a len cap rs L) (hL : L ≤ M) : Rats w a len cap rs M := by
 obtain ⟨h1, h2, h3, h4⟩ := h
 refine ⟨h1, h2, h3, h4.imp id ?_⟩
 rintro ⟨b, off, rfl, hlt, hc⟩
 refine ⟨b, off, rfl, hlt, fun i hi => ?_⟩
 obtain ⟨n, a', l', c', a, l, c, k0, k1, k2, k3⟩ := hc i hi
 exact ⟨n, a', l', c', a, l, c, k0, k1, k2, k3.mono hL⟩
set_option maxHeartbeats 8000000 in
theorem numbers_en (f : List Int) (a : Option Addr) (len cap : Nat) (rs : List Rat) (b : Option Addr) (len2 cap2 L : Nat) (m lo hi : Int) (w : World) (hI : Ints w a len cap f) (hr : Rats w b len2 cap2 rs L) (hR : rndE len2 m lo hi ≠ 0) (hE : eqE f ≠ 0) :
   Calls Tryz.prog 5 #[.slice a len cap, .slice b len2 cap2, .int .i64 m, .int .i64 lo, .int .i64 hi] w fun e w' => e = .returned (.bool true) ∧ Below w.heap.size w w' := by
 have HI := Lib.hid hI
 have HRs := Lib.hid hr
 clear hI
 have hlm : len2 ≤ 9223372036854775807 := by have h1 := hr.2.1; have h2 := hr.2.2.1; unfold maxLen at h2; omega
 have HNR := Lib.hid hR
 obtain ⟨er, her⟩ : ∃ er, rndE len2 m lo hi = er := ⟨_, rfl⟩
 have HER := Lib.hid her
 clear hR her hr
 have HNE := Lib.hid hE
 clear hE
 obtain ⟨ef, hef⟩ : ∃ ef, eqE f = ef := ⟨_, rfl⟩
 have HEF := Lib.hid hef
 clear hef
 go_enter Tryz.func5, Tryz.ntmps5
 go_wp2_with fail
 refine (erounded_err b len2 cap2 m lo hi _ hlm HNR.out).mono ?_
 rintro e w1 ⟨rfl, hb⟩
 replace HI := Lib.hid (HI.out.below hb)
 replace HRs := Lib.hid (HRs.out.below hb)
 have hB := hb
 rw [HER.out]
 clear hb
 go_wp2_with fail
 refine (rrounded_err b len2 cap2 m lo hi _ hlm HNR.out).mono ?_
 rintro e w2 ⟨rfl, hb⟩
 replace HI := Lib.hid (HI.out.below hb)
 replace HRs := Lib.hid (HRs.out.below hb)
 replace hB := hB.trans (hb.mono hB.size)
 rw [HER.out]
 clear hb
 go_wp2_with fail
 have HB2 := Lib.hid hB
 clear hB
 go_loopw [50] (fun i wr => ∃ k : Nat, k ≤ 0 ∧ i = .int .i64 k ∧ Below w2.heap.size w2 wr) (fun i _ => 0 - (intOf i).toNat)
 case atStart => exact ⟨0, by omega, rfl, Below.refl _ _⟩
 case round =>
   generalize wr = wq at *
   obtain ⟨k, hk, rfl, HBq⟩ := hrel
   · obtain rfl : k = 0 := by omega
     have hB := HB2.out.trans (HBq.mono HB2.out.size)
     replace HI := Lib.hid (HI.out.below HBq)
     clear HBq HB2 hk
     go_wp2_with fail
     refine (emom_no f _ _ _ _ HI.out HNE.out).mono ?_
     rintro e w3 ⟨vm, vv, rfl, hv, hu, hb⟩
     replace HI := Lib.hid (HI.out.below hb)
     replace hB := hB.trans (hb.mono hB.size)
     rw [HEF.out]
     have HVm := Lib.hid (hv.mono (Nat.zero_le _))
     have HVv := Lib.hid (hu.mono (Nat.zero_le _))
     obtain ⟨pm', mm', qm', pm, mm, qm, rfl, -, -, -, -⟩ := hv
     obtain ⟨pv', mv', qv', pv, mv, qv, rfl, -, -, -, -⟩ := hu
     generalize decide ((0 : Rat).num < 0) = dm at *
     clear hb
     go_wp2_with fail
     have hbx : Below w3.heap.size w3 ((w3.alloc (.cells #[.bool dm, .slice pm' mm' qm', .slice pm mm qm] 28)).alloc (.cells #[.bool dm, .slice pv' mv' qv', .slice pv mv qv] 28)) := (((Below.refl _ _).alloc (Nat.le_refl _) _).alloc (by simp) _)
     generalize hWW : ((w3.alloc (.cells #[.bool dm, .slice pm' mm' qm', .slice pm mm qm] 28)).alloc (.cells #[.bool dm, .slice pv' mv' qv', .slice pv mv qv] 28)) = w3a at *
     replace HI := Lib.hid (HI.out.below hbx)
     replace HVm := Lib.hid (HVm.out.below hbx)
     replace HVv := Lib.hid (HVv.out.below hbx)
     have cM0 : w3a.cell? ⟨w3.heap.size, 0, none⟩ = some (.bool dm) := by subst hWW; go_simp
     have cM1 : w3a.cell? ⟨w3.heap.size, 1, none⟩ = some (.slice pm' mm' qm') := by subst hWW; go_simp
     have cM2 : w3a.cell? ⟨w3.heap.size, 2, none⟩ = some (.slice pm mm qm) := by subst hWW; go_simp
     have ltM : w3.heap.size < w3a.heap.size := by subst hWW; simp <;> omega
     have cV0 : w3a.cell? ⟨w3.heap.size + 1, 0, none⟩ = some (.bool dm) := by subst hWW; go_simp
     have cV1 : w3a.cell? ⟨w3.heap.size + 1, 1, none⟩ = some (.slice pv' mv' qv') := by subst hWW; go_simp
     have cV2 : w3a.cell? ⟨w3.heap.size + 1, 2, none⟩ = some (.slice pv mv qv) := by subst hWW; go_simp
     have ltV : w3.heap.size + 1 < w3a.heap.size := by subst hWW; simp
     replace hB := hB.trans (hbx.mono hB.size)
     clear hbx hWW
     refine (rmom_no f _ _ _ _ HI.out HNE.out).mono ?_
     rintro e w4 ⟨vm2, vv2, rfl, hv, hu, hb⟩
     replace cM0 := bc hb ltM cM0
     replace cM1 := bc hb ltM cM1
     replace cM2 := bc hb ltM cM2
     replace ltM := bl hb ltM
     replace cV0 := bc hb ltV cV0
     replace cV1 := bc hb ltV cV1
     replace cV2 := bc hb ltV cV2
     replace ltV := bl hb ltV
     replace HI := Lib.hid (HI.out.below hb)
     replace HVm := Lib.hid (HVm.out.below hb)
     replace HVv := Lib.hid (HVv.out.below hb)
     replace hB := hB.trans (hb.mono hB.size)
     rw [HEF.out]
     have HVo1 := Lib.hid (hv.mono (Nat.zero_le _))
     have HVq1 := Lib.hid (hu.mono (Nat.zero_le _))
     obtain ⟨po1', mo1', qo1', po1, mo1, qo1, rfl, -, -, -, -⟩ := hv
     obtain ⟨pq1', mq1', qq1', pq1, mq1, qq1, rfl, -, -, -, -⟩ := hu
     generalize decide ((0 : Rat).num < 0) = do1 at *
     clear hb
     go_wp2_with fail
     have hbx : Below w4.heap.size w4 ((w4.alloc (.cells #[.bool do1, .slice po1' mo1' qo1', .slice po1 mo1 qo1] 28)).alloc (.cells #[.bool do1, .slice pq1' mq1' qq1', .slice pq1 mq1 qq1] 28)) := (((Below.refl _ _).alloc (Nat.le_refl _) _).alloc (by simp) _)
     generalize hWW : ((w4.alloc (.cells #[.bool do1, .slice po1' mo1' qo1', .slice po1 mo1 qo1] 28)).alloc (.cells #[.bool do1, .slice pq1' mq1' qq1', .slice pq1 mq1 qq1] 28)) = w4a at *
     replace cM0 := bc hbx ltM cM0
     replace cM1 := bc hbx ltM cM1
     replace cM2 := bc hbx ltM cM2
     replace ltM := bl hbx ltM
     replace cV0 := bc hbx ltV cV0
     replace cV1 := bc hbx ltV cV1
     replace cV2 := bc hbx ltV cV2
     replace ltV := bl hbx ltV
     replace HI := Lib.hid (HI.out.below hbx)
     replace HVm := Lib.hid (HVm.out.below hbx)
     replace HVv := Lib.hid (HVv.out.below hbx)
     replace HVo1 := Lib.hid (HVo1.out.below hbx)
     replace HVq1 := Lib.hid (HVq1.out.below hbx)
     have cO0 : w4a.cell? ⟨w4.heap.size, 0, none⟩ = some (.bool do1) := by subst hWW; go_simp
     have cO1 : w4a.cell? ⟨w4.heap.size, 1, none⟩ = some (.slice po1' mo1' qo1') := by subst hWW; go_simp
     have cO2 : w4a.cell? ⟨w4.heap.size, 2, none⟩ = some (.slice po1 mo1 qo1) := by subst hWW; go_simp
     have ltO : w4.heap.size < w4a.heap.size := by subst hWW; simp <;> omega
     have cQ0 : w4a.cell? ⟨w4.heap.size + 1, 0, none⟩ = some (.bool do1) := by subst hWW; go_simp
     have cQ1 : w4a.cell? ⟨w4.heap.size + 1, 1, none⟩ = some (.slice pq1' mq1' qq1') := by subst hWW; go_simp
     have cQ2 : w4a.cell? ⟨w4.heap.size + 1, 2, none⟩ = some (.slice pq1 mq1 qq1) := by subst hWW; go_simp
     have ltQ : w4.heap.size + 1 < w4a.heap.size := by subst hWW; simp
     replace hB := hB.trans (hbx.mono hB.size)
     clear hbx hWW
     refine (equal_any _ _ _ _ _ _ HVm.out HVo1.out).mono ?_
     rintro e w5 ⟨rfl, hb⟩
     replace cM0 := bc hb ltM cM0
     replace cM1 := bc hb ltM cM1
     replace cM2 := bc hb ltM cM2
     replace ltM := bl hb ltM
     replace cV0 := bc hb ltV cV0
     replace cV1 := bc hb ltV cV1
     replace cV2 := bc hb ltV cV2
     replace ltV := bl hb ltV
     replace cO0 := bc hb ltO cO0
     replace cO1 := bc hb ltO cO1
     replace cO2 := bc hb ltO cO2
     replace ltO := bl hb ltO
     replace cQ0 := bc hb ltQ cQ0
     replace cQ1 := bc hb ltQ cQ1
     replace cQ2 := bc hb ltQ cQ2
     replace ltQ := bl hb ltQ
     replace HI := Lib.hid (HI.out.below hb)
     replace HVm := Lib.hid (HVm.out.below hb)
     replace HVv := Lib.hid (HVv.out.below hb)
     replace HVo1 := Lib.hid (HVo1.out.below hb)
     replace HVq1 := Lib.hid (HVq1.out.below hb)
     replace hB := hB.trans (hb.mono hB.size)
     clear hb
     go_wp2_with fail
     refine (equal_any _ _ _ _ _ _ HVv.out HVq1.out).mono ?_
     rintro e w6 ⟨rfl, hb⟩
     replace cM0 := bc hb ltM cM0
     replace cM1 := bc hb ltM cM1
     replace cM2 := bc hb ltM cM2
     replace ltM := bl hb ltM
     replace cV0 := bc hb ltV cV0
     replace cV1 := bc hb ltV cV1
     replace cV2 := bc hb ltV cV2
     replace ltV := bl hb ltV
     replace cO0 := bc hb ltO cO0
     replace cO1 := bc hb ltO cO1
     replace cO2 := bc hb ltO cO2
     replace ltO := bl hb ltO
     replace cQ0 := bc hb ltQ cQ0
     replace cQ1 := bc hb ltQ cQ1
     replace cQ2 := bc hb ltQ cQ2
     replace ltQ := bl hb ltQ
     replace HI := Lib.hid (HI.out.below hb)
     replace HVm := Lib.hid (HVm.out.below hb)
     replace HVv := Lib.hid (HVv.out.below hb)
     replace HVo1 := Lib.hid (HVo1.out.below hb)
     replace HVq1 := Lib.hid (HVq1.out.below hb)
     replace hB := hB.trans (hb.mono hB.size)
     clear hb
     go_wp2_with fail
     refine (awake_any _).mono ?_
     rintro e w7 ⟨rfl, hb⟩
     replace cM0 := bc hb ltM cM0
     replace cM1 := bc hb ltM cM1
     replace cM2 := bc hb ltM cM2
     replace ltM := bl hb ltM
     replace cV0 := bc hb ltV cV0
     replace cV1 := bc hb ltV cV1
     replace cV2 := bc hb ltV cV2
     replace ltV := bl hb ltV
     replace cO0 := bc hb ltO cO0
     replace cO1 := bc hb ltO cO1
     replace cO2 := bc hb ltO cO2
     replace ltO := bl hb ltO
     replace cQ0 := bc hb ltQ cQ0
     replace cQ1 := bc hb ltQ cQ1
     replace cQ2 := bc hb ltQ cQ2
     replace ltQ := bl hb ltQ
     replace HI := Lib.hid (HI.out.below hb)
     replace HVm := Lib.hid (HVm.out.below hb)
     replace HVv := Lib.hid (HVv.out.below hb)
     replace HVo1 := Lib.hid (HVo1.out.below hb)
     replace HVq1 := Lib.hid (HVq1.out.below hb)
     replace hB := hB.trans (hb.mono hB.size)
     clear hb
     go_wp2_with fail
     go_ret
     exact ⟨rfl, hB⟩
set_option maxHeartbeats 8000000 in
theorem numbers_ev (f : List Int) (a : Option Addr) (len cap : Nat) (rs : List Rat) (b : Option Addr) (len2 cap2 L : Nat) (m lo hi : Int) (w : World) (hI : Ints w a len cap f) (hr : Rats w b len2 cap2 rs L) (hR : rndE len2 m lo hi ≠ 0) (hO : OkF f) :
   Calls Tryz.prog 5 #[.slice a len cap, .slice b len2 cap2, .int .i64 m, .int .i64 lo, .int .i64 hi] w fun e w' => e = .returned (.bool true) ∧ Below w.heap.size w w' := by
 have HI := Lib.hid hI
 have HRs := Lib.hid hr
 clear hI
 have hlm : len2 ≤ 9223372036854775807 := by have h1 := hr.2.1; have h2 := hr.2.2.1; unfold maxLen at h2; omega
 have HNR := Lib.hid hR
 obtain ⟨er, her⟩ : ∃ er, rndE len2 m lo hi = er := ⟨_, rfl⟩
 have HER := Lib.hid her
 clear hR her hr
 have HF := Lib.hid hO
 clear hO
 go_enter Tryz.func5, Tryz.ntmps5
 go_wp2_with fail
 refine (erounded_err b len2 cap2 m lo hi _ hlm HNR.out).mono ?_
 rintro e w1 ⟨rfl, hb⟩
 replace HI := Lib.hid (HI.out.below hb)
 replace HRs := Lib.hid (HRs.out.below hb)
 have hB := hb
 rw [HER.out]
 clear hb
 go_wp2_with fail
 refine (rrounded_err b len2 cap2 m lo hi _ hlm HNR.out).mono ?_
 rintro e w2 ⟨rfl, hb⟩
 replace HI := Lib.hid (HI.out.below hb)
 replace HRs := Lib.hid (HRs.out.below hb)
 replace hB := hB.trans (hb.mono hB.size)
 rw [HER.out]
 clear hb
 go_wp2_with fail
 have HB2 := Lib.hid hB
 clear hB
 go_loopw [50] (fun i wr => ∃ k : Nat, k ≤ 0 ∧ i = .int .i64 k ∧ Below w2.heap.size w2 wr) (fun i _ => 0 - (intOf i).toNat)
 case atStart => exact ⟨0, by omega, rfl, Below.refl _ _⟩
 case round =>
   generalize wr = wq at *
   obtain ⟨k, hk, rfl, HBq⟩ := hrel
   · obtain rfl : k = 0 := by omega
     have hB := HB2.out.trans (HBq.mono HB2.out.size)
     replace HI := Lib.hid (HI.out.below HBq)
     clear HBq HB2 hk
     go_wp2_with fail
     refine (emom_any f _ _ _ _ HI.out HF.out).mono ?_
     rintro e w3 ⟨vm, vv, rfl, hv, hu, hsz, hsu, hb⟩
     replace HI := Lib.hid (HI.out.below hb)
     replace hB := hB.trans (hb.mono hB.size)
     have HVm := Lib.hid (hv.mono (Nat.zero_le _))
     have HVv := Lib.hid (hu.mono (Nat.zero_le _))
     obtain ⟨pm', mm', qm', pm, mm, qm, rfl, -, -, -, -⟩ := hv
     obtain ⟨pv', mv', qv', pv, mv, qv, rfl, -, -, -, -⟩ := hu
     generalize decide ((meanR f).num < 0) = dm at *
     generalize decide ((varR f).num < 0) = dv at *
     clear hsz hsu
     clear hb
     go_wp2_with fail
     have hbx : Below w3.heap.size w3 ((w3.alloc (.cells #[.bool dm, .slice pm' mm' qm', .slice pm mm qm] 28)).alloc (.cells #[.bool dv, .slice pv' mv' qv', .slice pv mv qv] 28)) := (((Below.refl _ _).alloc (Nat.le_refl _) _).alloc (by simp) _)
     generalize hWW : ((w3.alloc (.cells #[.bool dm, .slice pm' mm' qm', .slice pm mm qm] 28)).alloc (.cells #[.bool dv, .slice pv' mv' qv', .slice pv mv qv] 28)) = w3a at *
     replace HI := Lib.hid (HI.out.below hbx)
     replace HVm := Lib.hid (HVm.out.below hbx)
     replace HVv := Lib.hid (HVv.out.below hbx)
     have cM0 : w3a.cell? ⟨w3.heap.size, 0, none⟩ = some (.bool dm) := by subst hWW; go_simp
     have cM1 : w3a.cell? ⟨w3.heap.size, 1, none⟩ = some (.slice pm' mm' qm') := by subst hWW; go_simp
     have cM2 : w3a.cell? ⟨w3.heap.size, 2, none⟩ = some (.slice pm mm qm) := by subst hWW; go_simp
     have ltM : w3.heap.size < w3a.heap.size := by subst hWW; simp <;> omega
     have cV0 : w3a.cell? ⟨w3.heap.size + 1, 0, none⟩ = some (.bool dv) := by subst hWW; go_simp
     have cV1 : w3a.cell? ⟨w3.heap.size + 1, 1, none⟩ = some (.slice pv' mv' qv') := by subst hWW; go_simp
     have cV2 : w3a.cell? ⟨w3.heap.size + 1, 2, none⟩ = some (.slice pv mv qv) := by subst hWW; go_simp
     have ltV : w3.heap.size + 1 < w3a.heap.size := by subst hWW; simp
     replace hB := hB.trans (hbx.mono hB.size)
     clear hbx hWW
     refine (rmom_any f _ _ _ _ HI.out HF.out).mono ?_
     rintro e w4 ⟨vm2, vv2, rfl, hv, hu, hsz, hsu, hb⟩
     replace cM0 := bc hb ltM cM0
     replace cM1 := bc hb ltM cM1
     replace cM2 := bc hb ltM cM2
     replace ltM := bl hb ltM
     replace cV0 := bc hb ltV cV0
     replace cV1 := bc hb ltV cV1
     replace cV2 := bc hb ltV cV2
     replace ltV := bl hb ltV
     replace HI := Lib.hid (HI.out.below hb)
     replace HVm := Lib.hid (HVm.out.below hb)
     replace HVv := Lib.hid (HVv.out.below hb)
     replace hB := hB.trans (hb.mono hB.size)
     have HVo1 := Lib.hid (hv.mono (Nat.zero_le _))
     have HVq1 := Lib.hid (hu.mono (Nat.zero_le _))
     obtain ⟨po1', mo1', qo1', po1, mo1, qo1, rfl, -, -, -, -⟩ := hv
     obtain ⟨pq1', mq1', qq1', pq1, mq1, qq1, rfl, -, -, -, -⟩ := hu
     generalize decide ((meanR f).num < 0) = do1 at *
     generalize decide ((varR f).num < 0) = dq1 at *
     clear hsz hsu
     clear hb
     go_wp2_with fail
     have hbx : Below w4.heap.size w4 ((w4.alloc (.cells #[.bool do1, .slice po1' mo1' qo1', .slice po1 mo1 qo1] 28)).alloc (.cells #[.bool dq1, .slice pq1' mq1' qq1', .slice pq1 mq1 qq1] 28)) := (((Below.refl _ _).alloc (Nat.le_refl _) _).alloc (by simp) _)
     generalize hWW : ((w4.alloc (.cells #[.bool do1, .slice po1' mo1' qo1', .slice po1 mo1 qo1] 28)).alloc (.cells #[.bool dq1, .slice pq1' mq1' qq1', .slice pq1 mq1 qq1] 28)) = w4a at *
     replace cM0 := bc hbx ltM cM0
     replace cM1 := bc hbx ltM cM1
     replace cM2 := bc hbx ltM cM2
     replace ltM := bl hbx ltM
     replace cV0 := bc hbx ltV cV0
     replace cV1 := bc hbx ltV cV1
     replace cV2 := bc hbx ltV cV2
     replace ltV := bl hbx ltV
     replace HI := Lib.hid (HI.out.below hbx)
     replace HVm := Lib.hid (HVm.out.below hbx)
     replace HVv := Lib.hid (HVv.out.below hbx)
     replace HVo1 := Lib.hid (HVo1.out.below hbx)
     replace HVq1 := Lib.hid (HVq1.out.below hbx)
     have cO0 : w4a.cell? ⟨w4.heap.size, 0, none⟩ = some (.bool do1) := by subst hWW; go_simp
     have cO1 : w4a.cell? ⟨w4.heap.size, 1, none⟩ = some (.slice po1' mo1' qo1') := by subst hWW; go_simp
     have cO2 : w4a.cell? ⟨w4.heap.size, 2, none⟩ = some (.slice po1 mo1 qo1) := by subst hWW; go_simp
     have ltO : w4.heap.size < w4a.heap.size := by subst hWW; simp <;> omega
     have cQ0 : w4a.cell? ⟨w4.heap.size + 1, 0, none⟩ = some (.bool dq1) := by subst hWW; go_simp
     have cQ1 : w4a.cell? ⟨w4.heap.size + 1, 1, none⟩ = some (.slice pq1' mq1' qq1') := by subst hWW; go_simp
     have cQ2 : w4a.cell? ⟨w4.heap.size + 1, 2, none⟩ = some (.slice pq1 mq1 qq1) := by subst hWW; go_simp
     have ltQ : w4.heap.size + 1 < w4a.heap.size := by subst hWW; simp
     replace hB := hB.trans (hbx.mono hB.size)
     clear hbx hWW
     refine (equal_any _ _ _ _ _ _ HVm.out HVo1.out).mono ?_
     rintro e w5 ⟨rfl, hb⟩
     replace cM0 := bc hb ltM cM0
     replace cM1 := bc hb ltM cM1
     replace cM2 := bc hb ltM cM2
     replace ltM := bl hb ltM
     replace cV0 := bc hb ltV cV0
     replace cV1 := bc hb ltV cV1
     replace cV2 := bc hb ltV cV2
     replace ltV := bl hb ltV
     replace cO0 := bc hb ltO cO0
     replace cO1 := bc hb ltO cO1
     replace cO2 := bc hb ltO cO2
     replace ltO := bl hb ltO
     replace cQ0 := bc hb ltQ cQ0
     replace cQ1 := bc hb ltQ cQ1
     replace cQ2 := bc hb ltQ cQ2
     replace ltQ := bl hb ltQ
     replace HI := Lib.hid (HI.out.below hb)
     replace HVm := Lib.hid (HVm.out.below hb)
     replace HVv := Lib.hid (HVv.out.below hb)
     replace HVo1 := Lib.hid (HVo1.out.below hb)
     replace HVq1 := Lib.hid (HVq1.out.below hb)
     replace hB := hB.trans (hb.mono hB.size)
     clear hb
     go_wp2_with fail
     refine (equal_any _ _ _ _ _ _ HVv.out HVq1.out).mono ?_
     rintro e w6 ⟨rfl, hb⟩
     replace cM0 := bc hb ltM cM0
     replace cM1 := bc hb ltM cM1
     replace cM2 := bc hb ltM cM2
     replace ltM := bl hb ltM
     replace cV0 := bc hb ltV cV0
     replace cV1 := bc hb ltV cV1
     replace cV2 := bc hb ltV cV2
     replace ltV := bl hb ltV
     replace cO0 := bc hb ltO cO0
     replace cO1 := bc hb ltO cO1
     replace cO2 := bc hb ltO cO2
     replace ltO := bl hb ltO
     replace cQ0 := bc hb ltQ cQ0
     replace cQ1 := bc hb ltQ cQ1
     replace cQ2 := bc hb ltQ cQ2
     replace ltQ := bl hb ltQ
     replace HI := Lib.hid (HI.out.below hb)
     replace HVm := Lib.hid (HVm.out.below hb)
     replace HVv := Lib.hid (HVv.out.below hb)
     replace HVo1 := Lib.hid (HVo1.out.below hb)
     replace HVq1 := Lib.hid (HVq1.out.below hb)
     replace hB := hB.trans (hb.mono hB.size)
     clear hb
     go_wp2_with fail
     refine (awake_any _).mono ?_
     rintro e w7 ⟨rfl, hb⟩
     replace cM0 := bc hb ltM cM0
     replace cM1 := bc hb ltM cM1
     replace cM2 := bc hb ltM cM2
     replace ltM := bl hb ltM
     replace cV0 := bc hb ltV cV0
     replace cV1 := bc hb ltV cV1
     replace cV2 := bc hb ltV cV2
     replace ltV := bl hb ltV
     replace cO0 := bc hb ltO cO0
     replace cO1 := bc hb ltO cO1
     replace cO2 := bc hb ltO cO2
     replace ltO := bl hb ltO
     replace cQ0 := bc hb ltQ cQ0
     replace cQ1 := bc hb ltQ cQ1
     replace cQ2 := bc hb ltQ cQ2
     replace ltQ := bl hb ltQ
     replace HI := Lib.hid (HI.out.below hb)
     replace HVm := Lib.hid (HVm.out.below hb)
     replace HVv := Lib.hid (HVv.out.below hb)
     replace HVo1 := Lib.hid (HVo1.out.below hb)
     replace HVq1 := Lib.hid (HVq1.out.below hb)
     replace hB := hB.trans (hb.mono hB.size)
     clear hb
     go_wp2_with fail
     go_ret
     exact ⟨rfl, hB⟩
set_option maxHeartbeats 8000000 in
theorem numbers_on (f : List Int) (a : Option Addr) (len cap : Nat) (rs : List Rat) (b : Option Addr) (len2 cap2 L : Nat) (m lo hi : Int) (w : World) (hI : Ints w a len cap f) (hr : Rats w b len2 cap2 rs L) (hL : 1 ≤ L) (hm : (2 * L + 8) * 4 ≤ 140737488355328) (hR : rndE len2 m lo hi = 0) (hE : eqE f ≠ 0) :
   Calls Tryz.prog 5 #[.slice a len cap, .slice b len2 cap2, .int .i64 m, .int .i64 lo, .int .i64 hi] w fun e w' => e = .returned (.bool true) ∧ Below w.heap.size w w' := by
 have HI := Lib.hid hI
 have HRs := Lib.hid hr
 clear hI
 have HNR := Lib.hid (rndE_ok hR)
 have hl61 : len2 ≤ 61 := HNR.out.1
 clear hR hr
 have HNE := Lib.hid hE
 clear hE
 obtain ⟨ef, hef⟩ : ∃ ef, eqE f = ef := ⟨_, rfl⟩
 have HEF := Lib.hid hef
 clear hef
 go_enter Tryz.func5, Tryz.ntmps5
 go_wp2_with fail
 refine (erounded_any rs b len2 cap2 L m lo hi _ HRs.out hL (by omega) HNR.out.1 HNR.out.2.1 HNR.out.2.2.1 HNR.out.2.2.2.1 HNR.out.2.2.2.2.1 HNR.out.2.2.2.2.2.1 HNR.out.2.2.2.2.2.2.1 HNR.out.2.2.2.2.2.2.2).mono ?_
 rintro e w1 ⟨a1, c1, rfl, h1, hb⟩
 replace HI := Lib.hid (HI.out.below hb)
 replace HRs := Lib.hid (HRs.out.below hb)
 have hB := hb
 have HA1 := Lib.hid h1
 clear h1
 clear hb
 go_wp2_with fail
 refine (rrounded_any rs b len2 cap2 L m lo hi _ HRs.out hL (by omega) HNR.out.1 HNR.out.2.1 HNR.out.2.2.1 HNR.out.2.2.2.1 HNR.out.2.2.2.2.1 HNR.out.2.2.2.2.2.1 HNR.out.2.2.2.2.2.2.1 HNR.out.2.2.2.2.2.2.2).mono ?_
 rintro e w2 ⟨a2, c2, rfl, h1, hb⟩
 replace HI := Lib.hid (HI.out.below hb)
 replace HRs := Lib.hid (HRs.out.below hb)
 replace HA1 := Lib.hid (HA1.out.below hb)
 replace hB := hB.trans (hb.mono hB.size)
 have HA2 := Lib.hid h1
 clear h1
 clear hb
 go_wp2_with fail
 have HB2 := Lib.hid hB
 clear hB
 go_loopw [50] (fun i wr => ∃ k : Nat, k ≤ len2 ∧ i = .int .i64 k ∧ Below w2.heap.size w2 wr) (fun i _ => len2 - (intOf i).toNat)
 case atStart => exact ⟨0, by omega, rfl, Below.refl _ _⟩
 case round =>
   generalize wr = wq at *
   obtain ⟨k, hk, rfl, HBq⟩ := hrel
   by_cases hlt : k < len2
   · obtain ⟨b1, off1, rfl, hb1, hc1⟩ := HA1.out.2.at hlt
     obtain ⟨b2, off2, rfl, hb2, hc2⟩ := HA2.out.2.at hlt
     have e1 := hc1 k hlt _ HBq
     have e2 := hc2 k hlt _ HBq
     generalize (rndL lo hi m rs).getD k 0 = x at *
     clear hc1 hc2
     go_wp2_with fail
     go_quiet (fail)
     go_wp2_with fail
     go_roundw
     case rel => exact ⟨k + 1, by omega, by go_num, below_drewN HBq _⟩
     case measure => simp [intOf]; omega
   · obtain rfl : k = len2 := by omega
     have hB := HB2.out.trans (HBq.mono HB2.out.size)
     replace HI := Lib.hid (HI.out.below HBq)
     clear HBq HB2 hk
     go_wp2_with fail
     refine (emom_no f _ _ _ _ HI.out HNE.out).mono ?_
     rintro e w3 ⟨vm, vv, rfl, hv, hu, hb⟩
     replace HI := Lib.hid (HI.out.below hb)
     replace hB := hB.trans (hb.mono hB.size)
     rw [HEF.out]
     have HVm := Lib.hid (hv.mono (Nat.zero_le _))
     have HVv := Lib.hid (hu.mono (Nat.zero_le _))
     obtain ⟨pm', mm', qm', pm, mm, qm, rfl, -, -, -, -⟩ := hv
     obtain ⟨pv', mv', qv', pv, mv, qv, rfl, -, -, -, -⟩ := hu
     generalize decide ((0 : Rat).num < 0) = dm at *
     clear hb
     go_wp2_with fail
     have hbx : Below w3.heap.size w3 ((w3.alloc (.cells #[.bool dm, .slice pm' mm' qm', .slice pm mm qm] 28)).alloc (.cells #[.bool dm, .slice pv' mv' qv', .slice pv mv qv] 28)) := (((Below.refl _ _).alloc (Nat.le_refl _) _).alloc (by simp) _)
     generalize hWW : ((w3.alloc (.cells #[.bool dm, .slice pm' mm' qm', .slice pm mm qm] 28)).alloc (.cells #[.bool dm, .slice pv' mv' qv', .slice pv mv qv] 28)) = w3a at *
     replace HI := Lib.hid (HI.out.below hbx)
     replace HVm := Lib.hid (HVm.out.below hbx)
     replace HVv := Lib.hid (HVv.out.below hbx)
     have cM0 : w3a.cell? ⟨w3.heap.size, 0, none⟩ = some (.bool dm) := by subst hWW; go_simp
     have cM1 : w3a.cell? ⟨w3.heap.size, 1, none⟩ = some (.slice pm' mm' qm') := by subst hWW; go_simp
     have cM2 : w3a.cell? ⟨w3.heap.size, 2, none⟩ = some (.slice pm mm qm) := by subst hWW; go_simp
     have ltM : w3.heap.size < w3a.heap.size := by subst hWW; simp <;> omega
     have cV0 : w3a.cell? ⟨w3.heap.size + 1, 0, none⟩ = some (.bool dm) := by subst hWW; go_simp
     have cV1 : w3a.cell? ⟨w3.heap.size + 1, 1, none⟩ = some (.slice pv' mv' qv') := by subst hWW; go_simp
     have cV2 : w3a.cell? ⟨w3.heap.size + 1, 2, none⟩ = some (.slice pv mv qv) := by subst hWW; go_simp
     have ltV : w3.heap.size + 1 < w3a.heap.size := by subst hWW; simp
     replace hB := hB.trans (hbx.mono hB.size)
     clear hbx hWW
     refine (rmom_no f _ _ _ _ HI.out HNE.out).mono ?_
     rintro e w4 ⟨vm2, vv2, rfl, hv, hu, hb⟩
     replace cM0 := bc hb ltM cM0
     replace cM1 := bc hb ltM cM1
     replace cM2 := bc hb ltM cM2
     replace ltM := bl hb ltM
     replace cV0 := bc hb ltV cV0
     replace cV1 := bc hb ltV cV1
     replace cV2 := bc hb ltV cV2
     replace ltV := bl hb ltV
     replace HI := Lib.hid (HI.out.below hb)
     replace HVm := Lib.hid (HVm.out.below hb)
     replace HVv := Lib.hid (HVv.out.below hb)
     replace hB := hB.trans (hb.mono hB.size)
     rw [HEF.out]
     have HVo1 := Lib.hid (hv.mono (Nat.zero_le _))
     have HVq1 := Lib.hid (hu.mono (Nat.zero_le _))
     obtain ⟨po1', mo1', qo1', po1, mo1, qo1, rfl, -, -, -, -⟩ := hv
     obtain ⟨pq1', mq1', qq1', pq1, mq1, qq1, rfl, -, -, -, -⟩ := hu
     generalize decide ((0 : Rat).num < 0) = do1 at *
     clear hb
     go_wp2_with fail
     have hbx : Below w4.heap.size w4 ((w4.alloc (.cells #[.bool do1, .slice po1' mo1' qo1', .slice po1 mo1 qo1] 28)).alloc (.cells #[.bool do1, .slice pq1' mq1' qq1', .slice pq1 mq1 qq1] 28)) := (((Below.refl _ _).alloc (Nat.le_refl _) _).alloc (by simp) _)
     generalize hWW : ((w4.alloc (.cells #[.bool do1, .slice po1' mo1' qo1', .slice po1 mo1 qo1] 28)).alloc (.cells #[.bool do1, .slice pq1' mq1' qq1', .slice pq1 mq1 qq1] 28)) = w4a at *
     replace cM0 := bc hbx ltM cM0
     replace cM1 := bc hbx ltM cM1
     replace cM2 := bc hbx ltM cM2
     replace ltM := bl hbx ltM
     replace cV0 := bc hbx ltV cV0
     replace cV1 := bc hbx ltV cV1
     replace cV2 := bc hbx ltV cV2
     replace ltV := bl hbx ltV
     replace HI := Lib.hid (HI.out.below hbx)
     replace HVm := Lib.hid (HVm.out.below hbx)
     replace HVv := Lib.hid (HVv.out.below hbx)
     replace HVo1 := Lib.hid (HVo1.out.below hbx)
     replace HVq1 := Lib.hid (HVq1.out.below hbx)
     have cO0 : w4a.cell? ⟨w4.heap.size, 0, none⟩ = some (.bool do1) := by subst hWW; go_simp
     have cO1 : w4a.cell? ⟨w4.heap.size, 1, none⟩ = some (.slice po1' mo1' qo1') := by subst hWW; go_simp
     have cO2 : w4a.cell? ⟨w4.heap.size, 2, none⟩ = some (.slice po1 mo1 qo1) := by subst hWW; go_simp
     have ltO : w4.heap.size < w4a.heap.size := by subst hWW; simp <;> omega
     have cQ0 : w4a.cell? ⟨w4.heap.size + 1, 0, none⟩ = some (.bool do1) := by subst hWW; go_simp
     have cQ1 : w4a.cell? ⟨w4.heap.size + 1, 1, none⟩ = some (.slice pq1' mq1' qq1') := by subst hWW; go_simp
     have cQ2 : w4a.cell? ⟨w4.heap.size + 1, 2, none⟩ = some (.slice pq1 mq1 qq1) := by subst hWW; go_simp
     have ltQ : w4.heap.size + 1 < w4a.heap.size := by subst hWW; simp
     replace hB := hB.trans (hbx.mono hB.size)
     clear hbx hWW
     refine (equal_any _ _ _ _ _ _ HVm.out HVo1.out).mono ?_
     rintro e w5 ⟨rfl, hb⟩
     replace cM0 := bc hb ltM cM0
     replace cM1 := bc hb ltM cM1
     replace cM2 := bc hb ltM cM2
     replace ltM := bl hb ltM
     replace cV0 := bc hb ltV cV0
     replace cV1 := bc hb ltV cV1
     replace cV2 := bc hb ltV cV2
     replace ltV := bl hb ltV
     replace cO0 := bc hb ltO cO0
     replace cO1 := bc hb ltO cO1
     replace cO2 := bc hb ltO cO2
     replace ltO := bl hb ltO
     replace cQ0 := bc hb ltQ cQ0
     replace cQ1 := bc hb ltQ cQ1
     replace cQ2 := bc hb ltQ cQ2
     replace ltQ := bl hb ltQ
     replace HI := Lib.hid (HI.out.below hb)
     replace HVm := Lib.hid (HVm.out.below hb)
     replace HVv := Lib.hid (HVv.out.below hb)
     replace HVo1 := Lib.hid (HVo1.out.below hb)
     replace HVq1 := Lib.hid (HVq1.out.below hb)
     replace hB := hB.trans (hb.mono hB.size)
     clear hb
     go_wp2_with fail
     refine (equal_any _ _ _ _ _ _ HVv.out HVq1.out).mono ?_
     rintro e w6 ⟨rfl, hb⟩
     replace cM0 := bc hb ltM cM0
     replace cM1 := bc hb ltM cM1
     replace cM2 := bc hb ltM cM2
     replace ltM := bl hb ltM
     replace cV0 := bc hb ltV cV0
     replace cV1 := bc hb ltV cV1
     replace cV2 := bc hb ltV cV2
     replace ltV := bl hb ltV
     replace cO0 := bc hb ltO cO0
     replace cO1 := bc hb ltO cO1
     replace cO2 := bc hb ltO cO2
     replace ltO := bl hb ltO
     replace cQ0 := bc hb ltQ cQ0
     replace cQ1 := bc hb ltQ cQ1
     replace cQ2 := bc hb ltQ cQ2
     replace ltQ := bl hb ltQ
     replace HI := Lib.hid (HI.out.below hb)
     replace HVm := Lib.hid (HVm.out.below hb)
     replace HVv := Lib.hid (HVv.out.below hb)
     replace HVo1 := Lib.hid (HVo1.out.below hb)
     replace HVq1 := Lib.hid (HVq1.out.below hb)
     replace hB := hB.trans (hb.mono hB.size)
     clear hb
     go_wp2_with fail
     refine (awake_any _).mono ?_
     rintro e w7 ⟨rfl, hb⟩
     replace cM0 := bc hb ltM cM0
     replace cM1 := bc hb ltM cM1
     replace cM2 := bc hb ltM cM2
     replace ltM := bl hb ltM
     replace cV0 := bc hb ltV cV0
     replace cV1 := bc hb ltV cV1
     replace cV2 := bc hb ltV cV2
     replace ltV := bl hb ltV
     replace cO0 := bc hb ltO cO0
     replace cO1 := bc hb ltO cO1
     replace cO2 := bc hb ltO cO2
     replace ltO := bl hb ltO
     replace cQ0 := bc hb ltQ cQ0
     replace cQ1 := bc hb ltQ cQ1
     replace cQ2 := bc hb ltQ cQ2
     replace ltQ := bl hb ltQ
     replace HI := Lib.hid (HI.out.below hb)
     replace HVm := Lib.hid (HVm.out.below hb)
     replace HVv := Lib.hid (HVv.out.below hb)
     replace HVo1 := Lib.hid (HVo1.out.below hb)
     replace HVq1 := Lib.hid (HVq1.out.below hb)
     replace hB := hB.trans (hb.mono hB.size)
     clear hb
     go_wp2_with fail
     go_ret
     exact ⟨rfl, hB⟩
set_option maxHeartbeats 8000000 in
theorem numbers_ov (f : List Int) (a : Option Addr) (len cap : Nat) (rs : List Rat) (b : Option Addr) (len2 cap2 L : Nat) (m lo hi : Int) (w : World) (hI : Ints w a len cap f) (hr : Rats w b len2 cap2 rs L) (hL : 1 ≤ L) (hm : (2 * L + 8) * 4 ≤ 140737488355328) (hR : rndE len2 m lo hi = 0) (hO : OkF f) :
   Calls Tryz.prog 5 #[.slice a len cap, .slice b len2 cap2, .int .i64 m, .int .i64 lo, .int .i64 hi] w fun e w' => e = .returned (.bool true) ∧ Below w.heap.size w w' := by
 have HI := Lib.hid hI
 have HRs := Lib.hid hr
 clear hI
 have HNR := Lib.hid (rndE_ok hR)
 have hl61 : len2 ≤ 61 := HNR.out.1
 clear hR hr
 have HF := Lib.hid hO
 clear hO
 go_enter Tryz.func5, Tryz.ntmps5
 go_wp2_with fail
 refine (erounded_any rs b len2 cap2 L m lo hi _ HRs.out hL (by omega) HNR.out.1 HNR.out.2.1 HNR.out.2.2.1 HNR.out.2.2.2.1 HNR.out.2.2.2.2.1 HNR.out.2.2.2.2.2.1 HNR.out.2.2.2.2.2.2.1 HNR.out.2.2.2.2.2.2.2).mono ?_
 rintro e w1 ⟨a1, c1, rfl, h1, hb⟩
 replace HI := Lib.hid (HI.out.below hb)
 replace HRs := Lib.hid (HRs.out.below hb)
 have hB := hb
 have HA1 := Lib.hid h1
 clear h1
 clear hb
 go_wp2_with fail
 refine (rrounded_any rs b len2 cap2 L m lo hi _ HRs.out hL (by omega) HNR.out.1 HNR.out.2.1 HNR.out.2.2.1 HNR.out.2.2.2.1 HNR.out.2.2.2.2.1 HNR.out.2.2.2.2.2.1 HNR.out.2.2.2.2.2.2.1 HNR.out.2.2.2.2.2.2.2).mono ?_
 rintro e w2 ⟨a2, c2, rfl, h1, hb⟩
 replace HI := Lib.hid (HI.out.below hb)
 replace HRs := Lib.hid (HRs.out.below hb)
 replace HA1 := Lib.hid (HA1.out.below hb)
 replace hB := hB.trans (hb.mono hB.size)
 have HA2 := Lib.hid h1
 clear h1
 clear hb
 go_wp2_with fail
 have HB2 := Lib.hid hB
 clear hB
 go_loopw [50] (fun i wr => ∃ k : Nat, k ≤ len2 ∧ i = .int .i64 k ∧ Below w2.heap.size w2 wr) (fun i _ => len2 - (intOf i).toNat)
 case atStart => exact ⟨0, by omega, rfl, Below.refl _ _⟩
 case round =>
   generalize wr = wq at *
   obtain ⟨k, hk, rfl, HBq⟩ := hrel
   by_cases hlt : k < len2
   · obtain ⟨b1, off1, rfl, hb1, hc1⟩ := HA1.out.2.at hlt
     obtain ⟨b2, off2, rfl, hb2, hc2⟩ := HA2.out.2.at hlt
     have e1 := hc1 k hlt _ HBq
     have e2 := hc2 k hlt _ HBq
     generalize (rndL lo hi m rs).getD k 0 = x at *
     clear hc1 hc2
     go_wp2_with fail
     go_quiet (fail)
     go_wp2_with fail
     go_roundw
     case rel => exact ⟨k + 1, by omega, by go_num, below_drewN HBq _⟩
     case measure => simp [intOf]; omega
   · obtain rfl : k = len2 := by omega
     have hB := HB2.out.trans (HBq.mono HB2.out.size)
     replace HI := Lib.hid (HI.out.below HBq)
     clear HBq HB2 hk
     go_wp2_with fail
     refine (emom_any f _ _ _ _ HI.out HF.out).mono ?_
     rintro e w3 ⟨vm, vv, rfl, hv, hu, hsz, hsu, hb⟩
     replace HI := Lib.hid (HI.out.below hb)
     replace hB := hB.trans (hb.mono hB.size)
     have HVm := Lib.hid (hv.mono (Nat.zero_le _))
     have HVv := Lib.hid (hu.mono (Nat.zero_le _))
     obtain ⟨pm', mm', qm', pm, mm, qm, rfl, -, -, -, -⟩ := hv
     obtain ⟨pv', mv', qv', pv, mv, qv, rfl, -, -, -, -⟩ := hu
     generalize decide ((meanR f).num < 0) = dm at *
     generalize decide ((varR f).num < 0) = dv at *
     clear hsz hsu
     clear hb
     go_wp2_with fail
     have hbx : Below w3.heap.size w3 ((w3.alloc (.cells #[.bool dm, .slice pm' mm' qm', .slice pm mm qm] 28)).alloc (.cells #[.bool dv, .slice pv' mv' qv', .slice pv mv qv] 28)) := (((Below.refl _ _).alloc (Nat.le_refl _) _).alloc (by simp) _)
     generalize hWW : ((w3.alloc (.cells #[.bool dm, .slice pm' mm' qm', .slice pm mm qm] 28)).alloc (.cells #[.bool dv, .slice pv' mv' qv', .slice pv mv qv] 28)) = w3a at *
     replace HI := Lib.hid (HI.out.below hbx)
     replace HVm := Lib.hid (HVm.out.below hbx)
     replace HVv := Lib.hid (HVv.out.below hbx)
     have cM0 : w3a.cell? ⟨w3.heap.size, 0, none⟩ = some (.bool dm) := by subst hWW; go_simp
     have cM1 : w3a.cell? ⟨w3.heap.size, 1, none⟩ = some (.slice pm' mm' qm') := by subst hWW; go_simp
     have cM2 : w3a.cell? ⟨w3.heap.size, 2, none⟩ = some (.slice pm mm qm) := by subst hWW; go_simp
     have ltM : w3.heap.size < w3a.heap.size := by subst hWW; simp <;> omega
     have cV0 : w3a.cell? ⟨w3.heap.size + 1, 0, none⟩ = some (.bool dv) := by subst hWW; go_simp
     have cV1 : w3a.cell? ⟨w3.heap.size + 1, 1, none⟩ = some (.slice pv' mv' qv') := by subst hWW; go_simp
     have cV2 : w3a.cell? ⟨w3.heap.size + 1, 2, none⟩ = some (.slice pv mv qv) := by subst hWW; go_simp
     have ltV : w3.heap.size + 1 < w3a.heap.size := by subst hWW; simp
     replace hB := hB.trans (hbx.mono hB.size)
     clear hbx hWW
     refine (rmom_any f _ _ _ _ HI.out HF.out).mono ?_
     rintro e w4 ⟨vm2, vv2, rfl, hv, hu, hsz, hsu, hb⟩
     replace cM0 := bc hb ltM cM0
     replace cM1 := bc hb ltM cM1
     replace cM2 := bc hb ltM cM2
     replace ltM := bl hb ltM
     replace cV0 := bc hb ltV cV0
     replace cV1 := bc hb ltV cV1
     replace cV2 := bc hb ltV cV2
     replace ltV := bl hb ltV
     replace HI := Lib.hid (HI.out.below hb)
     replace HVm := Lib.hid (HVm.out.below hb)
     replace HVv := Lib.hid (HVv.out.below hb)
     replace hB := hB.trans (hb.mono hB.size)
     have HVo1 := Lib.hid (hv.mono (Nat.zero_le _))
     have HVq1 := Lib.hid (hu.mono (Nat.zero_le _))
     obtain ⟨po1', mo1', qo1', po1, mo1, qo1, rfl, -, -, -, -⟩ := hv
     obtain ⟨pq1', mq1', qq1', pq1, mq1, qq1, rfl, -, -, -, -⟩ := hu
     generalize decide ((meanR f).num < 0) = do1 at *
     generalize decide ((varR f).num < 0) = dq1 at *
     clear hsz hsu
     clear hb
     go_wp2_with fail
     have hbx : Below w4.heap.size w4 ((w4.alloc (.cells #[.bool do1, .slice po1' mo1' qo1', .slice po1 mo1 qo1] 28)).alloc (.cells #[.bool dq1, .slice pq1' mq1' qq1', .slice pq1 mq1 qq1] 28)) := (((Below.refl _ _).alloc (Nat.le_refl _) _).alloc (by simp) _)
     generalize hWW : ((w4.alloc (.cells #[.bool do1, .slice po1' mo1' qo1', .slice po1 mo1 qo1] 28)).alloc (.cells #[.bool dq1, .slice pq1' mq1' qq1', .slice pq1 mq1 qq1] 28)) = w4a at *
     replace cM0 := bc hbx ltM cM0
     replace cM1 := bc hbx ltM cM1
     replace cM2 := bc hbx ltM cM2
     replace ltM := bl hbx ltM
     replace cV0 := bc hbx ltV cV0
     replace cV1 := bc hbx ltV cV1
     replace cV2 := bc hbx ltV cV2
     replace ltV := bl hbx ltV
     replace HI := Lib.hid (HI.out.below hbx)
     replace HVm := Lib.hid (HVm.out.below hbx)
     replace HVv := Lib.hid (HVv.out.below hbx)
     replace HVo1 := Lib.hid (HVo1.out.below hbx)
     replace HVq1 := Lib.hid (HVq1.out.below hbx)
     have cO0 : w4a.cell? ⟨w4.heap.size, 0, none⟩ = some (.bool do1) := by subst hWW; go_simp
     have cO1 : w4a.cell? ⟨w4.heap.size, 1, none⟩ = some (.slice po1' mo1' qo1') := by subst hWW; go_simp
     have cO2 : w4a.cell? ⟨w4.heap.size, 2, none⟩ = some (.slice po1 mo1 qo1) := by subst hWW; go_simp
     have ltO : w4.heap.size < w4a.heap.size := by subst hWW; simp <;> omega
     have cQ0 : w4a.cell? ⟨w4.heap.size + 1, 0, none⟩ = some (.bool dq1) := by subst hWW; go_simp
     have cQ1 : w4a.cell? ⟨w4.heap.size + 1, 1, none⟩ = some (.slice pq1' mq1' qq1') := by subst hWW; go_simp
     have cQ2 : w4a.cell? ⟨w4.heap.size + 1, 2, none⟩ = some (.slice pq1 mq1 qq1) := by subst hWW; go_simp
     have ltQ : w4.heap.size + 1 < w4a.heap.size := by subst hWW; simp
     replace hB := hB.trans (hbx.mono hB.size)
     clear hbx hWW
     refine (equal_any _ _ _ _ _ _ HVm.out HVo1.out).mono ?_
     rintro e w5 ⟨rfl, hb⟩
     replace cM0 := bc hb ltM cM0
     replace cM1 := bc hb ltM cM1
     replace cM2 := bc hb ltM cM2
     replace ltM := bl hb ltM
     replace cV0 := bc hb ltV cV0
     replace cV1 := bc hb ltV cV1
     replace cV2 := bc hb ltV cV2
     replace ltV := bl hb ltV
     replace cO0 := bc hb ltO cO0
     replace cO1 := bc hb ltO cO1
     replace cO2 := bc hb ltO cO2
     replace ltO := bl hb ltO
     replace cQ0 := bc hb ltQ cQ0
     replace cQ1 := bc hb ltQ cQ1
     replace cQ2 := bc hb ltQ cQ2
     replace ltQ := bl hb ltQ
     replace HI := Lib.hid (HI.out.below hb)
     replace HVm := Lib.hid (HVm.out.below hb)
     replace HVv := Lib.hid (HVv.out.below hb)
     replace HVo1 := Lib.hid (HVo1.out.below hb)
     replace HVq1 := Lib.hid (HVq1.out.below hb)
     replace hB := hB.trans (hb.mono hB.size)
     clear hb
     go_wp2_with fail
     refine (equal_any _ _ _ _ _ _ HVv.out HVq1.out).mono ?_
     rintro e w6 ⟨rfl, hb⟩
     replace cM0 := bc hb ltM cM0
     replace cM1 := bc hb ltM cM1
     replace cM2 := bc hb ltM cM2
     replace ltM := bl hb ltM
     replace cV0 := bc hb ltV cV0
     replace cV1 := bc hb ltV cV1
     replace cV2 := bc hb ltV cV2
     replace ltV := bl hb ltV
     replace cO0 := bc hb ltO cO0
     replace cO1 := bc hb ltO cO1
     replace cO2 := bc hb ltO cO2
     replace ltO := bl hb ltO
     replace cQ0 := bc hb ltQ cQ0
     replace cQ1 := bc hb ltQ cQ1
     replace cQ2 := bc hb ltQ cQ2
     replace ltQ := bl hb ltQ
     replace HI := Lib.hid (HI.out.below hb)
     replace HVm := Lib.hid (HVm.out.below hb)
     replace HVv := Lib.hid (HVv.out.below hb)
     replace HVo1 := Lib.hid (HVo1.out.below hb)
     replace HVq1 := Lib.hid (HVq1.out.below hb)
     replace hB := hB.trans (hb.mono hB.size)
     clear hb
     go_wp2_with fail
     refine (awake_any _).mono ?_
     rintro e w7 ⟨rfl, hb⟩
     replace cM0 := bc hb ltM cM0
     replace cM1 := bc hb ltM cM1
     replace cM2 := bc hb ltM cM2
     replace ltM := bl hb ltM
     replace cV0 := bc hb ltV cV0
     replace cV1 := bc hb ltV cV1
     replace cV2 := bc hb ltV cV2
     replace ltV := bl hb ltV
     replace cO0 := bc hb ltO cO0
     replace cO1 := bc hb ltO cO1
     replace cO2 := bc hb ltO cO2
     replace ltO := bl hb ltO
     replace cQ0 := bc hb ltQ cQ0
     replace cQ1 := bc hb ltQ cQ1
     replace cQ2 := bc hb ltQ cQ2
     replace ltQ := bl hb ltQ
     replace HI := Lib.hid (HI.out.below hb)
     replace HVm := Lib.hid (HVm.out.below hb)
     replace HVv := Lib.hid (HVv.out.below hb)
     replace HVo1 := Lib.hid (HVo1.out.below hb)
     replace HVq1 := Lib.hid (HVq1.out.below hb)
     replace hB := hB.trans (hb.mono hB.size)
     clear hb
     go_wp2_with fail
     go_ret
     exact ⟨rfl, hB⟩
theorem numbers_calls (f : List Int) (a : Option Addr) (len cap : Nat) (rs : List Rat) (b : Option Addr) (len2 cap2 L : Nat) (m lo hi : Int) (w : World) (hI : Ints w a len cap f) (hr : Rats w b len2 cap2 rs L) (hL : 1 ≤ L) (hm : (2 * L + 8) * 4 ≤ 140737488355328) :
   Calls Tryz.prog 5 #[.slice a len cap, .slice b len2 cap2, .int .i64 m, .int .i64 lo, .int .i64 hi] w fun e w' => e = .returned (.bool true) ∧ Below w.heap.size w w' := by
 by_cases hE : eqE f = 0
 · have hO := eqE_OkF.1 hE
   by_cases hR : rndE len2 m lo hi = 0
   · exact numbers_ov f a len cap rs b len2 cap2 L m lo hi w hI hr hL hm hR hO
   · exact numbers_ev f a len cap rs b len2 cap2 L m lo hi w hI hr hR hO
 · by_cases hR : rndE len2 m lo hi = 0
   · exact numbers_on f a len cap rs b len2 cap2 L m lo hi w hI hr hL hm hR hE
   · exact numbers_en f a len cap rs b len2 cap2 L m lo hi w hI hr hR hE
theorem equateNumbers_walk {H : Type} {enc : TypeId × Value → H} (W : World) (base : Nat) (args : Array Value) (ds gs : List (DataW H)) (before : List MemPlace)
   (hval : ∀ (j : Nat) t v, Tryz.f5.params[j]? = some t → args[j]? = some v → Value.okWide Tryz.prog W .any base t v)
   (hW : DataW.Whole enc Tryz.prog Tryz.f5.params.toList Rows.equateNumbersSpec.vars false W args.toList ds gs before)
   (hk : Rows.uptoSmall H (ds ++ gs) = true)
   (_hsz : (DataW.weightsEach Tryz.prog (Tryz.f5.params.toList ++ (Rows.OpenSpec.upto Rows.equateNumbersSpec).bare.plain.varTypes Tryz.prog) (ds ++ gs)).all (· ≤ reachBytes) = true) :
   Calls Tryz.prog 5 args W fun e w' => e = .returned (.bool true) ∧ Below W.heap.size W w' := by
 obtain ⟨p, q, hA, hV, -, -, -⟩ := hW
 obtain ⟨rfl, -⟩ := trodVars_none hV
 rw [Tryz.params5] at hA hval
 obtain ⟨v0, vs0, d0, ds0, p0, q0, hargs, rfl, rfl, h0, r0⟩ := trodAll_cons hA
 obtain ⟨v1, vs1, d1, ds1, p1, q1, rfl, rfl, rfl, h1, r1⟩ := trodAll_cons r0
 obtain ⟨v2, vs2, d2, ds2, p2, q2, rfl, rfl, rfl, h2, r2⟩ := trodAll_cons r1
 obtain ⟨v3, vs3, d3, ds3, p3, q3, rfl, rfl, rfl, h3, r3⟩ := trodAll_cons r2
 obtain ⟨v4, vs4, d4, ds4, p4, q4, rfl, rfl, rfl, h4, r4⟩ := trodAll_cons r3
 obtain ⟨rfl, rfl, rfl⟩ := trodAll_nil r4
 obtain rfl : args = #[v0, v1, v2, v3, v4] := by cases args; simp_all
 obtain ⟨a, len, cap, xs, rfl, hrow, -⟩ := open_row Tryz.underlying22 Tryz.underlying3 (by kernel_rfl) (hval 0 _ _ rfl rfl) h0
 obtain ⟨b, len2, cap2, rs, L, rfl, hR, hB⟩ := open_ratsB (hval 1 _ _ rfl rfl) h1
 obtain ⟨m, rfl, -, -⟩ := open_num Tryz.underlying3 (hval 2 _ _ rfl rfl) h2
 obtain ⟨lo, rfl, -, -⟩ := open_num Tryz.underlying3 (hval 3 _ _ rfl rfl) h3
 obtain ⟨hi, rfl, -, -⟩ := open_num Tryz.underlying3 (hval 4 _ _ rfl rfl) h4
 have hk' := of_decide_eq_true hk
 simp only [List.append_nil, Rows.uptoBulkAll] at hk'
 exact numbers_calls xs a len cap rs b len2 cap2 1048576 m lo hi W hrow.ints (hR.mono (by omega)) (by omega) (by omega)
set_option maxRecDepth 100000 in
theorem equateNumbers_lifted (os : Os) (started : os.Started) (H : Type) (enc : TypeId × Value → H) (F : Stop.Interp) :
   ReturnsInHanded {} Tryz.checked os 5 .any ((Rows.OpenSpec.upto Rows.equateNumbersSpec).pre6 enc Tryz.prog Tryz.f5 Rows.equateNumbersUptoRow.domain false) (((Rows.OpenSpec.upto Rows.equateNumbersSpec).at F).post enc Tryz.prog Tryz.f5 false true false false) := by
 refine returnsInHanded_of_cond_sized (C := Tryz.checked) (s := Rows.OpenSpec.upto Rows.equateNumbersSpec) (k := Rows.uptoSmall) rfl own started (by kernel_rfl) Tryz.func5
   (OpenSpec.witness (enc := enc) (C := Tryz.checked) (s := Rows.OpenSpec.upto Rows.equateNumbersSpec) (k := Rows.uptoSmall) rfl false ⟨#[], #[.slice none 0 0, .slice none 0 0, .int .i64 0, .int .i64 0, .int .i64 0], []⟩ 8 (by kernel_rfl) (by kernel_rfl) (by kernel_rfl)
     (x := ([.nil, .nil, .lit (.int .i64 0), .lit (.int .i64 0), .lit (.int .i64 0)], [], [])) (by kernel_rfl) rfl (by kernel_rfl)) ?_
 intro W base args ds gs before hval hW _ hk hsz _
 exact law_post (s := Rows.equateNumbersSpec) rfl (by kernel_rfl) (by kernel_rfl) (fun ds h => match ds, h with | [d0, d1, d2, d3, d4], _ => ⟨rfl, rfl, rfl⟩) hW (equateNumbers_walk W base args ds gs before hval hW hk hsz)
theorem equateNumbers_over : Rows.equateNumbersUptoRow.holds Tryz.pinned (Rows.OpenSpec.upto Rows.equateNumbersSpec) :=
 OpenClaim.holds_of_cond 5 Tryz.f5 rfl rfl rfl rfl rfl rfl rfl ⟨rfl, rfl, rfl, rfl, rfl⟩ rfl rfl rfl rfl rfl (by kernel_rfl) Tryz.func5 (by kernel_rfl)
   (of_decide_eq_true (by kernel_rfl)) (by unfold Func.isWrapper; first | (rw [if_pos (by decide +kernel)]; kernel_rfl) | (rw [if_neg (by decide +kernel)]; exact ⟨rfl, rfl⟩))
   (fun os started H enc _ F => equateNumbers_lifted os started H enc F)
theorem equateNumbers_proved : Rows.EquateNumbersUptoSaid := equateNumbers_over
end Go.Proofs.YtahmndacoanfiaaGreat
