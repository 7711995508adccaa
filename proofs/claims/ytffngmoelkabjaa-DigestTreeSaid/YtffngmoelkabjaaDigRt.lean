/- The root of a list of digests: what digest.Root and the reference's Root return. Condition: the list takes at most 2^47 bytes. -/
import Derived.Test.YtffngmoelkabjaaDigR
import Derived.Test.YtffngmoelkabjaaMix
namespace Go.Proofs.Ytffngmoelkabjaa
open Go.RowKit

/-! ### Plain -/
def joinD (a b : UInt64) : UInt64 := digNum (digNum dstart a) b
def levelL : List UInt64 → List UInt64
  | a :: b :: r => joinD a b :: levelL r
  | l => l
def rootF : Nat → List UInt64 → UInt64
  | 0, l => l.getD 0 0
  | n + 1, l => if l.length ≤ 1 then l.getD 0 0 else rootF n (levelL l)
def rootL (l : List UInt64) : UInt64 := if l.length = 0 then digOf [] else rootF l.length l

theorem levelL_length : ∀ l : List UInt64, (levelL l).length = (l.length + 1) / 2
  | [] => rfl
  | [_] => by simp [levelL]
  | _ :: _ :: r => by simp only [levelL, List.length_cons, levelL_length r]; omega
theorem rootF_eq : ∀ (n m : Nat) (l : List UInt64), l.length ≤ n + 1 → l.length ≤ m + 1 → rootF n l = rootF m l
  | 0, 0, _, _, _ => rfl
  | 0, m + 1, l, h, _ => by simp [rootF, show l.length ≤ 1 by omega]
  | n + 1, 0, l, _, h => by simp [rootF, show l.length ≤ 1 by omega]
  | n + 1, m + 1, l, h1, h2 => by
    simp only [rootF]
    split
    · rfl
    · have := levelL_length l
      exact rootF_eq n m (levelL l) (by omega) (by omega)
theorem rootF_step (l : List UInt64) (h : 2 ≤ l.length) : rootF l.length l = rootF (levelL l).length (levelL l) := by
  have hl := levelL_length l
  obtain ⟨n, hn⟩ : ∃ n, l.length = n + 1 := ⟨l.length - 1, by omega⟩
  rw [hn, rootF, if_neg (by omega)]
  exact rootF_eq _ _ _ (by omega) (by omega)
theorem rootF_one (l : List UInt64) (h : l.length = 1) : rootF l.length l = l.getD 0 0 := by rw [h]; simp [rootF, h]
theorem levelL_at : ∀ (l : List UInt64) (i : Nat), 2 * i < l.length → (levelL l).getD i 0 = if 2 * i + 1 < l.length then joinD (l.getD (2 * i) 0) (l.getD (2 * i + 1) 0) else l.getD (2 * i) 0
  | [], _, h => by simp at h
  | [a], i, h => by
    obtain rfl : i = 0 := by simp at h; omega
    simp [levelL]
  | a :: b :: r, 0, _ => by simp [levelL]
  | a :: b :: r, i + 1, h => by
    have ih := levelL_at r i (by simp at h; omega)
    simp only [levelL, List.getD_cons_succ]
    rw [ih, show 2 * (i + 1) = (2 * i) + 1 + 1 by omega]
    simp only [List.getD_cons_succ, List.length_cons]
    have e : (2 * i + 1 + 1 + 1 < r.length + 1 + 1) ↔ (2 * i + 1 < r.length) := by omega
    simp [e]

theorem infoWord : (Try.prog.info? 23).map (fun i => (i.zero, i.size, i.bytes)) = some (some (.int .u64 0), 1, 8) := by kernel_rfl

/-- what the row holds in the middle of a round: the first i joined, the others as they were -/
def midL (l : List UInt64) (i : Nat) : List UInt64 := (levelL l).take i ++ l.drop i
theorem midL_length (l : List UInt64) (i : Nat) (hi : 2 * i ≤ l.length + 1) : (midL l i).length = l.length := by
  have := levelL_length l
  simp only [midL, List.length_append, List.length_take, List.length_drop]; omega
theorem midL_at (l : List UInt64) (i j : Nat) (hi : 2 * i ≤ l.length + 1) (hj : i ≤ j) : (midL l i).getD j 0 = l.getD j 0 := by
  have := levelL_length l
  have h1 : ((levelL l).take i).length = i := by rw [List.length_take]; omega
  simp only [midL, List.getD]
  rw [List.getElem?_append_right (by omega), h1, List.getElem?_drop, show i + (j - i) = j by omega]
theorem midL_set (l : List UInt64) (i : Nat) (hi : 2 * i < l.length) : (midL l i).set i ((levelL l).getD i 0) = midL l (i + 1) := by
  have := levelL_length l
  have h1 : ((levelL l).take i).length = i := by rw [List.length_take]; omega
  simp only [midL]
  rw [List.set_append_right _ _ (by omega), h1, Nat.sub_self, drop_cons l i 0 (by omega), List.set_cons_zero, take_snoc (levelL l) i 0 (by omega)]
  simp
theorem midL_end (l : List UInt64) : (midL l ((l.length + 1) / 2)).take ((l.length + 1) / 2) = levelL l := by
  have := levelL_length l
  simp only [midL]
  rw [List.take_append_of_le_length (by rw [List.length_take]; omega), List.take_take, Nat.min_self, List.take_of_length_le (by omega)]

/-! ### The program -/
set_option maxHeartbeats 2000000 in
theorem root_any (l : List UInt64) (a : Option Addr) (len cap : Nat) (w : World) (hx : Words w a len cap l) (hm : len * 8 ≤ 140737488355328) :
    Calls Try.prog 10 #[.slice a len cap] w fun e w' => e = .returned (.int .u64 (rootL l).toNat) ∧ Below w.heap.size w w' := by
  have HL := Lib.hid hx.1
  have HX := Lib.hid hx; clear hx
  by_cases h0 : len = 0
  · have HR := Lib.hid (show rootL l = digOf [] by simp [rootL, HL.out, h0])
    have d0 : ((len : Int) == 0) = true := by rw [h0]; rfl
    clear h0
    go_enter Try.func10, Try.ntmps10
    go_wp2_with fail
    refine (of_any [] none 0 0 _ (bytes_nil _)).mono ?_
    rintro e w1 ⟨rfl, rfl⟩
    go_wp2_with fail
    go_ret
    exact ⟨by rw [HR.out]; rfl, Below.refl _ _⟩
  have d0 : ((len : Int) == 0) = false := by simp; omega
  have HR := Lib.hid (show rootL l = rootF l.length l by simp [rootL, HL.out, h0])
  go_enter Try.func10, Try.ntmps10
  go_wp2_with (at_builtin; go_must (refine wpList_app rfl _ _ 22 rfl w.heap.size 23 (.int .u64 0) 8 Try.underlying22 infoWord rfl (.slice none 0 0) [] rfl (Owns.nil _ _ _) a len cap (wvs l) rfl (by rw [wvs_length]; exact HL.out) HX.out.vals (wvs_one _) (by simpa using hm) (by simp only [maxLen, List.length_nil]; omega) (Nat.le_refl _) fun v1 w1 h1 h2 => ?_))
  have hb1 := h2.below (Nat.le_refl _) (by simp [Value.ownBlock])
  rw [List.nil_append] at h1
  have HO1 := Lib.hid h1
  clear h1 h2
  go_wp2_with fail
  go_loopw [3] (fun v wr => ∃ (cur : List UInt64) (g n c : Nat), v = .slice (some ⟨g, 0, none⟩) n c ∧ 1 ≤ n ∧ n * 8 ≤ 140737488355328 ∧ n ≤ c ∧ c ≤ maxLen ∧ w.heap.size ≤ g ∧ Hid (cur.length = n) ∧ Hid (Owns wr w.heap.size 23 (.slice (some ⟨g, 0, none⟩) n c) (wvs cur)) ∧ Hid (rootL l = rootF cur.length cur) ∧ Below w.heap.size w wr) (fun v _ => lenOf v)
  case atStart =>
    rcases HO1.out.form2 with ⟨rfl, hnil⟩ | ⟨g, c, rfl, hnc, hcm, hg, hgs⟩
    · have := congrArg List.length hnil
      rw [wvs_length, HL.out] at this; simp at this; omega
    · have e : (wvs l).length = len := by rw [wvs_length, HL.out]
      rw [e] at hnc
      refine ⟨l, g, len, c, by rw [e], by omega, hm, hnc, hcm, hg, HL, ?_, HR, hb1⟩
      have := HO1.out; rw [e] at this; exact this
  case round =>
    obtain ⟨cur, g, n, c, rfl, hn1, hn8, hnc, hcm, hg, HC, HO, HF, hb⟩ := hrel
    unfold maxLen at hcm
    by_cases hlt : 1 < n
    · obtain ⟨wo, rfl⟩ : ∃ wo : World, wo = wr := ⟨_, rfl⟩
      have dn : decide (1 < (n : Int)) = true := by simp; omega
      go_wp2_with fail
      go_loopw [5] (fun i wr => ∃ j : Nat, j ≤ (n + 1) / 2 ∧ i = .int .i64 j ∧ Hid (Owns wr w.heap.size 23 (.slice (some ⟨g, 0, none⟩) n c) (wvs (midL cur j))) ∧ Below w.heap.size w wr) (fun i _ => (n + 1) / 2 - (intOf i).toNat)
      case atStart => exact ⟨0, by omega, rfl, by simpa [Hid, midL] using HO.out, hb⟩
      case round =>
        obtain ⟨j, hj, rfl, HOj, hbj⟩ := hrel
        have HML := Lib.hid (midL_length cur j (by rw [HC.out]; omega))
        by_cases hjl : j < (n + 1) / 2
        · have c1 := HOj.out.cell (2 * j) (by omega)
          rw [wvs_at _ _ (by rw [HML.out, HC.out]; omega), midL_at cur j (2 * j) (by rw [HC.out]; omega) (by omega)] at c1
          have c3 := HOj.out.cell j (by omega)
          have c4 := HOj.out.free j
          have hS := HOj.out.store j (wv ((levelL cur).getD j 0))
          rw [wvs_set, midL_set cur j (by rw [HC.out]; omega), levelL_at cur j (by rw [HC.out]; omega), HC.out] at hS
          unfold wv at c1
          generalize (wvs (midL cur j)).getD j .nilFunc = old at *
          have hBs : ∀ v, Below w.heap.size w (wr.setCell ⟨g, j, none⟩ v) := fun v => hbj.setCell (p := ⟨g, j, none⟩) hg v
          have HBs := Lib.hid hBs
          clear hBs
          by_cases h2 : 2 * j + 1 < n
          · have c2 := HOj.out.cell (2 * j + 1) (by omega)
            rw [wvs_at _ _ (by rw [HML.out, HC.out]; omega), midL_at cur j (2 * j + 1) (by rw [HC.out]; omega) (by omega)] at c2
            unfold wv at c2
            rw [if_pos h2] at hS
            have HS := Lib.hid hS
            clear hS
            generalize cur.getD (2 * j) 0 = x at *
            generalize cur.getD (2 * j + 1) 0 = y at *
            go_wp2_with fail
            have q1 : IntKind.i64.wrap (2 * (j : Int)) = 2 * (j : Int) := IntWalk.i64_in _ (by omega)
            have q2 : IntKind.i64.wrap (2 * (j : Int) + 1) = 2 * (j : Int) + 1 := IntWalk.i64_in _ (by omega)
            have q3 : (2 * (j : Int)).toNat = 2 * j := by omega
            have q4 : (2 * (j : Int) + 1).toNat = 2 * j + 1 := by omega
            have q5 : 0 ≤ 2 * (j : Int) := by omega
            have q6 : 2 * (j : Int) < (n : Int) := by omega
            have q7 : 0 ≤ 2 * (j : Int) + 1 := by omega
            have q8 : 2 * (j : Int) + 1 < (n : Int) := by omega
            have q9 : (j : Int) < (n : Int) := by omega
            refine wp_region_still_tail 16 (by kernel_rfl) (by kernel_rfl) ?_
            simp only [List.take_succ_cons, List.take_zero, List.drop_succ_cons, List.drop_zero]
            repeat still_step
            still_call (Calls.flip (num_any dstart x _))
            repeat still_step
            still_call (Calls.flip (num_any (digNum dstart x) y _))
            repeat still_step
            refine wpStill_nil ?_
            clear q1 q2 q3 q4 q5 q6 q7 q8 q9
            change wpList _ _ _ _ _ wr.drew
            go_wp2_with fail
            go_roundw
            case rel => exact ⟨j + 1, by omega, by go_num, World.ownsRow.drew HS.out, (HBs.out _).drew⟩
            case measure => simp [intOf]; omega
          · rw [if_neg h2] at hS
            have HS := Lib.hid hS
            clear hS
            generalize cur.getD (2 * j) 0 = x at *
            go_wp2_with fail
            exact ⟨⟨j + 1, by omega, by go_num, HS.out, HBs.out _⟩, by simp [intOf]; omega⟩
        · obtain rfl : j = (n + 1) / 2 := by omega
          have hSh := HOj.out.shrink ((n + 1) / 2) (by omega)
          have hE := midL_end cur
          rw [HC.out] at hE
          rw [show (wvs (midL cur ((n + 1) / 2))).take ((n + 1) / 2) = wvs (levelL cur) by rw [wvs, ← List.map_take, hE]; rfl] at hSh
          have HSh := Lib.hid hSh
          have HLn := Lib.hid (show (levelL cur).length = (n + 1) / 2 by rw [levelL_length, HC.out])
          have HF2 := Lib.hid (show rootL l = rootF (levelL cur).length (levelL cur) by rw [HF.out]; exact rootF_step cur (by rw [HC.out]; omega))
          have hhc : (n + 1) / 2 ≤ c := by omega
          clear hSh hE
          go_wp2_with fail
          refine ⟨⟨levelL cur, g, (n + 1) / 2, c, rfl, by omega, by omega, hhc, by unfold maxLen; omega, hg, HLn, HSh.out, HF2, hbj⟩, by simp [lenOf]; omega⟩
    · obtain rfl : n = 1 := by omega
      have HF1 := Lib.hid (show rootL l = cur.getD 0 0 by rw [HF.out]; exact rootF_one cur HC.out)
      have c1 := HO.out.cell 0 (by omega)
      rw [wvs_at cur 0 (by rw [HC.out]; omega)] at c1
      unfold wv at c1
      generalize cur.getD 0 0 = x at *
      go_wp2_with fail
      go_ret
      exact ⟨by rw [HF1.out]; rfl, hb⟩

/-! ### The reference -/
theorem levelL_drop (l : List UInt64) (k : Nat) (h : k + 1 < l.length) : levelL (l.drop k) = joinD (l.getD k 0) (l.getD (k + 1) 0) :: levelL (l.drop (k + 2)) := by
  rw [drop_cons l k 0 (by omega), drop_cons l (k + 1) 0 h, levelL]

set_option maxHeartbeats 2000000 in
theorem ref_level_any (l : List UInt64) (a : Option Addr) (len cap : Nat) (w : World) (hx : Words w a len cap l) (hm : len * 8 ≤ 140737488355328) :
    Calls Try.prog 26 #[.slice a len cap] w fun e w' => ∃ v, e = .returned v ∧ Owns w' w.heap.size 23 v (wvs (levelL l)) ∧ Below w.heap.size w w' := by
  have HL := Lib.hid hx.1
  have HX := Lib.hid hx; clear hx
  go_enter Try.func26, Try.ntmps26
  go_wp2_with fail
  go_loopw [3, 4] (fun v i wr => ∃ (k : Nat) (ys : List UInt64), 2 * k ≤ len ∧ i = .int .i64 (2 * k : Nat) ∧ Hid (ys.length = k) ∧ Hid (levelL l = ys ++ levelL (l.drop (2 * k))) ∧ Hid (Owns wr w.heap.size 23 v (wvs ys)) ∧ Below w.heap.size w wr) (fun _ i _ => len - (intOf i).toNat)
  case atStart => exact ⟨0, [], by omega, rfl, rfl, by simp [Hid], Owns.nil _ _ _, Below.refl _ _⟩
  case round =>
    obtain ⟨k, ys, hk, rfl, HY, HE, HO, hb⟩ := hrel
    have hsz : w.heap.size ≤ wr.heap.size := hb.size
    have HBY := Lib.hid (show ((wvs ys).length + 1) * 8 ≤ 140737488355328 + 8 by rw [wvs_length, HY.out]; omega)
    by_cases hlt : 2 * k + 1 < len
    · obtain ⟨b, off, rfl, hbs, hcc⟩ := HX.out.2.at (k := 2 * k) (by omega)
      have HCx := Lib.hid (hcc (2 * k) (by omega))
      have HCy := Lib.hid (hcc (2 * k + 1) (by omega))
      have HD := Lib.hid (levelL_drop l (2 * k) (by rw [HL.out]; exact hlt))
      have HB8 := Lib.hid (show ((wvs ys).length + 1) * 8 ≤ 140737488355328 ∧ (wvs ys).length + 1 ≤ maxLen by rw [wvs_length, HY.out]; simp only [maxLen]; omega)
      clear hcc HBY
      generalize l.getD (2 * k) 0 = x at *
      generalize l.getD (2 * k + 1) 0 = y at *
      go_wp2_with fail
      have q1 : IntKind.i64.wrap (2 * (k : Int) + 1) = 2 * (k : Int) + 1 := IntWalk.i64_in _ (by omega)
      have q3 : (2 * (k : Int)).toNat = 2 * k := by omega
      have q4 : (2 * (k : Int) + 1).toNat = 2 * k + 1 := by omega
      have q5 : 0 ≤ 2 * (k : Int) := by omega
      have q6 : 2 * (k : Int) < (len : Int) := by omega
      have q7 : 0 ≤ 2 * (k : Int) + 1 := by omega
      have q8 : 2 * (k : Int) + 1 < (len : Int) := by omega
      have e1 : ∀ W : Ext w.heap.size w, W.1.cell? ⟨b, off + 2 * k, none⟩ = some (.int .u64 (x.toNat : Int)) := fun W => HCx.out W.1 W.2
      have e2 : ∀ W : Ext w.heap.size w, W.1.cell? ⟨b, off + (2 * k + 1), none⟩ = some (.int .u64 (y.toNat : Int)) := fun W => HCy.out W.1 W.2
      refine wp_region_sched [(0, false), (1, false), (2, false), (3, false), (4, false), (5, false), (6, false), (7, false), (8, false), (9, false), (10, false), (11, false), (12, true), (13, true), (14, true)] (fun w' => ∃ W : Ext w.heap.size w, w' = W.1) (by kernel_rfl) (by kernel_rfl) ⟨⟨wr.drew, hb.drew⟩, rfl⟩ ?_
      have hbd : Below w.heap.size w wr.drew := hb.drew
      have HOd := Lib.hid (Owns.drew HO.out)
      have hszd : w.heap.size ≤ wr.drew.heap.size := hb.size
      generalize wr.drew = wd at *
      repeat (refine wpSched_calm rfl (fun K hK => ?_); go_simp; refine hK _ ?_; clear hK K)
      refine wpSched_calm rfl (fun K hK => ?_)
      go_simp
      refine ⟨.int .u64 (digNum dstart x).toNat, fun W => Calls.flip (ref_num_any dstart x _), hK _ ?_⟩
      clear hK K
      repeat (refine wpSched_calm rfl (fun K hK => ?_); go_simp; refine hK _ ?_; clear hK K)
      refine wpSched_calm rfl (fun K hK => ?_)
      go_simp
      refine ⟨.int .u64 (joinD x y).toNat, fun W => Calls.flip (ref_num_any (digNum dstart x) y _), hK _ ?_⟩
      clear hK K
      refine wpSched_eff rfl rfl (fun K hK => ?_)
      go_simp
      refine hK _ _ ⟨⟨_, hbd.alloc hszd _⟩, rfl⟩ ?_
      clear hK K q1 q3 q4 q5 q6 q7 q8
      refine wpSched_eff rfl rfl (fun K hK => ?_)
      refine wp_appL _ _ 22 rfl w.heap.size 23 (.int .u64 0) 8 Try.underlying22 infoWord rfl u3 (wvs ys) rfl _ (wvs_one [joinD x y]) HOd.out 1 rfl rfl HB8.out.1 HB8.out.2 hszd fun v' w' h1 h2 => hK _ _ ⟨⟨w', hbd.trans (h2.below hszd (Owns.lt HOd.out))⟩, rfl⟩ ?_
      clear hK K
      have hb' := hbd.trans (h2.below hszd (Owns.lt HOd.out))
      refine wpSched_eff rfl rfl (fun K hK => ?_)
      go_simp
      refine hK _ _ ⟨⟨_, hb'⟩, rfl⟩ ?_
      clear hK K e1 e2
      refine wpSched_nil ?_
      go_wp2_with fail
      go_roundw
      case rel =>
        refine ⟨k + 1, ys ++ [joinD x y], by omega, by go_num, ?_, ?_, ?_, hb'⟩
        · unfold Hid; simp [HY.out]
        · unfold Hid; rw [HE.out, HD.out]; simp [Nat.mul_add]
        · unfold Hid; rw [wvs_append]; exact h1
      case measure => simp [intOf]; omega
    · have hd : decide (2 * (k : Int) + 1 < (len : Int)) = false := by simp; omega
      by_cases hodd : len % 2 = 1
      · have hq : ((len : Int) % 2 == 1) = true := by simp; omega
        obtain ⟨b, off, rfl, hbs, hcc⟩ := HX.out.2.at (k := len - 1) (by omega)
        have c1 := hcc (len - 1) (by omega) wr hb
        have HT := Lib.hid (show levelL l = ys ++ [l.getD (len - 1) 0] by
          rw [HE.out, show 2 * k = len - 1 by omega, drop_cons l (len - 1) 0 (by rw [HL.out]; omega), List.drop_of_length_le (by rw [HL.out]; omega)]; rfl)
        have HB8 := Lib.hid (show ((wvs ys).length + 1) * 8 ≤ 140737488355328 ∧ (wvs ys).length + 1 ≤ maxLen by rw [wvs_length, HY.out]; simp only [maxLen]; omega)
        have hn1 : 1 ≤ len := by omega
        clear hcc HBY
        generalize l.getD (len - 1) 0 = x at *
        go_wp2_with (at_builtin; go_must (refine wpList_app1 rfl _ _ 22 rfl w.heap.size 23 (.int .u64 0) 8 Try.underlying22 infoWord rfl u3 (wvs ys) rfl _ rfl HO.out rfl HB8.out.1 HB8.out.2 hsz fun v' w' h1 h2 => ?_))
        have hb' := hb.trans (h2.below hsz HO.out.lt)
        go_ret
        exact ⟨v', rfl, by rw [HT.out, wvs_append]; exact h1, hb'⟩
      · have hq : ((len : Int) % 2 == 1) = false := by simp; omega
        have HT := Lib.hid (show levelL l = ys by rw [HE.out, List.drop_of_length_le (by rw [HL.out]; omega)]; simp [levelL])
        go_wp2_with fail
        go_ret
        exact ⟨u3, rfl, by rw [HT.out]; exact HO.out, hb⟩

set_option maxHeartbeats 2000000 in
theorem ref_root_any (l : List UInt64) (a : Option Addr) (len cap : Nat) (w : World) (hx : Words w a len cap l) (hm : len * 8 ≤ 140737488355328) :
    Calls Try.prog 11 #[.slice a len cap] w fun e w' => e = .returned (.int .u64 (rootL l).toNat) ∧ Below w.heap.size w w' := by
  have HL := Lib.hid hx.1
  have HX := Lib.hid hx; clear hx
  by_cases h0 : len = 0
  · have HR := Lib.hid (show rootL l = digOf [] by simp [rootL, HL.out, h0])
    have d0 : ((len : Int) == 0) = true := by rw [h0]; rfl
    clear h0
    go_enter Try.func11, Try.ntmps11
    go_wp2_with fail
    refine (ref_of_any [] none 0 0 _ (bytes_nil _)).mono ?_
    rintro e w1 ⟨rfl, rfl⟩
    go_wp2_with fail
    go_ret
    exact ⟨by rw [HR.out]; rfl, Below.refl _ _⟩
  have d0 : ((len : Int) == 0) = false := by simp; omega
  have HR := Lib.hid (show rootL l = rootF l.length l by simp [rootL, HL.out, h0])
  go_enter Try.func11, Try.ntmps11
  go_wp2_with fail
  go_loopw [3] (fun v wr => ∃ (cur : List UInt64) (a' : Option Addr) (n c : Nat), v = .slice a' n c ∧ 1 ≤ n ∧ n * 8 ≤ 140737488355328 ∧ Hid (Words wr a' n c cur) ∧ Hid (rootL l = rootF cur.length cur) ∧ Below w.heap.size w wr) (fun v _ => lenOf v)
  case atStart => exact ⟨l, a, len, cap, rfl, by omega, hm, HX, HR, Below.refl _ _⟩
  case round =>
    obtain ⟨cur, a', n, c, rfl, hn1, hn8, HW, HF, hb⟩ := hrel
    by_cases hlt : 1 < n
    · have HF2 := Lib.hid (show rootL l = rootF (levelL cur).length (levelL cur) by rw [HF.out]; exact rootF_step cur (by rw [HW.out.1]; omega))
      have dn : decide (1 < (n : Int)) = true := by simp; omega
      go_wp2_with fail
      refine (ref_level_any cur a' n c _ HW.out hn8).mono ?_
      rintro e w1 ⟨v1, rfl, ho1, hb1⟩
      obtain ⟨a1, n1, c1, rfl, hw1⟩ := ho1.words
      have hn : n1 = (n + 1) / 2 := by rw [← hw1.1, levelL_length, HW.out.1]
      have hb' := hb.trans (hb1.mono hb.size)
      have h1 : 1 ≤ n1 := by omega
      have h2 : n1 * 8 ≤ 140737488355328 := by omega
      have h3 : n1 < n := by omega
      clear ho1 hn
      go_wp2_with fail
      go_roundw
      case rel => exact ⟨levelL cur, a1, n1, c1, rfl, h1, h2, hw1, HF2, hb'⟩
      case measure => simp [lenOf]; omega
    · obtain rfl : n = 1 := by omega
      have HF1 := Lib.hid (show rootL l = cur.getD 0 0 by rw [HF.out]; exact rootF_one cur HW.out.1)
      obtain ⟨b, off, rfl, hbs, hcc⟩ := HW.out.2.at (k := 0) (by omega)
      have c1 := hcc 0 (by omega) wr (Below.refl _ _)
      rw [Nat.add_zero] at c1
      clear hcc
      generalize cur.getD 0 0 = x at *
      go_wp2_with fail
      go_ret
      exact ⟨by rw [HF1.out]; rfl, hb⟩

end Go.Proofs.Ytffngmoelkabjaa
