/- Draws: what draws.Shuffle and the reference's return. -/
import Derived.Test.YtfkijcimddbjoaaDr
import Derived.Test.YtfkijcimddbjoaaInts
namespace Go.Proofs.Ytfkijcimddbjoaa
open Go.RowKit

def shuffleL (d : UInt64) (n : Int) : List Int := bif badM n then [] else shufL (n - 1).toNat d (rangeL n.toNat)
def shuffleS (d : UInt64) (n : Int) : UInt64 := bif badM n then d else shufS (n - 1).toNat d
theorem badM_of {n : Int} (h : n < 0 ∨ 1024 < n) : badM n = true := by simpa [badM] using h
theorem badM_no {n : Int} (h1 : 0 ≤ n) (h2 : n ≤ 1024) : badM n = false := by simp [badM]; omega
theorem shufL_at (i : Nat) (h : 1 ≤ i) (d : UInt64) (l : List Int) : shufL i d l = shufL (i - 1) (belS d ((i : Int) + 1)) (swapL l i (belD d ((i : Int) + 1)).toNat) := by
  obtain ⟨j, rfl⟩ : ∃ j, i = j + 1 := ⟨i - 1, by omega⟩
  rw [shufL, show (((j + 1 : Nat) : Int) + 1) = (j : Int) + 2 by omega]; rfl
theorem shufS_at (i : Nat) (h : 1 ≤ i) (d : UInt64) : shufS i d = shufS (i - 1) (belS d ((i : Int) + 1)) := by
  obtain ⟨j, rfl⟩ : ∃ j, i = j + 1 := ⟨i - 1, by omega⟩
  rw [shufS, show (((j + 1 : Nat) : Int) + 1) = (j : Int) + 2 by omega]; rfl
theorem range_set (k n : Nat) (h : k < n) : (rangeL k ++ List.replicate (n - k) 0).set k (k : Int) = rangeL (k + 1) ++ List.replicate (n - (k + 1)) 0 := by
  obtain ⟨m, rfl⟩ : ∃ m, n = k + 1 + m := ⟨n - k - 1, by omega⟩
  have := iset_fill (rangeL k) m (k : Int)
  rw [rangeL_length] at this
  rw [show k + 1 + m - k = m + 1 by omega, this, rangeL_succ, show k + 1 + m - (k + 1) = m by omega]
/-- two stores that exchange two elements -/
theorem Owns.swap {w : World} {B : Nat} {e : TypeId} {g n cap : Nat} {l : List Int} (h : Owns w B e (.slice (some ⟨g, 0, none⟩) n cap) (ivs l)) (i k : Nat) :
    Owns ((w.setCell ⟨g, i, none⟩ (iv (l.getD k 0))).setCell ⟨g, k, none⟩ (iv (l.getD i 0))) B e (.slice (some ⟨g, 0, none⟩) n cap) (ivs (swapL l i k)) := by
  have := (h.store i (iv (l.getD k 0))).store k (iv (l.getD i 0))
  rw [ivs_set, ivs_set] at this
  exact this

set_option maxHeartbeats 1000000 in
theorem shuffle_draw (d : UInt64) (n : Int) (w : World) : Calls Try.prog 15 #[.int .u64 (d.toNat : Int), .int .i64 n] w fun e w' => ∃ a len cap, e = .returned (.tuple #[.slice a len cap, .int .u64 ((shuffleS d n).toNat : Int)]) ∧ Ints w' a len cap (shuffleL d n) ∧ Below w.heap.size w w' := by
  by_cases hb : n < 0 ∨ 1024 < n
  · have H1 := Lib.hid (show shuffleL d n = [] by simp [shuffleL, badM_of hb])
    have H2 := Lib.hid (show shuffleS d n = d by simp [shuffleS, badM_of hb])
    by_cases h1 : n < 0
    · clear hb
      go_enter Try.func15, Try.ntmps15
      go_wp2_with fail
      go_ret2
      exact ⟨none, 0, 0, by rw [H2.out]; rfl, by rw [H1.out]; exact ints_nil _, Below.refl _ _⟩
    · have h2 : 1024 < n := by omega
      clear hb
      go_enter Try.func15, Try.ntmps15
      go_wp2_with fail
      go_ret2
      exact ⟨none, 0, 0, by rw [H2.out]; rfl, by rw [H1.out]; exact ints_nil _, Below.refl _ _⟩
  · have h1 : ¬ n < 0 := by omega
    have h2 : ¬ 1024 < n := by omega
    have H1 := Lib.hid (show shuffleL d n = shufL (n - 1).toNat d (rangeL n.toNat) by simp [shuffleL, badM_no (n := n) (by omega) (by omega)])
    have H2 := Lib.hid (show shuffleS d n = shufS (n - 1).toNat d by simp [shuffleS, badM_no (n := n) (by omega) (by omega)])
    obtain ⟨m, rfl⟩ : ∃ m : Nat, n = (m : Int) := ⟨n.toNat, by omega⟩
    have h3 : m ≤ 1024 := by omega
    clear hb
    rw [Int.toNat_natCast] at H1
    go_enter Try.func15, Try.ntmps15
    go_wp2_with (refine wpList_mkn rfl _ _ 36 rfl 3 (.int .i64 0) 8 Try.underlying36 infoInt rfl .i64 .i64 _ _ m rfl rfl rfl rfl (by omega) (by unfold maxLen; omega) fun w1 ho1 hb1 => ?_)
    rw [ivs_replicate] at ho1
    have HO1 := Lib.hid ho1
    clear ho1
    go_wp2_with fail
    go_loopw [21] (fun i wr => ∃ k : Nat, k ≤ m ∧ i = .int .i64 k ∧ Hid (Owns wr w.heap.size 3 (.slice (some ⟨w.heap.size, 0, none⟩) m m) (ivs (rangeL k ++ List.replicate (m - k) 0))) ∧ Below w.heap.size w wr) (fun i _ => m - (intOf i).toNat)
    case atStart => exact ⟨0, by omega, rfl, Lib.hid (by simpa [rangeL] using HO1.out), hb1⟩
    case round =>
      obtain ⟨k, hk, rfl, HO, hb⟩ := hrel
      by_cases hlt : k < m
      · have f1 := HO.out.free k
        have c1 := HO.out.cell k hlt
        rw [ivs_at _ k (by simp [rangeL_length]; omega)] at c1
        unfold iv at c1
        have HO2 := Lib.hid (HO.out.store k (iv (k : Int)))
        rw [ivs_set, range_set k m hlt] at HO2
        unfold iv at HO2
        go_wp2_with fail
        go_roundw
        case rel => exact ⟨k + 1, by omega, by go_num, HO2, hb.setCell (Nat.le_refl _) _⟩
        case measure => simp [intOf]; omega
      · have hkm : k = m := by omega
        have HO2 := Lib.hid (show Owns wr w.heap.size 3 (.slice (some ⟨w.heap.size, 0, none⟩) m m) (ivs (rangeL m)) by have := HO.out; rw [hkm] at this; simpa using this)
        clear HO hkm
        go_wp2_with fail
        go_loopw [0, 8] (fun s i wr => ∃ (z : Int) (dd : UInt64) (l : List Int), -1 ≤ z ∧ z < m ∧ s = .int .u64 (dd.toNat : Int) ∧ i = .int .i64 z ∧ Hid (Owns wr w.heap.size 3 (.slice (some ⟨w.heap.size, 0, none⟩) m m) (ivs l)) ∧ Hid (l.length = m) ∧ Hid (shufL z.toNat dd l = shuffleL d m) ∧ Hid (shufS z.toNat dd = shuffleS d m) ∧ Below w.heap.size w wr) (fun _ i _ => (intOf i).toNat)
        case atStart => exact ⟨(m : Int) - 1, d, rangeL m, by omega, by omega, rfl, rfl, HO2, Lib.hid (rangeL_length m), Lib.hid H1.out.symm, Lib.hid H2.out.symm, hb⟩
        case round =>
          clear hb HO2 HO1 hlt hb1
          obtain ⟨z, dd, l, hz1, hz2, rfl, rfl, HO, HL, HF1, HF2, hb⟩ := hrel
          by_cases hz : 1 ≤ z
          · obtain ⟨i, rfl⟩ : ∃ i : Nat, z = (i : Int) := ⟨z.toNat, by omega⟩
            have hi1 : 1 ≤ i := by omega
            have hi2 : i < m := by omega
            have HI3 := Lib.hid (show ((i : Int) - 1).toNat = i - 1 by omega)
            rw [Int.toNat_natCast, shufL_at i hi1, ← HI3.out] at HF1
            rw [Int.toNat_natCast, shufS_at i hi1, ← HI3.out] at HF2
            go_wp2_with fail
            refine (below_draw _ _ _).mono ?_
            rintro e w' ⟨rfl, rfl⟩
            have hbd := belD_bd (d := dd) (n := (i : Int) + 1) (by omega) (by omega)
            generalize belD dd ((i : Int) + 1) = kz at *
            generalize belS dd ((i : Int) + 1) = dd2 at *
            obtain ⟨k, rfl⟩ : ∃ k : Nat, kz = (k : Int) := ⟨kz.toNat, by omega⟩
            rw [Int.toNat_natCast] at HF1
            have hk1 : k ≤ i := by omega
            have hk2 : k < m := by omega
            clear hbd
            have ci := HO.out.cell i hi2
            have ck := HO.out.cell k hk2
            rw [ivs_at _ i (by rw [HL.out]; omega)] at ci
            rw [ivs_at _ k (by rw [HL.out]; omega)] at ck
            have fi := HO.out.free i
            have fk := HO.out.free k
            have HO3 := Lib.hid (HO.out.swap i k)
            have HL3 := Lib.hid (show (swapL l i k).length = m by rw [swapL_length]; exact HL.out)
            unfold iv at ci ck HO3
            generalize swapL l i k = l3 at *
            generalize l.getD i 0 = x at *
            generalize l.getD k 0 = y at *
            by_cases hik : k = i
            · subst hik
              obtain rfl : x = y := by rw [ci] at ck; simpa using ck
              clear ck fk
              go_wp2_with fail
              go_region
              go_wp2_with fail
              go_roundw
              case rel => exact ⟨(k : Int) - 1, dd2, l3, by omega, by omega, rfl, rfl, Lib.hid HO3.out.drew, HL3, HF1, HF2, ((hb.setCell (Nat.le_refl _) _).setCell (Nat.le_refl _) _).drew⟩
              case measure => simp [intOf]; omega
            · have hki : k < i := by omega
              go_wp2_with fail
              go_region
              go_wp2_with fail
              go_roundw
              case rel => exact ⟨(i : Int) - 1, dd2, l3, by omega, by omega, rfl, rfl, Lib.hid HO3.out.drew, HL3, HF1, HF2, ((hb.setCell (Nat.le_refl _) _).setCell (Nat.le_refl _) _).drew⟩
              case measure => simp [intOf]; omega
          · have HF1' := Lib.hid (show l = shuffleL d m by rw [← HF1.out, show z.toNat = 0 by omega]; rfl)
            have HF2' := Lib.hid (show dd = shuffleS d m by rw [← HF2.out, show z.toNat = 0 by omega]; rfl)
            go_wp2_with fail
            go_ret2
            exact ⟨_, _, _, by rw [← HF2'.out]; rfl, by rw [← HF1'.out]; exact HO.out.ints', hb⟩

/-! ### The reference -/
set_option maxHeartbeats 1000000 in
theorem rshuffle_draw (d : UInt64) (n : Int) (w : World) : Calls Try.prog 16 #[.int .u64 (d.toNat : Int), .int .i64 n] w fun e w' => ∃ a len cap, e = .returned (.tuple #[.slice a len cap, .int .u64 ((shuffleS d n).toNat : Int)]) ∧ Ints w' a len cap (shuffleL d n) ∧ Below w.heap.size w w' := by
  by_cases hb : n < 0 ∨ 1024 < n
  · have H1 := Lib.hid (show shuffleL d n = [] by simp [shuffleL, badM_of hb])
    have H2 := Lib.hid (show shuffleS d n = d by simp [shuffleS, badM_of hb])
    by_cases h1 : n < 0
    · clear hb
      go_enter Try.func16, Try.ntmps16
      go_wp2_with fail
      go_ret2
      exact ⟨none, 0, 0, by rw [H2.out]; rfl, by rw [H1.out]; exact ints_nil _, Below.refl _ _⟩
    · have h2 : 1024 < n := by omega
      clear hb
      go_enter Try.func16, Try.ntmps16
      go_wp2_with fail
      go_ret2
      exact ⟨none, 0, 0, by rw [H2.out]; rfl, by rw [H1.out]; exact ints_nil _, Below.refl _ _⟩
  · have h1 : ¬ n < 0 := by omega
    have h2 : ¬ 1024 < n := by omega
    have H1 := Lib.hid (show shuffleL d n = shufL (n - 1).toNat d (rangeL n.toNat) by simp [shuffleL, badM_no (n := n) (by omega) (by omega)])
    have H2 := Lib.hid (show shuffleS d n = shufS (n - 1).toNat d by simp [shuffleS, badM_no (n := n) (by omega) (by omega)])
    obtain ⟨m, rfl⟩ : ∃ m : Nat, n = (m : Int) := ⟨n.toNat, by omega⟩
    have h3 : m ≤ 1024 := by omega
    clear hb
    rw [Int.toNat_natCast] at H1
    go_enter Try.func16, Try.ntmps16
    go_wp2_with fail
    go_loopw [6, 7] (fun v i wr => ∃ k : Nat, k ≤ m ∧ i = .int .i64 k ∧ Hid (Owns wr w.heap.size 3 v (ivs (rangeL k))) ∧ Below w.heap.size w wr) (fun _ i _ => m - (intOf i).toNat)
    case atStart => exact ⟨0, by omega, rfl, Lib.hid (Owns.nil _ _ _), Below.refl _ _⟩
    case round =>
      obtain ⟨k, hk, rfl, HO, hb⟩ := hrel
      have HLk := Lib.hid (show (ivs (rangeL k)).length = k by rw [ivs_length, rangeL_length])
      by_cases hlt : k < m
      · have hbs := hb.size
        go_wp2_with (at_builtin; go_must (refine wpList_app1 rfl _ _ 36 rfl w.heap.size 3 (.int .i64 0) 8 Try.underlying36 infoInt rfl u6 (ivs (rangeL k)) rfl (.int .i64 (k : Int)) rfl HO.out rfl (by rw [HLk.out]; omega) (by rw [HLk.out]; unfold maxLen; omega) hbs fun v' w' h1 h2 => ?_))
        have HO2 := Lib.hid h1
        rw [show ivs (rangeL k) ++ [Value.int .i64 (k : Int)] = ivs (rangeL (k + 1)) by rw [rangeL_succ, ivs_append]; rfl] at HO2
        have hb2 := hb.trans (h2.below hbs HO.out.lt)
        clear h1 h2
        go_wp2_with fail
        go_roundw
        case rel => exact ⟨k + 1, by omega, by go_num, HO2, hb2⟩
        case measure => simp [intOf]; omega
      · have hkm : k = m := by omega
        have HO2 := Lib.hid (show Owns wr w.heap.size 3 u6 (ivs (rangeL m)) by have := HO.out; rw [hkm] at this; exact this)
        clear HO hkm HLk
        go_wp2_with fail
        go_loopw [0, 8] (fun s i wr => ∃ (z : Int) (dd : UInt64) (l : List Int), -1 ≤ z ∧ z < m ∧ s = .int .u64 (dd.toNat : Int) ∧ i = .int .i64 z ∧ Hid (Owns wr w.heap.size 3 u6 (ivs l)) ∧ Hid (l.length = m) ∧ Hid (shufL z.toNat dd l = shuffleL d m) ∧ Hid (shufS z.toNat dd = shuffleS d m) ∧ Below w.heap.size w wr) (fun _ i _ => (intOf i).toNat)
        case atStart => exact ⟨(m : Int) - 1, d, rangeL m, by omega, by omega, rfl, rfl, HO2, Lib.hid (rangeL_length m), Lib.hid H1.out.symm, Lib.hid H2.out.symm, hb⟩
        case round =>
          clear hb HO2 hlt
          obtain ⟨z, dd, l, hz1, hz2, rfl, rfl, HO, HL, HF1, HF2, hb⟩ := hrel
          by_cases hz : 1 ≤ z
          · obtain ⟨i, rfl⟩ : ∃ i : Nat, z = (i : Int) := ⟨z.toNat, by omega⟩
            have hi1 : 1 ≤ i := by omega
            have hi2 : i < m := by omega
            obtain ⟨g, cp, rfl, hgb⟩ : ∃ g cp, u6 = .slice (some ⟨g, 0, none⟩) m cp ∧ w.heap.size ≤ g := by
              rcases HO.out.form2 with ⟨_, h⟩ | ⟨g, cp, h, _, _, hg, _⟩
              · have := HL.out; rw [← ivs_length, h] at this; simp at this; omega
              · exact ⟨g, cp, by rw [h, ivs_length, HL.out], hg⟩
            have HI3 := Lib.hid (show ((i : Int) - 1).toNat = i - 1 by omega)
            rw [Int.toNat_natCast, shufL_at i hi1, ← HI3.out] at HF1
            rw [Int.toNat_natCast, shufS_at i hi1, ← HI3.out] at HF2
            go_wp2_with fail
            refine (rbelow_draw _ _ _).mono ?_
            rintro e w' ⟨rfl, rfl⟩
            have hbd := belD_bd (d := dd) (n := (i : Int) + 1) (by omega) (by omega)
            generalize belD dd ((i : Int) + 1) = kz at *
            generalize belS dd ((i : Int) + 1) = dd2 at *
            obtain ⟨k, rfl⟩ : ∃ k : Nat, kz = (k : Int) := ⟨kz.toNat, by omega⟩
            rw [Int.toNat_natCast] at HF1
            have hk1 : k ≤ i := by omega
            have hk2 : k < m := by omega
            clear hbd
            have ci := HO.out.cell i hi2
            have ck := HO.out.cell k hk2
            rw [ivs_at _ i (by rw [HL.out]; omega)] at ci
            rw [ivs_at _ k (by rw [HL.out]; omega)] at ck
            have fi := HO.out.free i
            have fk := HO.out.free k
            have HO3 := Lib.hid (HO.out.swap i k)
            have HL3 := Lib.hid (show (swapL l i k).length = m by rw [swapL_length]; exact HL.out)
            unfold iv at ci ck HO3
            generalize swapL l i k = l3 at *
            generalize l.getD i 0 = x at *
            generalize l.getD k 0 = y at *
            by_cases hik : k = i
            · subst hik
              obtain rfl : x = y := by rw [ci] at ck; simpa using ck
              clear ck fk
              go_wp2_with fail
              go_roundw
              case rel => exact ⟨(k : Int) - 1, dd2, l3, by omega, by omega, rfl, rfl, HO3, HL3, HF1, HF2, (hb.setCell hgb _).setCell hgb _⟩
              case measure => simp [intOf]; omega
            · have hki : k < i := by omega
              go_wp2_with fail
              go_roundw
              case rel => exact ⟨(i : Int) - 1, dd2, l3, by omega, by omega, rfl, rfl, HO3, HL3, HF1, HF2, (hb.setCell hgb _).setCell hgb _⟩
              case measure => simp [intOf]; omega
          · have HF1' := Lib.hid (show l = shuffleL d m by rw [← HF1.out, show z.toNat = 0 by omega]; rfl)
            have HF2' := Lib.hid (show dd = shuffleS d m by rw [← HF2.out, show z.toNat = 0 by omega]; rfl)
            go_wp2_with fail
            go_ret2
            obtain ⟨a, n', cp, rfl, hi⟩ := HO.out.ints
            exact ⟨_, _, _, by rw [← HF2'.out]; rfl, by rw [← HF1'.out]; exact hi, hb⟩

end Go.Proofs.Ytfkijcimddbjoaa
