/- nat.DivMod in full. -/
import Derived.Test.YtahmndacoanfiaaGreatKnuL
import Derived.Test.YtahmndacoanfiaaGreatNatC
namespace Go.Proofs.YtahmndacoanfiaaGreat
set_option maxRecDepth 100000
open Go.RowKit

set_option maxHeartbeats 1000000 in
theorem divmod_new (xs ys : List Nat) (a a' : Option Addr) (len cap len' cap' : Nat) (w : World) (hx : Limbs w a len cap xs) (hy : Limbs w a' len' cap' ys) (hbn : len * 4 ≤ 140737488355328) (h0 : natOf ys ≠ 0) :
    Calls Tryz.prog 86 #[.slice a len cap, .slice a' len' cap'] w fun e w' => ∃ v u, e = .returned (.tuple #[v, u, .bool true]) ∧ (Num w' v (natOf xs / natOf ys) ∧ New w.heap.size v) ∧ (Num w' u (natOf xs % natOf ys) ∧ New w.heap.size u) ∧ Below w.heap.size w w' := by
  by_cases hc : natOf xs < natOf ys ∨ natOf ys < 4294967296
  · exact divmod_cond_new xs ys a a' len cap len' cap' w hx hy hbn h0 hc
  have hge : natOf ys ≤ natOf xs := by omega
  have hbig : 4294967296 ≤ natOf ys := by omega
  clear hc
  have HX := Lib.hid hx
  have HY := Lib.hid hy
  have HXT := Lib.hid hx.trim
  have HYT := Lib.hid hy.trim
  have hl1 := digs_length_of hx.2.1
  rw [hx.1] at hl1
  clear hx hy
  go_enter Tryz.func86, Tryz.ntmps86
  go_wp2_with fail
  refine (trim_any xs a len cap _ HX.out).mono ?_
  rintro e w1 ⟨rfl, rfl⟩
  go_wp2_with fail
  refine (trim_any ys a' len' cap' _ HY.out).mono ?_
  rintro e w1 ⟨rfl, rfl⟩
  have hm2 : 2 ≤ (digs (natOf ys)).length := by
    rcases Nat.lt_or_ge 1 (digs (natOf ys)).length with h | h
    · exact h
    · have := lt_of_digs_length h
      rw [Nat.pow_one] at this
      omega
  have HCmp := Lib.hid (cmp_any _ _ _ _ _ _ _ _ w HXT.out HYT.out)
  rw [natOf_digs, natOf_digs] at HCmp
  have HCf := Lib.hid (show decide (cmpI (natOf xs) (natOf ys) < 0) = false by
    rcases cmpI_cases (natOf xs) (natOf ys) with ⟨h, h'⟩ | ⟨h, h'⟩ | ⟨h, h'⟩
    · omega
    · rw [h]; rfl
    · rw [h]; rfl)
  have HB := Lib.hid (fun w1 (hb : Below w.heap.size w w1) => divLong_any (natOf xs) (natOf ys) _ _ _ _ _ _ w1 (HXT.out.below hb) (HYT.out.below hb) hm2 hge (by omega))
  clear HX HY HXT HYT hge hbig h0
  generalize (digs (natOf xs)).length = n at *
  generalize (digs (natOf ys)).length = m at *
  have d0 : ((m : Int) == 0) = false := by simp; omega
  have d1 : ((m : Int) == 1) = false := by simp; omega
  have dc := HCf.out
  generalize cmpI (natOf xs) (natOf ys) = cv at *
  go_wp2_with fail
  refine HCmp.out.mono ?_
  rintro e w1 ⟨rfl, hb1⟩
  go_wp2_with fail
  refine (HB.out w1 hb1).mono ?_
  rintro e w2 ⟨v, u, rfl, hv, hu, hb2⟩
  have HV := Lib.hid hv
  have HU := Lib.hid hu
  clear hv hu
  go_wp2_with fail
  go_ret3
  exact ⟨v, u, rfl, ⟨HV.out.1, HV.out.2.mono hb1.size⟩, ⟨HU.out.1, HU.out.2.mono hb1.size⟩, hb1.trans (hb2.mono hb1.size)⟩

end Go.Proofs.YtahmndacoanfiaaGreat
