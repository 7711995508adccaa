/- The law JournalChange (a tied card): every change of a byte is noticed at its entry or before, unless a changed length delimits bytes that happen to have the digest that follows them. No condition. -/
import Derived.Test.YthbfmioikbphgaaDoorJoY
import Derived.Test.YthbfmioikbphgaaDoorJoZ
import Derived.Test.YthbfmioikbphgaaDoorJoV
import Derived.Test.YthbfmioikbphgaaDoorLaid
import Derived.Test.YthbfmioikbphgaaDoorGuard
namespace Go.Proofs.YthbfmioikbphgaaDoor
set_option maxRecDepth 100000
open Go.ChangeShapes Go.WideShapes Go.ChangeAt Go.RowKit

set_option maxHeartbeats 4000000 in
theorem change_zero (ts : List NodeT) (a : Option Addr) (len cap at0 : Nat) (x : UInt8) (w : World) (hg : ErrT w) (hw : Calls Tryd.prog 15 #[.slice a len cap] w fun e w' =>
      ∃ a1 c1 a2 c2 a3 c3, e = .returned (.tuple #[.slice a1 (lenJ ts) c1, .slice a2 ts.length c2, .slice a3 ts.length c3, .bool true]) ∧ Bytes w' a1 (lenJ ts) c1 (encJ (digOf []) ts) ∧ Kids w' a2 ts.length c2 ts ∧ Nums w' a3 ts.length c3 (endsJ 0 ts) ∧ Below w.heap.size w w') (h0 : lenJ ts = 0) :
    Calls Tryd.prog 4 #[.slice a len cap, .int .u16 (at0 : Int), .int .u8 (x.toNat : Int)] w fun e w' => e = .returned (.bool true) ∧ Below w.heap.size w w' := by
  rw [h0] at hw
  have HW := Lib.hid hw
  have HG := Lib.hid hg
  clear hw hg h0
  go_enter Tryd.func4, Tryd.ntmps4
  go_wp2_with fail
  refine (HW.out).mono ?_
  rintro e w1 ⟨a1, c1, a2, c2, a3, c3, rfl, hB, hK, hN, hb⟩
  have HB1 := Lib.hid hB
  have HK1 := Lib.hid hK
  have HN1 := Lib.hid hN
  have HG1 := Lib.hid (HG.out.below hb)
  have hlc := hB.2.1
  have hkc := hK.2.1
  clear hB hK hN
  go_wp2_with fail
  refine (awake49_any _ HG1.out).mono ?_
  rintro e w2 ⟨rfl, hb2⟩
  have hBB := hb.trans (hb2.mono hb.size)
  go_wp2_with fail
  go_ret
  exact ⟨rfl, hBB⟩
set_option maxHeartbeats 4000000 in
theorem change_same (ts : List NodeT) (hgd : ∀ t ∈ ts, GoodJ t) (a : Option Addr) (len cap at0 : Nat) (hat : at0 < 65536) (x : UInt8) (w : World) (hg : ErrT w) (hw : Calls Tryd.prog 15 #[.slice a len cap] w fun e w' =>
      ∃ a1 c1 a2 c2 a3 c3, e = .returned (.tuple #[.slice a1 (lenJ ts) c1, .slice a2 ts.length c2, .slice a3 ts.length c3, .bool true]) ∧ Bytes w' a1 (lenJ ts) c1 (encJ (digOf []) ts) ∧ Kids w' a2 ts.length c2 ts ∧ Nums w' a3 ts.length c3 (endsJ 0 ts) ∧ Below w.heap.size w w') (h0 : lenJ ts ≠ 0) (hv : (encJ (digOf []) ts).getD (at0 % lenJ ts) 0 = x) :
    Calls Tryd.prog 4 #[.slice a len cap, .int .u16 (at0 : Int), .int .u8 (x.toNat : Int)] w fun e w' => e = .returned (.bool true) ∧ Below w.heap.size w w' := by
  have hlb := lenJ_le ts hgd
  have HW := Lib.hid hw
  have HG := Lib.hid hg
  clear hw hg
  generalize hLL : lenJ ts = L at *
  obtain ⟨i, hi⟩ : ∃ i, i = at0 % L := ⟨_, rfl⟩
  have hiL : i < L := by rw [hi]; exact Nat.mod_lt _ (by omega)
  have hL0 : L ≠ 0 := by omega
  have e1 : (at0 : Int) % (L : Int) = (i : Int) := by omega
  have e2 : Int.tmod (at0 : Int) (L : Int) = (i : Int) := by rw [Int.tmod_eq_emod_of_nonneg (by omega)]; exact e1
  have HLn := Lib.hid hLL
  clear hLL
  rw [← hi] at hv
  have HV := Lib.hid hv
  clear hv hi hgd
  go_enter Tryd.func4, Tryd.ntmps4
  go_wp2_with fail
  refine (HW.out).mono ?_
  rintro e w1 ⟨a1, c1, a2, c2, a3, c3, rfl, hB, hK, hN, hb⟩
  have HB1 := Lib.hid hB
  have HK1 := Lib.hid hK
  have HN1 := Lib.hid hN
  have HG1 := Lib.hid (HG.out.below hb)
  have hlc := hB.2.1
  have hkc := hK.2.1
  obtain ⟨b1, o1, rfl, hb1, hcc⟩ := HB1.out.2.at hiL
  have hc1 := hcc i hiL w1 (Below.refl _ _)
  rw [HV.out] at hc1
  clear hcc hB hK hN
  go_wp2_with fail
  refine (awake49_any _ HG1.out).mono ?_
  rintro e w2 ⟨rfl, hb2⟩
  have hBB := hb.trans (hb2.mono hb.size)
  go_wp2_with fail
  go_ret
  exact ⟨rfl, hBB⟩
set_option maxHeartbeats 16000000 in
theorem change_late (ts : List NodeT) (hgd : ∀ t ∈ ts, GoodJ t) (h10 : ts.length ≤ 10) (a : Option Addr) (len cap at0 : Nat) (hat : at0 < 65536) (x : UInt8) (w : World) (hg : ErrT w) (hw : Calls Tryd.prog 15 #[.slice a len cap] w fun e w' =>
      ∃ a1 c1 a2 c2 a3 c3, e = .returned (.tuple #[.slice a1 (lenJ ts) c1, .slice a2 ts.length c2, .slice a3 ts.length c3, .bool true]) ∧ Bytes w' a1 (lenJ ts) c1 (encJ (digOf []) ts) ∧ Kids w' a2 ts.length c2 ts ∧ Nums w' a3 ts.length c3 (endsJ 0 ts) ∧ Below w.heap.size w w') (h0 : lenJ ts ≠ 0) (hne : (encJ (digOf []) ts).getD (at0 % lenJ ts) 0 ≠ x) (k : Nat) (hk1 : cntJ (endsJ 0 ts) (at0 % lenJ ts) = k) (hk2 : k ≤ ts.length) (hk3 : lenJ (ts.take k) ≤ at0 % lenJ ts) (hlt : lenJ (ts.take k) + 4 ≤ at0 % lenJ ts) (hr : rdJ ((encJ (digOf []) ts).set (at0 % lenJ ts) x) = ⟨ts.take k, lenJ (ts.take k), dgJ (digOf []) (ts.take k), 12⟩) :
    Calls Tryd.prog 4 #[.slice a len cap, .int .u16 (at0 : Int), .int .u8 (x.toNat : Int)] w fun e w' => e = .returned (.bool true) ∧ Below w.heap.size w w' := by
  have hlb := lenJ_le ts hgd
  have HW := Lib.hid hw
  have HG := Lib.hid hg
  clear hw hg
  generalize hLL : lenJ ts = L at *
  obtain ⟨i, hi⟩ : ∃ i, i = at0 % L := ⟨_, rfl⟩
  have hiL : i < L := by rw [hi]; exact Nat.mod_lt _ (by omega)
  have hL0 : L ≠ 0 := by omega
  have e1 : (at0 : Int) % (L : Int) = (i : Int) := by omega
  have e2 : Int.tmod (at0 : Int) (L : Int) = (i : Int) := by rw [Int.tmod_eq_emod_of_nonneg (by omega)]; exact e1
  have HLn := Lib.hid hLL
  clear hLL
  rw [← hi] at hne hk1 hk3 hr hlt
  have HEb := Lib.hid (ends_le ts 0)
  have HEn := Lib.hid (show 0 < k → (endsJ 0 ts).getD (k - 1) 0 = lenJ (ts.take k) by
    intro h
    have h2 := ends_at ts 0 (k - 1) (by omega)
    rw [List.getD, h2, show k - 1 + 1 = k by omega]
    simp)
  have HZ := Lib.hid (show k = 0 → lenJ (ts.take k) = 0 by intro h; rw [h]; rfl)
  have HKk := Lib.hid (show (ts.take k).length = k by rw [List.length_take]; omega)
  have HCn := Lib.hid hk1
  have HR := Lib.hid hr
  rw [HLn.out] at HEb
  generalize hEE : lenJ (ts.take k) = bg at *
  have hbi : bg ≤ i := hk3
  generalize hDD : dgJ (digOf []) (ts.take k) = D at *
  have HLt := Lib.hid hlt
  have HDe := Lib.hid hDD
  have HBg := Lib.hid hEE
  clear hDD hEE hk1 hr hi hgd
  generalize hnn : ts.length = n at *
  have HNn := Lib.hid hnn
  clear hnn
  have d4 : decide ((bg : Int) + 4 ≤ (i : Int)) = true := by simp; omega
  by_cases hk0 : k = 0
  · have hz := HZ.out hk0
    subst hk0 hz
    clear HEn HZ
    go_enter Tryd.func4, Tryd.ntmps4
    go_wp2_with fail
    refine (HW.out).mono ?_
    rintro e w1 ⟨a1, c1, a2, c2, a3, c3, rfl, hB, hK, hN, hb⟩
    have HB1 := Lib.hid hB
    have HK1 := Lib.hid hK
    have HN1 := Lib.hid hN
    have HG1 := Lib.hid (HG.out.below hb)
    have hlc := hB.2.1
    have hkc := hK.2.1
    obtain ⟨b1, o1, rfl, hb1, hcc⟩ := HB1.out.2.at hiL
    have hc1 := hcc i hiL w1 (Below.refl _ _)
    have HKp := Lib.hid (hK.pre 0 hk2)
    clear hcc hB hK hN
    generalize hvv : (encJ (digOf []) ts).getD i 0 = v at *
    have dv : ((v.toNat : Int) == (x.toNat : Int)) = false := by simp; exact fun h => hne (UInt8.toNat_inj.1 (by omega))
    have dv' : (v.toNat == x.toNat) = false := by simp; exact fun h => hne (UInt8.toNat_inj.1 h)
    clear hvv
    go_wp2_with fail
    refine (complete_any _ _ _ _ _ _ HN1.out (fun y hy => by have := HEb.out y hy; omega)).mono ?_
    rw [HCn.out]
    rintro e w2 ⟨rfl, rfl⟩
    have hbx : Below w1.heap.size w1 (w1.alloc (.cells #[] 5)) := (Below.refl _ _).alloc (Nat.le_refl _) _
    have HOx := Lib.hid (owns_lit w1 w1.heap.size 5 [] (by simp) (Nat.le_refl _))
    have HBx := Lib.hid (HB1.out.below hbx)
    have hLL := HB1.out.1
    go_wp2_with (at_builtin; refine wpList_appS rfl _ _ 22 rfl w1.heap.size 5 (.int .u8 0) 1 Tryd.underlying22 infoByte rfl (.slice (some ⟨w1.heap.size, 0, none⟩) 0 0) [] rfl HOx.out (some ⟨b1, o1, none⟩) L c1 (bvs (encJ (digOf []) ts)) rfl (by rw [bvs_length]; exact hLL) HBx.out.vals (bvs_one _) L (by simp) (by omega) (by omega) (by simp only [maxLen]; omega) (by simp) fun g cg w2 g1 g2 g3 g4 => ?_; have zc := Owns.cell g1 i hiL; have zf := Owns.free g1 i; have HO2 := Lib.hid g1; have HBel := Lib.hid (hbx.trans (g2.below (B := w1.heap.size) (by simp) (by simp [Value.ownBlock]))); clear g1 g2)
    have hO3 : Owns (w2.setCell ⟨g, i, none⟩ (.int .u8 (x.toNat : Int))) w1.heap.size 5 (.slice (some ⟨g, 0, none⟩) L cg) (bvs ((encJ (digOf []) ts).set i x)) := by
      have h := Owns.store HO2.out i (.int .u8 (x.toNat : Int))
      rw [List.nil_append] at h
      have e : (bvs (encJ (digOf []) ts)).set i (.int .u8 (x.toNat : Int)) = bvs ((encJ (digOf []) ts).set i x) := by unfold bvs; rw [List.map_set]; rfl
      rw [e] at h; exact h
    have hbS := HBel.out.setCell (p := ⟨g, i, none⟩) g4 (.int .u8 (x.toNat : Int))
    obtain ⟨_, _, _, he, hB3⟩ := hO3.bytes
    cases he
    have HB3 := Lib.hid hB3
    have HK3 := Lib.hid (HKp.out.below hbS)
    have HG3 := Lib.hid (HG1.out.below hbS)
    have hBB := hb.trans (hbS.mono hb.size)
    clear hO3 hB3 hbS zc zf hc1
    generalize w2.setCell ⟨g, i, none⟩ (.int .u8 (x.toNat : Int)) = w3 at *
    refine (read_fix HR.out HKk.out _ _ _ _ HB3.out HG3.out).mono ?_
    rintro e w4 ⟨b4, k4, rfl, hM, hb4⟩
    have hBC := hBB.trans (hb4.mono hBB.size)
    have HK4 := Lib.hid (HK3.out.below hb4)
    have HG4 := Lib.hid (HG3.out.below hb4)
    have HM4 := Lib.hid hM
    clear hM
    go_wp2_with fail
    refine (same_t _ _ _ _ _ _ _ HM4.out HK4.out).mono ?_
    rintro e w5 ⟨rfl, hb5⟩
    have hBD := hBC.trans (hb5.mono hBC.size)
    have HG5 := Lib.hid (HG4.out.below hb5)
    go_wp2_with fail
    refine (awake49_any _ HG5.out).mono ?_
    rintro e w6 ⟨rfl, hb6⟩
    have hBE := hBD.trans (hb6.mono hBD.size)
    go_wp2_with fail
    go_ret
    exact ⟨rfl, hBE⟩
  · have dk : decide (0 < (k : Int)) = true := by simp; omega
    have dk' : decide (0 < k) = true := by simp; omega
    go_enter Tryd.func4, Tryd.ntmps4
    go_wp2_with fail
    refine (HW.out).mono ?_
    rintro e w1 ⟨a1, c1, a2, c2, a3, c3, rfl, hB, hK, hN, hb⟩
    have HB1 := Lib.hid hB
    have HK1 := Lib.hid hK
    have HN1 := Lib.hid hN
    have HG1 := Lib.hid (HG.out.below hb)
    have hlc := hB.2.1
    have hkc := hK.2.1
    obtain ⟨b1, o1, rfl, hb1, hcc⟩ := HB1.out.2.at hiL
    have hc1 := hcc i hiL w1 (Below.refl _ _)
    have HKp := Lib.hid (hK.pre k hk2)
    clear hcc hB hK hN
    generalize hvv : (encJ (digOf []) ts).getD i 0 = v at *
    have dv : ((v.toNat : Int) == (x.toNat : Int)) = false := by simp; exact fun h => hne (UInt8.toNat_inj.1 (by omega))
    have dv' : (v.toNat == x.toNat) = false := by simp; exact fun h => hne (UInt8.toNat_inj.1 h)
    clear hvv
    go_wp2_with fail
    refine (complete_any _ _ _ _ _ _ HN1.out (fun y hy => by have := HEb.out y hy; omega)).mono ?_
    rw [HCn.out]
    rintro e w2 ⟨rfl, rfl⟩
    obtain ⟨b3, o3, rfl, hb3l, hc3⟩ := HN1.out.cell (k := k - 1) (by omega)
    rw [HEn.out (by omega)] at hc3
    have hki : ((k : Int) - 1) = ((k - 1 : Nat) : Int) := by omega
    have hbx : Below w1.heap.size w1 (w1.alloc (.cells #[] 5)) := (Below.refl _ _).alloc (Nat.le_refl _) _
    have HOx := Lib.hid (owns_lit w1 w1.heap.size 5 [] (by simp) (Nat.le_refl _))
    have HBx := Lib.hid (HB1.out.below hbx)
    have hLL := HB1.out.1
    go_wp2_with (at_builtin; refine wpList_appS rfl _ _ 22 rfl w1.heap.size 5 (.int .u8 0) 1 Tryd.underlying22 infoByte rfl (.slice (some ⟨w1.heap.size, 0, none⟩) 0 0) [] rfl HOx.out (some ⟨b1, o1, none⟩) L c1 (bvs (encJ (digOf []) ts)) rfl (by rw [bvs_length]; exact hLL) HBx.out.vals (bvs_one _) L (by simp) (by omega) (by omega) (by simp only [maxLen]; omega) (by simp) fun g cg w2 g1 g2 g3 g4 => ?_; have zc := Owns.cell g1 i hiL; have zf := Owns.free g1 i; have HO2 := Lib.hid g1; have HBel := Lib.hid (hbx.trans (g2.below (B := w1.heap.size) (by simp) (by simp [Value.ownBlock]))); clear g1 g2)
    have hO3 : Owns (w2.setCell ⟨g, i, none⟩ (.int .u8 (x.toNat : Int))) w1.heap.size 5 (.slice (some ⟨g, 0, none⟩) L cg) (bvs ((encJ (digOf []) ts).set i x)) := by
      have h := Owns.store HO2.out i (.int .u8 (x.toNat : Int))
      rw [List.nil_append] at h
      have e : (bvs (encJ (digOf []) ts)).set i (.int .u8 (x.toNat : Int)) = bvs ((encJ (digOf []) ts).set i x) := by unfold bvs; rw [List.map_set]; rfl
      rw [e] at h; exact h
    have hbS := HBel.out.setCell (p := ⟨g, i, none⟩) g4 (.int .u8 (x.toNat : Int))
    obtain ⟨_, _, _, he, hB3⟩ := hO3.bytes
    cases he
    have HB3 := Lib.hid hB3
    have HK3 := Lib.hid (HKp.out.below hbS)
    have HG3 := Lib.hid (HG1.out.below hbS)
    have hBB := hb.trans (hbS.mono hb.size)
    clear hO3 hB3 hbS zc zf hc1
    generalize w2.setCell ⟨g, i, none⟩ (.int .u8 (x.toNat : Int)) = w3 at *
    refine (read_fix HR.out HKk.out _ _ _ _ HB3.out HG3.out).mono ?_
    rintro e w4 ⟨b4, k4, rfl, hM, hb4⟩
    have hBC := hBB.trans (hb4.mono hBB.size)
    have HK4 := Lib.hid (HK3.out.below hb4)
    have HG4 := Lib.hid (HG3.out.below hb4)
    have HM4 := Lib.hid hM
    clear hM
    go_wp2_with fail
    refine (same_t _ _ _ _ _ _ _ HM4.out HK4.out).mono ?_
    rintro e w5 ⟨rfl, hb5⟩
    have hBD := hBC.trans (hb5.mono hBC.size)
    have HG5 := Lib.hid (HG4.out.below hb5)
    go_wp2_with fail
    refine (awake49_any _ HG5.out).mono ?_
    rintro e w6 ⟨rfl, hb6⟩
    have hBE := hBD.trans (hb6.mono hBD.size)
    go_wp2_with fail
    go_ret
    exact ⟨rfl, hBE⟩
set_option maxHeartbeats 16000000 in
theorem change_early (ts : List NodeT) (hgd : ∀ t ∈ ts, GoodJ t) (h10 : ts.length ≤ 10) (a : Option Addr) (len cap at0 : Nat) (hat : at0 < 65536) (x : UInt8) (w : World) (hg : ErrT w) (hw : Calls Tryd.prog 15 #[.slice a len cap] w fun e w' =>
      ∃ a1 c1 a2 c2 a3 c3, e = .returned (.tuple #[.slice a1 (lenJ ts) c1, .slice a2 ts.length c2, .slice a3 ts.length c3, .bool true]) ∧ Bytes w' a1 (lenJ ts) c1 (encJ (digOf []) ts) ∧ Kids w' a2 ts.length c2 ts ∧ Nums w' a3 ts.length c3 (endsJ 0 ts) ∧ Below w.heap.size w w') (h0 : lenJ ts ≠ 0) (hne : (encJ (digOf []) ts).getD (at0 % lenJ ts) 0 ≠ x) (k : Nat) (hk1 : cntJ (endsJ 0 ts) (at0 % lenJ ts) = k) (hk2 : k ≤ ts.length) (hk3 : lenJ (ts.take k) ≤ at0 % lenJ ts) (hlt : at0 % lenJ ts < lenJ (ts.take k) + 4) (e0 : Int) (he0 : e0 ≠ 0) (hr : rdJ ((encJ (digOf []) ts).set (at0 % lenJ ts) x) = ⟨ts.take k, lenJ (ts.take k), dgJ (digOf []) (ts.take k), e0⟩) :
    Calls Tryd.prog 4 #[.slice a len cap, .int .u16 (at0 : Int), .int .u8 (x.toNat : Int)] w fun e w' => e = .returned (.bool true) ∧ Below w.heap.size w w' := by
  have hlb := lenJ_le ts hgd
  have HW := Lib.hid hw
  have HG := Lib.hid hg
  clear hw hg
  generalize hLL : lenJ ts = L at *
  obtain ⟨i, hi⟩ : ∃ i, i = at0 % L := ⟨_, rfl⟩
  have hiL : i < L := by rw [hi]; exact Nat.mod_lt _ (by omega)
  have hL0 : L ≠ 0 := by omega
  have e1 : (at0 : Int) % (L : Int) = (i : Int) := by omega
  have e2 : Int.tmod (at0 : Int) (L : Int) = (i : Int) := by rw [Int.tmod_eq_emod_of_nonneg (by omega)]; exact e1
  have HLn := Lib.hid hLL
  clear hLL
  rw [← hi] at hne hk1 hk3 hr hlt
  have HEb := Lib.hid (ends_le ts 0)
  have HEn := Lib.hid (show 0 < k → (endsJ 0 ts).getD (k - 1) 0 = lenJ (ts.take k) by
    intro h
    have h2 := ends_at ts 0 (k - 1) (by omega)
    rw [List.getD, h2, show k - 1 + 1 = k by omega]
    simp)
  have HZ := Lib.hid (show k = 0 → lenJ (ts.take k) = 0 by intro h; rw [h]; rfl)
  have HKk := Lib.hid (show (ts.take k).length = k by rw [List.length_take]; omega)
  have HCn := Lib.hid hk1
  have HR := Lib.hid hr
  rw [HLn.out] at HEb
  generalize hEE : lenJ (ts.take k) = bg at *
  have hbi : bg ≤ i := hk3
  generalize hDD : dgJ (digOf []) (ts.take k) = D at *
  have HLt := Lib.hid hlt
  have HDe := Lib.hid hDD
  have HBg := Lib.hid hEE
  clear hDD hEE hk1 hr hi hgd
  generalize hnn : ts.length = n at *
  have HNn := Lib.hid hnn
  clear hnn
  have d4 : decide ((bg : Int) + 4 ≤ (i : Int)) = false := by simp; omega
  have d5 : (e0 != 0) = true := by simpa using he0
  clear he0
  by_cases hk0 : k = 0
  · have hz := HZ.out hk0
    subst hk0 hz
    clear HEn HZ
    go_enter Tryd.func4, Tryd.ntmps4
    go_wp2_with fail
    refine (HW.out).mono ?_
    rintro e w1 ⟨a1, c1, a2, c2, a3, c3, rfl, hB, hK, hN, hb⟩
    have HB1 := Lib.hid hB
    have HK1 := Lib.hid hK
    have HN1 := Lib.hid hN
    have HG1 := Lib.hid (HG.out.below hb)
    have hlc := hB.2.1
    have hkc := hK.2.1
    obtain ⟨b1, o1, rfl, hb1, hcc⟩ := HB1.out.2.at hiL
    have hc1 := hcc i hiL w1 (Below.refl _ _)
    have HKp := Lib.hid (hK.pre 0 hk2)
    clear hcc hB hK hN
    generalize hvv : (encJ (digOf []) ts).getD i 0 = v at *
    have dv : ((v.toNat : Int) == (x.toNat : Int)) = false := by simp; exact fun h => hne (UInt8.toNat_inj.1 (by omega))
    have dv' : (v.toNat == x.toNat) = false := by simp; exact fun h => hne (UInt8.toNat_inj.1 h)
    clear hvv
    go_wp2_with fail
    refine (complete_any _ _ _ _ _ _ HN1.out (fun y hy => by have := HEb.out y hy; omega)).mono ?_
    rw [HCn.out]
    rintro e w2 ⟨rfl, rfl⟩
    have hbx : Below w1.heap.size w1 (w1.alloc (.cells #[] 5)) := (Below.refl _ _).alloc (Nat.le_refl _) _
    have HOx := Lib.hid (owns_lit w1 w1.heap.size 5 [] (by simp) (Nat.le_refl _))
    have HBx := Lib.hid (HB1.out.below hbx)
    have hLL := HB1.out.1
    go_wp2_with (at_builtin; refine wpList_appS rfl _ _ 22 rfl w1.heap.size 5 (.int .u8 0) 1 Tryd.underlying22 infoByte rfl (.slice (some ⟨w1.heap.size, 0, none⟩) 0 0) [] rfl HOx.out (some ⟨b1, o1, none⟩) L c1 (bvs (encJ (digOf []) ts)) rfl (by rw [bvs_length]; exact hLL) HBx.out.vals (bvs_one _) L (by simp) (by omega) (by omega) (by simp only [maxLen]; omega) (by simp) fun g cg w2 g1 g2 g3 g4 => ?_; have zc := Owns.cell g1 i hiL; have zf := Owns.free g1 i; have HO2 := Lib.hid g1; have HBel := Lib.hid (hbx.trans (g2.below (B := w1.heap.size) (by simp) (by simp [Value.ownBlock]))); clear g1 g2)
    have hO3 : Owns (w2.setCell ⟨g, i, none⟩ (.int .u8 (x.toNat : Int))) w1.heap.size 5 (.slice (some ⟨g, 0, none⟩) L cg) (bvs ((encJ (digOf []) ts).set i x)) := by
      have h := Owns.store HO2.out i (.int .u8 (x.toNat : Int))
      rw [List.nil_append] at h
      have e : (bvs (encJ (digOf []) ts)).set i (.int .u8 (x.toNat : Int)) = bvs ((encJ (digOf []) ts).set i x) := by unfold bvs; rw [List.map_set]; rfl
      rw [e] at h; exact h
    have hbS := HBel.out.setCell (p := ⟨g, i, none⟩) g4 (.int .u8 (x.toNat : Int))
    obtain ⟨_, _, _, he, hB3⟩ := hO3.bytes
    cases he
    have HB3 := Lib.hid hB3
    have HK3 := Lib.hid (HKp.out.below hbS)
    have HG3 := Lib.hid (HG1.out.below hbS)
    have hBB := hb.trans (hbS.mono hb.size)
    clear hO3 hB3 hbS zc zf hc1
    generalize w2.setCell ⟨g, i, none⟩ (.int .u8 (x.toNat : Int)) = w3 at *
    refine (read_fix HR.out HKk.out _ _ _ _ HB3.out HG3.out).mono ?_
    rintro e w4 ⟨b4, k4, rfl, hM, hb4⟩
    have hBC := hBB.trans (hb4.mono hBB.size)
    have HK4 := Lib.hid (HK3.out.below hb4)
    have HG4 := Lib.hid (HG3.out.below hb4)
    have HM4 := Lib.hid hM
    clear hM
    go_wp2_with fail
    refine (same_t _ _ _ _ _ _ _ HM4.out HK4.out).mono ?_
    rintro e w5 ⟨rfl, hb5⟩
    have hBD := hBC.trans (hb5.mono hBC.size)
    have HG5 := Lib.hid (HG4.out.below hb5)
    go_wp2_with fail
    refine (awake49_any _ HG5.out).mono ?_
    rintro e w6 ⟨rfl, hb6⟩
    have hBE := hBD.trans (hb6.mono hBD.size)
    go_wp2_with fail
    go_ret
    exact ⟨rfl, hBE⟩
  · have dk : decide (0 < (k : Int)) = true := by simp; omega
    have dk' : decide (0 < k) = true := by simp; omega
    go_enter Tryd.func4, Tryd.ntmps4
    go_wp2_with fail
    refine (HW.out).mono ?_
    rintro e w1 ⟨a1, c1, a2, c2, a3, c3, rfl, hB, hK, hN, hb⟩
    have HB1 := Lib.hid hB
    have HK1 := Lib.hid hK
    have HN1 := Lib.hid hN
    have HG1 := Lib.hid (HG.out.below hb)
    have hlc := hB.2.1
    have hkc := hK.2.1
    obtain ⟨b1, o1, rfl, hb1, hcc⟩ := HB1.out.2.at hiL
    have hc1 := hcc i hiL w1 (Below.refl _ _)
    have HKp := Lib.hid (hK.pre k hk2)
    clear hcc hB hK hN
    generalize hvv : (encJ (digOf []) ts).getD i 0 = v at *
    have dv : ((v.toNat : Int) == (x.toNat : Int)) = false := by simp; exact fun h => hne (UInt8.toNat_inj.1 (by omega))
    have dv' : (v.toNat == x.toNat) = false := by simp; exact fun h => hne (UInt8.toNat_inj.1 h)
    clear hvv
    go_wp2_with fail
    refine (complete_any _ _ _ _ _ _ HN1.out (fun y hy => by have := HEb.out y hy; omega)).mono ?_
    rw [HCn.out]
    rintro e w2 ⟨rfl, rfl⟩
    obtain ⟨b3, o3, rfl, hb3l, hc3⟩ := HN1.out.cell (k := k - 1) (by omega)
    rw [HEn.out (by omega)] at hc3
    have hki : ((k : Int) - 1) = ((k - 1 : Nat) : Int) := by omega
    have hbx : Below w1.heap.size w1 (w1.alloc (.cells #[] 5)) := (Below.refl _ _).alloc (Nat.le_refl _) _
    have HOx := Lib.hid (owns_lit w1 w1.heap.size 5 [] (by simp) (Nat.le_refl _))
    have HBx := Lib.hid (HB1.out.below hbx)
    have hLL := HB1.out.1
    go_wp2_with (at_builtin; refine wpList_appS rfl _ _ 22 rfl w1.heap.size 5 (.int .u8 0) 1 Tryd.underlying22 infoByte rfl (.slice (some ⟨w1.heap.size, 0, none⟩) 0 0) [] rfl HOx.out (some ⟨b1, o1, none⟩) L c1 (bvs (encJ (digOf []) ts)) rfl (by rw [bvs_length]; exact hLL) HBx.out.vals (bvs_one _) L (by simp) (by omega) (by omega) (by simp only [maxLen]; omega) (by simp) fun g cg w2 g1 g2 g3 g4 => ?_; have zc := Owns.cell g1 i hiL; have zf := Owns.free g1 i; have HO2 := Lib.hid g1; have HBel := Lib.hid (hbx.trans (g2.below (B := w1.heap.size) (by simp) (by simp [Value.ownBlock]))); clear g1 g2)
    have hO3 : Owns (w2.setCell ⟨g, i, none⟩ (.int .u8 (x.toNat : Int))) w1.heap.size 5 (.slice (some ⟨g, 0, none⟩) L cg) (bvs ((encJ (digOf []) ts).set i x)) := by
      have h := Owns.store HO2.out i (.int .u8 (x.toNat : Int))
      rw [List.nil_append] at h
      have e : (bvs (encJ (digOf []) ts)).set i (.int .u8 (x.toNat : Int)) = bvs ((encJ (digOf []) ts).set i x) := by unfold bvs; rw [List.map_set]; rfl
      rw [e] at h; exact h
    have hbS := HBel.out.setCell (p := ⟨g, i, none⟩) g4 (.int .u8 (x.toNat : Int))
    obtain ⟨_, _, _, he, hB3⟩ := hO3.bytes
    cases he
    have HB3 := Lib.hid hB3
    have HK3 := Lib.hid (HKp.out.below hbS)
    have HG3 := Lib.hid (HG1.out.below hbS)
    have hBB := hb.trans (hbS.mono hb.size)
    clear hO3 hB3 hbS zc zf hc1
    generalize w2.setCell ⟨g, i, none⟩ (.int .u8 (x.toNat : Int)) = w3 at *
    refine (read_fix HR.out HKk.out _ _ _ _ HB3.out HG3.out).mono ?_
    rintro e w4 ⟨b4, k4, rfl, hM, hb4⟩
    have hBC := hBB.trans (hb4.mono hBB.size)
    have HK4 := Lib.hid (HK3.out.below hb4)
    have HG4 := Lib.hid (HG3.out.below hb4)
    have HM4 := Lib.hid hM
    clear hM
    go_wp2_with fail
    refine (same_t _ _ _ _ _ _ _ HM4.out HK4.out).mono ?_
    rintro e w5 ⟨rfl, hb5⟩
    have hBD := hBC.trans (hb5.mono hBC.size)
    have HG5 := Lib.hid (HG4.out.below hb5)
    go_wp2_with fail
    refine (awake49_any _ HG5.out).mono ?_
    rintro e w6 ⟨rfl, hb6⟩
    have hBE := hBD.trans (hb6.mono hBD.size)
    go_wp2_with fail
    go_ret
    exact ⟨rfl, hBE⟩
theorem drop_four (xs : List UInt8) (p : Nat) (h : p + 4 ≤ xs.length) : (xs.drop p).take 4 = [xs.getD (p + 0) 0, xs.getD (p + 1) 0, xs.getD (p + 2) 0, xs.getD (p + 3) 0] := by
  rw [List.drop_eq_getElem_cons (by omega), List.drop_eq_getElem_cons (by omega), List.drop_eq_getElem_cons (by omega), List.drop_eq_getElem_cons (by omega)]
  simp only [List.take_succ_cons, List.take_zero, List.getD, Nat.add_zero]
  rw [List.getElem?_eq_getElem (show p < xs.length by omega), List.getElem?_eq_getElem (show p + 1 < xs.length by omega), List.getElem?_eq_getElem (show p + 2 < xs.length by omega), List.getElem?_eq_getElem (show p + 3 < xs.length by omega)]
  rfl
set_option maxHeartbeats 16000000 in
theorem change_size (ts : List NodeT) (hgd : ∀ t ∈ ts, GoodJ t) (h10 : ts.length ≤ 10) (a : Option Addr) (len cap at0 : Nat) (hat : at0 < 65536) (x : UInt8) (w : World) (hg : ErrT w) (hw : Calls Tryd.prog 15 #[.slice a len cap] w fun e w' =>
      ∃ a1 c1 a2 c2 a3 c3, e = .returned (.tuple #[.slice a1 (lenJ ts) c1, .slice a2 ts.length c2, .slice a3 ts.length c3, .bool true]) ∧ Bytes w' a1 (lenJ ts) c1 (encJ (digOf []) ts) ∧ Kids w' a2 ts.length c2 ts ∧ Nums w' a3 ts.length c3 (endsJ 0 ts) ∧ Below w.heap.size w w') (h0 : lenJ ts ≠ 0) (hne : (encJ (digOf []) ts).getD (at0 % lenJ ts) 0 ≠ x) (k : Nat) (hk1 : cntJ (endsJ 0 ts) (at0 % lenJ ts) = k) (hk2 : k ≤ ts.length) (hk3 : lenJ (ts.take k) ≤ at0 % lenJ ts) (hlt : at0 % lenJ ts < lenJ (ts.take k) + 4) (us : List NodeT) (n9 : Nat) (d9 : UInt64) (e0 : Int) (z : Nat) (s : UInt64) (hr : rdJ ((encJ (digOf []) ts).set (at0 % lenJ ts) x) = ⟨us, n9, d9, e0⟩) (hku : k < us.length) (hu3 : us.length ≤ 300) (hz : z ≤ 2000)
    (hzb : beN ((((encJ (digOf []) ts).set (at0 % lenJ ts) x).drop (lenJ (ts.take k))).take 4) = z) (hzl : lenJ (ts.take k) + z + 12 ≤ lenJ ts) (hpre : ((encJ (digOf []) ts).set (at0 % lenJ ts) x).take (lenJ (ts.take k)) = encJ (digOf []) (ts.take k))
    (hch : digChain (dgJ (digOf []) (ts.take k)) ((((encJ (digOf []) ts).set (at0 % lenJ ts) x).drop (lenJ (ts.take k))).take (z + 4)) = s) (hbe : (((encJ (digOf []) ts).set (at0 % lenJ ts) x).drop (lenJ (ts.take k) + (z + 4))).take 8 = be8 s) :
    Calls Tryd.prog 4 #[.slice a len cap, .int .u16 (at0 : Int), .int .u8 (x.toNat : Int)] w fun e w' => e = .returned (.bool true) ∧ Below w.heap.size w w' := by
  have HRp := Lib.hid (rdJ_enc (ts := ts.take k) (fun t ht => hgd t (List.mem_of_mem_take ht)) (by rw [List.length_take]; omega))
  have hlb := lenJ_le ts hgd
  have HW := Lib.hid hw
  have HG := Lib.hid hg
  clear hw hg
  generalize hLL : lenJ ts = L at *
  obtain ⟨i, hi⟩ : ∃ i, i = at0 % L := ⟨_, rfl⟩
  have hiL : i < L := by rw [hi]; exact Nat.mod_lt _ (by omega)
  have hL0 : L ≠ 0 := by omega
  have e1 : (at0 : Int) % (L : Int) = (i : Int) := by omega
  have e2 : Int.tmod (at0 : Int) (L : Int) = (i : Int) := by rw [Int.tmod_eq_emod_of_nonneg (by omega)]; exact e1
  have HLn := Lib.hid hLL
  clear hLL
  rw [← hi] at hne hk1 hk3 hr hlt hzb hpre hch hbe
  have HEb := Lib.hid (ends_le ts 0)
  have HEn := Lib.hid (show 0 < k → (endsJ 0 ts).getD (k - 1) 0 = lenJ (ts.take k) by
    intro h
    have h2 := ends_at ts 0 (k - 1) (by omega)
    rw [List.getD, h2, show k - 1 + 1 = k by omega]
    simp)
  have HZ := Lib.hid (show k = 0 → lenJ (ts.take k) = 0 by intro h; rw [h]; rfl)
  have HKk := Lib.hid (show (ts.take k).length = k by rw [List.length_take]; omega)
  have HCn := Lib.hid hk1
  have HR := Lib.hid hr
  have HZb := Lib.hid (show beN [((encJ (digOf []) ts).set i x).getD (lenJ (ts.take k) + 0) 0, ((encJ (digOf []) ts).set i x).getD (lenJ (ts.take k) + 1) 0, ((encJ (digOf []) ts).set i x).getD (lenJ (ts.take k) + 2) 0, ((encJ (digOf []) ts).set i x).getD (lenJ (ts.take k) + 3) 0] = z by
    rw [← hzb, drop_four]
    rw [List.length_set, encJ_len]
    have := HLn.out
    omega)
  have HPr := Lib.hid hpre
  have HCh := Lib.hid hch
  have HBe := Lib.hid hbe
  clear hzb hpre hch hbe
  generalize hmm : us.length = m at *
  have HMm := Lib.hid hmm
  clear hmm
  rw [HLn.out] at HEb
  generalize hEE : lenJ (ts.take k) = bg at *
  have hbi : bg ≤ i := hk3
  generalize hDD : dgJ (digOf []) (ts.take k) = D at *
  have HLt := Lib.hid hlt
  have HDe := Lib.hid hDD
  have HBg := Lib.hid hEE
  clear hDD hEE hk1 hr hi hgd
  generalize hnn : ts.length = n at *
  have HNn := Lib.hid hnn
  clear hnn
  have d4 : decide ((bg : Int) + 4 ≤ (i : Int)) = false := by simp; omega
  have d5 : decide ((m : Int) ≤ (k : Int)) = false := by simp; omega
  have d5' : decide (m ≤ k) = false := by simp; omega
  rw [beN_four] at HZb
  by_cases hk0 : k = 0
  · have hz := HZ.out hk0
    subst hk0 hz
    clear HEn HZ
    go_enter Tryd.func4, Tryd.ntmps4
    go_wp2_with fail
    refine (HW.out).mono ?_
    rintro e w1 ⟨a1, c1, a2, c2, a3, c3, rfl, hB, hK, hN, hb⟩
    have HB1 := Lib.hid hB
    have HK1 := Lib.hid hK
    have HN1 := Lib.hid hN
    have HG1 := Lib.hid (HG.out.below hb)
    have hlc := hB.2.1
    have hkc := hK.2.1
    obtain ⟨b1, o1, rfl, hb1, hcc⟩ := HB1.out.2.at hiL
    have hc1 := hcc i hiL w1 (Below.refl _ _)
    have HKp := Lib.hid (hK.pre 0 hk2)
    clear hcc hB hK hN
    generalize hvv : (encJ (digOf []) ts).getD i 0 = v at *
    have dv : ((v.toNat : Int) == (x.toNat : Int)) = false := by simp; exact fun h => hne (UInt8.toNat_inj.1 (by omega))
    have dv' : (v.toNat == x.toNat) = false := by simp; exact fun h => hne (UInt8.toNat_inj.1 h)
    clear hvv
    go_wp2_with fail
    refine (complete_any _ _ _ _ _ _ HN1.out (fun y hy => by have := HEb.out y hy; omega)).mono ?_
    rw [HCn.out]
    rintro e w2 ⟨rfl, rfl⟩
    have hbx : Below w1.heap.size w1 (w1.alloc (.cells #[] 5)) := (Below.refl _ _).alloc (Nat.le_refl _) _
    have HOx := Lib.hid (owns_lit w1 w1.heap.size 5 [] (by simp) (Nat.le_refl _))
    have HBx := Lib.hid (HB1.out.below hbx)
    have hLL := HB1.out.1
    go_wp2_with (at_builtin; refine wpList_appS rfl _ _ 22 rfl w1.heap.size 5 (.int .u8 0) 1 Tryd.underlying22 infoByte rfl (.slice (some ⟨w1.heap.size, 0, none⟩) 0 0) [] rfl HOx.out (some ⟨b1, o1, none⟩) L c1 (bvs (encJ (digOf []) ts)) rfl (by rw [bvs_length]; exact hLL) HBx.out.vals (bvs_one _) L (by simp) (by omega) (by omega) (by simp only [maxLen]; omega) (by simp) fun g cg w2 g1 g2 g3 g4 => ?_; have zc := Owns.cell g1 i hiL; have zf := Owns.free g1 i; have HO2 := Lib.hid g1; have HBel := Lib.hid (hbx.trans (g2.below (B := w1.heap.size) (by simp) (by simp [Value.ownBlock]))); clear g1 g2)
    have hO3 : Owns (w2.setCell ⟨g, i, none⟩ (.int .u8 (x.toNat : Int))) w1.heap.size 5 (.slice (some ⟨g, 0, none⟩) L cg) (bvs ((encJ (digOf []) ts).set i x)) := by
      have h := Owns.store HO2.out i (.int .u8 (x.toNat : Int))
      rw [List.nil_append] at h
      have e : (bvs (encJ (digOf []) ts)).set i (.int .u8 (x.toNat : Int)) = bvs ((encJ (digOf []) ts).set i x) := by unfold bvs; rw [List.map_set]; rfl
      rw [e] at h; exact h
    have hbS := HBel.out.setCell (p := ⟨g, i, none⟩) g4 (.int .u8 (x.toNat : Int))
    obtain ⟨_, _, _, he, hB3⟩ := hO3.bytes
    cases he
    have HB3 := Lib.hid hB3
    have HK3 := Lib.hid (HKp.out.below hbS)
    have HG3 := Lib.hid (HG1.out.below hbS)
    have hBB := hb.trans (hbS.mono hb.size)
    clear hO3 hB3 hbS zc zf hc1
    generalize w2.setCell ⟨g, i, none⟩ (.int .u8 (x.toNat : Int)) = w3 at *
    refine (read_fix HR.out HMm.out _ _ _ _ HB3.out HG3.out).mono ?_
    rintro e w4 ⟨b4, k4, rfl, hM, hb4⟩
    have hBC := hBB.trans (hb4.mono hBB.size)
    have HB4 := Lib.hid (HB3.out.below hb4)
    have HG4 := Lib.hid (HG3.out.below hb4)
    clear hM
    obtain ⟨g9, o9, he9, hg9, hcc⟩ := HB4.out.2.at (show 0 < L by omega)
    cases he9
    have x0 := hcc (0 + 0) (by omega) w4 (Below.refl _ _)
    have x1 := hcc (0 + 1) (by omega) w4 (Below.refl _ _)
    have x2 := hcc (0 + 2) (by omega) w4 (Below.refl _ _)
    have x3 := hcc (0 + 3) (by omega) w4 (Below.refl _ _)
    clear hcc
    generalize ((encJ (digOf []) ts).set i x).getD (0 + 0) 0 = q0 at *
    generalize ((encJ (digOf []) ts).set i x).getD (0 + 1) 0 = q1 at *
    generalize ((encJ (digOf []) ts).set i x).getD (0 + 2) 0 = q2 at *
    generalize ((encJ (digOf []) ts).set i x).getD (0 + 3) 0 = q3 at *
    simp only [Nat.zero_add, Nat.add_zero] at x0 x1 x2 x3
    have w0l := q0.toNat_lt
    have w1l := q1.toNat_lt
    have w2l := q2.toNat_lt
    have w3l := q3.toNat_lt
    go_wp2_with fail
    have hzI : (q0.toNat : Int) * 16777216 + (q1.toNat : Int) * 65536 + (q2.toNat : Int) * 256 + (q3.toNat : Int) = (z : Int) := by have := HZb.out; omega
    go_quiet (fail)
    clear x0 x1 x2 x3 hzI w0l w1l w2l w3l
    have HB5 := Lib.hid (HB4.out.below (below_drewN (Below.refl _ _) nq))
    have HG5 := Lib.hid (HG4.out.below (below_drewN (Below.refl _ _) nq))
    have hBD := below_drewN hBC nq
    have HP5 := Lib.hid (show Bytes (w4.drewN nq) (some ⟨g, 0, none⟩) 0 cg (encJ (digOf []) (ts.take 0)) by rw [← HPr.out]; exact HB5.out.pre 0 (by omega))
    generalize w4.drewN nq = w5 at *
    go_wp2_with fail
    refine (last_ok HRp.out _ _ _ _ HP5.out HG5.out).mono ?_
    rintro e w6 ⟨rfl, hb6⟩
    have hBE := hBD.trans (hb6.mono hBD.size)
    have HB6 := Lib.hid (HB5.out.below hb6)
    have HG6 := Lib.hid (HG5.out.below hb6)
    have HX6 := Lib.hid (show Bytes w6 (some ⟨g, 0, none⟩) (z + 4) (cg) ((((encJ (digOf []) ts).set i x).drop 0).take (z + 4)) by simpa using (HB6.out.suf 0 (by omega)).pre (z + 4) (by omega))
    have HY6 := Lib.hid (show Bytes w6 (some ⟨g, 4 + z, none⟩) 8 (cg - (4 + z)) (be8 s) by
      rw [← HBe.out]
      have h := (HB6.out.suf (0 + (z + 4)) (by omega)).pre 8 (by omega)
      rw [show 0 + (0 + (z + 4)) = 4 + z by omega, show cg - (0 + (z + 4)) = cg - (4 + z) by omega] at h
      exact h)
    go_wp2_with fail
    rw [show 4 + z = z + 4 by omega]
    refine (chain_any D _ _ _ _ _ HX6.out).mono ?_
    rw [HCh.out]
    rintro e w7 ⟨rfl, rfl⟩
    have q1 : ∀ W : Ext w6.heap.size w6, Calls Tryd.prog 21 #[.int .u64 0, .int .u64 s.toNat] W.val fun e w'' => e = .returned (.int .u64 (digNum 0 s).toNat) ∧ ∃ W' : Ext w6.heap.size w6, w'' = W'.val := fun W => Calls.ext W ((num_any 0 s W.val).mono fun e w1 ⟨h1, h2⟩ => ⟨h1, h2 ▸ Below.refl _ _⟩)
    have q2 : ∀ W : Ext w6.heap.size w6, Calls Tryd.prog 22 #[.int .u64 0, .slice (some ⟨g, 4 + z, none⟩) 8 (cg - (4 + z))] W.val fun e w'' => e = .returned (.int .u64 (digNum 0 s).toNat) ∧ ∃ W' : Ext w6.heap.size w6, w'' = W'.val := fun W => Calls.ext W ((add_any 0 (be8 s) _ _ _ W.val (HY6.out.below W.prop)).mono fun e w1 ⟨h1, h2⟩ => ⟨h1, h2 ▸ Below.refl _ _⟩)
    have q3 : ∀ W : Ext w6.heap.size w6, Calls Tryd.prog 14 #[] W.val fun e w'' => e = .returned (.bool true) ∧ ∃ W' : Ext w6.heap.size w6, w'' = W'.val := fun W => Calls.ext W (awake49_any W.val (HG6.out.below W.prop))
    generalize digNum 0 s = dn at *
    have hlcg : L ≤ cg := HB6.out.2.1
    have hs1 : 4 + z + 8 ≤ cg := by omega
    go_wp2_with fail
    refine wp_region_ext w6.heap.size w6 (by kernel_rfl) (by kernel_rfl) (Below.refl _ _) ?_
    repeat (first | go_big_quiet_step (first
      | with_reducible exact q1 _
      | with_reducible exact q2 _
      | with_reducible exact q3 _))
    refine wpQuiet_nil ?_
    intro W
    have hBF : Below w.heap.size w W.val := hBE.trans (W.prop.mono hBE.size)
    generalize W.val = w7 at *
    go_wp2_with fail
    go_ret
    exact ⟨rfl, hBF⟩
  · have dk : decide (0 < (k : Int)) = true := by simp; omega
    have dk' : decide (0 < k) = true := by simp; omega
    go_enter Tryd.func4, Tryd.ntmps4
    go_wp2_with fail
    refine (HW.out).mono ?_
    rintro e w1 ⟨a1, c1, a2, c2, a3, c3, rfl, hB, hK, hN, hb⟩
    have HB1 := Lib.hid hB
    have HK1 := Lib.hid hK
    have HN1 := Lib.hid hN
    have HG1 := Lib.hid (HG.out.below hb)
    have hlc := hB.2.1
    have hkc := hK.2.1
    obtain ⟨b1, o1, rfl, hb1, hcc⟩ := HB1.out.2.at hiL
    have hc1 := hcc i hiL w1 (Below.refl _ _)
    have HKp := Lib.hid (hK.pre k hk2)
    clear hcc hB hK hN
    generalize hvv : (encJ (digOf []) ts).getD i 0 = v at *
    have dv : ((v.toNat : Int) == (x.toNat : Int)) = false := by simp; exact fun h => hne (UInt8.toNat_inj.1 (by omega))
    have dv' : (v.toNat == x.toNat) = false := by simp; exact fun h => hne (UInt8.toNat_inj.1 h)
    clear hvv
    go_wp2_with fail
    refine (complete_any _ _ _ _ _ _ HN1.out (fun y hy => by have := HEb.out y hy; omega)).mono ?_
    rw [HCn.out]
    rintro e w2 ⟨rfl, rfl⟩
    obtain ⟨b3, o3, rfl, hb3l, hc3⟩ := HN1.out.cell (k := k - 1) (by omega)
    rw [HEn.out (by omega)] at hc3
    have hki : ((k : Int) - 1) = ((k - 1 : Nat) : Int) := by omega
    have hbx : Below w1.heap.size w1 (w1.alloc (.cells #[] 5)) := (Below.refl _ _).alloc (Nat.le_refl _) _
    have HOx := Lib.hid (owns_lit w1 w1.heap.size 5 [] (by simp) (Nat.le_refl _))
    have HBx := Lib.hid (HB1.out.below hbx)
    have hLL := HB1.out.1
    go_wp2_with (at_builtin; refine wpList_appS rfl _ _ 22 rfl w1.heap.size 5 (.int .u8 0) 1 Tryd.underlying22 infoByte rfl (.slice (some ⟨w1.heap.size, 0, none⟩) 0 0) [] rfl HOx.out (some ⟨b1, o1, none⟩) L c1 (bvs (encJ (digOf []) ts)) rfl (by rw [bvs_length]; exact hLL) HBx.out.vals (bvs_one _) L (by simp) (by omega) (by omega) (by simp only [maxLen]; omega) (by simp) fun g cg w2 g1 g2 g3 g4 => ?_; have zc := Owns.cell g1 i hiL; have zf := Owns.free g1 i; have HO2 := Lib.hid g1; have HBel := Lib.hid (hbx.trans (g2.below (B := w1.heap.size) (by simp) (by simp [Value.ownBlock]))); clear g1 g2)
    have hO3 : Owns (w2.setCell ⟨g, i, none⟩ (.int .u8 (x.toNat : Int))) w1.heap.size 5 (.slice (some ⟨g, 0, none⟩) L cg) (bvs ((encJ (digOf []) ts).set i x)) := by
      have h := Owns.store HO2.out i (.int .u8 (x.toNat : Int))
      rw [List.nil_append] at h
      have e : (bvs (encJ (digOf []) ts)).set i (.int .u8 (x.toNat : Int)) = bvs ((encJ (digOf []) ts).set i x) := by unfold bvs; rw [List.map_set]; rfl
      rw [e] at h; exact h
    have hbS := HBel.out.setCell (p := ⟨g, i, none⟩) g4 (.int .u8 (x.toNat : Int))
    obtain ⟨_, _, _, he, hB3⟩ := hO3.bytes
    cases he
    have HB3 := Lib.hid hB3
    have HK3 := Lib.hid (HKp.out.below hbS)
    have HG3 := Lib.hid (HG1.out.below hbS)
    have hBB := hb.trans (hbS.mono hb.size)
    clear hO3 hB3 hbS zc zf hc1
    generalize w2.setCell ⟨g, i, none⟩ (.int .u8 (x.toNat : Int)) = w3 at *
    refine (read_fix HR.out HMm.out _ _ _ _ HB3.out HG3.out).mono ?_
    rintro e w4 ⟨b4, k4, rfl, hM, hb4⟩
    have hBC := hBB.trans (hb4.mono hBB.size)
    have HB4 := Lib.hid (HB3.out.below hb4)
    have HG4 := Lib.hid (HG3.out.below hb4)
    clear hM
    obtain ⟨g9, o9, he9, hg9, hcc⟩ := HB4.out.2.at (show 0 < L by omega)
    cases he9
    have x0 := hcc (bg + 0) (by omega) w4 (Below.refl _ _)
    have x1 := hcc (bg + 1) (by omega) w4 (Below.refl _ _)
    have x2 := hcc (bg + 2) (by omega) w4 (Below.refl _ _)
    have x3 := hcc (bg + 3) (by omega) w4 (Below.refl _ _)
    clear hcc
    generalize ((encJ (digOf []) ts).set i x).getD (bg + 0) 0 = q0 at *
    generalize ((encJ (digOf []) ts).set i x).getD (bg + 1) 0 = q1 at *
    generalize ((encJ (digOf []) ts).set i x).getD (bg + 2) 0 = q2 at *
    generalize ((encJ (digOf []) ts).set i x).getD (bg + 3) 0 = q3 at *
    simp only [Nat.zero_add, Nat.add_zero] at x0 x1 x2 x3
    have w0l := q0.toNat_lt
    have w1l := q1.toNat_lt
    have w2l := q2.toNat_lt
    have w3l := q3.toNat_lt
    go_wp2_with fail
    have hzI : (q0.toNat : Int) * 16777216 + (q1.toNat : Int) * 65536 + (q2.toNat : Int) * 256 + (q3.toNat : Int) = (z : Int) := by have := HZb.out; omega
    go_quiet (fail)
    clear x0 x1 x2 x3 hzI w0l w1l w2l w3l
    have HB5 := Lib.hid (HB4.out.below (below_drewN (Below.refl _ _) nq))
    have HG5 := Lib.hid (HG4.out.below (below_drewN (Below.refl _ _) nq))
    have hBD := below_drewN hBC nq
    have HP5 := Lib.hid (show Bytes (w4.drewN nq) (some ⟨g, 0, none⟩) bg cg (encJ (digOf []) (ts.take k)) by rw [← HPr.out]; exact HB5.out.pre bg (by omega))
    generalize w4.drewN nq = w5 at *
    go_wp2_with fail
    refine (last_ok HRp.out _ _ _ _ HP5.out HG5.out).mono ?_
    rintro e w6 ⟨rfl, hb6⟩
    have hBE := hBD.trans (hb6.mono hBD.size)
    have HB6 := Lib.hid (HB5.out.below hb6)
    have HG6 := Lib.hid (HG5.out.below hb6)
    have HX6 := Lib.hid (show Bytes w6 (some ⟨g, bg, none⟩) (z + 4) (cg - bg) ((((encJ (digOf []) ts).set i x).drop bg).take (z + 4)) by simpa using (HB6.out.suf bg (by omega)).pre (z + 4) (by omega))
    have HY6 := Lib.hid (show Bytes w6 (some ⟨g, bg + 4 + z, none⟩) 8 (cg - (bg + 4 + z)) (be8 s) by
      rw [← HBe.out]
      have h := (HB6.out.suf (bg + (z + 4)) (by omega)).pre 8 (by omega)
      rw [show 0 + (bg + (z + 4)) = bg + 4 + z by omega, show cg - (bg + (z + 4)) = cg - (bg + 4 + z) by omega] at h
      exact h)
    go_wp2_with fail
    rw [show bg + 4 + z - bg = z + 4 by omega]
    refine (chain_any D _ _ _ _ _ HX6.out).mono ?_
    rw [HCh.out]
    rintro e w7 ⟨rfl, rfl⟩
    have q1 : ∀ W : Ext w6.heap.size w6, Calls Tryd.prog 21 #[.int .u64 0, .int .u64 s.toNat] W.val fun e w'' => e = .returned (.int .u64 (digNum 0 s).toNat) ∧ ∃ W' : Ext w6.heap.size w6, w'' = W'.val := fun W => Calls.ext W ((num_any 0 s W.val).mono fun e w1 ⟨h1, h2⟩ => ⟨h1, h2 ▸ Below.refl _ _⟩)
    have q2 : ∀ W : Ext w6.heap.size w6, Calls Tryd.prog 22 #[.int .u64 0, .slice (some ⟨g, bg + 4 + z, none⟩) 8 (cg - (bg + 4 + z))] W.val fun e w'' => e = .returned (.int .u64 (digNum 0 s).toNat) ∧ ∃ W' : Ext w6.heap.size w6, w'' = W'.val := fun W => Calls.ext W ((add_any 0 (be8 s) _ _ _ W.val (HY6.out.below W.prop)).mono fun e w1 ⟨h1, h2⟩ => ⟨h1, h2 ▸ Below.refl _ _⟩)
    have q3 : ∀ W : Ext w6.heap.size w6, Calls Tryd.prog 14 #[] W.val fun e w'' => e = .returned (.bool true) ∧ ∃ W' : Ext w6.heap.size w6, w'' = W'.val := fun W => Calls.ext W (awake49_any W.val (HG6.out.below W.prop))
    generalize digNum 0 s = dn at *
    have hlcg : L ≤ cg := HB6.out.2.1
    have hs1 : bg + 4 + z + 8 ≤ cg := by omega
    go_wp2_with fail
    refine wp_region_ext w6.heap.size w6 (by kernel_rfl) (by kernel_rfl) (Below.refl _ _) ?_
    repeat (first | go_big_quiet_step (first
      | with_reducible exact q1 _
      | with_reducible exact q2 _
      | with_reducible exact q3 _))
    refine wpQuiet_nil ?_
    intro W
    have hBF : Below w.heap.size w W.val := hBE.trans (W.prop.mono hBE.size)
    generalize W.val = w7 at *
    go_wp2_with fail
    go_ret
    exact ⟨rfl, hBF⟩
theorem journalChange_calls (nodes : List NodeT) (a : Option Addr) (len cap at0 : Nat) (hat : at0 < 65536) (x : UInt8) (w : World) (hK : Kids w a len cap nodes) (hi : i64L nodes) (hg : ErrT w) :
    Calls Tryd.prog 4 #[.slice a len cap, .int .u16 (at0 : Int), .int .u8 (x.toNat : Int)] w fun e w' => e = .returned (.bool true) ∧ Below w.heap.size w w' := by
  obtain ⟨ts, hgd, h10, hw⟩ := written_fix nodes a len cap w hK hi hg
  by_cases h0 : lenJ ts = 0
  · exact change_zero ts a len cap at0 x w hg hw h0
  by_cases hv : (encJ (digOf []) ts).getD (at0 % lenJ ts) 0 = x
  · exact change_same ts hgd a len cap at0 hat x w hg hw h0 hv
  obtain ⟨k, hk1, hk2, hk3, hk4⟩ := cnt_form ts 0 (at0 % lenJ ts) (by omega)
  rw [Nat.zero_add] at hk3 hk4
  have hb := rd_bad hgd h10 (Nat.mod_lt _ (by omega)) hk3 hk4 hv
  by_cases hlt : lenJ (ts.take k) + 4 ≤ at0 % lenJ ts
  · exact change_late ts hgd h10 a len cap at0 hat x w hg hw h0 hv k hk1 hk2 hk3 hlt (hb.late hlt)
  · rcases hb.early (by omega) with ⟨e, he, hr⟩ | ⟨us, n, d, e, z, s, hr, hku, hu3, hz, hzb, hzl, hch, hbe⟩
    · exact change_early ts hgd h10 a len cap at0 hat x w hg hw h0 hv k hk1 hk2 hk3 (by omega) e he hr
    · exact change_size ts hgd h10 a len cap at0 hat x w hg hw h0 hv k hk1 hk2 hk3 (by omega) us n d e z s hr hku hu3 hz hzb hzl hb.pre hch hbe

theorem journalChange_walk {H : Type} {enc : TypeId × Value → H} (W : World) (base : Nat) (args : Array Value) (ds gs : List (DataW H)) (before : List MemPlace)
    (hval : ∀ (j : Nat) t v, Tryd.f4.params[j]? = some t → args[j]? = some v → Value.okWide Tryd.prog W .any base t v)
    (hW : DataW.Whole enc Tryd.prog Tryd.f4.params.toList Rows.journalChangeSpec.vars false W args.toList ds gs before)
    (_hsz : (DataW.weightsEach Tryd.prog (Tryd.f4.params.toList ++ Rows.journalChangeSpec.plain.varTypes Tryd.prog) (ds ++ gs)).all (· ≤ reachBytes) = true) (hg : ErrT W) :
    Calls Tryd.prog 4 args W fun e w' => e = .returned (.bool true) ∧ Below W.heap.size W w' := by
  obtain ⟨p, q, hA, hV, -, -, -⟩ := hW
  obtain ⟨rfl, -⟩ := trodVars_none hV
  rw [Tryd.params4] at hA hval
  obtain ⟨v0, v1, v2, d0, d1, d2, p0, p1, p2, rfl, rfl, rfl, h0, h1, h2⟩ := trodAll_three hA
  obtain ⟨a, len, cap, kids, rfl, hk, hi⟩ := open_nodes (hval 0 _ _ rfl rfl) h0
  obtain ⟨n, rfl, rfl, hwn⟩ := open_num Tryd.underlying32 (hval 1 _ _ rfl rfl) h1
  obtain ⟨x, rfl, hx⟩ := nat_of_u16 n hwn
  obtain ⟨m, rfl, rfl, hwm⟩ := open_num Tryd.underlying5 (hval 2 _ _ rfl rfl) h2
  obtain ⟨y, rfl⟩ := u8_of m hwm
  exact journalChange_calls kids a len cap x hx y W hk hi hg

set_option maxRecDepth 100000 in
theorem journalChange_lifted (os : Os) (started : os.Started) (H : Type) (enc : TypeId × Value → H) :
    ReturnsInHanded {} Tryd.checked os 4 .any (fun w args => (Rows.journalChangeSpec.pre enc Tryd.prog Tryd.f4 [] false w args ∧ laidMetH Tryd.prog Rows.journalChangeRow.laid w) ∧ sizedMet enc Tryd.prog Tryd.f4 (OpenSpec.ofChange Rows.journalChangeSpec) false w args)
      (Rows.journalChangeSpec.post enc Tryd.prog Tryd.f4 false true false false) := by
  refine returnsInHanded_of_change_and (C := Tryd.checked) (X := fun w _ => laidMetH Tryd.prog Rows.journalChangeRow.laid w) (fun _ _ _ hh h => h.of_heap hh) own started (by kernel_rfl) Tryd.func4
    (ChangeSpec.witness_at (enc := enc) (C := Tryd.checked) (os := os) (X := fun w _ => laidMetH Tryd.prog Rows.journalChangeRow.laid w) false (laidWorld os) #[.slice none 0 0, .int .u16 0, .int .u8 0] 8 rfl (by kernel_rfl) (by kernel_rfl) (by kernel_rfl) (by kernel_rfl) (by kernel_rfl) (laidWorld_met os _)) ?_
  intro W base args ds gs before hval hW _ hsz hL _
  exact law_post rfl (by kernel_rfl) (by kernel_rfl) (fun ds h => match ds, h with | [d0, d1, d2], _ => ⟨rfl, rfl, rfl⟩) hW (journalChange_walk W base args ds gs before hval hW hsz (errT_of_laid hL))

theorem journalChange_over : Rows.journalChangeRow.holds Tryd.pinned (OpenSpec.ofChange Rows.journalChangeSpec) :=
  OpenClaim.holds_of_wide 4 Tryd.f4 rfl rfl rfl rfl rfl rfl rfl ⟨rfl, rfl, rfl, rfl, rfl⟩ rfl rfl rfl rfl rfl (by kernel_rfl) Tryd.func4 (by kernel_rfl)
    (of_decide_eq_true (by kernel_rfl)) (by unfold Func.isWrapper; first | (rw [if_pos (by decide +kernel)]; kernel_rfl) | (rw [if_neg (by decide +kernel)]; exact ⟨rfl, rfl⟩))
    (fun os started H enc _ => journalChange_lifted os started H enc)

theorem journalChange_proved : Rows.JournalChangeCardSaid :=
  Claim7.holds_tied_plain_at .later [] [.handle] true Rows.journalChangeCard.stood.harness true
    journalChange_over (fun _ h => by cases h) (by kernel_rfl) (fun _ h => by cases h) journalChange_row_tie rfl ⟨rfl, rfl⟩ (by kernel_rfl) (by kernel_rfl)
    (fun f fn hf hfn => by
      obtain rfl : f = 4 := Option.some.inj ((show Tryd.prog.funcNamed "examboard/examboardlaw49.JournalChange" = some 4 by kernel_rfl).symm.trans hf) |>.symm
      obtain rfl : fn = Tryd.f4 := (Option.some.inj (Tryd.func4.symm.trans hfn)).symm
      exact ⟨by kernel_rfl, fun j t ht => noStand (by kernel_rfl) j t ht⟩)
    (by kernel_rfl)

end Go.Proofs.YthbfmioikbphgaaDoor
