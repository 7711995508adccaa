/- The reference of the journal: entry. -/
import Derived.Test.YthbfmioikbphgaaDoorRJb
namespace Go.Proofs.YthbfmioikbphgaaDoor
set_option maxRecDepth 100000
open Go.RowKit

/-- what the reference's entry returns -/
def EPr (w : World) : Except Int (NodeT × Nat × UInt64) → Ending → World → Prop
  | .error x, e, w' => e = .returned (.tuple #[.agg #[.int .i64 0, .int .i64 0, .int .i64 0, .string ⟨#[]⟩, .slice none 0 0], .int .i64 0, .int .u64 0, .int .i64 x]) ∧ Below w.heap.size w w'
  | .ok (t, k, s), e, w' => ∃ nv, e = .returned (.tuple #[nv, .int .i64 (k : Nat), .int .u64 s.toNat, .int .i64 0]) ∧ NodeS (fun b => w.heap.size ≤ b) w' t nv ∧ Below w.heap.size w w'
set_option maxHeartbeats 8000000 in
theorem rentry_any (rest : List UInt8) (d : UInt64) (c : Nat) (a : Option Addr) (len cap : Nat) (w : World) (hx : Bytes w a len cap rest) (hc : c ≤ 300) :
    Calls Tryd.prog 48 #[.slice a len cap, .int .i64 c, .int .u64 d.toNat] w (EPr w (entJ rest d c)) := by
  have HX := Lib.hid hx
  have hl := hx.1
  have hlc := hx.2.1
  have hlm : len ≤ 9223372036854775807 := by have h1 := hx.2.1; have h2 := hx.2.2.1; unfold maxLen at h2; omega
  have hb0 : Below w.heap.size w (w.alloc (.cells #[.int .i64 0, .int .i64 0, .int .i64 0, .string ⟨#[]⟩, .slice none 0 0] 25)) := (Below.refl _ _).alloc (Nat.le_refl _) _
  have HRz := Lib.hid (heap_alloc_new w (.cells #[.int .i64 0, .int .i64 0, .int .i64 0, .string ⟨#[]⟩, .slice none 0 0] 25))
  clear hx
  by_cases h1 : 300 ≤ c
  · have hE : entJ rest d c = .error 5 := by unfold entJ; rw [if_pos h1]
    rw [hE]
    have d1 : decide (300 ≤ (c : Int)) = true := by simp; omega
    have d1' : decide (300 ≤ c) = true := by simp; omega
    clear hE
    go_enter Tryd.func48, Tryd.ntmps48
    go_wp2_with fail
    exact bodyPost_ret (v := .tuple #[.agg #[.int .i64 0, .int .i64 0, .int .i64 0, .string ⟨#[]⟩, .slice none 0 0], .int .i64 0, .int .u64 0, .int .i64 5]) (by simp [results, Tryd.results48, go_sem]) rfl ⟨rfl, hb0⟩
  have d1 : decide (300 ≤ (c : Int)) = false := by simp; omega
  have d1' : decide (300 ≤ c) = false := by simp; omega
  by_cases h2 : len < 4
  · have hE : entJ rest d c = .error 4 := by unfold entJ; rw [if_neg h1, if_pos (by omega)]
    rw [hE]
    have d2 : decide ((len : Int) < 4) = true := by simp; omega
    have d2' : decide (len < 4) = true := by simp; omega
    clear hE
    go_enter Tryd.func48, Tryd.ntmps48
    go_wp2_with fail
    exact bodyPost_ret (v := .tuple #[.agg #[.int .i64 0, .int .i64 0, .int .i64 0, .string ⟨#[]⟩, .slice none 0 0], .int .i64 0, .int .u64 0, .int .i64 4]) (by simp [results, Tryd.results48, go_sem]) rfl ⟨rfl, hb0⟩
  have d2 : decide ((len : Int) < 4) = false := by simp; omega
  have d2' : decide (len < 4) = false := by simp; omega
  obtain ⟨ba, oa, rfl, -, -⟩ := HX.out.2.at (show 0 < len by omega)
  have HX1 := Lib.hid (HX.out.below hb0)
  have hz := beN_lt 4 (rest.take 4) (by rw [List.length_take]; omega)
  have HE := Lib.hid (show entJ rest d c = if 2000 < beN (rest.take 4) then .error 5 else if rest.length < beN (rest.take 4) + 12 then .error 4 else if beN ((rest.drop (beN (rest.take 4) + 4)).take 8) ≠ (digChain d (rest.take (beN (rest.take 4) + 4))).toNat then .error 12
    else decJ (beN (rest.take 4) + 12) (digChain d (rest.take (beN (rest.take 4) + 4))) (decR ((rest.drop 4).take (beN (rest.take 4)))) by unfold entJ bodyJ; rw [if_neg h1, if_neg (show ¬ rest.length < 4 by omega)])
  generalize entJ rest d c = R at *
  generalize hzz : beN (rest.take 4) = z at *
  have HZz := Lib.hid hzz
  clear hzz
  by_cases h3 : 2000 < z
  · have hE : R = .error 5 := by rw [HE.out, if_pos h3]
    subst hE
    have d3 : decide (2000 < (z : Int)) = true := by simp; omega
    have d3' : decide (2000 < z) = true := by simp; omega
    go_enter Tryd.func48, Tryd.ntmps48
    go_wp2_with fail
    refine (rnum49_any _ 4 _ _ _ _ HX1.out (by omega) (by omega)).mono ?_
    rw [HZz.out]
    rintro e w1 ⟨rfl, rfl⟩
    go_wp2_with fail
    exact bodyPost_ret (v := .tuple #[.agg #[.int .i64 0, .int .i64 0, .int .i64 0, .string ⟨#[]⟩, .slice none 0 0], .int .i64 0, .int .u64 0, .int .i64 5]) (by simp [results, Tryd.results48, go_sem]) rfl ⟨rfl, hb0⟩
  have d3 : decide (2000 < (z : Int)) = false := by simp; omega
  have d3' : decide (2000 < z) = false := by simp; omega
  by_cases h4 : len < z + 12
  · have hE : R = .error 4 := by rw [HE.out, if_neg h3, if_pos (by omega)]
    subst hE
    have d4 : decide ((len : Int) < 4 + (z : Int) + 8) = true := by simp; omega
    go_enter Tryd.func48, Tryd.ntmps48
    go_wp2_with fail
    refine (rnum49_any _ 4 _ _ _ _ HX1.out (by omega) (by omega)).mono ?_
    rw [HZz.out]
    rintro e w1 ⟨rfl, rfl⟩
    go_wp2_with fail
    exact bodyPost_ret (v := .tuple #[.agg #[.int .i64 0, .int .i64 0, .int .i64 0, .string ⟨#[]⟩, .slice none 0 0], .int .i64 0, .int .u64 0, .int .i64 4]) (by simp [results, Tryd.results48, go_sem]) rfl ⟨rfl, hb0⟩
  have d4 : decide ((len : Int) < 4 + (z : Int) + 8) = false := by simp; omega
  have HSb := Lib.hid (HX1.out.pre (4 + z) (by omega))
  have HSd := Lib.hid (HX1.out.suf (4 + z) (by omega))
  rw [if_neg h3, if_neg (show ¬ rest.length < z + 12 by omega), show z + 4 = 4 + z by omega] at HE
  have hsd := beN_lt 8 ((rest.drop (4 + z)).take 8) (by rw [List.length_take, List.length_drop]; omega)
  generalize hsm : digChain d (rest.take (4 + z)) = sm at *
  have HSm := Lib.hid hsm
  clear hsm
  generalize hgt : beN ((rest.drop (4 + z)).take 8) = gt at *
  have HGt := Lib.hid hgt
  clear hgt
  by_cases h5 : gt ≠ sm.toNat
  · have hE : R = .error 12 := by rw [HE.out, if_pos h5]
    subst hE
    have d5 : ((gt : Int) != (sm.toNat : Int)) = true := by simp; omega
    have d5' : (gt != sm.toNat) = true := by simp; omega
    go_enter Tryd.func48, Tryd.ntmps48
    go_wp2_with fail
    refine (rnum49_any _ 4 _ _ _ _ HX1.out (by omega) (by omega)).mono ?_
    rw [HZz.out]
    rintro e w1 ⟨rfl, rfl⟩
    go_wp2_with fail
    refine (ref_chain_any d _ _ _ _ _ HSb.out).mono ?_
    rw [HSm.out]
    rintro e w1 ⟨rfl, rfl⟩
    go_wp2_with fail
    refine (rnum49_any _ 8 _ _ _ _ HSd.out (by omega) (by omega)).mono ?_
    rw [HGt.out]
    rintro e w1 ⟨rfl, rfl⟩
    go_wp2_with fail
    exact bodyPost_ret (v := .tuple #[.agg #[.int .i64 0, .int .i64 0, .int .i64 0, .string ⟨#[]⟩, .slice none 0 0], .int .i64 0, .int .u64 0, .int .i64 12]) (by simp [results, Tryd.results48, go_sem]) rfl ⟨rfl, hb0⟩
  rw [if_neg h5] at HE
  have d5 : ((gt : Int) != (sm.toNat : Int)) = false := by simp; omega
  have d5' : (gt != sm.toNat) = false := by simp; omega
  have HSp := Lib.hid ((HX1.out.suf 4 (by omega)).pre z (by omega))
  have hpl : ((rest.drop 4).take z).length = z := by rw [List.length_take, List.length_drop]; omega
  generalize hps : (rest.drop 4).take z = ps at *
  clear hps
  have hbD := fun (w2 : World) (h : Below (w.alloc (.cells #[.int .i64 0, .int .i64 0, .int .i64 0, .string ⟨#[]⟩, .slice none 0 0] 25)).heap.size (w.alloc (.cells #[.int .i64 0, .int .i64 0, .int .i64 0, .string ⟨#[]⟩, .slice none 0 0] 25)) w2) => hb0.trans (h.mono hb0.size)
  cases hq : decR ps with
  | error x =>
    have hE : R = .error 2 := by rw [HE.out, hq]; rfl
    subst hE
    have hx0 := decR_ne hq
    have d6 : (x != 0) = true := by simpa using hx0
    have d6' : (x == 0) = false := by simpa using hx0
    have HQ := Lib.hid hq
    clear hq hx0
    go_enter Tryd.func48, Tryd.ntmps48
    go_wp2_with fail
    refine (rnum49_any _ 4 _ _ _ _ HX1.out (by omega) (by omega)).mono ?_
    rw [HZz.out]
    rintro e w1 ⟨rfl, rfl⟩
    go_wp2_with fail
    refine (ref_chain_any d _ _ _ _ _ HSb.out).mono ?_
    rw [HSm.out]
    rintro e w1 ⟨rfl, rfl⟩
    go_wp2_with fail
    refine (rnum49_any _ 8 _ _ _ _ HSd.out (by omega) (by omega)).mono ?_
    rw [HGt.out]
    rintro e w1 ⟨rfl, rfl⟩
    go_wp2_with fail
    refine (rdecode_any ps _ _ _ _ HSp.out (by omega)).mono ?_
    rw [HQ.out]
    rintro e w2 ⟨rfl, hb2⟩
    have hbE := hbD w2 hb2
    have hsE := hbE.size
    have hR3 := (hb2.block _ (blk_lt HRz.out)).trans HRz.out
    have hlz := blk_lt hR3
    have z0 := blk_cell hR3 0
    have z1 := blk_cell hR3 1
    have z2 := blk_cell hR3 2
    have z3 := blk_cell hR3 3
    have z4 := blk_cell hR3 4
    simp at z0 z1 z2 z3 z4
    have g0 := blk_free hR3 0
    have g1 := blk_free hR3 1
    have g2 := blk_free hR3 2
    have g3 := blk_free hR3 3
    have g4 := blk_free hR3 4
    clear hR3
    go_wp2_with fail
    exact bodyPost_ret (v := .tuple #[.agg #[.int .i64 0, .int .i64 0, .int .i64 0, .string ⟨#[]⟩, .slice none 0 0], .int .i64 0, .int .u64 0, .int .i64 2]) (by simp [results, Tryd.results48, go_sem, World.cell?_alloc_lt, hlz, z0, z1, z2, z3, z4]) rfl ⟨rfl, by first | exact below_set5 (hbE.alloc hsE _) (Nat.le_refl _) _ _ _ _ _ | exact (below_set5 hbE (Nat.le_refl _) _ _ _ _ _).alloc (by simp; exact hsE) _⟩
  | ok r =>
    obtain ⟨t, l⟩ := r
    obtain ⟨hps2, hi6⟩ := decR_len hq (by omega)
    have hle : z = (encT t).length + l.length := by rw [← hpl, hps2, List.length_append]
    have HLe := Lib.hid (show z - l.length = (encT t).length by omega)
    have HQ := Lib.hid hq
    cases l with
    | cons c0 l =>
      have hE : R = .error 2 := by rw [HE.out, hq]; rfl
      subst hE
      rw [List.length_cons] at hle
      generalize (encT t).length = et at *
      have d6 : ((et : Int) != (z : Int)) = true := by simp; omega
      have d6' : (et != z) = true := by simp; omega
      clear hq hps2 hle
      go_enter Tryd.func48, Tryd.ntmps48
      go_wp2_with fail
      refine (rnum49_any _ 4 _ _ _ _ HX1.out (by omega) (by omega)).mono ?_
      rw [HZz.out]
      rintro e w1 ⟨rfl, rfl⟩
      go_wp2_with fail
      refine (ref_chain_any d _ _ _ _ _ HSb.out).mono ?_
      rw [HSm.out]
      rintro e w1 ⟨rfl, rfl⟩
      go_wp2_with fail
      refine (rnum49_any _ 8 _ _ _ _ HSd.out (by omega) (by omega)).mono ?_
      rw [HGt.out]
      rintro e w1 ⟨rfl, rfl⟩
      go_wp2_with fail
      refine (rdecode_any ps _ _ _ _ HSp.out (by omega)).mono ?_
      rw [HQ.out]
      rintro e w2 ⟨nv, rfl, hN, hb2⟩
      rw [HLe.out]
      obtain ⟨n0, n1, n2, n3, n4, n5, n6, rfl⟩ := hN.vals
      have hbE := hbD w2 hb2
      have hsE := hbE.size
      have hR3 := (hb2.block _ (blk_lt HRz.out)).trans HRz.out
      have hlz := blk_lt hR3
      have z0 := blk_cell hR3 0
      have z1 := blk_cell hR3 1
      have z2 := blk_cell hR3 2
      have z3 := blk_cell hR3 3
      have z4 := blk_cell hR3 4
      simp at z0 z1 z2 z3 z4
      have g0 := blk_free hR3 0
      have g1 := blk_free hR3 1
      have g2 := blk_free hR3 2
      have g3 := blk_free hR3 3
      have g4 := blk_free hR3 4
      clear hR3
      go_wp2_with fail
      exact bodyPost_ret (v := .tuple #[.agg #[.int .i64 0, .int .i64 0, .int .i64 0, .string ⟨#[]⟩, .slice none 0 0], .int .i64 0, .int .u64 0, .int .i64 2]) (by simp [results, Tryd.results48, go_sem, World.cell?_alloc_lt, hlz, z0, z1, z2, z3, z4]) rfl ⟨rfl, by first | exact below_set5 (hbE.alloc hsE _) (Nat.le_refl _) _ _ _ _ _ | exact (below_set5 hbE (Nat.le_refl _) _ _ _ _ _).alloc (by simp; exact hsE) _⟩
    | nil =>
      have hE : R = .ok (t, z + 12, sm) := by rw [HE.out, hq, show z + 12 = z + 12 from rfl]; rfl
      subst hE
      have hez : (encT t).length = z := by simpa using hle.symm
      rw [hez] at HLe
      clear hq hps2 hle hez
      go_enter Tryd.func48, Tryd.ntmps48
      go_wp2_with fail
      refine (rnum49_any _ 4 _ _ _ _ HX1.out (by omega) (by omega)).mono ?_
      rw [HZz.out]
      rintro e w1 ⟨rfl, rfl⟩
      go_wp2_with fail
      refine (ref_chain_any d _ _ _ _ _ HSb.out).mono ?_
      rw [HSm.out]
      rintro e w1 ⟨rfl, rfl⟩
      go_wp2_with fail
      refine (rnum49_any _ 8 _ _ _ _ HSd.out (by omega) (by omega)).mono ?_
      rw [HGt.out]
      rintro e w1 ⟨rfl, rfl⟩
      go_wp2_with fail
      refine (rdecode_any ps _ _ _ _ HSp.out (by omega)).mono ?_
      rw [HQ.out]
      rintro e w2 ⟨nv, rfl, hN, hb2⟩
      rw [HLe.out]
      obtain ⟨n0, n1, n2, n3, n4, n5, n6, rfl⟩ := hN.vals
      have hbE := hbD w2 hb2
      have hsE := hbE.size
      have HNn := Lib.hid hN
      have hR3 := (hb2.block _ (blk_lt HRz.out)).trans HRz.out
      have hlz := blk_lt hR3
      have z0 := blk_cell hR3 0
      have z1 := blk_cell hR3 1
      have z2 := blk_cell hR3 2
      have z3 := blk_cell hR3 3
      have z4 := blk_cell hR3 4
      simp at z0 z1 z2 z3 z4
      have g0 := blk_free hR3 0
      have g1 := blk_free hR3 1
      have g2 := blk_free hR3 2
      have g3 := blk_free hR3 3
      have g4 := blk_free hR3 4
      clear hR3
      have hbk : Below w2.heap.size w2 (w2.alloc (.cells #[.int .i64 n0, .int .i64 n1, .int .i64 n2, .string ⟨n3.toArray⟩, .slice n4 n5 n6] 25)) := (Below.refl _ _).alloc (Nat.le_refl _) _
      have HNF := Lib.hid (show NodeS (fun b => w.heap.size ≤ b) ((((((w2.alloc (.cells #[.int .i64 n0, .int .i64 n1, .int .i64 n2, .string ⟨n3.toArray⟩, .slice n4 n5 n6] 25)).setCell ⟨w.heap.size, 0, none⟩ (.int .i64 n0)).setCell ⟨w.heap.size, 1, none⟩ (.int .i64 n1)).setCell ⟨w.heap.size, 2, none⟩ (.int .i64 n2)).setCell ⟨w.heap.size, 3, none⟩ (.string ⟨n3.toArray⟩)).setCell ⟨w.heap.size, 4, none⟩ (.slice n4 n5 n6)) t (.agg #[.int .i64 n0, .int .i64 n1, .int .i64 n2, .string ⟨n3.toArray⟩, .slice n4 n5 n6]) from (nodeS_alloc hN (.cells #[.int .i64 n0, .int .i64 n1, .int .i64 n2, .string ⟨n3.toArray⟩, .slice n4 n5 n6] 25)).keep (by simp) fun b h1 _ => ⟨by simp at h1; omega, set5_other _ _ _ _ _ (by simp at h1; omega)⟩)
      have HNG := Lib.hid (show NodeS (fun b => w.heap.size ≤ b) ((((((w2.setCell ⟨w.heap.size, 0, none⟩ (.int .i64 n0)).setCell ⟨w.heap.size, 1, none⟩ (.int .i64 n1)).setCell ⟨w.heap.size, 2, none⟩ (.int .i64 n2)).setCell ⟨w.heap.size, 3, none⟩ (.string ⟨n3.toArray⟩)).setCell ⟨w.heap.size, 4, none⟩ (.slice n4 n5 n6)).alloc (.cells #[.int .i64 n0, .int .i64 n1, .int .i64 n2, .string ⟨n3.toArray⟩, .slice n4 n5 n6] 25)) t (.agg #[.int .i64 n0, .int .i64 n1, .int .i64 n2, .string ⟨n3.toArray⟩, .slice n4 n5 n6]) from nodeS_alloc (hN.keep (by simp) fun b h1 _ => ⟨by simp at h1; omega, set5_other _ _ _ _ _ (by simp at h1; omega)⟩) _)
      clear hN
      go_wp2_with fail
      exact bodyPost_ret (v := .tuple #[.agg #[.int .i64 n0, .int .i64 n1, .int .i64 n2, .string ⟨n3.toArray⟩, .slice n4 n5 n6], .int .i64 ((z + 12 : Nat) : Int), .int .u64 sm.toNat, .int .i64 0]) (by simp [results, Tryd.results48, go_sem, World.cell?_alloc_lt, hlz, z0, z1, z2, z3, z4] <;> omega) rfl (by first | exact ⟨_, rfl, HNF.out, below_set5 (hbE.alloc hsE _) (Nat.le_refl _) _ _ _ _ _⟩ | exact ⟨_, rfl, HNG.out, (below_set5 hbE (Nat.le_refl _) _ _ _ _ _).alloc (by simp; exact hsE) _⟩)
end Go.Proofs.YthbfmioikbphgaaDoor
