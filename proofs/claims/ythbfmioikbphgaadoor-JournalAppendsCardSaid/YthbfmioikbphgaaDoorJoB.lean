/- Journals: what entry returns. -/
import Derived.Test.YthbfmioikbphgaaDoorJoA
namespace Go.Proofs.YthbfmioikbphgaaDoor
set_option maxRecDepth 100000
open Go.RowKit

/-- what entry returns -/
def EP (w : World) : Except Int (NodeT × Nat × UInt64) → Ending → World → Prop
  | .error x, e, w' => e = .returned (.tuple #[.agg #[.int .i64 0, .int .i64 0, .int .i64 0, .string ⟨#[]⟩, .slice none 0 0], .int .i64 0, .int .u64 0, .iface 64 (.agg #[.int .i64 x])]) ∧ Below w.heap.size w w'
  | .ok (t, k, s), e, w' => ∃ nv, e = .returned (.tuple #[nv, .int .i64 (k : Nat), .int .u64 s.toNat, .nilIface]) ∧ NodeS (fun b => w.heap.size ≤ b) w' t nv ∧ Below w.heap.size w w'

theorem nodeS_alloc {S : Nat → Prop} {w : World} {t : NodeT} {v : Value} (h : NodeS S w t v) (o : Obj) : NodeS S (w.alloc o) t v := by
  have hb : Below w.heap.size w (w.alloc o) := (Below.refl _ _).alloc (Nat.le_refl _) _
  exact h.keep hb.size fun b h1 h2 => ⟨h1, hb.block b h2⟩
/-- a zero node in a new block -/
structure ZN (w : World) (g : Nat) : Prop where
  c0 : w.cell? ⟨g, 0, none⟩ = some (.int .i64 0)
  c1 : w.cell? ⟨g, 1, none⟩ = some (.int .i64 0)
  c2 : w.cell? ⟨g, 2, none⟩ = some (.int .i64 0)
  c3 : w.cell? ⟨g, 3, none⟩ = some (.string ⟨#[]⟩)
  c4 : w.cell? ⟨g, 4, none⟩ = some (.slice none 0 0)
  f0 : w.frozen? ⟨g, 0, none⟩ = false
  f1 : w.frozen? ⟨g, 1, none⟩ = false
  f2 : w.frozen? ⟨g, 2, none⟩ = false
  f3 : w.frozen? ⟨g, 3, none⟩ = false
  f4 : w.frozen? ⟨g, 4, none⟩ = false
  lt : g < w.heap.size
theorem ZN.of {w : World} : ZN (w.alloc (.cells #[.int .i64 0, .int .i64 0, .int .i64 0, .string ⟨#[]⟩, .slice none 0 0] 25)) w.heap.size := by
  constructor <;> go_simp
theorem ZN.below {w w' : World} {g : Nat} (h : ZN w g) (hb : Below w.heap.size w w') : ZN w' g :=
  ⟨bc hb h.lt h.c0, bc hb h.lt h.c1, bc hb h.lt h.c2, bc hb h.lt h.c3, bc hb h.lt h.c4, bf hb h.lt h.f0, bf hb h.lt h.f1, bf hb h.lt h.f2, bf hb h.lt h.f3, bf hb h.lt h.f4, bl hb h.lt⟩

set_option maxHeartbeats 4000000 in
theorem entry_any (rest : List UInt8) (d : UInt64) (c : Nat) (a : Option Addr) (len cap : Nat) (w : World) (hx : Bytes w a len cap rest) (hc : c ≤ 300) :
    Calls Tryd.prog 41 #[.slice a len cap, .int .u64 d.toNat, .int .i64 c] w (EP w (entJ rest d c)) := by
  have HX := Lib.hid hx
  have hl := hx.1
  have hlc := hx.2.1
  have hlm : len ≤ 9223372036854775807 := by have h1 := hx.2.1; have h2 := hx.2.2.1; unfold maxLen at h2; omega
  have hb0 : Below w.heap.size w (w.alloc (.cells #[.int .i64 0, .int .i64 0, .int .i64 0, .string ⟨#[]⟩, .slice none 0 0] 25)) := (Below.refl _ _).alloc (Nat.le_refl _) _
  have HZ := Lib.hid (ZN.of (w := w))
  clear hx
  by_cases h1 : 300 ≤ c
  · have hE : entJ rest d c = .error 5 := by unfold entJ; rw [if_pos h1]
    rw [hE]
    have d1 : decide (300 ≤ (c : Int)) = true := by simp; omega
    have d1' : decide (300 ≤ c) = true := by simp; omega
    clear hE
    go_enter Tryd.func41, Tryd.ntmps41
    go_wp2_with fail
    exact bodyPost_ret (v := .tuple #[.agg #[.int .i64 0, .int .i64 0, .int .i64 0, .string ⟨#[]⟩, .slice none 0 0], .int .i64 0, .int .u64 0, .iface 64 (.agg #[.int .i64 5])]) (by simp [results, Tryd.results41, go_sem]) rfl ⟨rfl, hb0⟩
  have d1 : decide (300 ≤ (c : Int)) = false := by simp; omega
  have d1' : decide (300 ≤ c) = false := by simp; omega
  by_cases h2 : len < 4
  · have hE : entJ rest d c = .error 4 := by unfold entJ; rw [if_neg h1, if_pos (by omega)]
    rw [hE]
    have d2 : decide ((len : Int) < 4) = true := by simp; omega
    have d2' : decide (len < 4) = true := by simp; omega
    clear hE
    go_enter Tryd.func41, Tryd.ntmps41
    go_wp2_with fail
    exact bodyPost_ret (v := .tuple #[.agg #[.int .i64 0, .int .i64 0, .int .i64 0, .string ⟨#[]⟩, .slice none 0 0], .int .i64 0, .int .u64 0, .iface 64 (.agg #[.int .i64 4])]) (by simp [results, Tryd.results41, go_sem]) rfl ⟨rfl, hb0⟩
  have d2 : decide ((len : Int) < 4) = false := by simp; omega
  have d2' : decide (len < 4) = false := by simp; omega
  obtain ⟨ba, oa, rfl, -, -⟩ := HX.out.2.at (show 0 < len by omega)
  have HS4 := Lib.hid ((HX.out.below hb0).pre 4 (by omega))
  have hz := beN_lt 4 (rest.take 4) (by rw [List.length_take]; omega)
  have HE := Lib.hid (show entJ rest d c = if 2000 < beN (rest.take 4) then .error 5 else if rest.length < beN (rest.take 4) + 12 then .error 4 else if beN ((rest.drop (beN (rest.take 4) + 4)).take 8) ≠ (digChain d (rest.take (beN (rest.take 4) + 4))).toNat then .error 12
    else decJ (beN (rest.take 4) + 12) (digChain d (rest.take (beN (rest.take 4) + 4))) (decR ((rest.drop 4).take (beN (rest.take 4)))) by unfold entJ bodyJ; rw [if_neg h1, if_neg (show ¬ rest.length < 4 by omega)])
  generalize entJ rest d c = R at *
  generalize hzz : beN (rest.take 4) = z at *
  have HZz := Lib.hid hzz
  clear hzz
  by_cases h3 : 2000 < z
  · have hE : R = .error 5 := by rw [HE.out, if_pos h3]
    subst hE
    have d3 : decide (2000 < (z : Int)) = true := by simp; omega
    have d3' : decide (2000 < z) = true := by simp; omega
    go_enter Tryd.func41, Tryd.ntmps41
    go_wp2_with fail
    refine (get_any _ _ _ _ _ HS4.out (by omega)).mono ?_
    rw [HZz.out]
    rintro e w1 ⟨rfl, rfl⟩
    go_wp2_with fail
    exact bodyPost_ret (v := .tuple #[.agg #[.int .i64 0, .int .i64 0, .int .i64 0, .string ⟨#[]⟩, .slice none 0 0], .int .i64 0, .int .u64 0, .iface 64 (.agg #[.int .i64 5])]) (by simp [results, Tryd.results41, go_sem]) rfl ⟨rfl, hb0⟩
  have d3 : decide (2000 < (z : Int)) = false := by simp; omega
  have d3' : decide (2000 < z) = false := by simp; omega
  by_cases h4 : len < z + 12
  · have hE : R = .error 4 := by rw [HE.out, if_neg h3, if_pos (by omega)]
    subst hE
    have d4 : decide ((len : Int) < 4 + (z : Int) + 8) = true := by simp; omega
    go_enter Tryd.func41, Tryd.ntmps41
    go_wp2_with fail
    refine (get_any _ _ _ _ _ HS4.out (by omega)).mono ?_
    rw [HZz.out]
    rintro e w1 ⟨rfl, rfl⟩
    go_wp2_with fail
    exact bodyPost_ret (v := .tuple #[.agg #[.int .i64 0, .int .i64 0, .int .i64 0, .string ⟨#[]⟩, .slice none 0 0], .int .i64 0, .int .u64 0, .iface 64 (.agg #[.int .i64 4])]) (by simp [results, Tryd.results41, go_sem]) rfl ⟨rfl, hb0⟩
  have d4 : decide ((len : Int) < 4 + (z : Int) + 8) = false := by simp; omega
  have HSb := Lib.hid ((HX.out.below hb0).pre (4 + z) (by omega))
  have HSd := Lib.hid (((HX.out.below hb0).suf (4 + z) (by omega)).pre 8 (by omega))
  rw [if_neg h3, if_neg (show ¬ rest.length < z + 12 by omega), show z + 4 = 4 + z by omega] at HE
  have hsd := beN_lt 8 ((rest.drop (4 + z)).take 8) (by rw [List.length_take, List.length_drop]; omega)
  generalize hsm : digChain d (rest.take (4 + z)) = sm at *
  have HSm := Lib.hid hsm
  clear hsm
  generalize hgt : beN ((rest.drop (4 + z)).take 8) = gt at *
  have HGt := Lib.hid hgt
  clear hgt
  by_cases h5 : gt ≠ sm.toNat
  · have hE : R = .error 12 := by rw [HE.out, if_pos h5]
    subst hE
    have d5 : ((gt : Int) != (sm.toNat : Int)) = true := by simp; omega
    have d5' : (gt != sm.toNat) = true := by simp; omega
    go_enter Tryd.func41, Tryd.ntmps41
    go_wp2_with fail
    refine (get_any _ _ _ _ _ HS4.out (by omega)).mono ?_
    rw [HZz.out]
    rintro e w1 ⟨rfl, rfl⟩
    go_wp2_with fail
    refine (chain_any d _ _ _ _ _ HSb.out).mono ?_
    rw [HSm.out]
    rintro e w1 ⟨rfl, rfl⟩
    go_wp2_with fail
    rw [show 4 + z + 8 - (4 + z) = 8 by omega]
    refine (get_any _ _ _ _ _ HSd.out (by omega)).mono ?_
    rw [HGt.out]
    rintro e w1 ⟨rfl, rfl⟩
    go_wp2_with fail
    exact bodyPost_ret (v := .tuple #[.agg #[.int .i64 0, .int .i64 0, .int .i64 0, .string ⟨#[]⟩, .slice none 0 0], .int .i64 0, .int .u64 0, .iface 64 (.agg #[.int .i64 12])]) (by simp [results, Tryd.results41, go_sem]) rfl ⟨rfl, hb0⟩
  rw [if_neg h5] at HE
  have d5 : ((gt : Int) != (sm.toNat : Int)) = false := by simp; omega
  have d5' : (gt != sm.toNat) = false := by simp; omega
  have HSp := Lib.hid (((HX.out.below hb0).suf 4 (by omega)).pre z (by omega))
  have hpl : ((rest.drop 4).take z).length = z := by rw [List.length_take, List.length_drop]; omega
  generalize hps : (rest.drop 4).take z = ps at *
  clear hps
  have hbD := fun (w2 : World) (h : Below (w.alloc (.cells #[.int .i64 0, .int .i64 0, .int .i64 0, .string ⟨#[]⟩, .slice none 0 0] 25)).heap.size (w.alloc (.cells #[.int .i64 0, .int .i64 0, .int .i64 0, .string ⟨#[]⟩, .slice none 0 0] 25)) w2) => hb0.trans (h.mono hb0.size)
  cases hq : decR ps with
  | error x =>
    have hE : R = .error 2 := by rw [HE.out, hq]; rfl
    subst hE
    have hx0 := decR_ne hq
    have d6 : (x != 0) = true := by simpa using hx0
    have d6' : (x == 0) = false := by simpa using hx0
    have HQ := Lib.hid hq
    clear hq hx0
    go_enter Tryd.func41, Tryd.ntmps41
    go_wp2_with fail
    refine (get_any _ _ _ _ _ HS4.out (by omega)).mono ?_
    rw [HZz.out]
    rintro e w1 ⟨rfl, rfl⟩
    go_wp2_with fail
    refine (chain_any d _ _ _ _ _ HSb.out).mono ?_
    rw [HSm.out]
    rintro e w1 ⟨rfl, rfl⟩
    go_wp2_with fail
    rw [show 4 + z + 8 - (4 + z) = 8 by omega]
    refine (get_any _ _ _ _ _ HSd.out (by omega)).mono ?_
    rw [HGt.out]
    rintro e w1 ⟨rfl, rfl⟩
    go_wp2_with fail
    refine (decode_any ps _ _ _ _ HSp.out).mono ?_
    rw [HQ.out]
    rintro e w2 ⟨rfl, hb2⟩
    have HZ2 := Lib.hid (HZ.out.below hb2)
    have hbE := hbD w2 hb2
    obtain ⟨z0, z1, z2, z3, z4, g0, g1, g2, g3, g4, hlz⟩ := HZ2.out
    go_wp2_with fail
    exact bodyPost_ret (v := .tuple #[.agg #[.int .i64 0, .int .i64 0, .int .i64 0, .string ⟨#[]⟩, .slice none 0 0], .int .i64 0, .int .u64 0, .iface 64 (.agg #[.int .i64 2])]) (by simp [results, Tryd.results41, go_sem, World.cell?_alloc_lt, hlz, z0, z1, z2, z3, z4]) rfl ⟨rfl, (below_set5 hbE (Nat.le_refl _) _ _ _ _ _).alloc (by simp; omega) _⟩
  | ok r =>
    obtain ⟨t, l⟩ := r
    obtain ⟨hps2, hi6⟩ := decR_len hq (by omega)
    have hle : z = (encT t).length + l.length := by rw [← hpl, hps2, List.length_append]
    have hmn : min z 1048576 - l.length = (encT t).length := by omega
    have HQ := Lib.hid hq
    cases l with
    | cons c0 l =>
      have hE : R = .error 2 := by rw [HE.out, hq]; rfl
      subst hE
      rw [List.length_cons] at hle
      generalize (encT t).length = et at *
      have d6 : ((et : Int) != (z : Int)) = true := by simp; omega
      have d6' : (et != z) = true := by simp; omega
      clear hq hps2 hle
      go_enter Tryd.func41, Tryd.ntmps41
      go_wp2_with fail
      refine (get_any _ _ _ _ _ HS4.out (by omega)).mono ?_
      rw [HZz.out]
      rintro e w1 ⟨rfl, rfl⟩
      go_wp2_with fail
      refine (chain_any d _ _ _ _ _ HSb.out).mono ?_
      rw [HSm.out]
      rintro e w1 ⟨rfl, rfl⟩
      go_wp2_with fail
      rw [show 4 + z + 8 - (4 + z) = 8 by omega]
      refine (get_any _ _ _ _ _ HSd.out (by omega)).mono ?_
      rw [HGt.out]
      rintro e w1 ⟨rfl, rfl⟩
      go_wp2_with fail
      refine (decode_any ps _ _ _ _ HSp.out).mono ?_
      rw [HQ.out]
      rintro e w2 ⟨nv, rfl, hN, hb2⟩
      rw [hmn]
      obtain ⟨n0, n1, n2, n3, n4, n5, n6, rfl⟩ := hN.vals
      have HZ2 := Lib.hid (HZ.out.below hb2)
      have hbE := hbD w2 hb2
      obtain ⟨z0, z1, z2, z3, z4, g0, g1, g2, g3, g4, hlz⟩ := HZ2.out
      clear hmn
      go_wp2_with fail
      exact bodyPost_ret (v := .tuple #[.agg #[.int .i64 0, .int .i64 0, .int .i64 0, .string ⟨#[]⟩, .slice none 0 0], .int .i64 0, .int .u64 0, .iface 64 (.agg #[.int .i64 2])]) (by simp [results, Tryd.results41, go_sem, World.cell?_alloc_lt, hlz, z0, z1, z2, z3, z4]) rfl ⟨rfl, (below_set5 hbE (Nat.le_refl _) _ _ _ _ _).alloc (by simp; omega) _⟩
    | nil =>
      have hE : R = .ok (t, z + 12, sm) := by rw [HE.out, hq, show z + 12 = z + 12 from rfl]; rfl
      subst hE
      have hez : (encT t).length = z := by simpa using hle.symm
      rw [hez] at hmn
      clear hq hps2 hle hez
      go_enter Tryd.func41, Tryd.ntmps41
      go_wp2_with fail
      refine (get_any _ _ _ _ _ HS4.out (by omega)).mono ?_
      rw [HZz.out]
      rintro e w1 ⟨rfl, rfl⟩
      go_wp2_with fail
      refine (chain_any d _ _ _ _ _ HSb.out).mono ?_
      rw [HSm.out]
      rintro e w1 ⟨rfl, rfl⟩
      go_wp2_with fail
      rw [show 4 + z + 8 - (4 + z) = 8 by omega]
      refine (get_any _ _ _ _ _ HSd.out (by omega)).mono ?_
      rw [HGt.out]
      rintro e w1 ⟨rfl, rfl⟩
      go_wp2_with fail
      refine (decode_any ps _ _ _ _ HSp.out).mono ?_
      rw [HQ.out]
      rintro e w2 ⟨nv, rfl, hN, hb2⟩
      rw [hmn]
      obtain ⟨n0, n1, n2, n3, n4, n5, n6, rfl⟩ := hN.vals
      have HZ2 := Lib.hid (HZ.out.below hb2)
      have hbE := hbD w2 hb2
      obtain ⟨z0, z1, z2, z3, z4, g0, g1, g2, g3, g4, hlz⟩ := HZ2.out
      have HNn := Lib.hid hN
      clear hmn hN
      have HNF := Lib.hid (show NodeS (fun b => w.heap.size ≤ b) (((((w2.setCell ⟨w.heap.size, 0, none⟩ (.int .i64 n0)).setCell ⟨w.heap.size, 1, none⟩ (.int .i64 n1)).setCell ⟨w.heap.size, 2, none⟩ (.int .i64 n2)).setCell ⟨w.heap.size, 3, none⟩ (.string ⟨n3.toArray⟩)).setCell ⟨w.heap.size, 4, none⟩ (.slice n4 n5 n6)) t (.agg #[.int .i64 n0, .int .i64 n1, .int .i64 n2, .string ⟨n3.toArray⟩, .slice n4 n5 n6]) from HNn.out.keep (by simp) fun b h1 _ => ⟨by simp at h1; omega, set5_other _ _ _ _ _ (by simp at h1; omega)⟩)
      go_wp2_with fail
      exact bodyPost_ret (v := .tuple #[.agg #[.int .i64 n0, .int .i64 n1, .int .i64 n2, .string ⟨n3.toArray⟩, .slice n4 n5 n6], .int .i64 ((z + 12 : Nat) : Int), .int .u64 sm.toNat, .nilIface]) (by simp [results, Tryd.results41, go_sem, World.cell?_alloc_lt, hlz, z0, z1, z2, z3, z4] <;> omega) rfl ⟨_, rfl, nodeS_alloc HNF.out _, (below_set5 hbE (Nat.le_refl _) _ _ _ _ _).alloc (by simp; omega) _⟩
end Go.Proofs.YthbfmioikbphgaaDoor
