/- UploadOrder: receiving a packet again changes nothing, and two packets give the same inbox in both orders: the law returns true. No condition. -/
import Derived.Test.YtpdodapdaeochaaUpS
namespace Go.Proofs.Ytpdodapdaeochaa
set_option maxRecDepth 100000
open Go.ChangeShapes Go.WideShapes Go.ChangeAt Go.RowKit
set_option maxHeartbeats 16000000 in
theorem uploadOrder_calls (xs ord : List UInt8) (x y p q : UInt8) (a ao : Option Addr) (len cap lo co : Nat) (w : World) (hx : Bytes w a len cap xs) (ho : Bytes w ao lo co ord) :
    Calls Try.prog 4 #[.slice a len cap, .agg #[.int .u8 (x.toNat : Int), .int .u8 (y.toNat : Int)], .slice ao lo co, .int .u8 (p.toNat : Int), .int .u8 (q.toNat : Int)] w fun e w' => e = .returned (.bool true) ∧ Below w.heap.size w w' := by
  have HX := Lib.hid hx
  have HO := Lib.hid ho
  obtain ⟨m, hm⟩ : ∃ m, m = min len 80 := ⟨_, rfl⟩
  have HM := Lib.hid hm
  have hm8 : m ≤ 80 := by omega
  obtain ⟨s1, h1⟩ : ∃ s1, s1 = x.toNat % 16 + 1 := ⟨_, rfl⟩
  obtain ⟨s2, h2⟩ : ∃ s2, s2 = y.toNat % 16 + 1 := ⟨_, rfl⟩
  have H1 := Lib.hid h1
  have H2 := Lib.hid h2
  have hs1 : 1 ≤ s1 ∧ s1 ≤ 16 := by omega
  have hs2 : 1 ≤ s2 ∧ s2 ≤ 16 := by omega
  have HLm := Lib.hid (show (xs.take m).length = m by rw [List.length_take, hx.1]; omega)
  have HG := Lib.hid (show ∀ i, i < fleetN m s1 s2 → GoodQ (xs.take m) (fleetQ m s1 s2 i) from fun i hi => by
    have h9 := fleet_good (log := xs.take m) (s1 := s1) (s2 := s2) (i := i) hs1.1 (by omega) hs2.1 (by omega) (by rw [HLm.out]; exact hi)
    rwa [HLm.out] at h9)
  have HLl := Lib.hid (show (xs.take m).length ≤ 1048576 by rw [HLm.out]; omega)
  clear hx ho hm h1 h2
  go_enter Try.func4, Try.ntmps4
  go_wp2_with fail
  have hbx : Below w.heap.size w (w.alloc (.cells #[.int .u8 (x.toNat : Int), .int .u8 (y.toNat : Int)] 23)) := ((Below.refl _ _).alloc (Nat.le_refl _) _)
  generalize hWW : (w.alloc (.cells #[.int .u8 (x.toNat : Int), .int .u8 (y.toNat : Int)] 23)) = w0 at *
  replace HX := Lib.hid (HX.out.below hbx)
  replace HO := Lib.hid (HO.out.below hbx)
  have cZ0 : w0.cell? ⟨w.heap.size, 0, none⟩ = some (.int .u8 (x.toNat : Int)) := by subst hWW; go_simp
  have cZ1 : w0.cell? ⟨w.heap.size, 1, none⟩ = some (.int .u8 (y.toNat : Int)) := by subst hWW; go_simp
  have ltZ : w.heap.size < w0.heap.size := by subst hWW; simp
  have hB := hbx
  clear hbx hWW
  refine (fleet_any xs x y a len cap m s1 s2 _ HX.out HM.out H1.out H2.out).mono ?_
  rintro e w1 ⟨b, c, rfl, hl, hb⟩
  replace cZ0 := bc hb ltZ cZ0
  replace cZ1 := bc hb ltZ cZ1
  replace ltZ := bl hb ltZ
  replace HX := Lib.hid (HX.out.below hb)
  replace HO := Lib.hid (HO.out.below hb)
  replace hB := hB.trans (hb.mono hB.size)
  have HL := Lib.hid hl
  have HB := Lib.hid (HX.out.pre m (by have := HM.out; omega))
  clear hl H1 H2
  clear hb
  clear cZ0 cZ1 ltZ
  generalize fleetN m s1 s2 = n at *
  generalize fleetQ m s1 s2 = L at *
  generalize xs.take m = log at *
  by_cases hn : n = 0
  · have hn0 : (n : Int) = 0 := by omega
    have HN0 := Lib.hid hn
    have d0 : ((n : Int) == 0) = true := by simp [hn]
    clear hn
    go_wp2_with fail
    refine (awake_any _).mono ?_
    rintro e w2 ⟨rfl, hb⟩
    replace HX := Lib.hid (HX.out.below hb)
    replace HO := Lib.hid (HO.out.below hb)
    replace HL := Lib.hid (HL.out.below hb)
    replace HB := Lib.hid (HB.out.below hb)
    replace hB := hB.trans (hb.mono hB.size)
    clear hb
    go_wp2_with fail
    go_ret
    exact ⟨rfl, hB⟩
  · have d0 : ((n : Int) == 0) = false := by simp [hn]
    have hn0 : 0 < n := by omega
    have hnn : n ≠ 0 := hn
    obtain ⟨ip, hip⟩ : ∃ ip, ip = p.toNat % n := ⟨_, rfl⟩
    have hpn : ip < n := by rw [hip]; exact Nat.mod_lt _ hn0
    have e1p : (p.toNat : Int) % n = ip := by omega
    have e2p : Int.tmod (p.toNat : Int) n = ip := by rw [Int.tmod_eq_emod_of_nonneg (by omega)]; exact e1p
    have hxp := p.toNat_lt
    have hwp : IntKind.i64.wrap (p.toNat : Int) = p.toNat := by rw [IntWalk.i64_in _ (by omega)]
    obtain ⟨iq, hiq⟩ : ∃ iq, iq = q.toNat % n := ⟨_, rfl⟩
    have hqn : iq < n := by rw [hiq]; exact Nat.mod_lt _ hn0
    have e1q : (q.toNat : Int) % n = iq := by omega
    have e2q : Int.tmod (q.toNat : Int) n = iq := by rw [Int.tmod_eq_emod_of_nonneg (by omega)]; exact e1q
    have hxq := q.toNat_lt
    have hwq : IntKind.i64.wrap (q.toNat : Int) = q.toNat := by rw [IntWalk.i64_in _ (by omega)]
    go_wp2_with fail
    refine (state_any log L ord b ao n c lo co _ HLl.out HG.out HL.out HO.out).mono ?_
    rintro e w2 ⟨d, l, S, p0i, r0i, p1i, ki, r1i, rfl, hv, hst, hb⟩
    replace HX := Lib.hid (HX.out.below hb)
    replace HO := Lib.hid (HO.out.below hb)
    replace HL := Lib.hid (HL.out.below hb)
    replace HB := Lib.hid (HB.out.below hb)
    replace hB := hB.trans (hb.mono hB.size)
    have HVi := Lib.hid hv
    have HSi := Lib.hid hst
    clear hv hst
    clear hb
    obtain ⟨bb, off, rfl, pp, ap, np, cp, up, hpp⟩ := HL.out.pkc hpn (HG.out ip hpn)
    obtain ⟨bb2, off2, he2, pq, aq, nq, cq, uq, hpq⟩ := HL.out.pkc hqn (HG.out iq hqn)
    cases he2
    have HPp := Lib.hid hpp
    have HPq := Lib.hid hpq
    clear hpp hpq hip hiq
    have yp0 := HPp.out.c0
    have yp1 := HPp.out.c1
    have yp2 := HPp.out.c2
    have yp3 := HPp.out.c3
    have ylp := HPp.out.lt
    have yq0 := HPq.out.c0
    have yq1 := HPq.out.c1
    have yq2 := HPq.out.c2
    have yq3 := HPq.out.c3
    have ylq := HPq.out.lt
    have hb1 : Below w2.heap.size w2 (w2.alloc (.cells #[.int .i64 5, .slice p0i d r0i, .slice p1i ki r1i] 28)) := (Below.refl _ _).alloc (Nat.le_refl _) _
    have hb2 : Below w2.heap.size w2 ((w2.alloc (.cells #[.int .i64 5, .slice p0i d r0i, .slice p1i ki r1i] 28)).alloc (.cells #[.int .i64 5, .int .i64 pp, .slice ap np cp, .int .u64 (up.toNat : Int)] 35)) := hb1.alloc (by simp) _
    have ap0 := bc hb1 ylp yp0
    have bp0 := bc hb2 ylp yp0
    have ap1 := bc hb1 ylp yp1
    have bp1 := bc hb2 ylp yp1
    have ap2 := bc hb1 ylp yp2
    have bp2 := bc hb2 ylp yp2
    have ap3 := bc hb1 ylp yp3
    have bp3 := bc hb2 ylp yp3
    have aq0 := bc hb1 ylq yq0
    have bq0 := bc hb2 ylq yq0
    have aq1 := bc hb1 ylq yq1
    have bq1 := bc hb2 ylq yq1
    have aq2 := bc hb1 ylq yq2
    have bq2 := bc hb2 ylq yq2
    have aq3 := bc hb1 ylq yq3
    have bq3 := bc hb2 ylq yq3
    go_wp2_with fail
    clear hb1 hb2 ap0 bp0 ap1 bp1 ap2 bp2 ap3 bp3 aq0 bq0 aq1 bq1 aq2 bq2 aq3 bq3
    clear yp0 yp1 yp2 yp3 yq0 yq1 yq2 yq3 ylp ylq
    have hbx : Below w2.heap.size w2 (((w2.alloc (.cells #[.int .i64 5, .slice p0i d r0i, .slice p1i ki r1i] 28)).alloc (.cells #[.int .i64 5, .int .i64 pp, .slice ap np cp, .int .u64 (up.toNat : Int)] 35)).alloc (.cells #[.int .i64 5, .int .i64 pq, .slice aq nq cq, .int .u64 (uq.toNat : Int)] 35)) := ((((Below.refl _ _).alloc (Nat.le_refl _) _).alloc (by simp) _).alloc (by simp <;> omega) _)
    generalize hWW : (((w2.alloc (.cells #[.int .i64 5, .slice p0i d r0i, .slice p1i ki r1i] 28)).alloc (.cells #[.int .i64 5, .int .i64 pp, .slice ap np cp, .int .u64 (up.toNat : Int)] 35)).alloc (.cells #[.int .i64 5, .int .i64 pq, .slice aq nq cq, .int .u64 (uq.toNat : Int)] 35)) = w3 at *
    replace HX := Lib.hid (HX.out.below hbx)
    replace HO := Lib.hid (HO.out.below hbx)
    replace HL := Lib.hid (HL.out.below hbx)
    replace HB := Lib.hid (HB.out.below hbx)
    replace HVi := Lib.hid (HVi.out.below hbx)
    replace HPp := Lib.hid (HPp.out.below hbx)
    replace HPq := Lib.hid (HPq.out.below hbx)
    have cI0 : w3.cell? ⟨w2.heap.size, 0, none⟩ = some (.int .i64 5) := by subst hWW; go_simp
    have cI1 : w3.cell? ⟨w2.heap.size, 1, none⟩ = some (.slice p0i d r0i) := by subst hWW; go_simp
    have cI2 : w3.cell? ⟨w2.heap.size, 2, none⟩ = some (.slice p1i ki r1i) := by subst hWW; go_simp
    have ltI : w2.heap.size < w3.heap.size := by subst hWW; simp <;> omega
    have cP0 : w3.cell? ⟨w2.heap.size + 1, 0, none⟩ = some (.int .i64 5) := by subst hWW; go_simp
    have cP1 : w3.cell? ⟨w2.heap.size + 1, 1, none⟩ = some (.int .i64 pp) := by subst hWW; go_simp
    have cP2 : w3.cell? ⟨w2.heap.size + 1, 2, none⟩ = some (.slice ap np cp) := by subst hWW; go_simp
    have cP3 : w3.cell? ⟨w2.heap.size + 1, 3, none⟩ = some (.int .u64 (up.toNat : Int)) := by subst hWW; go_simp
    have ltP : w2.heap.size + 1 < w3.heap.size := by subst hWW; simp <;> omega
    have cQ0 : w3.cell? ⟨w2.heap.size + 1 + 1, 0, none⟩ = some (.int .i64 5) := by subst hWW; go_simp
    have cQ1 : w3.cell? ⟨w2.heap.size + 1 + 1, 1, none⟩ = some (.int .i64 pq) := by subst hWW; go_simp
    have cQ2 : w3.cell? ⟨w2.heap.size + 1 + 1, 2, none⟩ = some (.slice aq nq cq) := by subst hWW; go_simp
    have cQ3 : w3.cell? ⟨w2.heap.size + 1 + 1, 3, none⟩ = some (.int .u64 (uq.toNat : Int)) := by subst hWW; go_simp
    have ltQ : w2.heap.size + 1 + 1 < w3.heap.size := by subst hWW; simp
    replace hB := hB.trans (hbx.mono hB.size)
    clear hbx hWW
    refine (recx (rxN d l (L ip)).1 (rxN d l (L ip)).2 _ HSi.out.inb (HG.out ip hpn) rfl HVi.out HPp.out).mono ?_
    rintro e w4 ⟨p0a, r0a, p1a, ka, r1a, rfl, hv, hb⟩
    replace cI0 := bc hb ltI cI0
    replace cI1 := bc hb ltI cI1
    replace cI2 := bc hb ltI cI2
    replace ltI := bl hb ltI
    replace cP0 := bc hb ltP cP0
    replace cP1 := bc hb ltP cP1
    replace cP2 := bc hb ltP cP2
    replace cP3 := bc hb ltP cP3
    replace ltP := bl hb ltP
    replace cQ0 := bc hb ltQ cQ0
    replace cQ1 := bc hb ltQ cQ1
    replace cQ2 := bc hb ltQ cQ2
    replace cQ3 := bc hb ltQ cQ3
    replace ltQ := bl hb ltQ
    replace HX := Lib.hid (HX.out.below hb)
    replace HO := Lib.hid (HO.out.below hb)
    replace HL := Lib.hid (HL.out.below hb)
    replace HB := Lib.hid (HB.out.below hb)
    replace HVi := Lib.hid (HVi.out.below hb)
    replace HPp := Lib.hid (HPp.out.below hb)
    replace HPq := Lib.hid (HPq.out.below hb)
    replace hB := hB.trans (hb.mono hB.size)
    have HSa := Lib.hid (HSi.out.step (by omega) hpn (HG.out ip hpn)).1
    generalize (rxN d l (L ip)).1 = da at *
    generalize (rxN d l (L ip)).2 = la at *
    have HVa := Lib.hid hv
    clear hv
    clear hb
    have hba : Below w4.heap.size w4 (w4.alloc (.cells #[.int .i64 5, .slice p0a da r0a, .slice p1a ka r1a] 28)) := (Below.refl _ _).alloc (Nat.le_refl _) _
    have nI0 := bc hba ltI cI0
    have nI1 := bc hba ltI cI1
    have nI2 := bc hba ltI cI2
    have nP0 := bc hba ltP cP0
    have nP1 := bc hba ltP cP1
    have nP2 := bc hba ltP cP2
    have nP3 := bc hba ltP cP3
    have nQ0 := bc hba ltQ cQ0
    have nQ1 := bc hba ltQ cQ1
    have nQ2 := bc hba ltQ cQ2
    have nQ3 := bc hba ltQ cQ3
    go_wp2_with fail
    clear hba nI0 nI1 nI2 nP0 nP1 nP2 nP3 nQ0 nQ1 nQ2 nQ3
    have hbx : Below w4.heap.size w4 (w4.alloc (.cells #[.int .i64 5, .slice p0a da r0a, .slice p1a ka r1a] 28)) := ((Below.refl _ _).alloc (Nat.le_refl _) _)
    generalize hWW : (w4.alloc (.cells #[.int .i64 5, .slice p0a da r0a, .slice p1a ka r1a] 28)) = w5 at *
    replace cI0 := bc hbx ltI cI0
    replace cI1 := bc hbx ltI cI1
    replace cI2 := bc hbx ltI cI2
    replace ltI := bl hbx ltI
    replace cP0 := bc hbx ltP cP0
    replace cP1 := bc hbx ltP cP1
    replace cP2 := bc hbx ltP cP2
    replace cP3 := bc hbx ltP cP3
    replace ltP := bl hbx ltP
    replace cQ0 := bc hbx ltQ cQ0
    replace cQ1 := bc hbx ltQ cQ1
    replace cQ2 := bc hbx ltQ cQ2
    replace cQ3 := bc hbx ltQ cQ3
    replace ltQ := bl hbx ltQ
    replace HX := Lib.hid (HX.out.below hbx)
    replace HO := Lib.hid (HO.out.below hbx)
    replace HL := Lib.hid (HL.out.below hbx)
    replace HB := Lib.hid (HB.out.below hbx)
    replace HVi := Lib.hid (HVi.out.below hbx)
    replace HPp := Lib.hid (HPp.out.below hbx)
    replace HPq := Lib.hid (HPq.out.below hbx)
    replace HVa := Lib.hid (HVa.out.below hbx)
    have cA0 : w5.cell? ⟨w4.heap.size, 0, none⟩ = some (.int .i64 5) := by subst hWW; go_simp
    have cA1 : w5.cell? ⟨w4.heap.size, 1, none⟩ = some (.slice p0a da r0a) := by subst hWW; go_simp
    have cA2 : w5.cell? ⟨w4.heap.size, 2, none⟩ = some (.slice p1a ka r1a) := by subst hWW; go_simp
    have ltA : w4.heap.size < w5.heap.size := by subst hWW; simp
    replace hB := hB.trans (hbx.mono hB.size)
    clear hbx hWW
    refine (recx (rxN da la (L ip)).1 (rxN da la (L ip)).2 _ HSa.out.inb (HG.out ip hpn) rfl HVa.out HPp.out).mono ?_
    rintro e w6 ⟨p0g, r0g, p1g, kg, r1g, rfl, hv, hb⟩
    replace cI0 := bc hb ltI cI0
    replace cI1 := bc hb ltI cI1
    replace cI2 := bc hb ltI cI2
    replace ltI := bl hb ltI
    replace cP0 := bc hb ltP cP0
    replace cP1 := bc hb ltP cP1
    replace cP2 := bc hb ltP cP2
    replace cP3 := bc hb ltP cP3
    replace ltP := bl hb ltP
    replace cQ0 := bc hb ltQ cQ0
    replace cQ1 := bc hb ltQ cQ1
    replace cQ2 := bc hb ltQ cQ2
    replace cQ3 := bc hb ltQ cQ3
    replace ltQ := bl hb ltQ
    replace cA0 := bc hb ltA cA0
    replace cA1 := bc hb ltA cA1
    replace cA2 := bc hb ltA cA2
    replace ltA := bl hb ltA
    replace HX := Lib.hid (HX.out.below hb)
    replace HO := Lib.hid (HO.out.below hb)
    replace HL := Lib.hid (HL.out.below hb)
    replace HB := Lib.hid (HB.out.below hb)
    replace HVi := Lib.hid (HVi.out.below hb)
    replace HPp := Lib.hid (HPp.out.below hb)
    replace HPq := Lib.hid (HPq.out.below hb)
    replace HVa := Lib.hid (HVa.out.below hb)
    replace hB := hB.trans (hb.mono hB.size)
    have HSg := Lib.hid (HSa.out.step (by omega) hpn (HG.out ip hpn)).1
    generalize (rxN da la (L ip)).1 = dg at *
    generalize (rxN da la (L ip)).2 = lg at *
    have HVg := Lib.hid hv
    clear hv
    clear hb
    have hba : Below w6.heap.size w6 (w6.alloc (.cells #[.int .i64 5, .slice p0g dg r0g, .slice p1g kg r1g] 28)) := (Below.refl _ _).alloc (Nat.le_refl _) _
    have nI0 := bc hba ltI cI0
    have nI1 := bc hba ltI cI1
    have nI2 := bc hba ltI cI2
    have nP0 := bc hba ltP cP0
    have nP1 := bc hba ltP cP1
    have nP2 := bc hba ltP cP2
    have nP3 := bc hba ltP cP3
    have nQ0 := bc hba ltQ cQ0
    have nQ1 := bc hba ltQ cQ1
    have nQ2 := bc hba ltQ cQ2
    have nQ3 := bc hba ltQ cQ3
    have nA0 := bc hba ltA cA0
    have nA1 := bc hba ltA cA1
    have nA2 := bc hba ltA cA2
    go_wp2_with fail
    clear hba nI0 nI1 nI2 nP0 nP1 nP2 nP3 nQ0 nQ1 nQ2 nQ3 nA0 nA1 nA2
    have hbx : Below w6.heap.size w6 (w6.alloc (.cells #[.int .i64 5, .slice p0g dg r0g, .slice p1g kg r1g] 28)) := ((Below.refl _ _).alloc (Nat.le_refl _) _)
    generalize hWW : (w6.alloc (.cells #[.int .i64 5, .slice p0g dg r0g, .slice p1g kg r1g] 28)) = w7 at *
    replace cI0 := bc hbx ltI cI0
    replace cI1 := bc hbx ltI cI1
    replace cI2 := bc hbx ltI cI2
    replace ltI := bl hbx ltI
    replace cP0 := bc hbx ltP cP0
    replace cP1 := bc hbx ltP cP1
    replace cP2 := bc hbx ltP cP2
    replace cP3 := bc hbx ltP cP3
    replace ltP := bl hbx ltP
    replace cQ0 := bc hbx ltQ cQ0
    replace cQ1 := bc hbx ltQ cQ1
    replace cQ2 := bc hbx ltQ cQ2
    replace cQ3 := bc hbx ltQ cQ3
    replace ltQ := bl hbx ltQ
    replace cA0 := bc hbx ltA cA0
    replace cA1 := bc hbx ltA cA1
    replace cA2 := bc hbx ltA cA2
    replace ltA := bl hbx ltA
    replace HX := Lib.hid (HX.out.below hbx)
    replace HO := Lib.hid (HO.out.below hbx)
    replace HL := Lib.hid (HL.out.below hbx)
    replace HB := Lib.hid (HB.out.below hbx)
    replace HVi := Lib.hid (HVi.out.below hbx)
    replace HPp := Lib.hid (HPp.out.below hbx)
    replace HPq := Lib.hid (HPq.out.below hbx)
    replace HVa := Lib.hid (HVa.out.below hbx)
    replace HVg := Lib.hid (HVg.out.below hbx)
    have cG0 : w7.cell? ⟨w6.heap.size, 0, none⟩ = some (.int .i64 5) := by subst hWW; go_simp
    have cG1 : w7.cell? ⟨w6.heap.size, 1, none⟩ = some (.slice p0g dg r0g) := by subst hWW; go_simp
    have cG2 : w7.cell? ⟨w6.heap.size, 2, none⟩ = some (.slice p1g kg r1g) := by subst hWW; go_simp
    have ltG : w6.heap.size < w7.heap.size := by subst hWW; simp
    replace hB := hB.trans (hbx.mono hB.size)
    clear hbx hWW
    refine (recx (rxN da la (L iq)).1 (rxN da la (L iq)).2 _ HSa.out.inb (HG.out iq hqn) rfl HVa.out HPq.out).mono ?_
    rintro e w8 ⟨p0b, r0b, p1b, kb, r1b, rfl, hv, hb⟩
    replace cI0 := bc hb ltI cI0
    replace cI1 := bc hb ltI cI1
    replace cI2 := bc hb ltI cI2
    replace ltI := bl hb ltI
    replace cP0 := bc hb ltP cP0
    replace cP1 := bc hb ltP cP1
    replace cP2 := bc hb ltP cP2
    replace cP3 := bc hb ltP cP3
    replace ltP := bl hb ltP
    replace cQ0 := bc hb ltQ cQ0
    replace cQ1 := bc hb ltQ cQ1
    replace cQ2 := bc hb ltQ cQ2
    replace cQ3 := bc hb ltQ cQ3
    replace ltQ := bl hb ltQ
    replace cA0 := bc hb ltA cA0
    replace cA1 := bc hb ltA cA1
    replace cA2 := bc hb ltA cA2
    replace ltA := bl hb ltA
    replace cG0 := bc hb ltG cG0
    replace cG1 := bc hb ltG cG1
    replace cG2 := bc hb ltG cG2
    replace ltG := bl hb ltG
    replace HX := Lib.hid (HX.out.below hb)
    replace HO := Lib.hid (HO.out.below hb)
    replace HL := Lib.hid (HL.out.below hb)
    replace HB := Lib.hid (HB.out.below hb)
    replace HVi := Lib.hid (HVi.out.below hb)
    replace HPp := Lib.hid (HPp.out.below hb)
    replace HPq := Lib.hid (HPq.out.below hb)
    replace HVa := Lib.hid (HVa.out.below hb)
    replace HVg := Lib.hid (HVg.out.below hb)
    replace hB := hB.trans (hb.mono hB.size)
    have HSb := Lib.hid (HSa.out.step (by omega) hqn (HG.out iq hqn)).1
    generalize (rxN da la (L iq)).1 = db at *
    generalize (rxN da la (L iq)).2 = lb at *
    have HVb := Lib.hid hv
    clear hv
    clear hb
    have hba : Below w8.heap.size w8 (w8.alloc (.cells #[.int .i64 5, .slice p0b db r0b, .slice p1b kb r1b] 28)) := (Below.refl _ _).alloc (Nat.le_refl _) _
    have nI0 := bc hba ltI cI0
    have nI1 := bc hba ltI cI1
    have nI2 := bc hba ltI cI2
    have nP0 := bc hba ltP cP0
    have nP1 := bc hba ltP cP1
    have nP2 := bc hba ltP cP2
    have nP3 := bc hba ltP cP3
    have nQ0 := bc hba ltQ cQ0
    have nQ1 := bc hba ltQ cQ1
    have nQ2 := bc hba ltQ cQ2
    have nQ3 := bc hba ltQ cQ3
    have nA0 := bc hba ltA cA0
    have nA1 := bc hba ltA cA1
    have nA2 := bc hba ltA cA2
    have nG0 := bc hba ltG cG0
    have nG1 := bc hba ltG cG1
    have nG2 := bc hba ltG cG2
    go_wp2_with fail
    clear hba nI0 nI1 nI2 nP0 nP1 nP2 nP3 nQ0 nQ1 nQ2 nQ3 nA0 nA1 nA2 nG0 nG1 nG2
    have hbx : Below w8.heap.size w8 (w8.alloc (.cells #[.int .i64 5, .slice p0b db r0b, .slice p1b kb r1b] 28)) := ((Below.refl _ _).alloc (Nat.le_refl _) _)
    generalize hWW : (w8.alloc (.cells #[.int .i64 5, .slice p0b db r0b, .slice p1b kb r1b] 28)) = w9 at *
    replace cI0 := bc hbx ltI cI0
    replace cI1 := bc hbx ltI cI1
    replace cI2 := bc hbx ltI cI2
    replace ltI := bl hbx ltI
    replace cP0 := bc hbx ltP cP0
    replace cP1 := bc hbx ltP cP1
    replace cP2 := bc hbx ltP cP2
    replace cP3 := bc hbx ltP cP3
    replace ltP := bl hbx ltP
    replace cQ0 := bc hbx ltQ cQ0
    replace cQ1 := bc hbx ltQ cQ1
    replace cQ2 := bc hbx ltQ cQ2
    replace cQ3 := bc hbx ltQ cQ3
    replace ltQ := bl hbx ltQ
    replace cA0 := bc hbx ltA cA0
    replace cA1 := bc hbx ltA cA1
    replace cA2 := bc hbx ltA cA2
    replace ltA := bl hbx ltA
    replace cG0 := bc hbx ltG cG0
    replace cG1 := bc hbx ltG cG1
    replace cG2 := bc hbx ltG cG2
    replace ltG := bl hbx ltG
    replace HX := Lib.hid (HX.out.below hbx)
    replace HO := Lib.hid (HO.out.below hbx)
    replace HL := Lib.hid (HL.out.below hbx)
    replace HB := Lib.hid (HB.out.below hbx)
    replace HVi := Lib.hid (HVi.out.below hbx)
    replace HPp := Lib.hid (HPp.out.below hbx)
    replace HPq := Lib.hid (HPq.out.below hbx)
    replace HVa := Lib.hid (HVa.out.below hbx)
    replace HVg := Lib.hid (HVg.out.below hbx)
    replace HVb := Lib.hid (HVb.out.below hbx)
    have cB0 : w9.cell? ⟨w8.heap.size, 0, none⟩ = some (.int .i64 5) := by subst hWW; go_simp
    have cB1 : w9.cell? ⟨w8.heap.size, 1, none⟩ = some (.slice p0b db r0b) := by subst hWW; go_simp
    have cB2 : w9.cell? ⟨w8.heap.size, 2, none⟩ = some (.slice p1b kb r1b) := by subst hWW; go_simp
    have ltB : w8.heap.size < w9.heap.size := by subst hWW; simp
    replace hB := hB.trans (hbx.mono hB.size)
    clear hbx hWW
    refine (recx (rxN d l (L iq)).1 (rxN d l (L iq)).2 _ HSi.out.inb (HG.out iq hqn) rfl HVi.out HPq.out).mono ?_
    rintro e w10 ⟨p0e, r0e, p1e, ke, r1e, rfl, hv, hb⟩
    replace cI0 := bc hb ltI cI0
    replace cI1 := bc hb ltI cI1
    replace cI2 := bc hb ltI cI2
    replace ltI := bl hb ltI
    replace cP0 := bc hb ltP cP0
    replace cP1 := bc hb ltP cP1
    replace cP2 := bc hb ltP cP2
    replace cP3 := bc hb ltP cP3
    replace ltP := bl hb ltP
    replace cQ0 := bc hb ltQ cQ0
    replace cQ1 := bc hb ltQ cQ1
    replace cQ2 := bc hb ltQ cQ2
    replace cQ3 := bc hb ltQ cQ3
    replace ltQ := bl hb ltQ
    replace cA0 := bc hb ltA cA0
    replace cA1 := bc hb ltA cA1
    replace cA2 := bc hb ltA cA2
    replace ltA := bl hb ltA
    replace cG0 := bc hb ltG cG0
    replace cG1 := bc hb ltG cG1
    replace cG2 := bc hb ltG cG2
    replace ltG := bl hb ltG
    replace cB0 := bc hb ltB cB0
    replace cB1 := bc hb ltB cB1
    replace cB2 := bc hb ltB cB2
    replace ltB := bl hb ltB
    replace HX := Lib.hid (HX.out.below hb)
    replace HO := Lib.hid (HO.out.below hb)
    replace HL := Lib.hid (HL.out.below hb)
    replace HB := Lib.hid (HB.out.below hb)
    replace HVi := Lib.hid (HVi.out.below hb)
    replace HPp := Lib.hid (HPp.out.below hb)
    replace HPq := Lib.hid (HPq.out.below hb)
    replace HVa := Lib.hid (HVa.out.below hb)
    replace HVg := Lib.hid (HVg.out.below hb)
    replace HVb := Lib.hid (HVb.out.below hb)
    replace hB := hB.trans (hb.mono hB.size)
    have HSe := Lib.hid (HSi.out.step (by omega) hqn (HG.out iq hqn)).1
    generalize (rxN d l (L iq)).1 = de at *
    generalize (rxN d l (L iq)).2 = le at *
    have HVe := Lib.hid hv
    clear hv
    clear hb
    have hba : Below w10.heap.size w10 (w10.alloc (.cells #[.int .i64 5, .slice p0e de r0e, .slice p1e ke r1e] 28)) := (Below.refl _ _).alloc (Nat.le_refl _) _
    have nI0 := bc hba ltI cI0
    have nI1 := bc hba ltI cI1
    have nI2 := bc hba ltI cI2
    have nP0 := bc hba ltP cP0
    have nP1 := bc hba ltP cP1
    have nP2 := bc hba ltP cP2
    have nP3 := bc hba ltP cP3
    have nQ0 := bc hba ltQ cQ0
    have nQ1 := bc hba ltQ cQ1
    have nQ2 := bc hba ltQ cQ2
    have nQ3 := bc hba ltQ cQ3
    have nA0 := bc hba ltA cA0
    have nA1 := bc hba ltA cA1
    have nA2 := bc hba ltA cA2
    have nG0 := bc hba ltG cG0
    have nG1 := bc hba ltG cG1
    have nG2 := bc hba ltG cG2
    have nB0 := bc hba ltB cB0
    have nB1 := bc hba ltB cB1
    have nB2 := bc hba ltB cB2
    go_wp2_with fail
    clear hba nI0 nI1 nI2 nP0 nP1 nP2 nP3 nQ0 nQ1 nQ2 nQ3 nA0 nA1 nA2 nG0 nG1 nG2 nB0 nB1 nB2
    have hbx : Below w10.heap.size w10 (w10.alloc (.cells #[.int .i64 5, .slice p0e de r0e, .slice p1e ke r1e] 28)) := ((Below.refl _ _).alloc (Nat.le_refl _) _)
    generalize hWW : (w10.alloc (.cells #[.int .i64 5, .slice p0e de r0e, .slice p1e ke r1e] 28)) = w11 at *
    replace cI0 := bc hbx ltI cI0
    replace cI1 := bc hbx ltI cI1
    replace cI2 := bc hbx ltI cI2
    replace ltI := bl hbx ltI
    replace cP0 := bc hbx ltP cP0
    replace cP1 := bc hbx ltP cP1
    replace cP2 := bc hbx ltP cP2
    replace cP3 := bc hbx ltP cP3
    replace ltP := bl hbx ltP
    replace cQ0 := bc hbx ltQ cQ0
    replace cQ1 := bc hbx ltQ cQ1
    replace cQ2 := bc hbx ltQ cQ2
    replace cQ3 := bc hbx ltQ cQ3
    replace ltQ := bl hbx ltQ
    replace cA0 := bc hbx ltA cA0
    replace cA1 := bc hbx ltA cA1
    replace cA2 := bc hbx ltA cA2
    replace ltA := bl hbx ltA
    replace cG0 := bc hbx ltG cG0
    replace cG1 := bc hbx ltG cG1
    replace cG2 := bc hbx ltG cG2
    replace ltG := bl hbx ltG
    replace cB0 := bc hbx ltB cB0
    replace cB1 := bc hbx ltB cB1
    replace cB2 := bc hbx ltB cB2
    replace ltB := bl hbx ltB
    replace HX := Lib.hid (HX.out.below hbx)
    replace HO := Lib.hid (HO.out.below hbx)
    replace HL := Lib.hid (HL.out.below hbx)
    replace HB := Lib.hid (HB.out.below hbx)
    replace HVi := Lib.hid (HVi.out.below hbx)
    replace HPp := Lib.hid (HPp.out.below hbx)
    replace HPq := Lib.hid (HPq.out.below hbx)
    replace HVa := Lib.hid (HVa.out.below hbx)
    replace HVg := Lib.hid (HVg.out.below hbx)
    replace HVb := Lib.hid (HVb.out.below hbx)
    replace HVe := Lib.hid (HVe.out.below hbx)
    have cE0 : w11.cell? ⟨w10.heap.size, 0, none⟩ = some (.int .i64 5) := by subst hWW; go_simp
    have cE1 : w11.cell? ⟨w10.heap.size, 1, none⟩ = some (.slice p0e de r0e) := by subst hWW; go_simp
    have cE2 : w11.cell? ⟨w10.heap.size, 2, none⟩ = some (.slice p1e ke r1e) := by subst hWW; go_simp
    have ltE : w10.heap.size < w11.heap.size := by subst hWW; simp
    replace hB := hB.trans (hbx.mono hB.size)
    clear hbx hWW
    refine (recx (rxN de le (L ip)).1 (rxN de le (L ip)).2 _ HSe.out.inb (HG.out ip hpn) rfl HVe.out HPp.out).mono ?_
    rintro e w12 ⟨p0f, r0f, p1f, kf, r1f, rfl, hv, hb⟩
    replace cI0 := bc hb ltI cI0
    replace cI1 := bc hb ltI cI1
    replace cI2 := bc hb ltI cI2
    replace ltI := bl hb ltI
    replace cP0 := bc hb ltP cP0
    replace cP1 := bc hb ltP cP1
    replace cP2 := bc hb ltP cP2
    replace cP3 := bc hb ltP cP3
    replace ltP := bl hb ltP
    replace cQ0 := bc hb ltQ cQ0
    replace cQ1 := bc hb ltQ cQ1
    replace cQ2 := bc hb ltQ cQ2
    replace cQ3 := bc hb ltQ cQ3
    replace ltQ := bl hb ltQ
    replace cA0 := bc hb ltA cA0
    replace cA1 := bc hb ltA cA1
    replace cA2 := bc hb ltA cA2
    replace ltA := bl hb ltA
    replace cG0 := bc hb ltG cG0
    replace cG1 := bc hb ltG cG1
    replace cG2 := bc hb ltG cG2
    replace ltG := bl hb ltG
    replace cB0 := bc hb ltB cB0
    replace cB1 := bc hb ltB cB1
    replace cB2 := bc hb ltB cB2
    replace ltB := bl hb ltB
    replace cE0 := bc hb ltE cE0
    replace cE1 := bc hb ltE cE1
    replace cE2 := bc hb ltE cE2
    replace ltE := bl hb ltE
    replace HX := Lib.hid (HX.out.below hb)
    replace HO := Lib.hid (HO.out.below hb)
    replace HL := Lib.hid (HL.out.below hb)
    replace HB := Lib.hid (HB.out.below hb)
    replace HVi := Lib.hid (HVi.out.below hb)
    replace HPp := Lib.hid (HPp.out.below hb)
    replace HPq := Lib.hid (HPq.out.below hb)
    replace HVa := Lib.hid (HVa.out.below hb)
    replace HVg := Lib.hid (HVg.out.below hb)
    replace HVb := Lib.hid (HVb.out.below hb)
    replace HVe := Lib.hid (HVe.out.below hb)
    replace hB := hB.trans (hb.mono hB.size)
    have HSf := Lib.hid (HSe.out.step (by omega) hpn (HG.out ip hpn)).1
    generalize (rxN de le (L ip)).1 = df at *
    generalize (rxN de le (L ip)).2 = lf at *
    have HVf := Lib.hid hv
    clear hv
    clear hb
    have hba : Below w12.heap.size w12 (w12.alloc (.cells #[.int .i64 5, .slice p0f df r0f, .slice p1f kf r1f] 28)) := (Below.refl _ _).alloc (Nat.le_refl _) _
    have nI0 := bc hba ltI cI0
    have nI1 := bc hba ltI cI1
    have nI2 := bc hba ltI cI2
    have nP0 := bc hba ltP cP0
    have nP1 := bc hba ltP cP1
    have nP2 := bc hba ltP cP2
    have nP3 := bc hba ltP cP3
    have nQ0 := bc hba ltQ cQ0
    have nQ1 := bc hba ltQ cQ1
    have nQ2 := bc hba ltQ cQ2
    have nQ3 := bc hba ltQ cQ3
    have nA0 := bc hba ltA cA0
    have nA1 := bc hba ltA cA1
    have nA2 := bc hba ltA cA2
    have nG0 := bc hba ltG cG0
    have nG1 := bc hba ltG cG1
    have nG2 := bc hba ltG cG2
    have nB0 := bc hba ltB cB0
    have nB1 := bc hba ltB cB1
    have nB2 := bc hba ltB cB2
    have nE0 := bc hba ltE cE0
    have nE1 := bc hba ltE cE1
    have nE2 := bc hba ltE cE2
    go_wp2_with fail
    clear hba nI0 nI1 nI2 nP0 nP1 nP2 nP3 nQ0 nQ1 nQ2 nQ3 nA0 nA1 nA2 nG0 nG1 nG2 nB0 nB1 nB2 nE0 nE1 nE2
    have hbx : Below w12.heap.size w12 (w12.alloc (.cells #[.int .i64 5, .slice p0f df r0f, .slice p1f kf r1f] 28)) := ((Below.refl _ _).alloc (Nat.le_refl _) _)
    generalize hWW : (w12.alloc (.cells #[.int .i64 5, .slice p0f df r0f, .slice p1f kf r1f] 28)) = w13 at *
    replace cI0 := bc hbx ltI cI0
    replace cI1 := bc hbx ltI cI1
    replace cI2 := bc hbx ltI cI2
    replace ltI := bl hbx ltI
    replace cP0 := bc hbx ltP cP0
    replace cP1 := bc hbx ltP cP1
    replace cP2 := bc hbx ltP cP2
    replace cP3 := bc hbx ltP cP3
    replace ltP := bl hbx ltP
    replace cQ0 := bc hbx ltQ cQ0
    replace cQ1 := bc hbx ltQ cQ1
    replace cQ2 := bc hbx ltQ cQ2
    replace cQ3 := bc hbx ltQ cQ3
    replace ltQ := bl hbx ltQ
    replace cA0 := bc hbx ltA cA0
    replace cA1 := bc hbx ltA cA1
    replace cA2 := bc hbx ltA cA2
    replace ltA := bl hbx ltA
    replace cG0 := bc hbx ltG cG0
    replace cG1 := bc hbx ltG cG1
    replace cG2 := bc hbx ltG cG2
    replace ltG := bl hbx ltG
    replace cB0 := bc hbx ltB cB0
    replace cB1 := bc hbx ltB cB1
    replace cB2 := bc hbx ltB cB2
    replace ltB := bl hbx ltB
    replace cE0 := bc hbx ltE cE0
    replace cE1 := bc hbx ltE cE1
    replace cE2 := bc hbx ltE cE2
    replace ltE := bl hbx ltE
    replace HX := Lib.hid (HX.out.below hbx)
    replace HO := Lib.hid (HO.out.below hbx)
    replace HL := Lib.hid (HL.out.below hbx)
    replace HB := Lib.hid (HB.out.below hbx)
    replace HVi := Lib.hid (HVi.out.below hbx)
    replace HPp := Lib.hid (HPp.out.below hbx)
    replace HPq := Lib.hid (HPq.out.below hbx)
    replace HVa := Lib.hid (HVa.out.below hbx)
    replace HVg := Lib.hid (HVg.out.below hbx)
    replace HVb := Lib.hid (HVb.out.below hbx)
    replace HVe := Lib.hid (HVe.out.below hbx)
    replace HVf := Lib.hid (HVf.out.below hbx)
    have cF0 : w13.cell? ⟨w12.heap.size, 0, none⟩ = some (.int .i64 5) := by subst hWW; go_simp
    have cF1 : w13.cell? ⟨w12.heap.size, 1, none⟩ = some (.slice p0f df r0f) := by subst hWW; go_simp
    have cF2 : w13.cell? ⟨w12.heap.size, 2, none⟩ = some (.slice p1f kf r1f) := by subst hWW; go_simp
    have ltF : w12.heap.size < w13.heap.size := by subst hWW; simp
    replace hB := hB.trans (hbx.mono hB.size)
    clear hbx hWW
    obtain ⟨hdx, hlx, hkx⟩ := uniq2 (fun q => by grind) HSa.out.can HSg.out.can HVa.out.kl HVg.out.kl
    subst hdx hlx hkx
    refine (same_t 5 (log.take dg) (pks 5 log lg) p0a p1a p0g p1g dg kg r0a r1a r0g r1g _ HVa.out.da HVa.out.ps HVg.out.da HVg.out.ps).mono ?_
    rintro e w14 ⟨rfl, hb⟩
    replace cI0 := bc hb ltI cI0
    replace cI1 := bc hb ltI cI1
    replace cI2 := bc hb ltI cI2
    replace ltI := bl hb ltI
    replace cP0 := bc hb ltP cP0
    replace cP1 := bc hb ltP cP1
    replace cP2 := bc hb ltP cP2
    replace cP3 := bc hb ltP cP3
    replace ltP := bl hb ltP
    replace cQ0 := bc hb ltQ cQ0
    replace cQ1 := bc hb ltQ cQ1
    replace cQ2 := bc hb ltQ cQ2
    replace cQ3 := bc hb ltQ cQ3
    replace ltQ := bl hb ltQ
    replace cA0 := bc hb ltA cA0
    replace cA1 := bc hb ltA cA1
    replace cA2 := bc hb ltA cA2
    replace ltA := bl hb ltA
    replace cG0 := bc hb ltG cG0
    replace cG1 := bc hb ltG cG1
    replace cG2 := bc hb ltG cG2
    replace ltG := bl hb ltG
    replace cB0 := bc hb ltB cB0
    replace cB1 := bc hb ltB cB1
    replace cB2 := bc hb ltB cB2
    replace ltB := bl hb ltB
    replace cE0 := bc hb ltE cE0
    replace cE1 := bc hb ltE cE1
    replace cE2 := bc hb ltE cE2
    replace ltE := bl hb ltE
    replace cF0 := bc hb ltF cF0
    replace cF1 := bc hb ltF cF1
    replace cF2 := bc hb ltF cF2
    replace ltF := bl hb ltF
    replace HX := Lib.hid (HX.out.below hb)
    replace HO := Lib.hid (HO.out.below hb)
    replace HL := Lib.hid (HL.out.below hb)
    replace HB := Lib.hid (HB.out.below hb)
    replace HVi := Lib.hid (HVi.out.below hb)
    replace HPp := Lib.hid (HPp.out.below hb)
    replace HPq := Lib.hid (HPq.out.below hb)
    replace HVa := Lib.hid (HVa.out.below hb)
    replace HVg := Lib.hid (HVg.out.below hb)
    replace HVb := Lib.hid (HVb.out.below hb)
    replace HVe := Lib.hid (HVe.out.below hb)
    replace HVf := Lib.hid (HVf.out.below hb)
    replace hB := hB.trans (hb.mono hB.size)
    clear hb
    go_wp2_with fail
    obtain ⟨hdx, hlx, hkx⟩ := uniq2 (fun q => by grind) HSb.out.can HSf.out.can HVb.out.kl HVf.out.kl
    subst hdx hlx hkx
    refine (same_t 5 (log.take df) (pks 5 log lf) p0b p1b p0f p1f df kf r0b r1b r0f r1f _ HVb.out.da HVb.out.ps HVf.out.da HVf.out.ps).mono ?_
    rintro e w15 ⟨rfl, hb⟩
    replace cI0 := bc hb ltI cI0
    replace cI1 := bc hb ltI cI1
    replace cI2 := bc hb ltI cI2
    replace ltI := bl hb ltI
    replace cP0 := bc hb ltP cP0
    replace cP1 := bc hb ltP cP1
    replace cP2 := bc hb ltP cP2
    replace cP3 := bc hb ltP cP3
    replace ltP := bl hb ltP
    replace cQ0 := bc hb ltQ cQ0
    replace cQ1 := bc hb ltQ cQ1
    replace cQ2 := bc hb ltQ cQ2
    replace cQ3 := bc hb ltQ cQ3
    replace ltQ := bl hb ltQ
    replace cA0 := bc hb ltA cA0
    replace cA1 := bc hb ltA cA1
    replace cA2 := bc hb ltA cA2
    replace ltA := bl hb ltA
    replace cG0 := bc hb ltG cG0
    replace cG1 := bc hb ltG cG1
    replace cG2 := bc hb ltG cG2
    replace ltG := bl hb ltG
    replace cB0 := bc hb ltB cB0
    replace cB1 := bc hb ltB cB1
    replace cB2 := bc hb ltB cB2
    replace ltB := bl hb ltB
    replace cE0 := bc hb ltE cE0
    replace cE1 := bc hb ltE cE1
    replace cE2 := bc hb ltE cE2
    replace ltE := bl hb ltE
    replace cF0 := bc hb ltF cF0
    replace cF1 := bc hb ltF cF1
    replace cF2 := bc hb ltF cF2
    replace ltF := bl hb ltF
    replace HX := Lib.hid (HX.out.below hb)
    replace HO := Lib.hid (HO.out.below hb)
    replace HL := Lib.hid (HL.out.below hb)
    replace HB := Lib.hid (HB.out.below hb)
    replace HVi := Lib.hid (HVi.out.below hb)
    replace HPp := Lib.hid (HPp.out.below hb)
    replace HPq := Lib.hid (HPq.out.below hb)
    replace HVa := Lib.hid (HVa.out.below hb)
    replace HVg := Lib.hid (HVg.out.below hb)
    replace HVb := Lib.hid (HVb.out.below hb)
    replace HVe := Lib.hid (HVe.out.below hb)
    replace HVf := Lib.hid (HVf.out.below hb)
    replace hB := hB.trans (hb.mono hB.size)
    clear hb
    go_wp2_with fail
    refine (awake_any _).mono ?_
    rintro e w16 ⟨rfl, hb⟩
    replace cI0 := bc hb ltI cI0
    replace cI1 := bc hb ltI cI1
    replace cI2 := bc hb ltI cI2
    replace ltI := bl hb ltI
    replace cP0 := bc hb ltP cP0
    replace cP1 := bc hb ltP cP1
    replace cP2 := bc hb ltP cP2
    replace cP3 := bc hb ltP cP3
    replace ltP := bl hb ltP
    replace cQ0 := bc hb ltQ cQ0
    replace cQ1 := bc hb ltQ cQ1
    replace cQ2 := bc hb ltQ cQ2
    replace cQ3 := bc hb ltQ cQ3
    replace ltQ := bl hb ltQ
    replace cA0 := bc hb ltA cA0
    replace cA1 := bc hb ltA cA1
    replace cA2 := bc hb ltA cA2
    replace ltA := bl hb ltA
    replace cG0 := bc hb ltG cG0
    replace cG1 := bc hb ltG cG1
    replace cG2 := bc hb ltG cG2
    replace ltG := bl hb ltG
    replace cB0 := bc hb ltB cB0
    replace cB1 := bc hb ltB cB1
    replace cB2 := bc hb ltB cB2
    replace ltB := bl hb ltB
    replace cE0 := bc hb ltE cE0
    replace cE1 := bc hb ltE cE1
    replace cE2 := bc hb ltE cE2
    replace ltE := bl hb ltE
    replace cF0 := bc hb ltF cF0
    replace cF1 := bc hb ltF cF1
    replace cF2 := bc hb ltF cF2
    replace ltF := bl hb ltF
    replace HX := Lib.hid (HX.out.below hb)
    replace HO := Lib.hid (HO.out.below hb)
    replace HL := Lib.hid (HL.out.below hb)
    replace HB := Lib.hid (HB.out.below hb)
    replace HVi := Lib.hid (HVi.out.below hb)
    replace HPp := Lib.hid (HPp.out.below hb)
    replace HPq := Lib.hid (HPq.out.below hb)
    replace HVa := Lib.hid (HVa.out.below hb)
    replace HVg := Lib.hid (HVg.out.below hb)
    replace HVb := Lib.hid (HVb.out.below hb)
    replace HVe := Lib.hid (HVe.out.below hb)
    replace HVf := Lib.hid (HVf.out.below hb)
    replace hB := hB.trans (hb.mono hB.size)
    clear hb
    go_wp2_with fail
    go_ret
    exact ⟨rfl, hB⟩

theorem uploadOrder_walk {H : Type} {enc : TypeId × Value → H} (W : World) (base : Nat) (args : Array Value) (ds gs : List (DataW H)) (before : List MemPlace)
    (hval : ∀ (j : Nat) t v, Try.f4.params[j]? = some t → args[j]? = some v → Value.okWide Try.prog W .any base t v)
    (hW : DataW.Whole enc Try.prog Try.f4.params.toList Rows.uploadOrderSpec.vars false W args.toList ds gs before)
    (_hsz : (DataW.weightsEach Try.prog (Try.f4.params.toList ++ Rows.uploadOrderSpec.plain.varTypes Try.prog) (ds ++ gs)).all (· ≤ reachBytes) = true) :
    Calls Try.prog 4 args W fun e w' => e = .returned (.bool true) ∧ Below W.heap.size W w' := by
  obtain ⟨p, q, hA, hV, -, -, -⟩ := hW
  obtain ⟨rfl, -⟩ := trodVars_none hV
  rw [Try.params4] at hA hval
  obtain ⟨v0, vs0, d0, ds0, p0, q0, hargs, rfl, rfl, h0, r0⟩ := trodAll_cons hA
  obtain ⟨v1, vs1, d1, ds1, p1, q1, rfl, rfl, rfl, h1, r1⟩ := trodAll_cons r0
  obtain ⟨v2, vs2, d2, ds2, p2, q2, rfl, rfl, rfl, h2, r2⟩ := trodAll_cons r1
  obtain ⟨v3, vs3, d3, ds3, p3, q3, rfl, rfl, rfl, h3, r3⟩ := trodAll_cons r2
  obtain ⟨v4, vs4, d4, ds4, p4, q4, rfl, rfl, rfl, h4, r4⟩ := trodAll_cons r3
  obtain ⟨rfl, rfl, rfl⟩ := trodAll_nil r4
  obtain rfl : args = #[v0, v1, v2, v3, v4] := by cases args; simp_all
  obtain ⟨a, len, cap, zs, rfl, hr, hz⟩ := open_row Try.underlying22 Try.underlying5 (by kernel_rfl) (hval 0 _ _ rfl rfl) h0
  obtain ⟨ys, -, hy⟩ := bytes_of rfl hr
  obtain ⟨x, y, rfl⟩ := open_size (hval 1 _ _ rfl rfl) h1
  obtain ⟨a2, len2, cap2, zs2, rfl, hr2, hz2⟩ := open_row Try.underlying22 Try.underlying5 (by kernel_rfl) (hval 2 _ _ rfl rfl) h2
  obtain ⟨ys2, -, hy2⟩ := bytes_of rfl hr2
  obtain ⟨i3, rfl, -, w3⟩ := open_num Try.underlying5 (hval 3 _ _ rfl rfl) h3
  obtain ⟨n3, rfl⟩ := u8_of i3 w3
  obtain ⟨i4, rfl, -, w4⟩ := open_num Try.underlying5 (hval 4 _ _ rfl rfl) h4
  obtain ⟨n4, rfl⟩ := u8_of i4 w4
  exact uploadOrder_calls ys ys2 x y n3 n4 a a2 len cap len2 cap2 W hy hy2

set_option maxRecDepth 100000 in
theorem uploadOrder_lifted (os : Os) (started : os.Started) (H : Type) (enc : TypeId × Value → H) :
    ReturnsInHanded {} Try.checked os 4 .any (Rows.uploadOrderSpec.pre6 enc Try.prog Try.f4 Rows.uploadOrderRow.domain false) (Rows.uploadOrderSpec.post enc Try.prog Try.f4 false true false false) := by
  refine returnsInHanded_of_change_sized (C := Try.checked) own started (by kernel_rfl) Try.func4
    (ChangeSpec.witness6 (enc := enc) (C := Try.checked) false ⟨#[], #[.slice none 0 0, .agg #[.int .u8 0, .int .u8 0], .slice none 0 0, .int .u8 0, .int .u8 0], []⟩ 8 (by kernel_rfl) (by kernel_rfl) (by kernel_rfl) (by kernel_rfl)) ?_
  intro W base args ds gs before hval hW _ hsz _
  exact law_post rfl (by kernel_rfl) (by kernel_rfl) (fun ds h => match ds, h with | [d0, d1, d2, d3, d4], _ => ⟨rfl, rfl, rfl⟩) hW (uploadOrder_walk W base args ds gs before hval hW hsz)

theorem uploadOrder_over : Rows.uploadOrderRow.holds Try.pinned (OpenSpec.ofChange Rows.uploadOrderSpec) :=
  OpenClaim.holds_of_wide 4 Try.f4 rfl rfl rfl rfl rfl rfl rfl ⟨rfl, rfl, rfl, rfl, rfl⟩ rfl rfl rfl rfl rfl (by kernel_rfl) Try.func4 (by kernel_rfl)
    (of_decide_eq_true (by kernel_rfl)) (by unfold Func.isWrapper; first | (rw [if_pos (by decide +kernel)]; kernel_rfl) | (rw [if_neg (by decide +kernel)]; exact ⟨rfl, rfl⟩))
    (fun os started H enc _ => uploadOrder_lifted os started H enc)

theorem uploadOrder_proved : Rows.UploadOrderSaid := uploadOrder_over

end Go.Proofs.Ytpdodapdaeochaa
