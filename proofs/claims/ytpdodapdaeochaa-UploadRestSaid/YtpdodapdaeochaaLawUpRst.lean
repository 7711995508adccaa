/- UploadRest: an inbox that receives the rest of a journal has all of it: the law returns true. No condition. -/
import Derived.Test.YtpdodapdaeochaaUpS
namespace Go.Proofs.Ytpdodapdaeochaa
set_option maxRecDepth 100000
open Go.ChangeShapes Go.WideShapes Go.ChangeAt Go.RowKit

theorem below_gby {w w' : World} {g B : Nat} (h : w.grownBy w' (some g)) (hg : B ≤ g) (hB : B ≤ w.heap.size) : Below B w w' :=
  ⟨h.os, h.tape, h.output, h.size, fun i hi => h.block i (by omega) (by simp; omega)⟩
def GB (w0 : World) (g : Nat) (w : World) : Prop := w0.grownBy w (some g)
theorem GB.below {w0 w w' : World} {g : Nat} (h : GB w0 g w) (hb : Below w.heap.size w w') : GB w0 g w' := gby_trans h ⟨hb.os, hb.tape, hb.output, hb.size, fun i hi _ => hb.block i hi⟩
theorem GB.refl (w : World) (g : Nat) : GB w g w := World.grownBy.refl w _
/-- what is known while the rest of a log is received -/
structure Rs (log : List UInt8) (d0 sz : Nat) (S : PK → Prop) (d : Nat) (l : List PK) (k : Nat) : Prop where
  inb : Inb 5 log d l
  can : Can S d l
  len : l.length ≤ 30 + k
  all : ∀ i, i < k → S (cutP log.length d0 sz i)
  ge : d0 ≤ d
theorem Rs.step {log : List UInt8} {d0 sz : Nat} {S : PK → Prop} {d : Nat} {l : List PK} {k : Nat} (h : Rs log d0 sz S d l k) (hk : k < 900) (hg : GoodQ log (cutP log.length d0 sz k)) : Rs log d0 sz (fun q => q = cutP log.length d0 sz k ∨ S q) (rxN d l (cutP log.length d0 sz k)).1 (rxN d l (cutP log.length d0 sz k)).2 (k + 1) ∧ d ≤ (rxN d l (cutP log.length d0 sz k)).1 := by
  have hl := h.len
  obtain ⟨a, b, c⟩ := rx_inb h.inb hg (by omega)
  have hge := h.ge
  refine ⟨⟨a, can_step h.can, by omega, fun i hi => ?_, by omega⟩, c⟩
  by_cases hik : i < k
  · exact .inr (h.all i hik)
  · obtain rfl : i = k := by omega
    exact .inl rfl
theorem Rs.done {log : List UInt8} {d0 sz : Nat} {S : PK → Prop} {d : Nat} {l : List PK} {k : Nat} (h : Rs log d0 sz S d l k) (hs : 1 ≤ sz) (hd0 : d0 ≤ log.length) (hk : k = cutN log.length d0 sz) : d = log.length ∧ l = [] := by
  have hdl := h.inb.dl
  have hge := h.ge
  have hd : d = log.length := by
    rcases Nat.lt_or_ge d log.length with h9 | h9
    · have e := Nat.div_add_mod (d - d0) sz
      have hm := Nat.mod_lt (d - d0) (show 0 < sz by omega)
      have e2 : d0 + (d - d0) / sz * sz ≤ d := by rw [Nat.mul_comm]; omega
      have e3 : d < d0 + (d - d0) / sz * sz + sz := by rw [Nat.mul_comm]; omega
      have hi : (d - d0) / sz < k := by
        rw [hk]; exact (cutN_iff hs hd0).2 (by omega)
      have h1 := h.can.2.2.1 _ (h.all _ hi) e2
      have h2 : (cutP log.length d0 sz ((d - d0) / sz)).1 + (cutP log.length d0 sz ((d - d0) / sz)).2 = d0 + (d - d0) / sz * sz + min sz (log.length - (d0 + (d - d0) / sz * sz)) := rfl
      rw [h2] at h1
      omega
    · omega
  refine ⟨hd, ?_⟩
  rcases l with _ | ⟨q, l⟩
  · rfl
  · have := h.inb.mem q (by simp)
    obtain ⟨⟨h1, -, h2⟩, h3⟩ := this
    omega
theorem OkC_small {m d sz : Nat} (hs : 1 ≤ sz) (hs2 : sz ≤ 2000) (hm : m ≤ 80) : OkC (5 : Nat) m d (sz : Int) := by
  refine ⟨by decide, by omega, by omega, by omega, ?_⟩
  rw [show ((sz : Nat) : Int).toNat = sz by omega]
  unfold cutN
  have : (m - d + sz - 1) / sz ≤ 80 + 1 := by
    refine Nat.div_le_of_le_mul ?_
    have h9 : 81 ≤ sz * 81 := by omega
    omega
  omega
set_option maxHeartbeats 16000000 in
theorem uploadRest_calls (xs ord : List UInt8) (x y z : UInt8) (a ao : Option Addr) (len cap lo co : Nat) (w : World) (hx : Bytes w a len cap xs) (ho : Bytes w ao lo co ord) :
    Calls Try.prog 8 #[.slice a len cap, .agg #[.int .u8 (x.toNat : Int), .int .u8 (y.toNat : Int)], .slice ao lo co, .int .u8 (z.toNat : Int)] w fun e w' => e = .returned (.bool true) ∧ Below w.heap.size w w' := by
  have HX := Lib.hid hx
  have HO := Lib.hid ho
  obtain ⟨m, hm⟩ : ∃ m, m = min len 80 := ⟨_, rfl⟩
  have HM := Lib.hid hm
  have hm8 : m ≤ 80 := by omega
  obtain ⟨s1, h1⟩ : ∃ s1, s1 = x.toNat % 16 + 1 := ⟨_, rfl⟩
  obtain ⟨s2, h2⟩ : ∃ s2, s2 = y.toNat % 16 + 1 := ⟨_, rfl⟩
  have H1 := Lib.hid h1
  have H2 := Lib.hid h2
  have hs1 : 1 ≤ s1 ∧ s1 ≤ 16 := by omega
  have hs2 : 1 ≤ s2 ∧ s2 ≤ 16 := by omega
  have HLm := Lib.hid (show (xs.take m).length = m by rw [List.length_take, hx.1]; omega)
  have HG := Lib.hid (show ∀ i, i < fleetN m s1 s2 → GoodQ (xs.take m) (fleetQ m s1 s2 i) from fun i hi => by
    have h9 := fleet_good (log := xs.take m) (s1 := s1) (s2 := s2) (i := i) hs1.1 (by omega) hs2.1 (by omega) (by rw [HLm.out]; exact hi)
    rwa [HLm.out] at h9)
  have HLl := Lib.hid (show (xs.take m).length ≤ 1048576 by rw [HLm.out]; omega)
  clear hx ho hm h1 h2
  go_enter Try.func8, Try.ntmps8
  go_wp2_with fail
  have hbx : Below w.heap.size w (w.alloc (.cells #[.int .u8 (x.toNat : Int), .int .u8 (y.toNat : Int)] 23)) := ((Below.refl _ _).alloc (Nat.le_refl _) _)
  generalize hWW : (w.alloc (.cells #[.int .u8 (x.toNat : Int), .int .u8 (y.toNat : Int)] 23)) = w0 at *
  replace HX := Lib.hid (HX.out.below hbx)
  replace HO := Lib.hid (HO.out.below hbx)
  have cZ0 : w0.cell? ⟨w.heap.size, 0, none⟩ = some (.int .u8 (x.toNat : Int)) := by subst hWW; go_simp
  have cZ1 : w0.cell? ⟨w.heap.size, 1, none⟩ = some (.int .u8 (y.toNat : Int)) := by subst hWW; go_simp
  have ltZ : w.heap.size < w0.heap.size := by subst hWW; simp
  have hB := hbx
  clear hbx hWW
  refine (fleet_any xs x y a len cap m s1 s2 _ HX.out HM.out H1.out H2.out).mono ?_
  rintro e w1 ⟨b, c, rfl, hl, hb⟩
  replace cZ0 := bc hb ltZ cZ0
  replace cZ1 := bc hb ltZ cZ1
  replace ltZ := bl hb ltZ
  replace HX := Lib.hid (HX.out.below hb)
  replace HO := Lib.hid (HO.out.below hb)
  replace hB := hB.trans (hb.mono hB.size)
  have HL := Lib.hid hl
  have HB := Lib.hid (HX.out.pre m (by have := HM.out; omega))
  clear hl H1 H2
  clear hb
  clear cZ0 cZ1 ltZ
  generalize fleetN m s1 s2 = n at *
  generalize fleetQ m s1 s2 = L at *
  generalize xs.take m = log at *
  obtain ⟨sz, hsz⟩ : ∃ sz, sz = z.toNat % 20 + 1 := ⟨_, rfl⟩
  have ez : (z.toNat : Int) % 20 + 1 = sz := by omega
  have hz1 : 1 ≤ sz ∧ sz ≤ 20 := by omega
  clear hsz
  go_wp2_with fail
  refine (state_any log L ord b ao n c lo co _ HLl.out HG.out HL.out HO.out).mono ?_
  rintro e w2 ⟨d, l, S, p0i, r0i, p1i, ki, r1i, rfl, hv, hst, hb⟩
  replace HX := Lib.hid (HX.out.below hb)
  replace HO := Lib.hid (HO.out.below hb)
  replace HL := Lib.hid (HL.out.below hb)
  replace HB := Lib.hid (HB.out.below hb)
  replace hB := hB.trans (hb.mono hB.size)
  have HVi := Lib.hid hv
  have HSi := Lib.hid hst
  have hdm : d ≤ m := by rw [← HLm.out]; exact hst.inb.dl
  have hgE := hB.size
  clear hv hst
  clear hb
  have hba : Below w2.heap.size w2 (w2.alloc (.cells #[.int .i64 5, .slice p0i d r0i, .slice p1i ki r1i] 28)) := (Below.refl _ _).alloc (Nat.le_refl _) _
  go_wp2_with fail
  clear hba
  have hbx : Below w2.heap.size w2 (w2.alloc (.cells #[.int .i64 5, .slice p0i d r0i, .slice p1i ki r1i] 28)) := ((Below.refl _ _).alloc (Nat.le_refl _) _)
  have HE := Lib.hid (show IB (w2.alloc (.cells #[.int .i64 5, .slice p0i d r0i, .slice p1i ki r1i] 28)) w2.heap.size 5 d p0i r0i p1i ki r1i from heap_alloc_new _ _)
  generalize hWW : (w2.alloc (.cells #[.int .i64 5, .slice p0i d r0i, .slice p1i ki r1i] 28)) = w3 at *
  replace HX := Lib.hid (HX.out.below hbx)
  replace HO := Lib.hid (HO.out.below hbx)
  replace HL := Lib.hid (HL.out.below hbx)
  replace HB := Lib.hid (HB.out.below hbx)
  replace HVi := Lib.hid (HVi.out.below hbx)
  have cE0 : w3.cell? ⟨w2.heap.size, 0, none⟩ = some (.int .i64 5) := by subst hWW; go_simp
  have cE1 : w3.cell? ⟨w2.heap.size, 1, none⟩ = some (.slice p0i d r0i) := by subst hWW; go_simp
  have cE2 : w3.cell? ⟨w2.heap.size, 2, none⟩ = some (.slice p1i ki r1i) := by subst hWW; go_simp
  have ltE : w2.heap.size < w3.heap.size := by subst hWW; simp
  replace hB := hB.trans (hbx.mono hB.size)
  clear hbx hWW
  refine (rest_ok 5 (log.take d) log p0i p1i a d r0i ki r1i m cap sz _ HVi.out.da HB.out (List.take_prefix _ _) (OkC_small hz1.1 (by omega) hm8)).mono ?_
  rintro e w4 ⟨br, cr, rfl, hr, hb⟩
  replace cE0 := bc hb ltE cE0
  replace cE1 := bc hb ltE cE1
  replace cE2 := bc hb ltE cE2
  replace ltE := bl hb ltE
  replace HX := Lib.hid (HX.out.below hb)
  replace HO := Lib.hid (HO.out.below hb)
  replace HL := Lib.hid (HL.out.below hb)
  replace HB := Lib.hid (HB.out.below hb)
  replace HVi := Lib.hid (HVi.out.below hb)
  replace HE := Lib.hid (HE.out.below hb)
  replace hB := hB.trans (hb.mono hB.size)
  have HR := Lib.hid hr
  clear hr
  have HNr := Lib.hid (show cutN m d sz = cutN log.length d sz by rw [HLm.out])
  have HGr := Lib.hid (show ∀ i, i < cutN m d sz → GoodQ log (cutP m d sz i) from fun i hi => by rw [← HLm.out] at hi hdm ⊢; exact cutP_good hz1.1 (by omega) hdm hi)
  have hn9 : cutN m d sz ≤ 81 := by
    unfold cutN
    refine Nat.div_le_of_le_mul ?_
    have h9 : 81 ≤ sz * 81 := by omega
    omega
  have HRs := Lib.hid (show Rs log d sz S d l 0 from ⟨HSi.out.inb, HSi.out.can, HSi.out.len, fun i hi => by omega, Nat.le_refl _⟩)
  generalize hnr : cutN m d sz = nr at *
  clear hnr
  clear hb
  go_wp2_with fail
  have HB4 := Lib.hid hB
  have HZ : w4.heap.size = w4.heap.size := rfl
  clear cE0 cE1 cE2 ltE HX HO HL HZ hB
  generalize w2.heap.size = gE at *
  rw [HLm.out.symm] at HR HGr
  go_loopw [55] (fun i wr => ∃ (k d' kk c0 c1 : Nat) (l' : List PK) (S' : PK → Prop) (a0 a1 : Option Addr), k ≤ nr ∧ i = .int .i64 k ∧ Hid (Rs log d sz S' d' l' k) ∧ Hid (GB w4 gE wr) ∧ Hid (IB wr gE 5 d' a0 c0 a1 kk c1) ∧ Hid (InX wr 5 log d' l' a0 c0 a1 kk c1)) (fun i _ => nr - (intOf i).toNat)
  case atStart => exact ⟨0, d, ki, r0i, r1i, l, S, p0i, p1i, by omega, rfl, HRs, Lib.hid (GB.refl _ _), HE, HVi⟩
  case round =>
    clear HRs HVi
    generalize wr = wq at *
    obtain ⟨k, d', kk, c0, c1, l', S', a0, a1, hk, rfl, HRs, HGB, HEq, HV⟩ := hrel
    have HRq := Lib.hid (HR.out.gbyIB HE.out HGB.out)
    have HBq := Lib.hid (HB.out.gby HGB.out fun j hj => by cases hj; exact HB.out.offIB HE.out)
    have hBq := HB4.out.trans (below_gby HGB.out hgE HB4.out.size)
    obtain ⟨cE0, cE1, cE2, fE0, fE1, fE2, ltE⟩ := HEq.out.cells
    by_cases hlt : k < nr
    · obtain ⟨b2, off2, rfl, pp, ap, np, cp, up, hp⟩ := HRq.out.pkc hlt (HGr.out k hlt)
      have HP := Lib.hid hp
      have x0 := hp.c0
      have x1 := hp.c1
      have x2 := hp.c2
      have x3 := hp.c3
      have xl := hp.lt
      have hB := hBq
      clear hp hBq
      have hba : Below wq.heap.size wq (wq.alloc (.cells #[.int .i64 5, .int .i64 pp, .slice ap np cp, .int .u64 (up.toNat : Int)] 35)) := (Below.refl _ _).alloc (Nat.le_refl _) _
      have nE0 := bc hba ltE cE0
      have nE1 := bc hba ltE cE1
      have nE2 := bc hba ltE cE2
      have nx0 := bc hba xl x0
      have nx1 := bc hba xl x1
      have nx2 := bc hba xl x2
      have nx3 := bc hba xl x3
      go_wp2_with fail
      clear hba nE0 nE1 nE2 nx0 nx1 nx2 nx3
      have hbx : Below wq.heap.size wq (wq.alloc (.cells #[.int .i64 5, .int .i64 pp, .slice ap np cp, .int .u64 (up.toNat : Int)] 35)) := ((Below.refl _ _).alloc (Nat.le_refl _) _)
      generalize hWW : (wq.alloc (.cells #[.int .i64 5, .int .i64 pp, .slice ap np cp, .int .u64 (up.toNat : Int)] 35)) = wx at *
      replace cE0 := bc hbx ltE cE0
      replace fE0 := bf hbx ltE fE0
      replace cE1 := bc hbx ltE cE1
      replace fE1 := bf hbx ltE fE1
      replace cE2 := bc hbx ltE cE2
      replace fE2 := bf hbx ltE fE2
      replace ltE := bl hbx ltE
      replace HP := Lib.hid (HP.out.below hbx)
      replace HV := Lib.hid (HV.out.below hbx)
      replace HEq := Lib.hid (HEq.out.below hbx)
      replace HGB := Lib.hid (HGB.out.below hbx)
      replace HBq := Lib.hid (HBq.out.below hbx)
      have cP0 : wx.cell? ⟨wq.heap.size, 0, none⟩ = some (.int .i64 5) := by subst hWW; go_simp
      have cP1 : wx.cell? ⟨wq.heap.size, 1, none⟩ = some (.int .i64 pp) := by subst hWW; go_simp
      have cP2 : wx.cell? ⟨wq.heap.size, 2, none⟩ = some (.slice ap np cp) := by subst hWW; go_simp
      have cP3 : wx.cell? ⟨wq.heap.size, 3, none⟩ = some (.int .u64 (up.toNat : Int)) := by subst hWW; go_simp
      have ltP : wq.heap.size < wx.heap.size := by subst hWW; simp
      replace hB := hB.trans (hbx.mono hB.size)
      clear hbx hWW
      clear x0 x1 x2 x3 xl
      refine (recx (rxN d' l' (cutP log.length d sz k)).1 (rxN d' l' (cutP log.length d sz k)).2 _ HRs.out.inb (HGr.out k hlt) rfl HV.out HP.out).mono ?_
      rintro e wy ⟨p0, r0, p1, k2, r1, rfl, hv, hb⟩
      replace cE0 := bc hb ltE cE0
      replace fE0 := bf hb ltE fE0
      replace cE1 := bc hb ltE cE1
      replace fE1 := bf hb ltE fE1
      replace cE2 := bc hb ltE cE2
      replace fE2 := bf hb ltE fE2
      replace ltE := bl hb ltE
      replace cP0 := bc hb ltP cP0
      replace cP1 := bc hb ltP cP1
      replace cP2 := bc hb ltP cP2
      replace cP3 := bc hb ltP cP3
      replace ltP := bl hb ltP
      replace HP := Lib.hid (HP.out.below hb)
      replace HV := Lib.hid (HV.out.below hb)
      replace HEq := Lib.hid (HEq.out.below hb)
      replace HGB := Lib.hid (HGB.out.below hb)
      replace HBq := Lib.hid (HBq.out.below hb)
      replace hB := hB.trans (hb.mono hB.size)
      obtain ⟨hs9, hs8⟩ := HRs.out.step (by omega) (HGr.out k hlt)
      have HRn := Lib.hid hs9
      generalize (rxN d' l' (cutP log.length d sz k)).1 = d2 at *
      generalize (rxN d' l' (cutP log.length d sz k)).2 = l2 at *
      have HVn := Lib.hid hv
      have dn : decide (d2 < d') = false := decide_eq_false (by omega)
      clear hv hs9
      clear hb
      clear cP0 cP1 cP2 cP3 ltP
      have hba : Below wy.heap.size wy (wy.alloc (.cells #[.int .i64 5, .slice p0 d2 r0, .slice p1 k2 r1] 28)) := (Below.refl _ _).alloc (Nat.le_refl _) _
      have nE0 := bc hba ltE cE0
      have nE1 := bc hba ltE cE1
      have nE2 := bc hba ltE cE2
      go_wp2_with fail
      clear hba nE0 nE1 nE2
      have hbx : Below wy.heap.size wy (wy.alloc (.cells #[.int .i64 5, .slice p0 d2 r0, .slice p1 k2 r1] 28)) := ((Below.refl _ _).alloc (Nat.le_refl _) _)
      generalize hWW : (wy.alloc (.cells #[.int .i64 5, .slice p0 d2 r0, .slice p1 k2 r1] 28)) = wz at *
      replace cE0 := bc hbx ltE cE0
      replace fE0 := bf hbx ltE fE0
      replace cE1 := bc hbx ltE cE1
      replace fE1 := bf hbx ltE fE1
      replace cE2 := bc hbx ltE cE2
      replace fE2 := bf hbx ltE fE2
      replace ltE := bl hbx ltE
      replace HP := Lib.hid (HP.out.below hbx)
      replace HV := Lib.hid (HV.out.below hbx)
      replace HEq := Lib.hid (HEq.out.below hbx)
      replace HGB := Lib.hid (HGB.out.below hbx)
      replace HBq := Lib.hid (HBq.out.below hbx)
      replace HVn := Lib.hid (HVn.out.below hbx)
      have cN0 : wz.cell? ⟨wy.heap.size, 0, none⟩ = some (.int .i64 5) := by subst hWW; go_simp
      have cN1 : wz.cell? ⟨wy.heap.size, 1, none⟩ = some (.slice p0 d2 r0) := by subst hWW; go_simp
      have cN2 : wz.cell? ⟨wy.heap.size, 2, none⟩ = some (.slice p1 k2 r1) := by subst hWW; go_simp
      have ltN : wy.heap.size < wz.heap.size := by subst hWW; simp
      replace hB := hB.trans (hbx.mono hB.size)
      clear hbx hWW
      have eE0 := box_ext (B := wz.heap.size) cE0 ltE
      have eE1 := box_ext (B := wz.heap.size) cE1 ltE
      have eE2 := box_ext (B := wz.heap.size) cE2 ltE
      have eN0 := box_ext (B := wz.heap.size) cN0 ltN
      have eN1 := box_ext (B := wz.heap.size) cN1 ltN
      have eN2 := box_ext (B := wz.heap.size) cN2 ltN
      refine wp_region_sched [(0, false), (1, false), (2, false), (3, false), (5, false), (4, true), (6, true), (7, false), (8, false)] (fun w' => ∃ W : Ext wz.heap.size wz, w' = W.1) (by kernel_rfl) (by kernel_rfl) ⟨⟨wz.drew, (Below.refl _ _).drew⟩, rfl⟩ ?_
      repeat (refine wpSched_calm rfl (fun K hK => ?_); go_simp; refine hK _ ?_; clear hK K)
      clear eE0 eE1 eE2 eN0 eN1 eN2
      have hbx : Below wz.heap.size wz wz.drew := (Below.refl _ _).drew
      have hM := hbx
      replace cE0 := bc hbx ltE cE0
      replace fE0 := bf hbx ltE fE0
      replace cE1 := bc hbx ltE cE1
      replace fE1 := bf hbx ltE fE1
      replace cE2 := bc hbx ltE cE2
      replace fE2 := bf hbx ltE fE2
      replace ltE := bl hbx ltE
      replace cN0 := bc hbx ltN cN0
      replace cN1 := bc hbx ltN cN1
      replace cN2 := bc hbx ltN cN2
      replace ltN := bl hbx ltN
      replace HP := Lib.hid (HP.out.below hbx)
      replace HV := Lib.hid (HV.out.below hbx)
      replace HEq := Lib.hid (HEq.out.below hbx)
      replace HGB := Lib.hid (HGB.out.below hbx)
      replace HBq := Lib.hid (HBq.out.below hbx)
      replace HVn := Lib.hid (HVn.out.below hbx)
      replace hB := hB.trans (hbx.mono hB.size)
      clear hbx
      generalize wz.drew = wwzd at *
      refine wpSched_geff rfl ?_ (fun K hK => ?_)
      · go_simp
      go_simp
      refine (need_any 5 p0 p1 d2 r0 k2 r1 _).mono ?_
      rintro e wu ⟨rfl, hb⟩
      replace cE0 := bc hb ltE cE0
      replace fE0 := bf hb ltE fE0
      replace cE1 := bc hb ltE cE1
      replace fE1 := bf hb ltE fE1
      replace cE2 := bc hb ltE cE2
      replace fE2 := bf hb ltE fE2
      replace ltE := bl hb ltE
      replace cN0 := bc hb ltN cN0
      replace cN1 := bc hb ltN cN1
      replace cN2 := bc hb ltN cN2
      replace ltN := bl hb ltN
      replace HP := Lib.hid (HP.out.below hb)
      replace HV := Lib.hid (HV.out.below hb)
      replace HEq := Lib.hid (HEq.out.below hb)
      replace HGB := Lib.hid (HGB.out.below hb)
      replace HBq := Lib.hid (HBq.out.below hb)
      replace HVn := Lib.hid (HVn.out.below hb)
      replace hM := hM.trans (hb.mono hM.size)
      replace hB := hB.trans (hb.mono hB.size)
      clear hb
      refine hK _ _ ⟨⟨wu, hM⟩, rfl⟩ ?_
      clear hK K
      refine wpSched_geff rfl ?_ (fun K hK => ?_)
      · go_simp
      go_simp
      refine (need_any 5 a0 a1 d' c0 kk c1 _).mono ?_
      rintro e wv ⟨rfl, hb⟩
      replace cE0 := bc hb ltE cE0
      replace fE0 := bf hb ltE fE0
      replace cE1 := bc hb ltE cE1
      replace fE1 := bf hb ltE fE1
      replace cE2 := bc hb ltE cE2
      replace fE2 := bf hb ltE fE2
      replace ltE := bl hb ltE
      replace cN0 := bc hb ltN cN0
      replace cN1 := bc hb ltN cN1
      replace cN2 := bc hb ltN cN2
      replace ltN := bl hb ltN
      replace HP := Lib.hid (HP.out.below hb)
      replace HV := Lib.hid (HV.out.below hb)
      replace HEq := Lib.hid (HEq.out.below hb)
      replace HGB := Lib.hid (HGB.out.below hb)
      replace HBq := Lib.hid (HBq.out.below hb)
      replace HVn := Lib.hid (HVn.out.below hb)
      replace hM := hM.trans (hb.mono hM.size)
      replace hB := hB.trans (hb.mono hB.size)
      clear hb
      refine hK _ _ ⟨⟨wv, hM⟩, rfl⟩ ?_
      clear hK K
      repeat (refine wpSched_calm rfl (fun K hK => ?_); go_simp; refine hK _ ?_; clear hK K)
      refine wpSched_nil ?_
      go_wp2_with fail
      have HVz := Lib.hid (HVn.out.gbyIB HEq.out (setI_gby wv gE 5 d2 p0 r0 p1 k2 r1))
      have HEz := Lib.hid (HEq.out.set 5 d2 p0 r0 p1 k2 r1)
      have HGz := Lib.hid (show GB w4 gE (setI wv gE 5 d2 p0 r0 p1 k2 r1) from gby_trans HGB.out (setI_gby wv gE 5 d2 p0 r0 p1 k2 r1))
      go_roundw
      case rel => exact ⟨k + 1, d2, k2, r0, r1, l2, _, p0, p1, by omega, by go_num, HRn, HGz, HEz, HVz⟩
      case measure => simp [intOf]; omega
    · obtain rfl : k = nr := by omega
      obtain ⟨hdm', hl0⟩ := HRs.out.done hz1.1 (by rw [HLm.out]; exact hdm) HNr.out
      subst hl0
      obtain rfl : kk = 0 := HV.out.kl.symm
      have hd9 : d' = m := by rw [hdm', HLm.out]
      subst hd9
      have HLt := Lib.hid (show log.take d' = log from List.take_of_length_le (by omega))
      have HC0 := Lib.hid (show cutN d' d' 1 = 0 by unfold cutN; simp)
      clear hdm' hlt
      have hB := hBq
      clear hBq fE0 fE1 fE2
      go_wp2_with fail
      refine (rest_ok 5 (log.take d') log a0 a1 a d' c0 0 c1 d' cap 1 _ HV.out.da HBq.out (List.take_prefix _ _) (OkC_small (by omega) (by omega) (by omega))).mono ?_
      rintro e wr1 ⟨b9, c9, rfl, -, hb⟩
      replace cE0 := bc hb ltE cE0
      replace cE1 := bc hb ltE cE1
      replace cE2 := bc hb ltE cE2
      replace ltE := bl hb ltE
      replace HV := Lib.hid (HV.out.below hb)
      replace HBq := Lib.hid (HBq.out.below hb)
      replace hB := hB.trans (hb.mono hB.size)
      rw [HC0.out]
      clear hb
      go_wp2_with fail
      refine (leq_t log a0 a d' c0 cap _ (by have h9 := HV.out.da; rwa [HLt.out] at h9) HBq.out).mono ?_
      rintro e wr2 ⟨rfl, hb⟩
      replace cE0 := bc hb ltE cE0
      replace cE1 := bc hb ltE cE1
      replace cE2 := bc hb ltE cE2
      replace ltE := bl hb ltE
      replace HV := Lib.hid (HV.out.below hb)
      replace HBq := Lib.hid (HBq.out.below hb)
      replace hB := hB.trans (hb.mono hB.size)
      clear hb
      go_wp2_with fail
      refine (awake_any _).mono ?_
      rintro e wr3 ⟨rfl, hb⟩
      replace cE0 := bc hb ltE cE0
      replace cE1 := bc hb ltE cE1
      replace cE2 := bc hb ltE cE2
      replace ltE := bl hb ltE
      replace HV := Lib.hid (HV.out.below hb)
      replace HBq := Lib.hid (HBq.out.below hb)
      replace hB := hB.trans (hb.mono hB.size)
      clear hb
      go_wp2_with fail
      go_ret
      exact ⟨rfl, hB⟩

theorem uploadRest_walk {H : Type} {enc : TypeId × Value → H} (W : World) (base : Nat) (args : Array Value) (ds gs : List (DataW H)) (before : List MemPlace)
    (hval : ∀ (j : Nat) t v, Try.f8.params[j]? = some t → args[j]? = some v → Value.okWide Try.prog W .any base t v)
    (hW : DataW.Whole enc Try.prog Try.f8.params.toList Rows.uploadRestSpec.vars false W args.toList ds gs before)
    (_hsz : (DataW.weightsEach Try.prog (Try.f8.params.toList ++ Rows.uploadRestSpec.plain.varTypes Try.prog) (ds ++ gs)).all (· ≤ reachBytes) = true) :
    Calls Try.prog 8 args W fun e w' => e = .returned (.bool true) ∧ Below W.heap.size W w' := by
  obtain ⟨p, q, hA, hV, -, -, -⟩ := hW
  obtain ⟨rfl, -⟩ := trodVars_none hV
  rw [Try.params8] at hA hval
  obtain ⟨v0, v1, v2, v3, d0, d1, d2, d3, p0, p1, p2, p3, rfl, rfl, rfl, h0, h1, h2, h3⟩ := trodAll_four hA
  obtain ⟨a, len, cap, zs, rfl, hr, hz⟩ := open_row Try.underlying22 Try.underlying5 (by kernel_rfl) (hval 0 _ _ rfl rfl) h0
  obtain ⟨ys, -, hy⟩ := bytes_of rfl hr
  obtain ⟨x, y, rfl⟩ := open_size (hval 1 _ _ rfl rfl) h1
  obtain ⟨a2, len2, cap2, zs2, rfl, hr2, hz2⟩ := open_row Try.underlying22 Try.underlying5 (by kernel_rfl) (hval 2 _ _ rfl rfl) h2
  obtain ⟨ys2, -, hy2⟩ := bytes_of rfl hr2
  obtain ⟨i3, rfl, -, w3⟩ := open_num Try.underlying5 (hval 3 _ _ rfl rfl) h3
  obtain ⟨n3, rfl⟩ := u8_of i3 w3
  exact uploadRest_calls ys ys2 x y n3 a a2 len cap len2 cap2 W hy hy2

set_option maxRecDepth 100000 in
theorem uploadRest_lifted (os : Os) (started : os.Started) (H : Type) (enc : TypeId × Value → H) :
    ReturnsInHanded {} Try.checked os 8 .any (Rows.uploadRestSpec.pre6 enc Try.prog Try.f8 Rows.uploadRestRow.domain false) (Rows.uploadRestSpec.post enc Try.prog Try.f8 false true false false) := by
  refine returnsInHanded_of_change_sized (C := Try.checked) own started (by kernel_rfl) Try.func8
    (ChangeSpec.witness6 (enc := enc) (C := Try.checked) false ⟨#[], #[.slice none 0 0, .agg #[.int .u8 0, .int .u8 0], .slice none 0 0, .int .u8 0], []⟩ 8 (by kernel_rfl) (by kernel_rfl) (by kernel_rfl) (by kernel_rfl)) ?_
  intro W base args ds gs before hval hW _ hsz _
  exact law_post rfl (by kernel_rfl) (by kernel_rfl) (fun ds h => match ds, h with | [d0, d1, d2, d3], _ => ⟨rfl, rfl, rfl⟩) hW (uploadRest_walk W base args ds gs before hval hW hsz)

theorem uploadRest_over : Rows.uploadRestRow.holds Try.pinned (OpenSpec.ofChange Rows.uploadRestSpec) :=
  OpenClaim.holds_of_wide 8 Try.f8 rfl rfl rfl rfl rfl rfl rfl ⟨rfl, rfl, rfl, rfl, rfl⟩ rfl rfl rfl rfl rfl (by kernel_rfl) Try.func8 (by kernel_rfl)
    (of_decide_eq_true (by kernel_rfl)) (by unfold Func.isWrapper; first | (rw [if_pos (by decide +kernel)]; kernel_rfl) | (rw [if_neg (by decide +kernel)]; exact ⟨rfl, rfl⟩))
    (fun os started H enc _ => uploadRest_lifted os started H enc)

theorem uploadRest_proved : Rows.UploadRestSaid := uploadRest_over

end Go.Proofs.Ytpdodapdaeochaa
