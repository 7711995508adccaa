/- Uploads: what state returns. No condition. -/
import Derived.Test.YtpdodapdaeochaaUpQ
namespace Go.Proofs.Ytpdodapdaeochaa
set_option maxRecDepth 100000
open Go.RowKit

/-- an inbox in a block of its own -/
def IB (w : World) (g : Nat) (s : Int) (d : Nat) (a0 : Option Addr) (c0 : Nat) (a1 : Option Addr) (k c1 : Nat) : Prop := w.heap[g]? = some (.cells #[.int .i64 s, .slice a0 d c0, .slice a1 k c1] 28)
theorem IB.below {w w' : World} {g : Nat} {s : Int} {d : Nat} {a0 : Option Addr} {c0 : Nat} {a1 : Option Addr} {k c1 : Nat} (h : IB w g s d a0 c0 a1 k c1) (hb : Below w.heap.size w w') : IB w' g s d a0 c0 a1 k c1 := blk_below h hb
theorem Bytes.offIB {w : World} {a : Option Addr} {n c : Nat} {xs : List UInt8} (h : Bytes w a n c xs) {g : Nat} {s : Int} {d : Nat} {a0 : Option Addr} {c0 : Nat} {a1 : Option Addr} {k c1 : Nat} (hg : IB w g s d a0 c0 a1 k c1) : OffB g a n := by
  unfold IB at hg
  obtain ⟨h1, h2, h3, h4, h5⟩ := h
  rcases h5 with h5 | ⟨b, off, rfl, hlt, hc⟩
  · exact .inl h5
  rcases Nat.eq_zero_or_pos n with h0 | h0
  · exact .inl h0
  refine .inr fun x hx e => ?_
  cases hx
  have e' : b = g := e
  subst e'
  have := hc 0 h0
  rw [blk_cell hg] at this
  rcases off with _ | _ | _ | off <;> simp at this
theorem PksIn.gbyIB {w w' : World} {a : Option Addr} {n c : Nat} {f : Nat → PkM} (h : PksIn w a n c f) {g : Nat} {s : Int} {d : Nat} {a0 : Option Addr} {c0 : Nat} {a1 : Option Addr} {k c1 : Nat} (hg : IB w g s d a0 c0 a1 k c1) (hb : w.grownBy w' (some g)) : PksIn w' a n c f := by
  have hg' := hg
  unfold IB at hg
  obtain ⟨h1, h2, h3, h4⟩ := h
  refine ⟨h1, h2, h3, ?_⟩
  rcases h4 with h4 | ⟨b, off, rfl, hlt, hc⟩
  · exact .inl h4
  rcases Nat.eq_zero_or_pos n with h0 | h0
  · exact .inl h0
  have hne : b ≠ g := by
    intro e
    subst e
    obtain ⟨a, m, c, e0, e1, -⟩ := hc 0 h0
    rw [blk_cell hg] at e0 e1
    rcases off with _ | _ | _ | off <;> simp at e0 e1
  have hbl := hb.block b hlt (by simpa using hne)
  refine .inr ⟨b, off, rfl, Nat.lt_of_lt_of_le hlt hb.size, fun i hi => ?_⟩
  obtain ⟨a, m, c, e0, e1, e2, e3, e4⟩ := hc i hi
  have hcell : ∀ o, w'.cell? ⟨b, o, none⟩ = w.cell? ⟨b, o, none⟩ := fun o => by simp only [World.cell?, hbl]
  exact ⟨a, m, c, by rw [hcell]; exact e0, by rw [hcell]; exact e1, by rw [hcell]; exact e2, by rw [hcell]; exact e3, e4.gby hb fun j hj => by cases hj; exact e4.offIB hg'⟩
theorem InX.gbyIB {w w' : World} {s : Nat} {log : List UInt8} {d : Nat} {l : List PK} {b0 : Option Addr} {e0 : Nat} {b1 : Option Addr} {kk e1 : Nat} (h : InX w s log d l b0 e0 b1 kk e1) {g : Nat} {s' : Int} {d' : Nat} {a0 : Option Addr} {c0 : Nat} {a1 : Option Addr} {k c1 : Nat} (hg : IB w g s' d' a0 c0 a1 k c1) (hb : w.grownBy w' (some g)) : InX w' s log d l b0 e0 b1 kk e1 := ⟨h.kl, h.da.gby hb fun j hj => by cases hj; exact h.da.offIB hg, h.ps.gbyIB hg hb⟩
theorem IB.cells {w : World} {g : Nat} {s : Int} {d : Nat} {a0 : Option Addr} {c0 : Nat} {a1 : Option Addr} {k c1 : Nat} (h : IB w g s d a0 c0 a1 k c1) : w.cell? ⟨g, 0, none⟩ = some (.int .i64 s) ∧ w.cell? ⟨g, 1, none⟩ = some (.slice a0 d c0) ∧ w.cell? ⟨g, 2, none⟩ = some (.slice a1 k c1) ∧ w.frozen? ⟨g, 0, none⟩ = false ∧ w.frozen? ⟨g, 1, none⟩ = false ∧ w.frozen? ⟨g, 2, none⟩ = false ∧ g < w.heap.size :=
  ⟨(blk_cell h 0).trans rfl, (blk_cell h 1).trans rfl, (blk_cell h 2).trans rfl, blk_free h 0, blk_free h 1, blk_free h 2, blk_lt h⟩
/-- the three stores of an inbox -/
abbrev setI (w : World) (g : Nat) (s : Int) (d : Nat) (a0 : Option Addr) (c0 : Nat) (a1 : Option Addr) (k c1 : Nat) : World := ((w.setCell ⟨g, 0, none⟩ (.int .i64 s)).setCell ⟨g, 1, none⟩ (.slice a0 d c0)).setCell ⟨g, 2, none⟩ (.slice a1 k c1)
theorem setI_gby (w : World) (g : Nat) (s : Int) (d : Nat) (a0 : Option Addr) (c0 : Nat) (a1 : Option Addr) (k c1 : Nat) : w.grownBy (setI w g s d a0 c0 a1 k c1) (some g) := gby_trans (gby_trans (gby_set _ _ _ _) (gby_set _ _ _ _)) (gby_set _ _ _ _)
theorem IB.set {w : World} {g : Nat} {s : Int} {d : Nat} {a0 : Option Addr} {c0 : Nat} {a1 : Option Addr} {k c1 : Nat} (h : IB w g s d a0 c0 a1 k c1) (s' : Int) (d' : Nat) (b0 : Option Addr) (e0 : Nat) (b1 : Option Addr) (k' e1 : Nat) : IB (setI w g s' d' b0 e0 b1 k' e1) g s' d' b0 e0 b1 k' e1 := by
  have := blk_set (o := 2) (blk_set (o := 1) (blk_set (o := 0) h (.int .i64 s')) (.slice b0 d' e0)) (.slice b1 k' e1)
  unfold IB setI; simpa using this
theorem IB.other {w w' : World} {g g' : Nat} {s : Int} {d : Nat} {a0 : Option Addr} {c0 : Nat} {a1 : Option Addr} {k c1 : Nat} (h : IB w g s d a0 c0 a1 k c1) (hb : w.grownBy w' (some g')) (hne : g' ≠ g) : IB w' g s d a0 c0 a1 k c1 := blk_by h hb (by simpa using hne)
theorem below_setI {B : Nat} {w w' : World} (h : Below B w w') {g : Nat} (hg : B ≤ g) (s : Int) (d : Nat) (a0 : Option Addr) (c0 : Nat) (a1 : Option Addr) (k c1 : Nat) : Below B w (setI w' g s d a0 c0 a1 k c1) :=
  ((h.setCell (p := ⟨g, 0, none⟩) hg _).setCell (p := ⟨g, 1, none⟩) hg _).setCell (p := ⟨g, 2, none⟩) hg _
theorem St.mono {log : List UInt8} {n : Nat} {L : Nat → PK} {S : PK → Prop} {d : Nat} {l : List PK} {j j' : Nat} (h : St log n L S d l j) (hj : j ≤ j') : St log n L S d l j' := ⟨h.inb, h.can, h.from_, Nat.le_trans h.len hj⟩
set_option maxHeartbeats 4000000 in
theorem state_any (log : List UInt8) (L : Nat → PK) (ord : List UInt8) (al ao : Option Addr) (n cl len co : Nat) (w : World) (hL : log.length ≤ 1048576) (hG : ∀ i, i < n → GoodQ log (L i)) (hl : PksIn w al n cl (fun i => pk 5 log (L i))) (ho : Bytes w ao len co ord) :
    Calls Try.prog 15 #[.slice al n cl, .slice ao len co] w fun e w' => ∃ d l S a0 c0 a1 k c1, e = .returned (.tuple #[.agg #[.int .i64 5, .slice a0 d c0, .slice a1 k c1], .bool true]) ∧ InX w' 5 log d l a0 c0 a1 k c1 ∧ St log n L S d l 30 ∧ Below w.heap.size w w' := by
  have HL := Lib.hid hl
  have HO := Lib.hid ho
  have HG := Lib.hid hG
  have HLL := Lib.hid hL
  have hnm : n ≤ 9223372036854775807 := by have h3 := hl.1; have h4 := hl.2.1; unfold maxLen at h4; omega
  have hlm : len ≤ 9223372036854775807 := by have h3 := ho.2.1; have h4 := ho.2.2.1; unfold maxLen at h4; omega
  clear hl ho hG hL
  go_enter Try.func15, Try.ntmps15
  go_wp2_with fail
  have hb0 : Below w.heap.size w (w.alloc (.cells #[.int .i64 0, .slice none 0 0, .slice none 0 0] 28)) := (Below.refl _ _).alloc (Nat.le_refl _) _
  have HR0 := Lib.hid (show IB (w.alloc (.cells #[.int .i64 0, .slice none 0 0, .slice none 0 0] 28)) w.heap.size 0 0 none 0 none 0 0 from heap_alloc_new _ _)
  have hs0 : (w.alloc (.cells #[.int .i64 0, .slice none 0 0, .slice none 0 0] 28)).heap.size = w.heap.size + 1 := by simp
  generalize (w.alloc (.cells #[.int .i64 0, .slice none 0 0, .slice none 0 0] 28)) = w0 at *
  refine (new_ok 5 _ (by decide)).mono ?_
  rintro e w1 ⟨rfl, hb⟩
  have hs1 := hb.size
  have HR1 := Lib.hid (HR0.out.below hb)
  have hb1 := hb0.trans (hb.mono hb0.size)
  clear hb hb0 HR0
  have hbx : Below w1.heap.size w1 (w1.alloc (.cells #[.int .i64 5, .slice none 0 0, .slice none 0 0] 28)) := (Below.refl _ _).alloc (Nat.le_refl _) _
  have HE2 := Lib.hid (show IB (w1.alloc (.cells #[.int .i64 5, .slice none 0 0, .slice none 0 0] 28)) w1.heap.size 5 0 none 0 none 0 0 from heap_alloc_new _ _)
  have HR2 := Lib.hid (HR1.out.below hbx)
  have hb2 := hb1.trans (hbx.mono hb1.size)
  clear hbx HR1 hb1
  go_wp2_with fail
  generalize (w1.alloc (.cells #[.int .i64 5, .slice none 0 0, .slice none 0 0] 28)) = w2 at *
  have HEg := Lib.hid (show w.heap.size < w1.heap.size by omega)
  clear hs0 hs1
  generalize w1.heap.size = gE at *
  go_loopw [21] (fun i wr => ∃ (k d kk c0 c1 : Nat) (l : List PK) (S : PK → Prop) (a0 a1 : Option Addr), k ≤ len ∧ k ≤ 30 ∧ i = .int .i64 k ∧ Hid (St log n L S d l k) ∧ Hid (Below w.heap.size w wr) ∧ Hid (IB wr gE 5 d a0 c0 a1 kk c1) ∧ Hid (IB wr w.heap.size 0 0 none 0 none 0 0) ∧ Hid (InX wr 5 log d l a0 c0 a1 kk c1)) (fun i _ => len - (intOf i).toNat)
  case atStart => exact ⟨0, 0, 0, 0, 0, [], _, none, none, by omega, by omega, rfl, Lib.hid (St.start HLL.out), Lib.hid hb2, HE2, HR2, Lib.hid (InX.zero _ _ _)⟩
  case round =>
    clear hb2 HE2 HR2
    generalize wr = wq at *
    obtain ⟨k, d, kk, c0, c1, l, S, a0, a1, hk, hk30, rfl, HSt, HB, HE, HR, HV⟩ := hrel
    obtain ⟨cE0, cE1, cE2, fE0, fE1, fE2, ltE⟩ := HE.out.cells
    obtain ⟨cR0, cR1, cR2, fR0, fR1, fR2, ltR⟩ := HR.out.cells
    have heg := HEg.out
    by_cases hlt : k < len
    · obtain ⟨b, off, rfl, hbs, hcc⟩ := HO.out.2.at (k := k) hlt
      have o0 := hcc k hlt wq HB.out
      clear hcc
      generalize ord.getD k 0 = x at *
      by_cases hbr : k < 30 ∧ 0 < n
      · obtain ⟨hk3, hn0⟩ := hbr
        have d1 : decide (30 ≤ (k : Int)) = false := decide_eq_false (by omega)
        have d2 : ((n : Int) == 0) = false := by simp; omega
        obtain ⟨ix, hix⟩ : ∃ ix, ix = x.toNat % n := ⟨_, rfl⟩
        have hixn : ix < n := by rw [hix]; exact Nat.mod_lt _ hn0
        have e1 : (x.toNat : Int) % n = ix := by omega
        have e2 : Int.tmod (x.toNat : Int) n = ix := by rw [Int.tmod_eq_emod_of_nonneg (by omega)]; exact e1
        have hxl := x.toNat_lt
        have hw : IntKind.i64.wrap (x.toNat : Int) = x.toNat := by rw [IntWalk.i64_in _ (by omega)]
        have hnn : n ≠ 0 := by omega
        obtain ⟨b2, off2, rfl, p, a2, m, c2, su, hp⟩ := (HL.out.below HB.out).pkc hixn (HG.out ix hixn)
        have HP := Lib.hid hp
        have x0 := hp.c0
        have x1 := hp.c1
        have x2 := hp.c2
        have x3 := hp.c3
        have xl := hp.lt
        have hB := HB.out
        clear hp hix HB
        go_wp2_with fail
        have ex0 := box_ext (B := wq.heap.size) x0 xl
        have ex1 := box_ext (B := wq.heap.size) x1 xl
        have ex2 := box_ext (B := wq.heap.size) x2 xl
        have ex3 := box_ext (B := wq.heap.size) x3 xl
        clear x0 x1 x2 x3 xl cR0 cR1 cR2 fR0 fR1 fR2 ltR
        have SCE0 := Lib.hid cE0
        have SFE0 := Lib.hid fE0
        have SCE1 := Lib.hid cE1
        have SFE1 := Lib.hid fE1
        have SCE2 := Lib.hid cE2
        have SFE2 := Lib.hid fE2
        have SLE := Lib.hid ltE
        have SHP := Lib.hid HP.out
        have SHV := Lib.hid HV.out
        have SHE := Lib.hid HE.out
        have SHR := Lib.hid HR.out
        have SB := Lib.hid hB
        have eE0 := box_ext (B := wq.heap.size) cE0 ltE
        have eE1 := box_ext (B := wq.heap.size) cE1 ltE
        have eE2 := box_ext (B := wq.heap.size) cE2 ltE
        refine wp_region_float 13 [(0, false), (1, false), (2, false), (3, false), (4, false), (5, false), (6, false), (7, false), (8, false), (9, true), (10, false), (11, false), (12, false)] [(14, true), (15, false)] (fun w' => ∃ W : Ext wq.heap.size wq, w' = W.1) _ 10 (.cells #[.int .i64 0, .slice none 0 0, .slice none 0 0] 28) wq.heap.size (by kernel_rfl) rfl rfl rfl (fun a w => by simp [execOp, go_sem]) (fun w ⟨W, e⟩ => e ▸ W.2.size) (fun w ⟨W, e⟩ => ⟨⟨_, (e ▸ W.2).alloc (e ▸ W.2.size) _⟩, rfl⟩) (by kernel_rfl) ⟨⟨wq.drew, (Below.refl _ _).drew⟩, rfl⟩ ?_
        repeat (refine wpFl_calm rfl (fun K hK => ?_); go_simp; refine hK _ ?_; clear hK K)
        clear eE0 eE1 eE2
        have hbx : Below wq.heap.size wq wq.drew := (Below.refl _ _).drew
        have hM := hbx
        replace cE0 := bc hbx ltE cE0
        replace fE0 := bf hbx ltE fE0
        replace cE1 := bc hbx ltE cE1
        replace fE1 := bf hbx ltE fE1
        replace cE2 := bc hbx ltE cE2
        replace fE2 := bf hbx ltE fE2
        replace ltE := bl hbx ltE
        replace HP := Lib.hid (HP.out.below hbx)
        replace HV := Lib.hid (HV.out.below hbx)
        replace HE := Lib.hid (HE.out.below hbx)
        replace HR := Lib.hid (HR.out.below hbx)
        replace hB := hB.trans (hbx.mono hB.size)
        clear hbx
        generalize wq.drew = wwqd at *
        clear ex0 ex1 ex2 ex3
        refine wpFl_eff rfl rfl (fun wy hC hg K hK => ?_)
        obtain ⟨⟨wz, hE⟩, hwe⟩ := hC
        change wy = wz at hwe
        subst hwe
        replace cE0 := bc hg ltE cE0
        replace fE0 := bf hg ltE fE0
        replace cE1 := bc hg ltE cE1
        replace fE1 := bf hg ltE fE1
        replace cE2 := bc hg ltE cE2
        replace fE2 := bf hg ltE fE2
        replace ltE := bl hg ltE
        replace HP := Lib.hid (HP.out.below hg)
        replace HV := Lib.hid (HV.out.below hg)
        replace HE := Lib.hid (HE.out.below hg)
        replace HR := Lib.hid (HR.out.below hg)
        replace hB := hB.trans (hg.mono hB.size)
        replace hM := hE
        clear hE hg
        go_simp
        refine (recx (rxN d l (L ix)).1 (rxN d l (L ix)).2 _ HSt.out.inb (HG.out ix hixn) rfl HV.out HP.out).mono ?_
        rintro e w5 ⟨p0, r0, p1, k2, r1, rfl, hv, hb⟩
        replace cE0 := bc hb ltE cE0
        replace fE0 := bf hb ltE fE0
        replace cE1 := bc hb ltE cE1
        replace fE1 := bf hb ltE fE1
        replace cE2 := bc hb ltE cE2
        replace fE2 := bf hb ltE fE2
        replace ltE := bl hb ltE
        replace HP := Lib.hid (HP.out.below hb)
        replace HV := Lib.hid (HV.out.below hb)
        replace HE := Lib.hid (HE.out.below hb)
        replace HR := Lib.hid (HR.out.below hb)
        replace hM := hM.trans (hb.mono hM.size)
        replace hB := hB.trans (hb.mono hB.size)
        have HSn := Lib.hid (HSt.out.step (by omega) hixn (HG.out ix hixn)).1
        generalize (rxN d l (L ix)).1 = d2 at *
        generalize (rxN d l (L ix)).2 = l2 at *
        have HVn := Lib.hid hv
        clear hv
        refine hK _ _ ⟨⟨w5, hM⟩, rfl⟩ hb ?_
        clear hK K hb
        repeat (refine wpFl_calm rfl (fun K hK => ?_); go_simp; refine hK _ ?_; clear hK K)
        refine wpFl_nil fun gN wy hC hg hBk hge => ?_
        obtain ⟨⟨wz, hE⟩, hwe⟩ := hC
        change wy = wz at hwe
        subst hwe
        replace cE0 := bc hg ltE cE0
        replace fE0 := bf hg ltE fE0
        replace cE1 := bc hg ltE cE1
        replace fE1 := bf hg ltE fE1
        replace cE2 := bc hg ltE cE2
        replace fE2 := bf hg ltE fE2
        replace ltE := bl hg ltE
        replace HP := Lib.hid (HP.out.below hg)
        replace HV := Lib.hid (HV.out.below hg)
        replace HE := Lib.hid (HE.out.below hg)
        replace HR := Lib.hid (HR.out.below hg)
        replace HVn := Lib.hid (HVn.out.below hg)
        replace hB := hB.trans (hg.mono hB.size)
        replace hM := hE
        clear hE hg
        have z0 := blk_cell hBk 0
        have y0 := blk_free hBk 0
        have z1 := blk_cell hBk 1
        have y1 := blk_free hBk 1
        have z2 := blk_cell hBk 2
        have y2 := blk_free hBk 2
        simp at z0 z1 z2
        have hgl := blk_lt hBk
        refine wpSched_eff rfl rfl (fun K hK => ?_)
        go_simp
        refine hK _ _ ⟨⟨_, (((hM.setCell (p := ⟨gN, 0, none⟩) hge _).setCell (p := ⟨gN, 1, none⟩) hge _).setCell (p := ⟨gN, 2, none⟩) hge _)⟩, rfl⟩ ?_
        clear hK K
        repeat (refine wpSched_calm rfl (fun K hK => ?_); go_simp; refine hK _ ?_; clear hK K)
        refine wpSched_nil ?_
        have hMn := (((hM.setCell (p := ⟨gN, 0, none⟩) hge (.int .i64 5)).setCell (p := ⟨gN, 1, none⟩) hge (.slice p0 d2 r0)).setCell (p := ⟨gN, 2, none⟩) hge (.slice p1 k2 r1))
        replace HVn := Lib.hid (HVn.out.gbyIn hBk (gby_trans (gby_trans (gby_set _ gN 0 (.int .i64 5)) (gby_set _ gN 1 (.slice p0 d2 r0))) (gby_set _ gN 2 (.slice p1 k2 r1))))
        replace cE0 := bc hMn SLE.out SCE0.out
        replace fE0 := bf hMn SLE.out SFE0.out
        replace cE1 := bc hMn SLE.out SCE1.out
        replace fE1 := bf hMn SLE.out SFE1.out
        replace cE2 := bc hMn SLE.out SCE2.out
        replace fE2 := bf hMn SLE.out SFE2.out
        replace ltE := bl hMn SLE.out
        replace HP := Lib.hid (SHP.out.below hMn)
        replace HV := Lib.hid (SHV.out.below hMn)
        replace HE := Lib.hid (SHE.out.below hMn)
        replace HR := Lib.hid (SHR.out.below hMn)
        replace hB := SB.out.trans (hMn.mono SB.out.size)
        have cN0 : (((wy.setCell ⟨gN, 0, none⟩ (.int .i64 5)).setCell ⟨gN, 1, none⟩ (.slice p0 d2 r0)).setCell ⟨gN, 2, none⟩ (.slice p1 k2 r1)).cell? ⟨gN, 0, none⟩ = some (.int .i64 5) := by go_simp
        have cN1 : (((wy.setCell ⟨gN, 0, none⟩ (.int .i64 5)).setCell ⟨gN, 1, none⟩ (.slice p0 d2 r0)).setCell ⟨gN, 2, none⟩ (.slice p1 k2 r1)).cell? ⟨gN, 1, none⟩ = some (.slice p0 d2 r0) := by go_simp
        have cN2 : (((wy.setCell ⟨gN, 0, none⟩ (.int .i64 5)).setCell ⟨gN, 1, none⟩ (.slice p0 d2 r0)).setCell ⟨gN, 2, none⟩ (.slice p1 k2 r1)).cell? ⟨gN, 2, none⟩ = some (.slice p1 k2 r1) := by go_simp
        have ltN : gN < (((wy.setCell ⟨gN, 0, none⟩ (.int .i64 5)).setCell ⟨gN, 1, none⟩ (.slice p0 d2 r0)).setCell ⟨gN, 2, none⟩ (.slice p1 k2 r1)).heap.size := by simpa using hgl
        have neNE : gE < gN := Nat.lt_of_lt_of_le SLE.out hge
        clear SCE0 SFE0 SCE1 SFE1 SCE2 SFE2 SLE SHP SHV SHE SHR SB
        clear hMn hM hBk hgl z0 y0 z1 y1 z2 y2
        go_wp2_with fail
        generalize (((wy.setCell ⟨gN, 0, none⟩ (.int .i64 5)).setCell ⟨gN, 1, none⟩ (.slice p0 d2 r0)).setCell ⟨gN, 2, none⟩ (.slice p1 k2 r1)) = w6 at *
        have HVz := Lib.hid (HVn.out.gbyIB HE.out (setI_gby w6 gE 5 d2 p0 r0 p1 k2 r1))
        have HEz := Lib.hid (HE.out.set 5 d2 p0 r0 p1 k2 r1)
        have HRz := Lib.hid (HR.out.other (setI_gby w6 gE 5 d2 p0 r0 p1 k2 r1) (by omega))
        have HBz := Lib.hid (below_setI hB (show w.heap.size ≤ gE by omega) 5 d2 p0 r0 p1 k2 r1)
        go_roundw
        case rel => exact ⟨k + 1, d2, k2, r0, r1, l2, _, p0, p1, by omega, by omega, by go_num, HSn, HBz, HEz, HRz, HVz⟩
        case measure => simp [intOf]; omega
      · by_cases hk3 : k < 30
        · have hn0 : n = 0 := by omega
          have d1 : decide (30 ≤ (k : Int)) = false := decide_eq_false (by omega)
          have d2 : ((n : Int) == 0) = true := by simp [hn0]
          clear hbr hn0
          have HF := Lib.hid (HV.out.gbyIB HR.out (setI_gby wq w.heap.size 5 d a0 c0 a1 kk c1))
          have HBn := Lib.hid (below_setI HB.out (Nat.le_refl _) 5 d a0 c0 a1 kk c1)
          have HSe := Lib.hid (HSt.out.mono hk30)
          clear HV HE HR
          go_wp2_with fail
          exact bodyPost_ret (v := .tuple #[.agg #[.int .i64 5, .slice a0 d c0, .slice a1 kk c1], .bool true]) (by simp [results, Try.results15, go_sem, cR0, cR1, cR2]) rfl ⟨d, l, S, a0, c0, a1, kk, c1, rfl, HF.out, HSe.out, HBn.out⟩
        · have d1 : decide (30 ≤ (k : Int)) = true := decide_eq_true (by omega)
          clear hbr hk3
          have HF := Lib.hid (HV.out.gbyIB HR.out (setI_gby wq w.heap.size 5 d a0 c0 a1 kk c1))
          have HBn := Lib.hid (below_setI HB.out (Nat.le_refl _) 5 d a0 c0 a1 kk c1)
          have HSe := Lib.hid (HSt.out.mono hk30)
          clear HV HE HR
          go_wp2_with fail
          exact bodyPost_ret (v := .tuple #[.agg #[.int .i64 5, .slice a0 d c0, .slice a1 kk c1], .bool true]) (by simp [results, Try.results15, go_sem, cR0, cR1, cR2]) rfl ⟨d, l, S, a0, c0, a1, kk, c1, rfl, HF.out, HSe.out, HBn.out⟩
    · obtain rfl : k = len := by omega
      have HF := Lib.hid (HV.out.gbyIB HR.out (setI_gby wq w.heap.size 5 d a0 c0 a1 kk c1))
      have HBn := Lib.hid (below_setI HB.out (Nat.le_refl _) 5 d a0 c0 a1 kk c1)
      have HSe := Lib.hid (HSt.out.mono hk30)
      clear HV HE HR
      go_wp2_with fail
      exact bodyPost_ret (v := .tuple #[.agg #[.int .i64 5, .slice a0 d c0, .slice a1 kk c1], .bool true]) (by simp [results, Try.results15, go_sem, cR0, cR1, cR2]) rfl ⟨d, l, S, a0, c0, a1, kk, c1, rfl, HF.out, HSe.out, HBn.out⟩

end Go.Proofs.Ytpdodapdaeochaa
