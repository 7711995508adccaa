/- Uploads: the example of the chapter (awake). No condition. -/
import Derived.Test.YtpdodapdaeochaaUpN
namespace Go.Proofs.Ytpdodapdaeochaa
set_option maxRecDepth 100000
open Go.RowKit

theorem gby_trans {w w1 w2 : World} {g : Option Nat} (h : w.grownBy w1 g) (k : w1.grownBy w2 g) : w.grownBy w2 g :=
  ⟨k.os.trans h.os, k.tape.trans h.tape, k.output.trans h.output, Nat.le_trans h.size k.size, fun i hi hne => (k.block i (Nat.lt_of_lt_of_le hi h.size) hne).trans (h.block i hi hne)⟩
/-- bytes do not lie in a fresh inbox -/
theorem Bytes.offIn {w : World} {a : Option Addr} {n c : Nat} {xs : List UInt8} (h : Bytes w a n c xs) {g : Nat} {t : TypeId} (hg : w.heap[g]? = some (.cells #[.int .i64 0, .slice none 0 0, .slice none 0 0] t)) : OffB g a n := by
  obtain ⟨h1, h2, h3, h4, h5⟩ := h
  rcases h5 with h5 | ⟨b, off, rfl, hlt, hc⟩
  · exact .inl h5
  rcases Nat.eq_zero_or_pos n with h0 | h0
  · exact .inl h0
  refine .inr fun x hx e => ?_
  cases hx
  have e' : b = g := e
  subst e'
  have := hc 0 h0
  rw [blk_cell hg] at this
  rcases off with _ | _ | _ | off <;> simp at this
theorem PksIn.gbyIn {w w' : World} {a : Option Addr} {n c : Nat} {f : Nat → PkM} (h : PksIn w a n c f) {g : Nat} {t : TypeId} (hg : w.heap[g]? = some (.cells #[.int .i64 0, .slice none 0 0, .slice none 0 0] t)) (hb : w.grownBy w' (some g)) : PksIn w' a n c f := by
  obtain ⟨h1, h2, h3, h4⟩ := h
  refine ⟨h1, h2, h3, ?_⟩
  rcases h4 with h4 | ⟨b, off, rfl, hlt, hc⟩
  · exact .inl h4
  rcases Nat.eq_zero_or_pos n with h0 | h0
  · exact .inl h0
  have hne : b ≠ g := by
    intro e
    subst e
    obtain ⟨a, m, c, e0, e1, -⟩ := hc 0 h0
    rw [blk_cell hg] at e0 e1
    rcases off with _ | _ | _ | off <;> simp at e0 e1
  have hbl := hb.block b hlt (by simpa using hne)
  refine .inr ⟨b, off, rfl, Nat.lt_of_lt_of_le hlt hb.size, fun i hi => ?_⟩
  obtain ⟨a, m, c, e0, e1, e2, e3, e4⟩ := hc i hi
  have hcell : ∀ o, w'.cell? ⟨b, o, none⟩ = w.cell? ⟨b, o, none⟩ := fun o => by simp only [World.cell?, hbl]
  exact ⟨a, m, c, by rw [hcell]; exact e0, by rw [hcell]; exact e1, by rw [hcell]; exact e2, by rw [hcell]; exact e3, e4.gby hb fun j hj => by cases hj; exact e4.offIn hg⟩
/-- an inbox, its cells told apart -/
structure InX (w : World) (s : Nat) (log : List UInt8) (d : Nat) (l : List PK) (a0 : Option Addr) (c0 : Nat) (a1 : Option Addr) (k c1 : Nat) : Prop where
  kl : l.length = k
  da : Bytes w a0 d c0 (log.take d)
  ps : PksIn w a1 k c1 (pks s log l)
theorem InX.below {w w' : World} {s : Nat} {log : List UInt8} {d : Nat} {l : List PK} {a0 : Option Addr} {c0 : Nat} {a1 : Option Addr} {k c1 : Nat} (h : InX w s log d l a0 c0 a1 k c1) (hb : Below w.heap.size w w') : InX w' s log d l a0 c0 a1 k c1 := ⟨h.kl, h.da.below hb, h.ps.below hb⟩
theorem InX.gbyIn {w w' : World} {s : Nat} {log : List UInt8} {d : Nat} {l : List PK} {a0 : Option Addr} {c0 : Nat} {a1 : Option Addr} {k c1 : Nat} (h : InX w s log d l a0 c0 a1 k c1) {g : Nat} {t : TypeId} (hg : w.heap[g]? = some (.cells #[.int .i64 0, .slice none 0 0, .slice none 0 0] t)) (hb : w.grownBy w' (some g)) : InX w' s log d l a0 c0 a1 k c1 := ⟨h.kl, h.da.gby hb fun j hj => by cases hj; exact h.da.offIn hg, h.ps.gbyIn hg hb⟩
theorem InX.zero (w : World) (s : Nat) (log : List UInt8) : InX w s log 0 [] none 0 none 0 0 := ⟨rfl, bytes_nil w, PksIn.nil _ _⟩
/-- a packet of the log in memory -/
structure PkC (w : World) (b off s : Nat) (log : List UInt8) (q : PK) (p : Nat) (a : Option Addr) (n c : Nat) (su : UInt64) : Prop where
  ep : q.1 = p
  en : q.2 = n
  eu : (pk s log q).su = su
  c0 : w.cell? ⟨b, off, none⟩ = some (.int .i64 s)
  c1 : w.cell? ⟨b, off + 1, none⟩ = some (.int .i64 p)
  c2 : w.cell? ⟨b, off + 2, none⟩ = some (.slice a n c)
  c3 : w.cell? ⟨b, off + 3, none⟩ = some (.int .u64 (su.toNat : Int))
  lt : b < w.heap.size
  da : Bytes w a n c (seg log q)
theorem PkC.below {w w' : World} {b off s : Nat} {log : List UInt8} {q : PK} {p : Nat} {a : Option Addr} {n c : Nat} {su : UInt64} (h : PkC w b off s log q p a n c su) (hb : Below w.heap.size w w') : PkC w' b off s log q p a n c su :=
  ⟨h.ep, h.en, h.eu, bc hb h.lt h.c0, bc hb h.lt h.c1, bc hb h.lt h.c2, bc hb h.lt h.c3, bl hb h.lt, h.da.below hb⟩
theorem PksIn.pkc {w : World} {a : Option Addr} {len cap : Nat} {s : Nat} {log : List UInt8} {L : Nat → PK} (h : PksIn w a len cap (fun i => pk s log (L i))) {k : Nat} (hk : k < len) (hg : GoodQ log (L k)) :
    ∃ b off, a = some ⟨b, off, none⟩ ∧ ∃ p a2 n c2 su, PkC w b (off + k * 4) s log (L k) p a2 n c2 su := by
  obtain ⟨b, off, e, hlt, a2, c2, e0, e1, e2, e3, e4⟩ := h.qat hk hg
  exact ⟨b, off, e, _, a2, _, c2, _, ⟨rfl, rfl, rfl, e0, e1, e2, e3, hlt, e4⟩⟩
theorem recx {s : Nat} {log : List UInt8} {d k b off : Nat} {l : List PK} {q : PK} {a0 a1 a2 : Option Addr} {c0 c1 c2 p n : Nat} {su : UInt64} (d' : Nat) (l' : List PK) (w : World) (hI : Inb s log d l) (hq : GoodQ log q) (hr : rxN d l q = (d', l')) (hx : InX w s log d l a0 c0 a1 k c1) (hp : PkC w b off s log q p a2 n c2 su) :
    Calls Try.prog 11 #[.agg #[.int .i64 s, .slice a0 d c0, .slice a1 k c1], .agg #[.int .i64 s, .int .i64 p, .slice a2 n c2, .int .u64 (su.toNat : Int)]] w fun e w' => ∃ b0 e0 b1 k' e1, e = .returned (.tuple #[.agg #[.int .i64 s, .slice b0 d' e0, .slice b1 k' e1], .int .i64 0]) ∧ InX w' s log d' l' b0 e0 b1 k' e1 ∧ Below w.heap.size w w' := by
  obtain ⟨rfl, h0, h1⟩ := hx
  obtain ⟨rfl, rfl, rfl, -, -, -, -, -, h2⟩ := hp
  refine (receive_any s log d l q _ _ w hI hq ⟨a0, c0, a1, c1, rfl, h0, h1⟩ ⟨a2, c2, rfl, h2⟩).mono ?_
  rintro e w' ⟨v', rfl, hv, hb⟩
  rw [hr] at hv
  obtain ⟨b0, e0, b1, e1, rfl, g0, g1⟩ := hv
  exact ⟨b0, e0, b1, _, e1, rfl, ⟨rfl, g0, g1⟩, hb⟩

instance (s : Int) (len fr : Nat) (size : Int) : Decidable (OkC s len fr size) := by unfold OkC; infer_instance
instance (log : List UInt8) (q : PK) : Decidable (GoodQ log q) := by unfold GoodQ; infer_instance
def awL : List UInt8 := [1, 2, 3, 4, 5]
theorem aw_inb (d : Nat) (l : List PK) (hd : d ≤ 5) (hl : l = [] ∨ l = [(4, 1)] ∧ d < 4) : Inb 7 awL d l := by
  rcases hl with rfl | ⟨rfl, h⟩
  · exact Inb.of (by decide) (by decide) hd (by simp) (by simp [Srt]) (by simp)
  · exact Inb.of (by decide) (by decide) hd (by simp [GoodQ, awL]; omega) (by simp [Srt]) (by simp)
set_option maxHeartbeats 16000000 in
theorem awake_any (w : World) :
    Calls Try.prog 14 #[] w fun e w' => e = .returned (.bool true) ∧ Below w.heap.size w w' := by
  go_enter Try.func14, Try.ntmps14
  go_wp2_with fail
  have hB : Below w.heap.size w (w.alloc (.cells #[.int .u8 1, .int .u8 2, .int .u8 3, .int .u8 4, .int .u8 5] 5)) := (Below.refl _ _).alloc (Nat.le_refl _) _
  have HLg := Lib.hid (show Bytes (w.alloc (.cells #[.int .u8 1, .int .u8 2, .int .u8 3, .int .u8 4, .int .u8 5] 5)) (some ⟨w.heap.size, 0, none⟩) 5 5 awL from bytes_lit w 5 awL (by decide))
  generalize (w.alloc (.cells #[.int .u8 1, .int .u8 2, .int .u8 3, .int .u8 4, .int .u8 5] 5)) = w0 at *
  generalize (some ⟨w.heap.size, 0, none⟩ : Option Addr) = ag at *
  refine (split_ok 7 awL ag 5 5 2 _ HLg.out (by decide)).mono ?_
  rintro e w1 ⟨b, c, rfl, hx, hb⟩
  replace HLg := Lib.hid (HLg.out.below hb)
  replace hB := hB.trans (hb.mono hB.size)
  rw [show cutN 5 0 2 = 3 from rfl] at *
  have HX := Lib.hid hx
  clear hx
  clear hb
  go_wp2_with fail
  refine (new_ok 7 _ (by decide)).mono ?_
  rintro e w2 ⟨rfl, hb⟩
  replace HLg := Lib.hid (HLg.out.below hb)
  replace HX := Lib.hid (HX.out.below hb)
  replace hB := hB.trans (hb.mono hB.size)
  clear hb
  obtain ⟨bb2, off2, he2, hbl2, a2, c2, x20, x21, x22, x23, hy2⟩ := PksIn.qat (L := cutP 5 0 2) (k := 2) HX.out (by omega) (by decide)
  have HP2 := Lib.hid (PkC.mk (w := w2) (b := bb2) (off := off2 + 2 * 4) (s := 7) (log := awL) (q := (4, 1)) (p := 4) (a := a2) (n := 1) (c := c2) rfl rfl rfl x20 x21 x22 x23 hbl2 hy2)
  clear hy2 x20 x21 x22 x23
  obtain ⟨bb0, off0, he0, hbl0, a0, c0, x00, x01, x02, x03, hy0⟩ := PksIn.qat (L := cutP 5 0 2) (k := 0) HX.out (by omega) (by decide)
  have HP0 := Lib.hid (PkC.mk (w := w2) (b := bb0) (off := off0 + 0 * 4) (s := 7) (log := awL) (q := (0, 2)) (p := 0) (a := a0) (n := 2) (c := c0) rfl rfl rfl x00 x01 x02 x03 hbl0 hy0)
  clear hy0 x00 x01 x02 x03
  obtain ⟨bb1, off1, he1, hbl1, a1, c1, x10, x11, x12, x13, hy1⟩ := PksIn.qat (L := cutP 5 0 2) (k := 1) HX.out (by omega) (by decide)
  have HP1 := Lib.hid (PkC.mk (w := w2) (b := bb1) (off := off1 + 1 * 4) (s := 7) (log := awL) (q := (2, 2)) (p := 2) (a := a1) (n := 2) (c := c1) rfl rfl rfl x10 x11 x12 x13 hbl1 hy1)
  clear hy1 x10 x11 x12 x13
  rw [he2] at he0 he1
  cases he0
  cases he1
  subst he2
  clear hbl0 hbl1 hbl2 HX
  generalize (pk 7 awL (4, 1)).su = su2 at *
  generalize (pk 7 awL (0, 2)).su = su0 at *
  generalize (pk 7 awL (2, 2)).su = su1 at *
  have HV0 := Lib.hid (InX.zero w2 7 awL)
  have y1 : w2.cell? ⟨bb2, off2 + 9, none⟩ = some (.int .i64 4) := by simpa using HP2.out.c1
  have y2 : w2.cell? ⟨bb2, off2 + 10, none⟩ = some (.slice a2 1 c2) := by simpa using HP2.out.c2
  have ybl := HP2.out.lt
  replace y1 := bc ((Below.refl _ _).alloc (Nat.le_refl _) (.cells #[.int .i64 7, .slice none 0 0, .slice none 0 0] 28)) ybl y1
  replace y2 := bc ((Below.refl _ _).alloc (Nat.le_refl _) (.cells #[.int .i64 7, .slice none 0 0, .slice none 0 0] 28)) ybl y2
  clear ybl
  go_wp2_with fail
  clear y1 y2
  have hbx : Below w2.heap.size w2 (w2.alloc (.cells #[.int .i64 7, .slice none 0 0, .slice none 0 0] 28)) := ((Below.refl _ _).alloc (Nat.le_refl _) _)
  generalize hWW : (w2.alloc (.cells #[.int .i64 7, .slice none 0 0, .slice none 0 0] 28)) = w3 at *
  replace HLg := Lib.hid (HLg.out.below hbx)
  replace HP0 := Lib.hid (HP0.out.below hbx)
  replace HP1 := Lib.hid (HP1.out.below hbx)
  replace HP2 := Lib.hid (HP2.out.below hbx)
  replace HV0 := Lib.hid (HV0.out.below hbx)
  have cE0 : w3.cell? ⟨w2.heap.size, 0, none⟩ = some (.int .i64 7) := by subst hWW; go_simp
  have cE1 : w3.cell? ⟨w2.heap.size, 1, none⟩ = some (.slice none 0 0) := by subst hWW; go_simp
  have cE2 : w3.cell? ⟨w2.heap.size, 2, none⟩ = some (.slice none 0 0) := by subst hWW; go_simp
  have ltE : w2.heap.size < w3.heap.size := by subst hWW; simp
  replace hB := hB.trans (hbx.mono hB.size)
  clear hbx hWW
  have x0 : w3.cell? ⟨bb2, off2 + 8, none⟩ = some (.int .i64 7) := by simpa using HP2.out.c0
  have x1 : w3.cell? ⟨bb2, off2 + 9, none⟩ = some (.int .i64 4) := by simpa using HP2.out.c1
  have x2 : w3.cell? ⟨bb2, off2 + 10, none⟩ = some (.slice a2 1 c2) := by simpa using HP2.out.c2
  have x3 : w3.cell? ⟨bb2, off2 + 11, none⟩ = some (.int .u64 (su2.toNat : Int)) := by simpa using HP2.out.c3
  have xl := HP2.out.lt
  have ex0 := box_ext (B := w3.heap.size) x0 xl
  have ex1 := box_ext (B := w3.heap.size) x1 xl
  have ex2 := box_ext (B := w3.heap.size) x2 xl
  have ex3 := box_ext (B := w3.heap.size) x3 xl
  clear x0 x1 x2 x3 xl
  have SCE0 := Lib.hid cE0
  have SCE1 := Lib.hid cE1
  have SCE2 := Lib.hid cE2
  have SLE := Lib.hid ltE
  have SHLg := Lib.hid HLg.out
  have SHP0 := Lib.hid HP0.out
  have SHP1 := Lib.hid HP1.out
  have SHP2 := Lib.hid HP2.out
  have SHV0 := Lib.hid HV0.out
  have SB := Lib.hid hB
  have eE0 := box_ext (B := w3.heap.size) cE0 ltE
  have eE1 := box_ext (B := w3.heap.size) cE1 ltE
  have eE2 := box_ext (B := w3.heap.size) cE2 ltE
  refine wp_region_float 8 [(0, false), (1, false), (2, false), (3, false), (4, true), (5, false), (6, false), (7, false)] [(9, true), (10, false)] (fun w' => ∃ W : Ext w3.heap.size w3, w' = W.1) _ 6 (.cells #[.int .i64 0, .slice none 0 0, .slice none 0 0] 28) w3.heap.size (by kernel_rfl) rfl rfl rfl (fun a w => by simp [execOp, go_sem]) (fun w ⟨W, e⟩ => e ▸ W.2.size) (fun w ⟨W, e⟩ => ⟨⟨_, (e ▸ W.2).alloc (e ▸ W.2.size) _⟩, rfl⟩) (by kernel_rfl) ⟨⟨w3.drew, (Below.refl _ _).drew⟩, rfl⟩ ?_
  repeat (refine wpFl_calm rfl (fun K hK => ?_); go_simp; refine hK _ ?_; clear hK K)
  clear eE0 eE1 eE2
  have hbx : Below w3.heap.size w3 w3.drew := (Below.refl _ _).drew
  have hM := hbx
  replace cE0 := bc hbx ltE cE0
  replace cE1 := bc hbx ltE cE1
  replace cE2 := bc hbx ltE cE2
  replace ltE := bl hbx ltE
  replace HLg := Lib.hid (HLg.out.below hbx)
  replace HP0 := Lib.hid (HP0.out.below hbx)
  replace HP1 := Lib.hid (HP1.out.below hbx)
  replace HP2 := Lib.hid (HP2.out.below hbx)
  replace HV0 := Lib.hid (HV0.out.below hbx)
  replace hB := hB.trans (hbx.mono hB.size)
  clear hbx
  generalize w3.drew = ww3d at *
  clear ex0 ex1 ex2 ex3
  refine wpFl_eff rfl rfl (fun wy hC hg K hK => ?_)
  obtain ⟨⟨wz, hE⟩, hwe⟩ := hC
  change wy = wz at hwe
  subst hwe
  replace cE0 := bc hg ltE cE0
  replace cE1 := bc hg ltE cE1
  replace cE2 := bc hg ltE cE2
  replace ltE := bl hg ltE
  replace HLg := Lib.hid (HLg.out.below hg)
  replace HP0 := Lib.hid (HP0.out.below hg)
  replace HP1 := Lib.hid (HP1.out.below hg)
  replace HP2 := Lib.hid (HP2.out.below hg)
  replace HV0 := Lib.hid (HV0.out.below hg)
  replace hB := hB.trans (hg.mono hB.size)
  replace hM := hE
  clear hE hg
  go_simp
  refine (recx 0 [(4, 1)] _ (aw_inb 0 [] (by omega) (by decide)) (by decide) (by decide) HV0.out HP2.out).mono ?_
  rintro e w4 ⟨p0A, r0A, p1A, kk, r1A, rfl, hv, hb⟩
  replace cE0 := bc hb ltE cE0
  replace cE1 := bc hb ltE cE1
  replace cE2 := bc hb ltE cE2
  replace ltE := bl hb ltE
  replace HLg := Lib.hid (HLg.out.below hb)
  replace HP0 := Lib.hid (HP0.out.below hb)
  replace HP1 := Lib.hid (HP1.out.below hb)
  replace HP2 := Lib.hid (HP2.out.below hb)
  replace HV0 := Lib.hid (HV0.out.below hb)
  replace hM := hM.trans (hb.mono hM.size)
  replace hB := hB.trans (hb.mono hB.size)
  obtain rfl : kk = 1 := hv.kl.symm
  have HVA := Lib.hid hv
  clear hv
  refine hK _ _ ⟨⟨w4, hM⟩, rfl⟩ hb ?_
  clear hK K hb
  repeat (refine wpFl_calm rfl (fun K hK => ?_); go_simp; refine hK _ ?_; clear hK K)
  refine wpFl_nil fun gA wy hC hg hBk hge => ?_
  obtain ⟨⟨wz, hE⟩, hwe⟩ := hC
  change wy = wz at hwe
  subst hwe
  replace cE0 := bc hg ltE cE0
  replace cE1 := bc hg ltE cE1
  replace cE2 := bc hg ltE cE2
  replace ltE := bl hg ltE
  replace HLg := Lib.hid (HLg.out.below hg)
  replace HP0 := Lib.hid (HP0.out.below hg)
  replace HP1 := Lib.hid (HP1.out.below hg)
  replace HP2 := Lib.hid (HP2.out.below hg)
  replace HV0 := Lib.hid (HV0.out.below hg)
  replace HVA := Lib.hid (HVA.out.below hg)
  replace hB := hB.trans (hg.mono hB.size)
  replace hM := hE
  clear hE hg
  have z0 := blk_cell hBk 0
  have y0 := blk_free hBk 0
  have z1 := blk_cell hBk 1
  have y1 := blk_free hBk 1
  have z2 := blk_cell hBk 2
  have y2 := blk_free hBk 2
  simp at z0 z1 z2
  have hgl := blk_lt hBk
  refine wpSched_eff rfl rfl (fun K hK => ?_)
  go_simp
  refine hK _ _ ⟨⟨_, (((hM.setCell (p := ⟨gA, 0, none⟩) hge _).setCell (p := ⟨gA, 1, none⟩) hge _).setCell (p := ⟨gA, 2, none⟩) hge _)⟩, rfl⟩ ?_
  clear hK K
  repeat (refine wpSched_calm rfl (fun K hK => ?_); go_simp; refine hK _ ?_; clear hK K)
  refine wpSched_nil ?_
  have hMn := (((hM.setCell (p := ⟨gA, 0, none⟩) hge (.int .i64 7)).setCell (p := ⟨gA, 1, none⟩) hge (.slice p0A 0 r0A)).setCell (p := ⟨gA, 2, none⟩) hge (.slice p1A 1 r1A))
  replace HVA := Lib.hid (HVA.out.gbyIn hBk (gby_trans (gby_trans (gby_set _ gA 0 (.int .i64 7)) (gby_set _ gA 1 (.slice p0A 0 r0A))) (gby_set _ gA 2 (.slice p1A 1 r1A))))
  replace cE0 := bc hMn SLE.out SCE0.out
  replace cE1 := bc hMn SLE.out SCE1.out
  replace cE2 := bc hMn SLE.out SCE2.out
  replace ltE := bl hMn SLE.out
  replace HLg := Lib.hid (SHLg.out.below hMn)
  replace HP0 := Lib.hid (SHP0.out.below hMn)
  replace HP1 := Lib.hid (SHP1.out.below hMn)
  replace HP2 := Lib.hid (SHP2.out.below hMn)
  replace HV0 := Lib.hid (SHV0.out.below hMn)
  replace hB := SB.out.trans (hMn.mono SB.out.size)
  have cA0 : (((wy.setCell ⟨gA, 0, none⟩ (.int .i64 7)).setCell ⟨gA, 1, none⟩ (.slice p0A 0 r0A)).setCell ⟨gA, 2, none⟩ (.slice p1A 1 r1A)).cell? ⟨gA, 0, none⟩ = some (.int .i64 7) := by go_simp
  have cA1 : (((wy.setCell ⟨gA, 0, none⟩ (.int .i64 7)).setCell ⟨gA, 1, none⟩ (.slice p0A 0 r0A)).setCell ⟨gA, 2, none⟩ (.slice p1A 1 r1A)).cell? ⟨gA, 1, none⟩ = some (.slice p0A 0 r0A) := by go_simp
  have cA2 : (((wy.setCell ⟨gA, 0, none⟩ (.int .i64 7)).setCell ⟨gA, 1, none⟩ (.slice p0A 0 r0A)).setCell ⟨gA, 2, none⟩ (.slice p1A 1 r1A)).cell? ⟨gA, 2, none⟩ = some (.slice p1A 1 r1A) := by go_simp
  have ltA : gA < (((wy.setCell ⟨gA, 0, none⟩ (.int .i64 7)).setCell ⟨gA, 1, none⟩ (.slice p0A 0 r0A)).setCell ⟨gA, 2, none⟩ (.slice p1A 1 r1A)).heap.size := by simpa using hgl
  have neAE : w2.heap.size < gA := Nat.lt_of_lt_of_le SLE.out hge
  clear SCE0 SCE1 SCE2 SLE SHLg SHP0 SHP1 SHP2 SHV0 SB
  clear hMn hM hBk hgl z0 y0 z1 y1 z2 y2
  go_wp2_with fail
  generalize (((wy.setCell ⟨gA, 0, none⟩ (.int .i64 7)).setCell ⟨gA, 1, none⟩ (.slice p0A 0 r0A)).setCell ⟨gA, 2, none⟩ (.slice p1A 1 r1A)) = w5 at *
  have x0 : w5.cell? ⟨bb2, off2, none⟩ = some (.int .i64 7) := by simpa using HP0.out.c0
  have x1 : w5.cell? ⟨bb2, off2 + 1, none⟩ = some (.int .i64 0) := by simpa using HP0.out.c1
  have x2 : w5.cell? ⟨bb2, off2 + 2, none⟩ = some (.slice a0 2 c0) := by simpa using HP0.out.c2
  have x3 : w5.cell? ⟨bb2, off2 + 3, none⟩ = some (.int .u64 (su0.toNat : Int)) := by simpa using HP0.out.c3
  have xl := HP0.out.lt
  have ex0 := box_ext (B := w5.heap.size) x0 xl
  have ex1 := box_ext (B := w5.heap.size) x1 xl
  have ex2 := box_ext (B := w5.heap.size) x2 xl
  have ex3 := box_ext (B := w5.heap.size) x3 xl
  clear x0 x1 x2 x3 xl
  have SCE0 := Lib.hid cE0
  have SCE1 := Lib.hid cE1
  have SCE2 := Lib.hid cE2
  have SLE := Lib.hid ltE
  have SCA0 := Lib.hid cA0
  have SCA1 := Lib.hid cA1
  have SCA2 := Lib.hid cA2
  have SLA := Lib.hid ltA
  have SHLg := Lib.hid HLg.out
  have SHP0 := Lib.hid HP0.out
  have SHP1 := Lib.hid HP1.out
  have SHP2 := Lib.hid HP2.out
  have SHV0 := Lib.hid HV0.out
  have SHVA := Lib.hid HVA.out
  have SB := Lib.hid hB
  have eE0 := box_ext (B := w5.heap.size) cE0 ltE
  have eE1 := box_ext (B := w5.heap.size) cE1 ltE
  have eE2 := box_ext (B := w5.heap.size) cE2 ltE
  have eA0 := box_ext (B := w5.heap.size) cA0 ltA
  have eA1 := box_ext (B := w5.heap.size) cA1 ltA
  have eA2 := box_ext (B := w5.heap.size) cA2 ltA
  refine wp_region_float 8 [(0, false), (1, false), (2, false), (3, false), (4, true), (5, false), (6, false), (7, false)] [(9, true), (10, false)] (fun w' => ∃ W : Ext w5.heap.size w5, w' = W.1) _ 8 (.cells #[.int .i64 0, .slice none 0 0, .slice none 0 0] 28) w5.heap.size (by kernel_rfl) rfl rfl rfl (fun a w => by simp [execOp, go_sem]) (fun w ⟨W, e⟩ => e ▸ W.2.size) (fun w ⟨W, e⟩ => ⟨⟨_, (e ▸ W.2).alloc (e ▸ W.2.size) _⟩, rfl⟩) (by kernel_rfl) ⟨⟨w5.drew, (Below.refl _ _).drew⟩, rfl⟩ ?_
  repeat (refine wpFl_calm rfl (fun K hK => ?_); go_simp; refine hK _ ?_; clear hK K)
  clear eE0 eE1 eE2 eA0 eA1 eA2
  have hbx : Below w5.heap.size w5 w5.drew := (Below.refl _ _).drew
  have hM := hbx
  replace cE0 := bc hbx ltE cE0
  replace cE1 := bc hbx ltE cE1
  replace cE2 := bc hbx ltE cE2
  replace ltE := bl hbx ltE
  replace cA0 := bc hbx ltA cA0
  replace cA1 := bc hbx ltA cA1
  replace cA2 := bc hbx ltA cA2
  replace ltA := bl hbx ltA
  replace HLg := Lib.hid (HLg.out.below hbx)
  replace HP0 := Lib.hid (HP0.out.below hbx)
  replace HP1 := Lib.hid (HP1.out.below hbx)
  replace HP2 := Lib.hid (HP2.out.below hbx)
  replace HV0 := Lib.hid (HV0.out.below hbx)
  replace HVA := Lib.hid (HVA.out.below hbx)
  replace hB := hB.trans (hbx.mono hB.size)
  clear hbx
  generalize w5.drew = ww5d at *
  clear ex0 ex1 ex2 ex3
  refine wpFl_eff rfl rfl (fun wy hC hg K hK => ?_)
  obtain ⟨⟨wz, hE⟩, hwe⟩ := hC
  change wy = wz at hwe
  subst hwe
  replace cE0 := bc hg ltE cE0
  replace cE1 := bc hg ltE cE1
  replace cE2 := bc hg ltE cE2
  replace ltE := bl hg ltE
  replace cA0 := bc hg ltA cA0
  replace cA1 := bc hg ltA cA1
  replace cA2 := bc hg ltA cA2
  replace ltA := bl hg ltA
  replace HLg := Lib.hid (HLg.out.below hg)
  replace HP0 := Lib.hid (HP0.out.below hg)
  replace HP1 := Lib.hid (HP1.out.below hg)
  replace HP2 := Lib.hid (HP2.out.below hg)
  replace HV0 := Lib.hid (HV0.out.below hg)
  replace HVA := Lib.hid (HVA.out.below hg)
  replace hB := hB.trans (hg.mono hB.size)
  replace hM := hE
  clear hE hg
  go_simp
  refine (recx 2 [(4, 1)] _ (aw_inb 0 [(4, 1)] (by omega) (by decide)) (by decide) (by decide) HVA.out HP0.out).mono ?_
  rintro e w6 ⟨p0B, r0B, p1B, kk, r1B, rfl, hv, hb⟩
  replace cE0 := bc hb ltE cE0
  replace cE1 := bc hb ltE cE1
  replace cE2 := bc hb ltE cE2
  replace ltE := bl hb ltE
  replace cA0 := bc hb ltA cA0
  replace cA1 := bc hb ltA cA1
  replace cA2 := bc hb ltA cA2
  replace ltA := bl hb ltA
  replace HLg := Lib.hid (HLg.out.below hb)
  replace HP0 := Lib.hid (HP0.out.below hb)
  replace HP1 := Lib.hid (HP1.out.below hb)
  replace HP2 := Lib.hid (HP2.out.below hb)
  replace HV0 := Lib.hid (HV0.out.below hb)
  replace HVA := Lib.hid (HVA.out.below hb)
  replace hM := hM.trans (hb.mono hM.size)
  replace hB := hB.trans (hb.mono hB.size)
  obtain rfl : kk = 1 := hv.kl.symm
  have HVB := Lib.hid hv
  clear hv
  refine hK _ _ ⟨⟨w6, hM⟩, rfl⟩ hb ?_
  clear hK K hb
  repeat (refine wpFl_calm rfl (fun K hK => ?_); go_simp; refine hK _ ?_; clear hK K)
  refine wpFl_nil fun gB wy hC hg hBk hge => ?_
  obtain ⟨⟨wz, hE⟩, hwe⟩ := hC
  change wy = wz at hwe
  subst hwe
  replace cE0 := bc hg ltE cE0
  replace cE1 := bc hg ltE cE1
  replace cE2 := bc hg ltE cE2
  replace ltE := bl hg ltE
  replace cA0 := bc hg ltA cA0
  replace cA1 := bc hg ltA cA1
  replace cA2 := bc hg ltA cA2
  replace ltA := bl hg ltA
  replace HLg := Lib.hid (HLg.out.below hg)
  replace HP0 := Lib.hid (HP0.out.below hg)
  replace HP1 := Lib.hid (HP1.out.below hg)
  replace HP2 := Lib.hid (HP2.out.below hg)
  replace HV0 := Lib.hid (HV0.out.below hg)
  replace HVA := Lib.hid (HVA.out.below hg)
  replace HVB := Lib.hid (HVB.out.below hg)
  replace hB := hB.trans (hg.mono hB.size)
  replace hM := hE
  clear hE hg
  have z0 := blk_cell hBk 0
  have y0 := blk_free hBk 0
  have z1 := blk_cell hBk 1
  have y1 := blk_free hBk 1
  have z2 := blk_cell hBk 2
  have y2 := blk_free hBk 2
  simp at z0 z1 z2
  have hgl := blk_lt hBk
  refine wpSched_eff rfl rfl (fun K hK => ?_)
  go_simp
  refine hK _ _ ⟨⟨_, (((hM.setCell (p := ⟨gB, 0, none⟩) hge _).setCell (p := ⟨gB, 1, none⟩) hge _).setCell (p := ⟨gB, 2, none⟩) hge _)⟩, rfl⟩ ?_
  clear hK K
  repeat (refine wpSched_calm rfl (fun K hK => ?_); go_simp; refine hK _ ?_; clear hK K)
  refine wpSched_nil ?_
  have hMn := (((hM.setCell (p := ⟨gB, 0, none⟩) hge (.int .i64 7)).setCell (p := ⟨gB, 1, none⟩) hge (.slice p0B 2 r0B)).setCell (p := ⟨gB, 2, none⟩) hge (.slice p1B 1 r1B))
  replace HVB := Lib.hid (HVB.out.gbyIn hBk (gby_trans (gby_trans (gby_set _ gB 0 (.int .i64 7)) (gby_set _ gB 1 (.slice p0B 2 r0B))) (gby_set _ gB 2 (.slice p1B 1 r1B))))
  replace cE0 := bc hMn SLE.out SCE0.out
  replace cE1 := bc hMn SLE.out SCE1.out
  replace cE2 := bc hMn SLE.out SCE2.out
  replace ltE := bl hMn SLE.out
  replace cA0 := bc hMn SLA.out SCA0.out
  replace cA1 := bc hMn SLA.out SCA1.out
  replace cA2 := bc hMn SLA.out SCA2.out
  replace ltA := bl hMn SLA.out
  replace HLg := Lib.hid (SHLg.out.below hMn)
  replace HP0 := Lib.hid (SHP0.out.below hMn)
  replace HP1 := Lib.hid (SHP1.out.below hMn)
  replace HP2 := Lib.hid (SHP2.out.below hMn)
  replace HV0 := Lib.hid (SHV0.out.below hMn)
  replace HVA := Lib.hid (SHVA.out.below hMn)
  replace hB := SB.out.trans (hMn.mono SB.out.size)
  have cB0 : (((wy.setCell ⟨gB, 0, none⟩ (.int .i64 7)).setCell ⟨gB, 1, none⟩ (.slice p0B 2 r0B)).setCell ⟨gB, 2, none⟩ (.slice p1B 1 r1B)).cell? ⟨gB, 0, none⟩ = some (.int .i64 7) := by go_simp
  have cB1 : (((wy.setCell ⟨gB, 0, none⟩ (.int .i64 7)).setCell ⟨gB, 1, none⟩ (.slice p0B 2 r0B)).setCell ⟨gB, 2, none⟩ (.slice p1B 1 r1B)).cell? ⟨gB, 1, none⟩ = some (.slice p0B 2 r0B) := by go_simp
  have cB2 : (((wy.setCell ⟨gB, 0, none⟩ (.int .i64 7)).setCell ⟨gB, 1, none⟩ (.slice p0B 2 r0B)).setCell ⟨gB, 2, none⟩ (.slice p1B 1 r1B)).cell? ⟨gB, 2, none⟩ = some (.slice p1B 1 r1B) := by go_simp
  have ltB : gB < (((wy.setCell ⟨gB, 0, none⟩ (.int .i64 7)).setCell ⟨gB, 1, none⟩ (.slice p0B 2 r0B)).setCell ⟨gB, 2, none⟩ (.slice p1B 1 r1B)).heap.size := by simpa using hgl
  have neBE : w2.heap.size < gB := Nat.lt_of_lt_of_le SLE.out hge
  have neBA : gA < gB := Nat.lt_of_lt_of_le SLA.out hge
  clear SCE0 SCE1 SCE2 SLE SCA0 SCA1 SCA2 SLA SHLg SHP0 SHP1 SHP2 SHV0 SHVA SB
  clear hMn hM hBk hgl z0 y0 z1 y1 z2 y2
  go_wp2_with fail
  generalize (((wy.setCell ⟨gB, 0, none⟩ (.int .i64 7)).setCell ⟨gB, 1, none⟩ (.slice p0B 2 r0B)).setCell ⟨gB, 2, none⟩ (.slice p1B 1 r1B)) = w7 at *
  have x0 : w7.cell? ⟨bb2, off2 + 4, none⟩ = some (.int .i64 7) := by simpa using HP1.out.c0
  have x1 : w7.cell? ⟨bb2, off2 + 5, none⟩ = some (.int .i64 2) := by simpa using HP1.out.c1
  have x2 : w7.cell? ⟨bb2, off2 + 6, none⟩ = some (.slice a1 2 c1) := by simpa using HP1.out.c2
  have x3 : w7.cell? ⟨bb2, off2 + 7, none⟩ = some (.int .u64 (su1.toNat : Int)) := by simpa using HP1.out.c3
  have xl := HP1.out.lt
  have ex0 := box_ext (B := w7.heap.size) x0 xl
  have ex1 := box_ext (B := w7.heap.size) x1 xl
  have ex2 := box_ext (B := w7.heap.size) x2 xl
  have ex3 := box_ext (B := w7.heap.size) x3 xl
  clear x0 x1 x2 x3 xl
  have SCE0 := Lib.hid cE0
  have SCE1 := Lib.hid cE1
  have SCE2 := Lib.hid cE2
  have SLE := Lib.hid ltE
  have SCA0 := Lib.hid cA0
  have SCA1 := Lib.hid cA1
  have SCA2 := Lib.hid cA2
  have SLA := Lib.hid ltA
  have SCB0 := Lib.hid cB0
  have SCB1 := Lib.hid cB1
  have SCB2 := Lib.hid cB2
  have SLB := Lib.hid ltB
  have SHLg := Lib.hid HLg.out
  have SHP0 := Lib.hid HP0.out
  have SHP1 := Lib.hid HP1.out
  have SHP2 := Lib.hid HP2.out
  have SHV0 := Lib.hid HV0.out
  have SHVA := Lib.hid HVA.out
  have SHVB := Lib.hid HVB.out
  have SB := Lib.hid hB
  have eE0 := box_ext (B := w7.heap.size) cE0 ltE
  have eE1 := box_ext (B := w7.heap.size) cE1 ltE
  have eE2 := box_ext (B := w7.heap.size) cE2 ltE
  have eA0 := box_ext (B := w7.heap.size) cA0 ltA
  have eA1 := box_ext (B := w7.heap.size) cA1 ltA
  have eA2 := box_ext (B := w7.heap.size) cA2 ltA
  have eB0 := box_ext (B := w7.heap.size) cB0 ltB
  have eB1 := box_ext (B := w7.heap.size) cB1 ltB
  have eB2 := box_ext (B := w7.heap.size) cB2 ltB
  refine wp_region_float 8 [(0, false), (1, false), (2, false), (3, false), (4, true), (5, false), (6, false), (7, false)] [(9, true), (10, false)] (fun w' => ∃ W : Ext w7.heap.size w7, w' = W.1) _ 10 (.cells #[.int .i64 0, .slice none 0 0, .slice none 0 0] 28) w7.heap.size (by kernel_rfl) rfl rfl rfl (fun a w => by simp [execOp, go_sem]) (fun w ⟨W, e⟩ => e ▸ W.2.size) (fun w ⟨W, e⟩ => ⟨⟨_, (e ▸ W.2).alloc (e ▸ W.2.size) _⟩, rfl⟩) (by kernel_rfl) ⟨⟨w7.drew, (Below.refl _ _).drew⟩, rfl⟩ ?_
  repeat (refine wpFl_calm rfl (fun K hK => ?_); go_simp; refine hK _ ?_; clear hK K)
  clear eE0 eE1 eE2 eA0 eA1 eA2 eB0 eB1 eB2
  have hbx : Below w7.heap.size w7 w7.drew := (Below.refl _ _).drew
  have hM := hbx
  replace cE0 := bc hbx ltE cE0
  replace cE1 := bc hbx ltE cE1
  replace cE2 := bc hbx ltE cE2
  replace ltE := bl hbx ltE
  replace cA0 := bc hbx ltA cA0
  replace cA1 := bc hbx ltA cA1
  replace cA2 := bc hbx ltA cA2
  replace ltA := bl hbx ltA
  replace cB0 := bc hbx ltB cB0
  replace cB1 := bc hbx ltB cB1
  replace cB2 := bc hbx ltB cB2
  replace ltB := bl hbx ltB
  replace HLg := Lib.hid (HLg.out.below hbx)
  replace HP0 := Lib.hid (HP0.out.below hbx)
  replace HP1 := Lib.hid (HP1.out.below hbx)
  replace HP2 := Lib.hid (HP2.out.below hbx)
  replace HV0 := Lib.hid (HV0.out.below hbx)
  replace HVA := Lib.hid (HVA.out.below hbx)
  replace HVB := Lib.hid (HVB.out.below hbx)
  replace hB := hB.trans (hbx.mono hB.size)
  clear hbx
  generalize w7.drew = ww7d at *
  clear ex0 ex1 ex2 ex3
  refine wpFl_eff rfl rfl (fun wy hC hg K hK => ?_)
  obtain ⟨⟨wz, hE⟩, hwe⟩ := hC
  change wy = wz at hwe
  subst hwe
  replace cE0 := bc hg ltE cE0
  replace cE1 := bc hg ltE cE1
  replace cE2 := bc hg ltE cE2
  replace ltE := bl hg ltE
  replace cA0 := bc hg ltA cA0
  replace cA1 := bc hg ltA cA1
  replace cA2 := bc hg ltA cA2
  replace ltA := bl hg ltA
  replace cB0 := bc hg ltB cB0
  replace cB1 := bc hg ltB cB1
  replace cB2 := bc hg ltB cB2
  replace ltB := bl hg ltB
  replace HLg := Lib.hid (HLg.out.below hg)
  replace HP0 := Lib.hid (HP0.out.below hg)
  replace HP1 := Lib.hid (HP1.out.below hg)
  replace HP2 := Lib.hid (HP2.out.below hg)
  replace HV0 := Lib.hid (HV0.out.below hg)
  replace HVA := Lib.hid (HVA.out.below hg)
  replace HVB := Lib.hid (HVB.out.below hg)
  replace hB := hB.trans (hg.mono hB.size)
  replace hM := hE
  clear hE hg
  go_simp
  refine (recx 5 [] _ (aw_inb 2 [(4, 1)] (by omega) (by decide)) (by decide) (by decide) HVB.out HP1.out).mono ?_
  rintro e w8 ⟨p0C, r0C, p1C, kk, r1C, rfl, hv, hb⟩
  replace cE0 := bc hb ltE cE0
  replace cE1 := bc hb ltE cE1
  replace cE2 := bc hb ltE cE2
  replace ltE := bl hb ltE
  replace cA0 := bc hb ltA cA0
  replace cA1 := bc hb ltA cA1
  replace cA2 := bc hb ltA cA2
  replace ltA := bl hb ltA
  replace cB0 := bc hb ltB cB0
  replace cB1 := bc hb ltB cB1
  replace cB2 := bc hb ltB cB2
  replace ltB := bl hb ltB
  replace HLg := Lib.hid (HLg.out.below hb)
  replace HP0 := Lib.hid (HP0.out.below hb)
  replace HP1 := Lib.hid (HP1.out.below hb)
  replace HP2 := Lib.hid (HP2.out.below hb)
  replace HV0 := Lib.hid (HV0.out.below hb)
  replace HVA := Lib.hid (HVA.out.below hb)
  replace HVB := Lib.hid (HVB.out.below hb)
  replace hM := hM.trans (hb.mono hM.size)
  replace hB := hB.trans (hb.mono hB.size)
  obtain rfl : kk = 0 := hv.kl.symm
  have HVC := Lib.hid hv
  clear hv
  refine hK _ _ ⟨⟨w8, hM⟩, rfl⟩ hb ?_
  clear hK K hb
  repeat (refine wpFl_calm rfl (fun K hK => ?_); go_simp; refine hK _ ?_; clear hK K)
  refine wpFl_nil fun gC wy hC hg hBk hge => ?_
  obtain ⟨⟨wz, hE⟩, hwe⟩ := hC
  change wy = wz at hwe
  subst hwe
  replace cE0 := bc hg ltE cE0
  replace cE1 := bc hg ltE cE1
  replace cE2 := bc hg ltE cE2
  replace ltE := bl hg ltE
  replace cA0 := bc hg ltA cA0
  replace cA1 := bc hg ltA cA1
  replace cA2 := bc hg ltA cA2
  replace ltA := bl hg ltA
  replace cB0 := bc hg ltB cB0
  replace cB1 := bc hg ltB cB1
  replace cB2 := bc hg ltB cB2
  replace ltB := bl hg ltB
  replace HLg := Lib.hid (HLg.out.below hg)
  replace HP0 := Lib.hid (HP0.out.below hg)
  replace HP1 := Lib.hid (HP1.out.below hg)
  replace HP2 := Lib.hid (HP2.out.below hg)
  replace HV0 := Lib.hid (HV0.out.below hg)
  replace HVA := Lib.hid (HVA.out.below hg)
  replace HVB := Lib.hid (HVB.out.below hg)
  replace HVC := Lib.hid (HVC.out.below hg)
  replace hB := hB.trans (hg.mono hB.size)
  replace hM := hE
  clear hE hg
  have z0 := blk_cell hBk 0
  have y0 := blk_free hBk 0
  have z1 := blk_cell hBk 1
  have y1 := blk_free hBk 1
  have z2 := blk_cell hBk 2
  have y2 := blk_free hBk 2
  simp at z0 z1 z2
  have hgl := blk_lt hBk
  refine wpSched_eff rfl rfl (fun K hK => ?_)
  go_simp
  refine hK _ _ ⟨⟨_, (((hM.setCell (p := ⟨gC, 0, none⟩) hge _).setCell (p := ⟨gC, 1, none⟩) hge _).setCell (p := ⟨gC, 2, none⟩) hge _)⟩, rfl⟩ ?_
  clear hK K
  repeat (refine wpSched_calm rfl (fun K hK => ?_); go_simp; refine hK _ ?_; clear hK K)
  refine wpSched_nil ?_
  have hMn := (((hM.setCell (p := ⟨gC, 0, none⟩) hge (.int .i64 7)).setCell (p := ⟨gC, 1, none⟩) hge (.slice p0C 5 r0C)).setCell (p := ⟨gC, 2, none⟩) hge (.slice p1C 0 r1C))
  replace HVC := Lib.hid (HVC.out.gbyIn hBk (gby_trans (gby_trans (gby_set _ gC 0 (.int .i64 7)) (gby_set _ gC 1 (.slice p0C 5 r0C))) (gby_set _ gC 2 (.slice p1C 0 r1C))))
  replace cE0 := bc hMn SLE.out SCE0.out
  replace cE1 := bc hMn SLE.out SCE1.out
  replace cE2 := bc hMn SLE.out SCE2.out
  replace ltE := bl hMn SLE.out
  replace cA0 := bc hMn SLA.out SCA0.out
  replace cA1 := bc hMn SLA.out SCA1.out
  replace cA2 := bc hMn SLA.out SCA2.out
  replace ltA := bl hMn SLA.out
  replace cB0 := bc hMn SLB.out SCB0.out
  replace cB1 := bc hMn SLB.out SCB1.out
  replace cB2 := bc hMn SLB.out SCB2.out
  replace ltB := bl hMn SLB.out
  replace HLg := Lib.hid (SHLg.out.below hMn)
  replace HP0 := Lib.hid (SHP0.out.below hMn)
  replace HP1 := Lib.hid (SHP1.out.below hMn)
  replace HP2 := Lib.hid (SHP2.out.below hMn)
  replace HV0 := Lib.hid (SHV0.out.below hMn)
  replace HVA := Lib.hid (SHVA.out.below hMn)
  replace HVB := Lib.hid (SHVB.out.below hMn)
  replace hB := SB.out.trans (hMn.mono SB.out.size)
  have cC0 : (((wy.setCell ⟨gC, 0, none⟩ (.int .i64 7)).setCell ⟨gC, 1, none⟩ (.slice p0C 5 r0C)).setCell ⟨gC, 2, none⟩ (.slice p1C 0 r1C)).cell? ⟨gC, 0, none⟩ = some (.int .i64 7) := by go_simp
  have cC1 : (((wy.setCell ⟨gC, 0, none⟩ (.int .i64 7)).setCell ⟨gC, 1, none⟩ (.slice p0C 5 r0C)).setCell ⟨gC, 2, none⟩ (.slice p1C 0 r1C)).cell? ⟨gC, 1, none⟩ = some (.slice p0C 5 r0C) := by go_simp
  have cC2 : (((wy.setCell ⟨gC, 0, none⟩ (.int .i64 7)).setCell ⟨gC, 1, none⟩ (.slice p0C 5 r0C)).setCell ⟨gC, 2, none⟩ (.slice p1C 0 r1C)).cell? ⟨gC, 2, none⟩ = some (.slice p1C 0 r1C) := by go_simp
  have ltC : gC < (((wy.setCell ⟨gC, 0, none⟩ (.int .i64 7)).setCell ⟨gC, 1, none⟩ (.slice p0C 5 r0C)).setCell ⟨gC, 2, none⟩ (.slice p1C 0 r1C)).heap.size := by simpa using hgl
  have neCE : w2.heap.size < gC := Nat.lt_of_lt_of_le SLE.out hge
  have neCA : gA < gC := Nat.lt_of_lt_of_le SLA.out hge
  have neCB : gB < gC := Nat.lt_of_lt_of_le SLB.out hge
  clear SCE0 SCE1 SCE2 SLE SCA0 SCA1 SCA2 SLA SCB0 SCB1 SCB2 SLB SHLg SHP0 SHP1 SHP2 SHV0 SHVA SHVB SB
  clear hMn hM hBk hgl z0 y0 z1 y1 z2 y2
  go_wp2_with fail
  generalize (((wy.setCell ⟨gC, 0, none⟩ (.int .i64 7)).setCell ⟨gC, 1, none⟩ (.slice p0C 5 r0C)).setCell ⟨gC, 2, none⟩ (.slice p1C 0 r1C)) = w9 at *
  refine (new_no 0 _ (by decide)).mono ?_
  rintro e w10 ⟨rfl, hb⟩
  replace cE0 := bc hb ltE cE0
  replace cE1 := bc hb ltE cE1
  replace cE2 := bc hb ltE cE2
  replace ltE := bl hb ltE
  replace cA0 := bc hb ltA cA0
  replace cA1 := bc hb ltA cA1
  replace cA2 := bc hb ltA cA2
  replace ltA := bl hb ltA
  replace cB0 := bc hb ltB cB0
  replace cB1 := bc hb ltB cB1
  replace cB2 := bc hb ltB cB2
  replace ltB := bl hb ltB
  replace cC0 := bc hb ltC cC0
  replace cC1 := bc hb ltC cC1
  replace cC2 := bc hb ltC cC2
  replace ltC := bl hb ltC
  replace HLg := Lib.hid (HLg.out.below hb)
  replace HP0 := Lib.hid (HP0.out.below hb)
  replace HP1 := Lib.hid (HP1.out.below hb)
  replace HP2 := Lib.hid (HP2.out.below hb)
  replace HV0 := Lib.hid (HV0.out.below hb)
  replace HVA := Lib.hid (HVA.out.below hb)
  replace HVB := Lib.hid (HVB.out.below hb)
  replace HVC := Lib.hid (HVC.out.below hb)
  replace hB := hB.trans (hb.mono hB.size)
  clear hb
  go_wp2_with fail
  have hbx : Below w10.heap.size w10 (w10.alloc (.cells #[.int .i64 0, .slice none 0 0, .slice none 0 0] 28)) := ((Below.refl _ _).alloc (Nat.le_refl _) _)
  generalize hWW : (w10.alloc (.cells #[.int .i64 0, .slice none 0 0, .slice none 0 0] 28)) = w11 at *
  replace cE0 := bc hbx ltE cE0
  replace cE1 := bc hbx ltE cE1
  replace cE2 := bc hbx ltE cE2
  replace ltE := bl hbx ltE
  replace cA0 := bc hbx ltA cA0
  replace cA1 := bc hbx ltA cA1
  replace cA2 := bc hbx ltA cA2
  replace ltA := bl hbx ltA
  replace cB0 := bc hbx ltB cB0
  replace cB1 := bc hbx ltB cB1
  replace cB2 := bc hbx ltB cB2
  replace ltB := bl hbx ltB
  replace cC0 := bc hbx ltC cC0
  replace cC1 := bc hbx ltC cC1
  replace cC2 := bc hbx ltC cC2
  replace ltC := bl hbx ltC
  replace HLg := Lib.hid (HLg.out.below hbx)
  replace HP0 := Lib.hid (HP0.out.below hbx)
  replace HP1 := Lib.hid (HP1.out.below hbx)
  replace HP2 := Lib.hid (HP2.out.below hbx)
  replace HV0 := Lib.hid (HV0.out.below hbx)
  replace HVA := Lib.hid (HVA.out.below hbx)
  replace HVB := Lib.hid (HVB.out.below hbx)
  replace HVC := Lib.hid (HVC.out.below hbx)
  replace hB := hB.trans (hbx.mono hB.size)
  clear hbx hWW
  refine (need_any 7 p0A p1A 0 r0A 1 r1A _).mono ?_
  rintro e w12 ⟨rfl, hb⟩
  replace cE0 := bc hb ltE cE0
  replace cE1 := bc hb ltE cE1
  replace cE2 := bc hb ltE cE2
  replace ltE := bl hb ltE
  replace cA0 := bc hb ltA cA0
  replace cA1 := bc hb ltA cA1
  replace cA2 := bc hb ltA cA2
  replace ltA := bl hb ltA
  replace cB0 := bc hb ltB cB0
  replace cB1 := bc hb ltB cB1
  replace cB2 := bc hb ltB cB2
  replace ltB := bl hb ltB
  replace cC0 := bc hb ltC cC0
  replace cC1 := bc hb ltC cC1
  replace cC2 := bc hb ltC cC2
  replace ltC := bl hb ltC
  replace HLg := Lib.hid (HLg.out.below hb)
  replace HP0 := Lib.hid (HP0.out.below hb)
  replace HP1 := Lib.hid (HP1.out.below hb)
  replace HP2 := Lib.hid (HP2.out.below hb)
  replace HV0 := Lib.hid (HV0.out.below hb)
  replace HVA := Lib.hid (HVA.out.below hb)
  replace HVB := Lib.hid (HVB.out.below hb)
  replace HVC := Lib.hid (HVC.out.below hb)
  replace hB := hB.trans (hb.mono hB.size)
  clear hb
  go_wp2_with fail
  refine (need_any 7 p0B p1B 2 r0B 1 r1B _).mono ?_
  rintro e w13 ⟨rfl, hb⟩
  replace cE0 := bc hb ltE cE0
  replace cE1 := bc hb ltE cE1
  replace cE2 := bc hb ltE cE2
  replace ltE := bl hb ltE
  replace cA0 := bc hb ltA cA0
  replace cA1 := bc hb ltA cA1
  replace cA2 := bc hb ltA cA2
  replace ltA := bl hb ltA
  replace cB0 := bc hb ltB cB0
  replace cB1 := bc hb ltB cB1
  replace cB2 := bc hb ltB cB2
  replace ltB := bl hb ltB
  replace cC0 := bc hb ltC cC0
  replace cC1 := bc hb ltC cC1
  replace cC2 := bc hb ltC cC2
  replace ltC := bl hb ltC
  replace HLg := Lib.hid (HLg.out.below hb)
  replace HP0 := Lib.hid (HP0.out.below hb)
  replace HP1 := Lib.hid (HP1.out.below hb)
  replace HP2 := Lib.hid (HP2.out.below hb)
  replace HV0 := Lib.hid (HV0.out.below hb)
  replace HVA := Lib.hid (HVA.out.below hb)
  replace HVB := Lib.hid (HVB.out.below hb)
  replace HVC := Lib.hid (HVC.out.below hb)
  replace hB := hB.trans (hb.mono hB.size)
  clear hb
  go_wp2_with fail
  refine (leq_t awL p0C ag 5 r0C 5 _ HVC.out.da HLg.out).mono ?_
  rintro e w14 ⟨rfl, hb⟩
  replace cE0 := bc hb ltE cE0
  replace cE1 := bc hb ltE cE1
  replace cE2 := bc hb ltE cE2
  replace ltE := bl hb ltE
  replace cA0 := bc hb ltA cA0
  replace cA1 := bc hb ltA cA1
  replace cA2 := bc hb ltA cA2
  replace ltA := bl hb ltA
  replace cB0 := bc hb ltB cB0
  replace cB1 := bc hb ltB cB1
  replace cB2 := bc hb ltB cB2
  replace ltB := bl hb ltB
  replace cC0 := bc hb ltC cC0
  replace cC1 := bc hb ltC cC1
  replace cC2 := bc hb ltC cC2
  replace ltC := bl hb ltC
  replace HLg := Lib.hid (HLg.out.below hb)
  replace HP0 := Lib.hid (HP0.out.below hb)
  replace HP1 := Lib.hid (HP1.out.below hb)
  replace HP2 := Lib.hid (HP2.out.below hb)
  replace HV0 := Lib.hid (HV0.out.below hb)
  replace HVA := Lib.hid (HVA.out.below hb)
  replace HVB := Lib.hid (HVB.out.below hb)
  replace HVC := Lib.hid (HVC.out.below hb)
  replace hB := hB.trans (hb.mono hB.size)
  clear hb
  go_wp2_with fail
  go_ret
  exact ⟨rfl, hB⟩

end Go.Proofs.Ytpdodapdaeochaa
