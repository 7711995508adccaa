/- UploadOnce: whatever packets arrive, in whatever order and however often, the server's journal is a prefix of the uploaded one, and complete once all have arrived: the law returns true. No condition. -/
import Derived.Test.YtpdodapdaeochaaUpS
namespace Go.Proofs.Ytpdodapdaeochaa
set_option maxRecDepth 100000
open Go.ChangeShapes Go.WideShapes Go.ChangeAt Go.RowKit

theorem below_gby {w w' : World} {g B : Nat} (h : w.grownBy w' (some g)) (hg : B ≤ g) (hB : B ≤ w.heap.size) : Below B w w' :=
  ⟨h.os, h.tape, h.output, h.size, fun i hi => h.block i (by omega) (by simp; omega)⟩
def GB (w0 : World) (g : Nat) (w : World) : Prop := w0.grownBy w (some g)
theorem GB.below {w0 w w' : World} {g : Nat} (h : GB w0 g w) (hb : Below w.heap.size w w') : GB w0 g w' := gby_trans h ⟨hb.os, hb.tape, hb.output, hb.size, fun i hi _ => hb.block i hi⟩
theorem GB.refl (w : World) (g : Nat) : GB w g w := World.grownBy.refl w _

theorem infoBool : (Try.prog.info? 4).map (fun i => (i.zero, i.size, i.bytes)) = some (some (.bool false), 1, 1) := by kernel_rfl
theorem GB.cell {w0 w : World} {g b o : Nat} {v : Option Value} (h : GB w0 g w) (hlt : b < w0.heap.size) (hne : b ≠ g) (hc : w0.cell? ⟨b, o, none⟩ = v) : w.cell? ⟨b, o, none⟩ = v := by
  have := h.block b hlt (by simpa using hne)
  rw [← hc]; simp only [World.cell?, this]
/-- a block of bools -/
def BB (w : World) (g : Nat) (bs : List Bool) : Prop := w.heap[g]? = some (.cells (bs.map Value.bool).toArray 4)
theorem BB.below {w w' : World} {g : Nat} {bs : List Bool} (h : BB w g bs) (hb : Below w.heap.size w w') : BB w' g bs := blk_below h hb
theorem BB.set {w : World} {g : Nat} {bs : List Bool} (h : BB w g bs) (j : Nat) : BB (w.setCell ⟨g, j, none⟩ (.bool true)) g (bs.set j true) := by
  have := blk_set (o := j) h (.bool true)
  unfold BB; rw [this, List.map_set]; congr 2
  apply Array.ext'
  simp
theorem BB.cell {w : World} {g : Nat} {bs : List Bool} (h : BB w g bs) {j : Nat} (hj : j < bs.length) : w.cell? ⟨g, j, none⟩ = some (.bool (bs.getD j false)) := by
  rw [blk_cell h]; simp [List.getD, hj]
theorem BB.free {w : World} {g : Nat} {bs : List Bool} (h : BB w g bs) (j : Nat) : w.frozen? ⟨g, j, none⟩ = false := blk_free h j
theorem BB.of {w : World} {B g n : Nat} {bs : List Bool} (h : Owns w B 4 (.slice (some ⟨g, 0, none⟩) n n) (bs.map Value.bool)) (hn : bs.length = n) : BB w g bs := by
  rcases h.2 with ⟨h', _⟩ | ⟨g', cap', cur, h', hb, hg, hnc, hcm, hcs, htk⟩
  · cases h'
  · cases h'
    unfold BB; rw [hg]
    have : cur.toList = bs.map Value.bool := by
      rw [← htk, List.take_of_length_le]
      rw [Array.length_toList, hcs]; exact Nat.le_refl _
    rw [← this]
theorem BB.other {w w' : World} {g g' : Nat} {bs : List Bool} (h : BB w g bs) (hb : w.grownBy w' (some g')) (hne : g' ≠ g) : BB w' g bs := blk_by h hb (by simpa using hne)
theorem bool_cell {bs : List Bool} {o : Nat} {v : Value} (h : (bs.map Value.bool).toArray[o]? = some v) : ∃ b, v = .bool b := by
  rw [List.getElem?_toArray, List.getElem?_map] at h
  rcases hb : bs[o]? with _ | b
  · rw [hb] at h; cases h
  · rw [hb] at h; cases h; exact ⟨b, rfl⟩
theorem Bytes.offBB {w : World} {a : Option Addr} {n c : Nat} {xs : List UInt8} (h : Bytes w a n c xs) {g : Nat} {bs : List Bool} (hg : BB w g bs) : OffB g a n := by
  obtain ⟨h1, h2, h3, h4, h5⟩ := h
  rcases h5 with h5 | ⟨b, off, rfl, hlt, hc⟩
  · exact .inl h5
  rcases Nat.eq_zero_or_pos n with h0 | h0
  · exact .inl h0
  refine .inr fun x hx e => ?_
  cases hx
  have e' : b = g := e
  subst e'
  have := hc 0 h0
  rw [blk_cell hg] at this
  obtain ⟨b, e⟩ := bool_cell this
  cases e
theorem PksIn.gbyBB {w w' : World} {a : Option Addr} {n c : Nat} {f : Nat → PkM} (h : PksIn w a n c f) {g : Nat} {bs : List Bool} (hg : BB w g bs) (hb : w.grownBy w' (some g)) : PksIn w' a n c f := by
  obtain ⟨h1, h2, h3, h4⟩ := h
  refine ⟨h1, h2, h3, ?_⟩
  rcases h4 with h4 | ⟨b, off, rfl, hlt, hc⟩
  · exact .inl h4
  rcases Nat.eq_zero_or_pos n with h0 | h0
  · exact .inl h0
  have hne : b ≠ g := by
    intro e
    subst e
    obtain ⟨a, m, c, e0, -⟩ := hc 0 h0
    rw [blk_cell hg] at e0
    obtain ⟨b, e⟩ := bool_cell e0
    cases e
  have hbl := hb.block b hlt (by simpa using hne)
  refine .inr ⟨b, off, rfl, Nat.lt_of_lt_of_le hlt hb.size, fun i hi => ?_⟩
  obtain ⟨a, m, c, e0, e1, e2, e3, e4⟩ := hc i hi
  have hcell : ∀ o, w'.cell? ⟨b, o, none⟩ = w.cell? ⟨b, o, none⟩ := fun o => by simp only [World.cell?, hbl]
  exact ⟨a, m, c, by rw [hcell]; exact e0, by rw [hcell]; exact e1, by rw [hcell]; exact e2, by rw [hcell]; exact e3, e4.gby hb fun j hj => by cases hj; exact e4.offBB hg⟩
theorem InX.gbyBB {w w' : World} {s : Nat} {log : List UInt8} {d : Nat} {l : List PK} {b0 : Option Addr} {e0 : Nat} {b1 : Option Addr} {kk e1 : Nat} (h : InX w s log d l b0 e0 b1 kk e1) {g : Nat} {bs : List Bool} (hg : BB w g bs) (hb : w.grownBy w' (some g)) : InX w' s log d l b0 e0 b1 kk e1 := ⟨h.kl, h.da.gby hb fun j hj => by cases hj; exact h.da.offBB hg, h.ps.gbyBB hg hb⟩
/-- the bytes that have come -/
def Got (S : PK → Prop) (bs : List Bool) (m : Nat) : Prop := bs.length = m ∧ ∀ j, j < m → (bs.getD j false = true ↔ ∃ q, S q ∧ q.1 ≤ j ∧ j < q.1 + q.2)
theorem got_start (m : Nat) : Got (fun _ => False) (List.replicate m false) m := ⟨by simp, fun j hj => by simp [List.getD, hj]⟩
/-- k bytes from p on have been marked -/
def Mk (bs bs' : List Bool) (p k : Nat) : Prop := bs'.length = bs.length ∧ ∀ j, j < bs.length → (bs'.getD j false = true ↔ bs.getD j false = true ∨ (p ≤ j ∧ j < p + k))
theorem mk_start (bs : List Bool) (p : Nat) : Mk bs bs p 0 := ⟨rfl, fun j hj => by constructor; exact .inl; (rintro (h | h)); exact h; omega⟩
theorem Mk.step {bs bs' : List Bool} {p k : Nat} (h : Mk bs bs' p k) (_hp : p + k < bs.length) : Mk bs (bs'.set (p + k) true) p (k + 1) := by
  obtain ⟨h1, h2⟩ := h
  refine ⟨by simp [h1], fun j hj => ?_⟩
  by_cases he : p + k = j
  · subst he
    simp [List.getD, h1, hj]
  · have h3 : (bs'.set (p + k) true).getD j false = bs'.getD j false := by simp [List.getD, List.getElem?_set_ne he]
    rw [h3, h2 j hj]
    constructor
    · rintro (h | h)
      · exact .inl h
      · exact .inr (by omega)
    · rintro (h | h)
      · exact .inl h
      · exact .inr (by omega)
theorem Got.step {S : PK → Prop} {bs bs' : List Bool} {m : Nat} {q : PK} (h : Got S bs m) (h' : Mk bs bs' q.1 q.2) : Got (fun r => r = q ∨ S r) bs' m := by
  obtain ⟨h1, h2⟩ := h
  refine ⟨h'.1.trans h1, fun j hj => ?_⟩
  rw [h'.2 j (by omega), h2 j hj]
  constructor
  · rintro (⟨r, h3, h4⟩ | h3)
    · exact ⟨r, .inr h3, h4⟩
    · exact ⟨q, .inl rfl, h3⟩
  · rintro ⟨r, rfl | h3, h4⟩
    · exact .inr h4
    · exact .inl ⟨r, h3, h4⟩
/-- the first byte that has not come is where the data end -/
theorem got_need {S : PK → Prop} {bs : List Bool} {m d : Nat} {l : List PK} (h : Got S bs m) (hc : Can S d l) (hd : d ≤ m) : (∀ j, j < d → bs.getD j false = true) ∧ (d < m → bs.getD d false = false) := by
  refine ⟨fun j hj => (h.2 j (by omega)).2 (hc.2.2.2 j hj), fun hdm => ?_⟩
  rcases hb : bs.getD d false with _ | _
  · rfl
  · obtain ⟨q, h1, h2, h3⟩ := (h.2 d hdm).1 hb
    have := hc.2.2.1 q h1 h2
    omega
theorem inb_full {s : Nat} {log : List UInt8} {d : Nat} {l : List PK} (h : Inb s log d l) (hd : d = log.length) : l = [] := by
  rcases l with _ | ⟨q, l⟩
  · rfl
  · obtain ⟨⟨h1, -, h2⟩, h3⟩ := h.mem q (by simp)
    omega
set_option maxHeartbeats 16000000 in
theorem uploadOnce_calls (xs ord : List UInt8) (x y : UInt8) (a ao : Option Addr) (len cap lo co : Nat) (w : World) (hx : Bytes w a len cap xs) (ho : Bytes w ao lo co ord) :
    Calls Try.prog 3 #[.slice a len cap, .agg #[.int .u8 (x.toNat : Int), .int .u8 (y.toNat : Int)], .slice ao lo co] w fun e w' => e = .returned (.bool true) ∧ Below w.heap.size w w' := by
  have HX := Lib.hid hx
  have HO := Lib.hid ho
  obtain ⟨m, hm⟩ : ∃ m, m = min len 80 := ⟨_, rfl⟩
  have HM := Lib.hid hm
  have hm8 : m ≤ 80 := by omega
  obtain ⟨s1, h1⟩ : ∃ s1, s1 = x.toNat % 16 + 1 := ⟨_, rfl⟩
  obtain ⟨s2, h2⟩ : ∃ s2, s2 = y.toNat % 16 + 1 := ⟨_, rfl⟩
  have H1 := Lib.hid h1
  have H2 := Lib.hid h2
  have hs1 : 1 ≤ s1 ∧ s1 ≤ 16 := by omega
  have hs2 : 1 ≤ s2 ∧ s2 ≤ 16 := by omega
  have HLm := Lib.hid (show (xs.take m).length = m by rw [List.length_take, hx.1]; omega)
  have HG := Lib.hid (show ∀ i, i < fleetN m s1 s2 → GoodQ (xs.take m) (fleetQ m s1 s2 i) from fun i hi => by
    have h9 := fleet_good (log := xs.take m) (s1 := s1) (s2 := s2) (i := i) hs1.1 (by omega) hs2.1 (by omega) (by rw [HLm.out]; exact hi)
    rwa [HLm.out] at h9)
  have HLl := Lib.hid (show (xs.take m).length ≤ 1048576 by rw [HLm.out]; omega)
  clear hx ho hm h1 h2
  go_enter Try.func3, Try.ntmps3
  go_wp2_with fail
  have hbx : Below w.heap.size w (w.alloc (.cells #[.int .u8 (x.toNat : Int), .int .u8 (y.toNat : Int)] 23)) := ((Below.refl _ _).alloc (Nat.le_refl _) _)
  generalize hWW : (w.alloc (.cells #[.int .u8 (x.toNat : Int), .int .u8 (y.toNat : Int)] 23)) = w0 at *
  replace HX := Lib.hid (HX.out.below hbx)
  replace HO := Lib.hid (HO.out.below hbx)
  have cZ0 : w0.cell? ⟨w.heap.size, 0, none⟩ = some (.int .u8 (x.toNat : Int)) := by subst hWW; go_simp
  have cZ1 : w0.cell? ⟨w.heap.size, 1, none⟩ = some (.int .u8 (y.toNat : Int)) := by subst hWW; go_simp
  have ltZ : w.heap.size < w0.heap.size := by subst hWW; simp
  have hB := hbx
  clear hbx hWW
  refine (fleet_any xs x y a len cap m s1 s2 _ HX.out HM.out H1.out H2.out).mono ?_
  rintro e w1 ⟨b, c, rfl, hl, hb⟩
  replace cZ0 := bc hb ltZ cZ0
  replace cZ1 := bc hb ltZ cZ1
  replace ltZ := bl hb ltZ
  replace HX := Lib.hid (HX.out.below hb)
  replace HO := Lib.hid (HO.out.below hb)
  replace hB := hB.trans (hb.mono hB.size)
  have HL := Lib.hid hl
  have HB := Lib.hid (HX.out.pre m (by have := HM.out; omega))
  clear hl H1 H2
  clear hb
  clear cZ0 cZ1 ltZ
  generalize fleetN m s1 s2 = n at *
  generalize fleetQ m s1 s2 = L at *
  generalize xs.take m = log at *
  have HL1 := Lib.hid HL.out
  have HB1 := Lib.hid HB.out
  have hB1 := Lib.hid hB
  have hlm : lo ≤ 9223372036854775807 := by have h3 := HO.out.2.1; have h4 := HO.out.2.2.1; unfold maxLen at h4; omega
  have HO1 := Lib.hid HO.out
  go_wp2_with fail
  refine (new_ok 5 _ (by decide)).mono ?_
  rintro e w2 ⟨rfl, hb⟩
  replace HX := Lib.hid (HX.out.below hb)
  replace HO := Lib.hid (HO.out.below hb)
  replace HL := Lib.hid (HL.out.below hb)
  replace HB := Lib.hid (HB.out.below hb)
  replace hB := hB.trans (hb.mono hB.size)
  have hs2 := hb.size
  have hb2' := hb
  clear hb
  have HE2 := Lib.hid (show IB (w2.alloc (.cells #[.int .i64 5, .slice none 0 0, .slice none 0 0] 28)) w2.heap.size 5 0 none 0 none 0 0 from heap_alloc_new _ _)
  have hb2 : Below w1.heap.size w1 (w2.alloc (.cells #[.int .i64 5, .slice none 0 0, .slice none 0 0] 28)) := (hb2'.trans (((Below.refl w2.heap.size w2).alloc (Nat.le_refl _) _).mono hs2))
  have hsE : (w2.alloc (.cells #[.int .i64 5, .slice none 0 0, .slice none 0 0] 28)).heap.size = w2.heap.size + 1 := by simp
  clear hB HX HO HL HB
  go_wp2_with (at_make; refine wpList_mkn rfl _ _ 32 rfl 4 (.bool false) 1 Try.underlying32 infoBool rfl _ _ _ _ m rfl rfl rfl rfl (by omega) (by simp only [maxLen]; omega) fun w4 h3 h4 => ?_)
  generalize (w2.alloc (.cells #[.int .i64 5, .slice none 0 0, .slice none 0 0] 28)) = w3 at *
  have HG4 := Lib.hid (BB.of (bs := List.replicate m false) (by rw [List.map_replicate]; exact h3) (by simp))
  have HE4 := Lib.hid (HE2.out.below h4)
  have HA4 := Lib.hid (show Bl w1 w4 from hb2.trans (h4.mono hb2.size))
  rw [hsE] at HG4
  have hse1 : w1.heap.size ≤ w2.heap.size := hs2
  clear h3 h4 HE2 hb2 hb2' hsE hs2
  generalize w2.heap.size = gE at *
  go_wp2_with fail
  have HSt4 := Lib.hid (St.start (n := n) (L := L) HLl.out)
  have HGt4 := Lib.hid (got_start m)
  go_loopw [42] (fun i wr => ∃ (k d kk c0 c1 : Nat) (l : List PK) (S : PK → Prop) (a0 a1 : Option Addr) (bs : List Bool), k ≤ lo ∧ k ≤ 100 ∧ i = .int .i64 k ∧ Hid (St log n L S d l k) ∧ Hid (Bl w1 wr) ∧ Hid (IB wr gE 5 d a0 c0 a1 kk c1) ∧ Hid (InX wr 5 log d l a0 c0 a1 kk c1) ∧ Hid (BB wr (gE + 1) bs) ∧ Hid (Got S bs m)) (fun i _ => lo - (intOf i).toNat)
  case atStart => exact ⟨0, 0, 0, 0, 0, [], _, none, none, _, by omega, by omega, rfl, HSt4, HA4, HE4, Lib.hid (InX.zero _ _ _), HG4, HGt4⟩
  case round =>
    clear HSt4 HA4 HE4 HG4 HGt4
    generalize wr = wq at *
    obtain ⟨k, d, kk, c0, c1, l, S, a0, a1, bs, hk, hk30, rfl, HSt, HA, HE, HV, HGb, HGt⟩ := hrel
    obtain ⟨cE0, cE1, cE2, fE0, fE1, fE2, ltE⟩ := HE.out.cells
    have hdm : d ≤ m := by rw [← HLm.out]; exact HSt.out.inb.dl
    by_cases hlt : k < lo
    · obtain ⟨bo, off, rfl, hbs, hcc⟩ := HO1.out.2.at (k := k) hlt
      have o0 := hcc k hlt wq HA.out
      clear hcc
      generalize ord.getD k 0 = z at *
      by_cases hbr : k < 100 ∧ 0 < n
      · obtain ⟨hk3, hn0⟩ := hbr
        have d1 : decide (100 ≤ (k : Int)) = false := decide_eq_false (by omega)
        have d2 : ((n : Int) == 0) = false := by simp; omega
        obtain ⟨ix, hix⟩ : ∃ ix, ix = z.toNat % n := ⟨_, rfl⟩
        have hixn : ix < n := by rw [hix]; exact Nat.mod_lt _ hn0
        have e1 : (z.toNat : Int) % n = ix := by omega
        have e2 : Int.tmod (z.toNat : Int) n = ix := by rw [Int.tmod_eq_emod_of_nonneg (by omega)]; exact e1
        have hxl := z.toNat_lt
        have hw : IntKind.i64.wrap (z.toNat : Int) = z.toNat := by rw [IntWalk.i64_in _ (by omega)]
        have hnn : n ≠ 0 := by omega
        obtain ⟨b2, off2, rfl, pp, ap, np, cp, up, hp⟩ := PksIn.pkc (PksIn.below HL1.out HA.out) hixn (HG.out ix hixn)
        have HP := Lib.hid hp
        have hgq := HG.out ix hixn
        have HPp := Lib.hid hp.ep
        have HPn := Lib.hid hp.en
        have hppm : pp + np ≤ m := by rw [← hp.ep, ← hp.en, ← HLm.out]; exact hgq.2.2
        have hnp2 : np ≤ 2000 := by rw [← hp.en]; exact hgq.2.1
        have x0 := hp.c0
        have x1 := hp.c1
        have x2 := hp.c2
        have x3 := hp.c3
        have xl := hp.lt
        have hB := hB1.out.trans (Below.mono HA.out hB1.out.size)
        have HBq := Lib.hid (Bytes.below HB1.out HA.out)
        clear hp hix hgq
        have hEP := ltE
        have hGl := blk_lt HGb.out
        have hba : Below wq.heap.size wq (wq.alloc (.cells #[.int .i64 5, .int .i64 pp, .slice ap np cp, .int .u64 (up.toNat : Int)] 35)) := (Below.refl _ _).alloc (Nat.le_refl _) _
        have nE0 := bc hba ltE cE0
        have nE1 := bc hba ltE cE1
        have nE2 := bc hba ltE cE2
        have nx0 := bc hba xl x0
        have nx1 := bc hba xl x1
        have nx2 := bc hba xl x2
        have nx3 := bc hba xl x3
        go_wp2_with fail
        clear hba nE0 nE1 nE2 nx0 nx1 nx2 nx3
        have hbx : Below wq.heap.size wq (wq.alloc (.cells #[.int .i64 5, .int .i64 pp, .slice ap np cp, .int .u64 (up.toNat : Int)] 35)) := ((Below.refl _ _).alloc (Nat.le_refl _) _)
        generalize hWW : (wq.alloc (.cells #[.int .i64 5, .int .i64 pp, .slice ap np cp, .int .u64 (up.toNat : Int)] 35)) = wx at *
        replace cE0 := bc hbx ltE cE0
        replace fE0 := bf hbx ltE fE0
        replace cE1 := bc hbx ltE cE1
        replace fE1 := bf hbx ltE fE1
        replace cE2 := bc hbx ltE cE2
        replace fE2 := bf hbx ltE fE2
        replace ltE := bl hbx ltE
        replace HP := Lib.hid (HP.out.below hbx)
        replace HV := Lib.hid (HV.out.below hbx)
        replace HE := Lib.hid (HE.out.below hbx)
        replace HA := Lib.hid (HA.out.below hbx)
        replace HGb := Lib.hid (HGb.out.below hbx)
        replace HBq := Lib.hid (HBq.out.below hbx)
        have cP0 : wx.cell? ⟨wq.heap.size, 0, none⟩ = some (.int .i64 5) := by subst hWW; go_simp
        have cP1 : wx.cell? ⟨wq.heap.size, 1, none⟩ = some (.int .i64 pp) := by subst hWW; go_simp
        have cP2 : wx.cell? ⟨wq.heap.size, 2, none⟩ = some (.slice ap np cp) := by subst hWW; go_simp
        have cP3 : wx.cell? ⟨wq.heap.size, 3, none⟩ = some (.int .u64 (up.toNat : Int)) := by subst hWW; go_simp
        have ltP : wq.heap.size < wx.heap.size := by subst hWW; simp
        replace hB := hB.trans (hbx.mono hB.size)
        clear hbx hWW
        clear x0 x1 x2 x3 xl
        refine (recx (rxN d l (L ix)).1 (rxN d l (L ix)).2 _ HSt.out.inb (HG.out ix hixn) rfl HV.out HP.out).mono ?_
        rintro e wy ⟨p0, r0, p1, k2, r1, rfl, hv, hb⟩
        replace cE0 := bc hb ltE cE0
        replace fE0 := bf hb ltE fE0
        replace cE1 := bc hb ltE cE1
        replace fE1 := bf hb ltE fE1
        replace cE2 := bc hb ltE cE2
        replace fE2 := bf hb ltE fE2
        replace ltE := bl hb ltE
        replace cP0 := bc hb ltP cP0
        replace cP1 := bc hb ltP cP1
        replace cP2 := bc hb ltP cP2
        replace cP3 := bc hb ltP cP3
        replace ltP := bl hb ltP
        replace HP := Lib.hid (HP.out.below hb)
        replace HV := Lib.hid (HV.out.below hb)
        replace HE := Lib.hid (HE.out.below hb)
        replace HA := Lib.hid (HA.out.below hb)
        replace HGb := Lib.hid (HGb.out.below hb)
        replace HBq := Lib.hid (HBq.out.below hb)
        replace hB := hB.trans (hb.mono hB.size)
        obtain ⟨hs9, hs8⟩ := HSt.out.step (by omega) hixn (HG.out ix hixn)
        have HSn := Lib.hid hs9
        have hd2m : (rxN d l (L ix)).1 ≤ m := by rw [← HLm.out]; exact hs9.inb.dl
        generalize (rxN d l (L ix)).1 = d2 at *
        generalize (rxN d l (L ix)).2 = l2 at *
        have HVn := Lib.hid hv
        have dn : decide (d2 < d) = false := decide_eq_false (by omega)
        have dm : decide (m < d2) = false := decide_eq_false (by omega)
        clear hv hs9
        clear hb
        have hba : Below wy.heap.size wy (wy.alloc (.cells #[.int .i64 5, .slice p0 d2 r0, .slice p1 k2 r1] 28)) := (Below.refl _ _).alloc (Nat.le_refl _) _
        have nE0 := bc hba ltE cE0
        have nE1 := bc hba ltE cE1
        have nE2 := bc hba ltE cE2
        have nP0 := bc hba ltP cP0
        have nP1 := bc hba ltP cP1
        have nP2 := bc hba ltP cP2
        have nP3 := bc hba ltP cP3
        go_wp2_with fail
        clear hba nE0 nE1 nE2 nP0 nP1 nP2 nP3
        have hbx : Below wy.heap.size wy (wy.alloc (.cells #[.int .i64 5, .slice p0 d2 r0, .slice p1 k2 r1] 28)) := ((Below.refl _ _).alloc (Nat.le_refl _) _)
        generalize hWW : (wy.alloc (.cells #[.int .i64 5, .slice p0 d2 r0, .slice p1 k2 r1] 28)) = wz at *
        replace cE0 := bc hbx ltE cE0
        replace fE0 := bf hbx ltE fE0
        replace cE1 := bc hbx ltE cE1
        replace fE1 := bf hbx ltE fE1
        replace cE2 := bc hbx ltE cE2
        replace fE2 := bf hbx ltE fE2
        replace ltE := bl hbx ltE
        replace cP0 := bc hbx ltP cP0
        replace cP1 := bc hbx ltP cP1
        replace cP2 := bc hbx ltP cP2
        replace cP3 := bc hbx ltP cP3
        replace ltP := bl hbx ltP
        replace HP := Lib.hid (HP.out.below hbx)
        replace HV := Lib.hid (HV.out.below hbx)
        replace HE := Lib.hid (HE.out.below hbx)
        replace HA := Lib.hid (HA.out.below hbx)
        replace HGb := Lib.hid (HGb.out.below hbx)
        replace HBq := Lib.hid (HBq.out.below hbx)
        replace HVn := Lib.hid (HVn.out.below hbx)
        have cN0 : wz.cell? ⟨wy.heap.size, 0, none⟩ = some (.int .i64 5) := by subst hWW; go_simp
        have cN1 : wz.cell? ⟨wy.heap.size, 1, none⟩ = some (.slice p0 d2 r0) := by subst hWW; go_simp
        have cN2 : wz.cell? ⟨wy.heap.size, 2, none⟩ = some (.slice p1 k2 r1) := by subst hWW; go_simp
        have ltN : wy.heap.size < wz.heap.size := by subst hWW; simp
        replace hB := hB.trans (hbx.mono hB.size)
        clear hbx hWW
        have hmcap : m ≤ cap := HBq.out.2.1
        have hd2c : d2 ≤ cap := by omega
        have eE0 := box_ext (B := wz.heap.size) cE0 ltE
        have eE1 := box_ext (B := wz.heap.size) cE1 ltE
        have eE2 := box_ext (B := wz.heap.size) cE2 ltE
        have eP0 := box_ext (B := wz.heap.size) cP0 ltP
        have eP1 := box_ext (B := wz.heap.size) cP1 ltP
        have eP2 := box_ext (B := wz.heap.size) cP2 ltP
        have eP3 := box_ext (B := wz.heap.size) cP3 ltP
        have eN0 := box_ext (B := wz.heap.size) cN0 ltN
        have eN1 := box_ext (B := wz.heap.size) cN1 ltN
        have eN2 := box_ext (B := wz.heap.size) cN2 ltN
        refine wp_region_sched [(0, false), (1, false), (2, false), (3, false), (5, false), (6, false), (7, false), (4, true), (8, false), (9, false), (10, false), (11, false), (12, false), (13, false), (14, false), (15, false), (16, false), (17, false), (18, false), (19, false), (20, false), (21, false), (22, false), (23, false), (24, false), (25, false), (26, true), (27, false), (28, false), (29, false), (30, false), (31, false), (32, false), (33, false), (34, false), (35, false), (36, false), (37, false)] (fun w' => ∃ W : Ext wz.heap.size wz, w' = W.1) (by kernel_rfl) (by kernel_rfl) ⟨⟨wz.drew, (Below.refl _ _).drew⟩, rfl⟩ ?_
        repeat (refine wpSched_calm rfl (fun K hK => ?_); go_simp; refine hK _ ?_; clear hK K)
        have hbx : Below wz.heap.size wz wz.drew := (Below.refl _ _).drew
        have hM := hbx
        replace cE0 := bc hbx ltE cE0
        replace fE0 := bf hbx ltE fE0
        replace cE1 := bc hbx ltE cE1
        replace fE1 := bf hbx ltE fE1
        replace cE2 := bc hbx ltE cE2
        replace fE2 := bf hbx ltE fE2
        replace ltE := bl hbx ltE
        replace cP0 := bc hbx ltP cP0
        replace cP1 := bc hbx ltP cP1
        replace cP2 := bc hbx ltP cP2
        replace cP3 := bc hbx ltP cP3
        replace ltP := bl hbx ltP
        replace cN0 := bc hbx ltN cN0
        replace cN1 := bc hbx ltN cN1
        replace cN2 := bc hbx ltN cN2
        replace ltN := bl hbx ltN
        replace HP := Lib.hid (HP.out.below hbx)
        replace HV := Lib.hid (HV.out.below hbx)
        replace HE := Lib.hid (HE.out.below hbx)
        replace HA := Lib.hid (HA.out.below hbx)
        replace HGb := Lib.hid (HGb.out.below hbx)
        replace HBq := Lib.hid (HBq.out.below hbx)
        replace HVn := Lib.hid (HVn.out.below hbx)
        replace hB := hB.trans (hbx.mono hB.size)
        clear hbx
        generalize wz.drew = wwzd at *
        refine wpSched_geff rfl ?_ (fun K hK => ?_)
        · go_simp
        go_simp
        refine (need_any 5 p0 p1 d2 r0 k2 r1 _).mono ?_
        rintro e wu ⟨rfl, hb⟩
        replace cE0 := bc hb ltE cE0
        replace fE0 := bf hb ltE fE0
        replace cE1 := bc hb ltE cE1
        replace fE1 := bf hb ltE fE1
        replace cE2 := bc hb ltE cE2
        replace fE2 := bf hb ltE fE2
        replace ltE := bl hb ltE
        replace cP0 := bc hb ltP cP0
        replace cP1 := bc hb ltP cP1
        replace cP2 := bc hb ltP cP2
        replace cP3 := bc hb ltP cP3
        replace ltP := bl hb ltP
        replace cN0 := bc hb ltN cN0
        replace cN1 := bc hb ltN cN1
        replace cN2 := bc hb ltN cN2
        replace ltN := bl hb ltN
        replace HP := Lib.hid (HP.out.below hb)
        replace HV := Lib.hid (HV.out.below hb)
        replace HE := Lib.hid (HE.out.below hb)
        replace HA := Lib.hid (HA.out.below hb)
        replace HGb := Lib.hid (HGb.out.below hb)
        replace HBq := Lib.hid (HBq.out.below hb)
        replace HVn := Lib.hid (HVn.out.below hb)
        replace hM := hM.trans (hb.mono hM.size)
        replace hB := hB.trans (hb.mono hB.size)
        clear hb
        refine hK _ _ ⟨⟨wu, hM⟩, rfl⟩ ?_
        clear hK K
        repeat (refine wpSched_calm rfl (fun K hK => ?_); go_simp; refine hK _ ?_; clear hK K)
        refine wpSched_geff rfl ?_ (fun K hK => ?_)
        · go_simp
        go_simp
        refine (leq_t (log.take d2) p0 a d2 r0 cap _ HVn.out.da (HBq.out.pre d2 hd2m)).mono ?_
        rintro e wv ⟨rfl, hb⟩
        replace cE0 := bc hb ltE cE0
        replace fE0 := bf hb ltE fE0
        replace cE1 := bc hb ltE cE1
        replace fE1 := bf hb ltE fE1
        replace cE2 := bc hb ltE cE2
        replace fE2 := bf hb ltE fE2
        replace ltE := bl hb ltE
        replace cP0 := bc hb ltP cP0
        replace cP1 := bc hb ltP cP1
        replace cP2 := bc hb ltP cP2
        replace cP3 := bc hb ltP cP3
        replace ltP := bl hb ltP
        replace cN0 := bc hb ltN cN0
        replace cN1 := bc hb ltN cN1
        replace cN2 := bc hb ltN cN2
        replace ltN := bl hb ltN
        replace HP := Lib.hid (HP.out.below hb)
        replace HV := Lib.hid (HV.out.below hb)
        replace HE := Lib.hid (HE.out.below hb)
        replace HA := Lib.hid (HA.out.below hb)
        replace HGb := Lib.hid (HGb.out.below hb)
        replace HBq := Lib.hid (HBq.out.below hb)
        replace HVn := Lib.hid (HVn.out.below hb)
        replace hM := hM.trans (hb.mono hM.size)
        replace hB := hB.trans (hb.mono hB.size)
        clear hb
        refine hK _ _ ⟨⟨wv, hM⟩, rfl⟩ ?_
        clear hK K
        repeat (refine wpSched_calm rfl (fun K hK => ?_); go_simp; refine hK _ ?_; clear hK K)
        clear eE0 eE1 eE2 eP0 eP1 eP2 eP3 eN0 eN1 eN2
        refine wpSched_nil ?_
        go_wp2_with fail
        have HV6 := Lib.hid (show InX (((wv.setCell ⟨gE, 0, none⟩ (.int .i64 5)).setCell ⟨gE, 1, none⟩ (.slice p0 d2 r0)).setCell ⟨gE, 2, none⟩ (.slice p1 k2 r1)) 5 log d2 l2 p0 r0 p1 k2 r1 from HVn.out.gbyIB HE.out (setI_gby wv gE 5 d2 p0 r0 p1 k2 r1))
        have HE6 := Lib.hid (show IB (((wv.setCell ⟨gE, 0, none⟩ (.int .i64 5)).setCell ⟨gE, 1, none⟩ (.slice p0 d2 r0)).setCell ⟨gE, 2, none⟩ (.slice p1 k2 r1)) gE 5 d2 p0 r0 p1 k2 r1 from HE.out.set 5 d2 p0 r0 p1 k2 r1)
        have HA6 := Lib.hid (show Bl w1 (((wv.setCell ⟨gE, 0, none⟩ (.int .i64 5)).setCell ⟨gE, 1, none⟩ (.slice p0 d2 r0)).setCell ⟨gE, 2, none⟩ (.slice p1 k2 r1)) from below_setI HA.out hse1 5 d2 p0 r0 p1 k2 r1)
        have HG6 := Lib.hid (show BB (((wv.setCell ⟨gE, 0, none⟩ (.int .i64 5)).setCell ⟨gE, 1, none⟩ (.slice p0 d2 r0)).setCell ⟨gE, 2, none⟩ (.slice p1 k2 r1)) (gE + 1) bs from HGb.out.other (setI_gby wv gE 5 d2 p0 r0 p1 k2 r1) (by omega))
        have HP1 := Lib.hid (show (((wv.setCell ⟨gE, 0, none⟩ (.int .i64 5)).setCell ⟨gE, 1, none⟩ (.slice p0 d2 r0)).setCell ⟨gE, 2, none⟩ (.slice p1 k2 r1)).cell? ⟨wq.heap.size, 1, none⟩ = some (.int .i64 pp) by go_simp)
        have HPl := Lib.hid (show wq.heap.size < (((wv.setCell ⟨gE, 0, none⟩ (.int .i64 5)).setCell ⟨gE, 1, none⟩ (.slice p0 d2 r0)).setCell ⟨gE, 2, none⟩ (.slice p1 k2 r1)).heap.size by simpa using ltP)
        clear cE0 cE1 cE2 fE0 fE1 fE2 ltE cP0 cP1 cP2 cP3 ltP cN0 cN1 cN2 ltN HVn HE HA HGb HBq HV HP hB hM o0
        generalize (((wv.setCell ⟨gE, 0, none⟩ (.int .i64 5)).setCell ⟨gE, 1, none⟩ (.slice p0 d2 r0)).setCell ⟨gE, 2, none⟩ (.slice p1 k2 r1)) = w6 at *
        go_loopw [110] (fun i wz => ∃ (j : Nat) (bs' : List Bool), j ≤ np ∧ i = .int .i64 j ∧ Hid (GB w6 (gE + 1) wz) ∧ Hid (BB wz (gE + 1) bs') ∧ Hid (Mk bs bs' pp j)) (fun i _ => np - (intOf i).toNat)
        case atStart => exact ⟨0, bs, by omega, rfl, Lib.hid (GB.refl _ _), HG6, Lib.hid (mk_start _ _)⟩
        case round =>
          generalize wr = wn at *
          obtain ⟨j, bs', hj, rfl, HGB, HBB, HMk⟩ := hrel
          have cP1 := HGB.out.cell HPl.out (show wq.heap.size ≠ gE + 1 by omega) HP1.out
          by_cases hjl : j < np
          · obtain ⟨t, ht⟩ : ∃ t, t = pp + j := ⟨_, rfl⟩
            have hbl : bs'.length = m := HMk.out.1.trans HGt.out.1
            have e3 : (pp : Int) + j = t := by omega
            have htm : t < m := by omega
            have cg := HBB.out.cell (j := t) (by omega)
            have fg := HBB.out.free t
            have HBn := Lib.hid (HBB.out.set t)
            have HGn := Lib.hid (show GB w6 (gE + 1) (wn.setCell ⟨gE + 1, t, none⟩ (.bool true)) from gby_trans HGB.out (gby_set _ _ _ _))
            have HMn := Lib.hid (show Mk bs (bs'.set t true) pp (j + 1) by rw [ht]; exact HMk.out.step (by rw [HGt.out.1]; omega))
            clear hbl ht
            generalize bs'.getD t false = bt at *
            go_wp2_with fail
            go_roundw
            case rel => exact ⟨j + 1, _, by omega, by go_num, HGn, HBn, HMn⟩
            case measure => simp [intOf]; omega
          · obtain rfl : j = np := by omega
            have HGt2 := Lib.hid (HGt.out.step (q := L ix) (by rw [HPp.out, HPn.out]; exact HMk.out))
            have HV7 := Lib.hid (HV6.out.gbyBB HG6.out HGB.out)
            have HE7 := Lib.hid (HE6.out.other HGB.out (by omega))
            have HA7 := Lib.hid (show Bl w1 wn from Below.trans HA6.out (below_gby HGB.out (by omega) (Below.size HA6.out)))
            go_wp2_with fail
            go_roundw
            case rel => exact ⟨k + 1, d2, k2, r0, r1, l2, _, p0, p1, bs', by omega, by omega, by go_num, HSn, HA7, HE7, HV7, HBB, HGt2⟩
            case measure => simp [intOf]; omega
      · by_cases hk3 : k < 100
        · have hn0 : n = 0 := by omega
          have d1 : decide (100 ≤ (k : Int)) = false := decide_eq_false (by omega)
          have d2 : ((n : Int) == 0) = true := by simp [hn0]
          clear hbr hn0
          obtain ⟨hn1, hn2⟩ := got_need HGt.out HSt.out.can hdm
          have HN1 := Lib.hid hn1
          have HN2 := Lib.hid hn2
          clear hn1 hn2
          go_wp2_with fail
          go_loopw [19] (fun i wz => ∃ j : Nat, j ≤ d ∧ i = .int .i64 j ∧ wz = wq) (fun i _ => d - (intOf i).toNat)
          case atStart => exact ⟨0, by omega, rfl, by first | trivial | rfl⟩
          case round =>
            obtain ⟨j, hj, rfl, hwz⟩ := hrel
            subst hwz
            by_cases hjd : j < d
            · have cg := HGb.out.cell (j := j) (by rw [HGt.out.1]; omega)
              rw [HN1.out j hjd] at cg
              have dj : decide (j < m) = true := decide_eq_true (by omega)
              go_wp2_with fail
              go_roundw
              case rel => exact ⟨j + 1, by omega, by go_num, by first | trivial | rfl⟩
              case measure => simp [intOf]; omega
            · obtain rfl : j = d := by omega
              by_cases hdm2 : j < m
              · have cg := HGb.out.cell (j := j) (by rw [HGt.out.1]; omega)
                rw [HN2.out hdm2] at cg
                have dj : decide (j < m) = true := decide_eq_true hdm2
                go_wp2_with fail
                refine (awake_any _).mono ?_
                rintro e wz ⟨rfl, hb⟩
                have hBz := hB1.out.trans (Below.mono (Below.trans HA.out (hb.mono (Below.size HA.out))) hB1.out.size)
                go_wp2_with fail
                go_ret
                exact ⟨rfl, hBz⟩
              · have dj : decide (j < m) = false := decide_eq_false hdm2
                have hl0 := inb_full HSt.out.inb (by rw [HLm.out]; omega)
                subst hl0
                obtain rfl : kk = 0 := HV.out.kl.symm
                go_wp2_with fail
                refine (awake_any _).mono ?_
                rintro e wz ⟨rfl, hb⟩
                have hBz := hB1.out.trans (Below.mono (Below.trans HA.out (hb.mono (Below.size HA.out))) hB1.out.size)
                go_wp2_with fail
                go_ret
                exact ⟨rfl, hBz⟩
        · have d1 : decide (100 ≤ (k : Int)) = true := decide_eq_true (by omega)
          clear hbr hk3
          obtain ⟨hn1, hn2⟩ := got_need HGt.out HSt.out.can hdm
          have HN1 := Lib.hid hn1
          have HN2 := Lib.hid hn2
          clear hn1 hn2
          go_wp2_with fail
          go_loopw [19] (fun i wz => ∃ j : Nat, j ≤ d ∧ i = .int .i64 j ∧ wz = wq) (fun i _ => d - (intOf i).toNat)
          case atStart => exact ⟨0, by omega, rfl, by first | trivial | rfl⟩
          case round =>
            obtain ⟨j, hj, rfl, hwz⟩ := hrel
            subst hwz
            by_cases hjd : j < d
            · have cg := HGb.out.cell (j := j) (by rw [HGt.out.1]; omega)
              rw [HN1.out j hjd] at cg
              have dj : decide (j < m) = true := decide_eq_true (by omega)
              go_wp2_with fail
              go_roundw
              case rel => exact ⟨j + 1, by omega, by go_num, by first | trivial | rfl⟩
              case measure => simp [intOf]; omega
            · obtain rfl : j = d := by omega
              by_cases hdm2 : j < m
              · have cg := HGb.out.cell (j := j) (by rw [HGt.out.1]; omega)
                rw [HN2.out hdm2] at cg
                have dj : decide (j < m) = true := decide_eq_true hdm2
                go_wp2_with fail
                refine (awake_any _).mono ?_
                rintro e wz ⟨rfl, hb⟩
                have hBz := hB1.out.trans (Below.mono (Below.trans HA.out (hb.mono (Below.size HA.out))) hB1.out.size)
                go_wp2_with fail
                go_ret
                exact ⟨rfl, hBz⟩
              · have dj : decide (j < m) = false := decide_eq_false hdm2
                have hl0 := inb_full HSt.out.inb (by rw [HLm.out]; omega)
                subst hl0
                obtain rfl : kk = 0 := HV.out.kl.symm
                go_wp2_with fail
                refine (awake_any _).mono ?_
                rintro e wz ⟨rfl, hb⟩
                have hBz := hB1.out.trans (Below.mono (Below.trans HA.out (hb.mono (Below.size HA.out))) hB1.out.size)
                go_wp2_with fail
                go_ret
                exact ⟨rfl, hBz⟩
    · obtain rfl : k = lo := by omega
      obtain ⟨hn1, hn2⟩ := got_need HGt.out HSt.out.can hdm
      have HN1 := Lib.hid hn1
      have HN2 := Lib.hid hn2
      clear hn1 hn2
      go_wp2_with fail
      go_loopw [19] (fun i wz => ∃ j : Nat, j ≤ d ∧ i = .int .i64 j ∧ wz = wq) (fun i _ => d - (intOf i).toNat)
      case atStart => exact ⟨0, by omega, rfl, by first | trivial | rfl⟩
      case round =>
        obtain ⟨j, hj, rfl, hwz⟩ := hrel
        subst hwz
        by_cases hjd : j < d
        · have cg := HGb.out.cell (j := j) (by rw [HGt.out.1]; omega)
          rw [HN1.out j hjd] at cg
          have dj : decide (j < m) = true := decide_eq_true (by omega)
          go_wp2_with fail
          go_roundw
          case rel => exact ⟨j + 1, by omega, by go_num, by first | trivial | rfl⟩
          case measure => simp [intOf]; omega
        · obtain rfl : j = d := by omega
          by_cases hdm2 : j < m
          · have cg := HGb.out.cell (j := j) (by rw [HGt.out.1]; omega)
            rw [HN2.out hdm2] at cg
            have dj : decide (j < m) = true := decide_eq_true hdm2
            go_wp2_with fail
            refine (awake_any _).mono ?_
            rintro e wz ⟨rfl, hb⟩
            have hBz := hB1.out.trans (Below.mono (Below.trans HA.out (hb.mono (Below.size HA.out))) hB1.out.size)
            go_wp2_with fail
            go_ret
            exact ⟨rfl, hBz⟩
          · have dj : decide (j < m) = false := decide_eq_false hdm2
            have hl0 := inb_full HSt.out.inb (by rw [HLm.out]; omega)
            subst hl0
            obtain rfl : kk = 0 := HV.out.kl.symm
            go_wp2_with fail
            refine (awake_any _).mono ?_
            rintro e wz ⟨rfl, hb⟩
            have hBz := hB1.out.trans (Below.mono (Below.trans HA.out (hb.mono (Below.size HA.out))) hB1.out.size)
            go_wp2_with fail
            go_ret
            exact ⟨rfl, hBz⟩

theorem uploadOnce_walk {H : Type} {enc : TypeId × Value → H} (W : World) (base : Nat) (args : Array Value) (ds gs : List (DataW H)) (before : List MemPlace)
    (hval : ∀ (j : Nat) t v, Try.f3.params[j]? = some t → args[j]? = some v → Value.okWide Try.prog W .any base t v)
    (hW : DataW.Whole enc Try.prog Try.f3.params.toList Rows.uploadOnceSpec.vars false W args.toList ds gs before)
    (_hsz : (DataW.weightsEach Try.prog (Try.f3.params.toList ++ Rows.uploadOnceSpec.plain.varTypes Try.prog) (ds ++ gs)).all (· ≤ reachBytes) = true) :
    Calls Try.prog 3 args W fun e w' => e = .returned (.bool true) ∧ Below W.heap.size W w' := by
  obtain ⟨p, q, hA, hV, -, -, -⟩ := hW
  obtain ⟨rfl, -⟩ := trodVars_none hV
  rw [Try.params3] at hA hval
  obtain ⟨v0, v1, v2, d0, d1, d2, p0, p1, p2, rfl, rfl, rfl, h0, h1, h2⟩ := trodAll_three hA
  obtain ⟨a, len, cap, zs, rfl, hr, hz⟩ := open_row Try.underlying22 Try.underlying5 (by kernel_rfl) (hval 0 _ _ rfl rfl) h0
  obtain ⟨ys, -, hy⟩ := bytes_of rfl hr
  obtain ⟨x, y, rfl⟩ := open_size (hval 1 _ _ rfl rfl) h1
  obtain ⟨a2, len2, cap2, zs2, rfl, hr2, hz2⟩ := open_row Try.underlying22 Try.underlying5 (by kernel_rfl) (hval 2 _ _ rfl rfl) h2
  obtain ⟨ys2, -, hy2⟩ := bytes_of rfl hr2
  exact uploadOnce_calls ys ys2 x y a a2 len cap len2 cap2 W hy hy2

set_option maxRecDepth 100000 in
theorem uploadOnce_lifted (os : Os) (started : os.Started) (H : Type) (enc : TypeId × Value → H) :
    ReturnsInHanded {} Try.checked os 3 .any (Rows.uploadOnceSpec.pre6 enc Try.prog Try.f3 Rows.uploadOnceRow.domain false) (Rows.uploadOnceSpec.post enc Try.prog Try.f3 false true false false) := by
  refine returnsInHanded_of_change_sized (C := Try.checked) own started (by kernel_rfl) Try.func3
    (ChangeSpec.witness6 (enc := enc) (C := Try.checked) false ⟨#[], #[.slice none 0 0, .agg #[.int .u8 0, .int .u8 0], .slice none 0 0], []⟩ 8 (by kernel_rfl) (by kernel_rfl) (by kernel_rfl) (by kernel_rfl)) ?_
  intro W base args ds gs before hval hW _ hsz _
  exact law_post rfl (by kernel_rfl) (by kernel_rfl) (fun ds h => match ds, h with | [d0, d1, d2], _ => ⟨rfl, rfl, rfl⟩) hW (uploadOnce_walk W base args ds gs before hval hW hsz)

theorem uploadOnce_over : Rows.uploadOnceRow.holds Try.pinned (OpenSpec.ofChange Rows.uploadOnceSpec) :=
  OpenClaim.holds_of_wide 3 Try.f3 rfl rfl rfl rfl rfl rfl rfl ⟨rfl, rfl, rfl, rfl, rfl⟩ rfl rfl rfl rfl rfl (by kernel_rfl) Try.func3 (by kernel_rfl)
    (of_decide_eq_true (by kernel_rfl)) (by unfold Func.isWrapper; first | (rw [if_pos (by decide +kernel)]; kernel_rfl) | (rw [if_neg (by decide +kernel)]; exact ⟨rfl, rfl⟩))
    (fun os started H enc _ => uploadOnce_lifted os started H enc)

theorem uploadOnce_proved : Rows.UploadOnceSaid := uploadOnce_over

end Go.Proofs.Ytpdodapdaeochaa
