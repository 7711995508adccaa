/- 0-1 programs: the search in memory; what possible returns. -/
import Derived.Test.YtkgikajfeihbbaaZsB
namespace Go.Proofs.Ytkgikajfeihbbaa
set_option maxRecDepth 100000
open Go.RowKit

/-! ### The search in memory -/
/-- where a search lies, and what does not change in it -/
structure Sh where
  g : Nat
  gx : Nat
  gs : Nat
  n : Nat
  m : Nat
  k : Nat
  lo : Nat
  cx : Nat
  cs : Nat
  a0 : Option Addr
  c0 : Nat
  a1 : Option Addr
  c1 : Nat
  a2 : Option Addr
  c2 : Nat
  af : Option Addr
  cf : Nat
  al : Option Addr
  cl : Nat
  ah : Option Addr
  ch : Nat
  ao : Option Addr
  co : Nat
  one : Bool
  once : Bool
  wd : Int
def Sh.F (S : Sh) (i : Nat) : Prop := i = S.g ∨ i = S.gx ∨ i = S.gs
def Sh.cells (S : Sh) (value least : Int) (vb : Value) (most : Int) (found : Bool) : Array Value := #[.slice S.a0 S.n S.c0, .slice S.a1 S.m S.c1, .slice S.a2 S.n S.c2, .slice S.af S.k S.cf, .bool S.one, .bool S.once, .slice (some ⟨S.gx, 0, none⟩) S.n S.cx, .int .i64 value, .slice (some ⟨S.gs, 0, none⟩) S.m S.cs,
  .slice S.al (S.k + 1) S.cl, .slice S.ah (S.k + 1) S.ch, .int .i64 S.wd, .slice S.ao S.lo S.co, .int .i64 least, vb, .int .i64 most, .bool found]
/-- a slice of slices of ints -/
def Tab (w : World) (a : Option Addr) (len m : Nat) (f : Nat → List Int) : Prop := ∃ b off, a = some ⟨b, off, none⟩ ∧ b < w.heap.size ∧ ∀ i, i < len → ∃ ai ci, w.cell? ⟨b, off + i, none⟩ = some (.slice ai m ci) ∧ Ints w ai m ci (f i)
theorem Tab.below {w w' : World} {a : Option Addr} {len m : Nat} {f : Nat → List Int} (h : Tab w a len m f) (hb : Below w.heap.size w w') : Tab w' a len m f := by
  obtain ⟨b, off, e, h1, h2⟩ := h
  exact ⟨b, off, e, bl hb h1, fun i hi => by
    obtain ⟨ai, ci, h3, h4⟩ := h2 i hi
    exact ⟨ai, ci, bc hb h1 h3, h4.below hb⟩⟩
def lowsS (rs : List RowM) (r : List Nat) : List Int := rs.map fun q => lowS q.coef r
def highsS (rs : List RowM) (r : List Nat) : List Int := rs.map fun q => highS q.coef r
def sumsS (rs : List RowM) (x : List Int) : List Int := rs.map fun q => dotL q.coef x
/-- what is only read -/
structure St (w : World) (S : Sh) (p : ProbM) (free ord : List Nat) : Prop where
  val : Row .i64 w S.a0 S.n S.c0 p.val
  rows : RowsIn w S.a1 S.m S.c1 p.rows
  fr : Ints w S.af S.k S.cf (ixs free)
  low : Tab w S.al (S.k + 1) S.m fun d => lowsS p.rows (free.drop d)
  high : Tab w S.ah (S.k + 1) S.m fun d => highsS p.rows (free.drop d)
  ord : Ints w S.ao S.lo S.co (ixs ord)
theorem St.below {w w' : World} {S : Sh} {p : ProbM} {free ord : List Nat} (h : St w S p free ord) (hb : Below w.heap.size w w') : St w' S p free ord :=
  ⟨h.val.below hb, h.rows.below hb, h.fr.below hb, h.low.below hb, h.high.below hb, h.ord.below hb⟩
/-- what holds of the numbers -/
structure Pu (S : Sh) (p : ProbM) (free ord : List Nat) : Prop where
  valid : ValidM p
  n : p.val.length = S.n
  m : p.rows.length = S.m
  k : free.length = S.k
  kle : S.k ≤ S.n
  lt : ∀ i ∈ free, i < S.n
  nd : free.Nodup
  lo : ord.length = S.lo
  ord : ∀ e ∈ ord, e < S.k
  lok : S.lo ≤ S.k
  wd : WideOk p.rows S.wd
  ne1 : S.g ≠ S.gx
  ne2 : S.g ≠ S.gs
  ne3 : S.gx ≠ S.gs
theorem Pu.kn {S : Sh} {p : ProbM} {free ord : List Nat} (h : Pu S p free ord) : S.k ≤ S.n ∧ S.n ≤ 24 := by
  have h1 := h.valid.n
  have h2 := h.n
  exact ⟨h.kle, by omega⟩
theorem Pu.m60 {S : Sh} {p : ProbM} {free ord : List Nat} (h : Pu S p free ord) : S.m ≤ 60 := by rw [← h.m]; exact h.valid.m
/-- what changes -/
structure Dy (w : World) (B : Nat) (S : Sh) (p : ProbM) (x : List Int) (β : Sb) (vb : Value) : Prop where
  blk : w.heap[S.g]? = some (.cells (S.cells (dotL p.val x) β.least vb β.most β.found) 71)
  ox : OwnI w B (.slice (some ⟨S.gx, 0, none⟩) S.n S.cx) x
  os : OwnI w B (.slice (some ⟨S.gs, 0, none⟩) S.m S.cs) (sumsS p.rows x)
  ob : OwnI w B vb β.best
  off : ∀ j, vb.ownBlock = some j → ¬ S.F j
theorem Dy.below {w w' : World} {B : Nat} {S : Sh} {p : ProbM} {x : List Int} {β : Sb} {vb : Value} (h : Dy w B S p x β vb) (hb : Below w.heap.size w w') : Dy w' B S p x β vb :=
  ⟨by rw [hb.block S.g (blk_lt h.blk)]; exact h.blk, h.ox.below hb, h.os.below hb, h.ob.below hb, h.off⟩
/-- the assignment: 0 and 1, and 0 at the variables that are left -/
structure As (S : Sh) (r : List Nat) (x : List Int) : Prop where
  gd : Gd S.n r x
  bits : Bits01 x
theorem lowsS_at (rs : List RowM) (r : List Nat) (i : Nat) (h : i < rs.length) : (lowsS rs r).getD i 0 = lowS (rs.getD i default).coef r := by simp [lowsS, List.getD, h]
theorem highsS_at (rs : List RowM) (r : List Nat) (i : Nat) (h : i < rs.length) : (highsS rs r).getD i 0 = highS (rs.getD i default).coef r := by simp [highsS, List.getD, h]
theorem sumsS_at (rs : List RowM) (x : List Int) (i : Nat) (h : i < rs.length) : (sumsS rs x).getD i 0 = dotL (rs.getD i default).coef x := by simp [sumsS, List.getD, h]
theorem lowS_bd {c : List Int} (hc : Small c) : ∀ r : List Nat, -1000000 * (r.length : Int) ≤ lowS c r ∧ lowS c r ≤ 0
  | [] => by simp [lowS]
  | i :: r => by
    have h1 := lowS_bd hc r
    have h2 := hc i
    simp only [lowS, List.length_cons]
    omega
theorem highS_bd {c : List Int} (hc : Small c) : ∀ r : List Nat, 0 ≤ highS c r ∧ highS c r ≤ 1000000 * (r.length : Int)
  | [] => by simp [highS]
  | i :: r => by
    have h1 := highS_bd hc r
    have h2 := hc i
    simp only [highS, List.length_cons]
    omega
theorem small_tail {c : Int} {cs : List Int} (h : Small (c :: cs)) : Small cs := fun k => by simpa using h (k + 1)
theorem dotL_bd : ∀ (c x : List Int), Small c → Bits01 x → -1000000 * (c.length : Int) ≤ dotL c x ∧ dotL c x ≤ 1000000 * (c.length : Int)
  | [], x, _, _ => by simp [dotL]
  | c :: cs, [], _, _ => by simp only [dotL, List.length_cons]; omega
  | c :: cs, x :: xs, hc, hx => by
    have h1 := dotL_bd cs xs (small_tail hc) fun k hk => by simpa using hx (k + 1) (by simpa using hk)
    have h2 := hc 0
    have h3 := hx 0 (by simp)
    simp only [List.getD_cons_zero] at h2 h3
    simp only [dotL, List.length_cons]
    rcases h3 with rfl | rfl <;> omega

set_option maxHeartbeats 8000000 in
theorem possible_any (S : Sh) (p : ProbM) (free ord : List Nat) (d B : Nat) (x : List Int) (β : Sb) (vb : Value) (w : World) (hP : Pu S p free ord) (hS : St w S p free ord) (hD : Dy w B S p x β vb) (hA : As S (free.drop d) x) (hd : d ≤ S.k) :
    Calls Try.prog 57 #[.pointer (some ⟨S.g, 0, none⟩), .int .i64 d] w fun e w' => e = .returned (.bool (okS p.rows (free.drop d) x)) ∧ Below w.heap.size w w' := by
  generalize hU : okS p.rows (free.drop d) x = U
  have HU := Lib.hid hU
  have hm := hP.m60
  have HM := Lib.hid hP.m
  have hgl := blk_lt hD.blk
  have c1 : w.cell? ⟨S.g, 1, none⟩ = some (.slice S.a1 S.m S.c1) := (blk_cell hD.blk 1).trans rfl
  have c8 : w.cell? ⟨S.g, 8, none⟩ = some (.slice (some ⟨S.gs, 0, none⟩) S.m S.cs) := (blk_cell hD.blk 8).trans rfl
  have c9 : w.cell? ⟨S.g, 9, none⟩ = some (.slice S.al (S.k + 1) S.cl) := (blk_cell hD.blk 9).trans rfl
  have c10 : w.cell? ⟨S.g, 10, none⟩ = some (.slice S.ah (S.k + 1) S.ch) := (blk_cell hD.blk 10).trans rfl
  have HR := Lib.hid hS.rows
  obtain ⟨bl0, ol, hal, hbl, htl⟩ := hS.low
  obtain ⟨bh0, oh, hah, hbh, hth⟩ := hS.high
  obtain ⟨ail, cil, hl1, hl2⟩ := htl d (by omega)
  obtain ⟨aih, cih, hh1, hh2⟩ := hth d (by omega)
  have HL := Lib.hid (show Ints w ail S.m cil (lowsS p.rows (free.drop d)) from hl2)
  have HH := Lib.hid (show Ints w aih S.m cih (highsS p.rows (free.drop d)) from hh2)
  have HOs := Lib.hid hD.os
  have HBd := Lib.hid (show ∀ i, i < p.rows.length → (-24000000 ≤ dotL (p.rows.getD i default).coef x ∧ dotL (p.rows.getD i default).coef x ≤ 24000000) ∧ (-24000000 ≤ lowS (p.rows.getD i default).coef (free.drop d) ∧ lowS (p.rows.getD i default).coef (free.drop d) ≤ 0) ∧ 0 ≤ highS (p.rows.getD i default).coef (free.drop d) ∧ highS (p.rows.getD i default).coef (free.drop d) ≤ 24000000 from fun i hi => by
    have h1 := dotL_bd _ x (hP.valid.coef i hi) hA.bits
    have h2 := lowS_bd (hP.valid.coef i hi) (free.drop d)
    have h3 := highS_bd (hP.valid.coef i hi) (free.drop d)
    have h4 := hP.valid.coefn i hi
    have h5 := hP.valid.n
    have h6 := hP.kn
    have h7 := hP.k
    rw [List.length_drop] at h2 h3
    omega)
  clear hP hS hD hA hl2 hh2 htl hth hU
  rw [hal] at c9
  rw [hah] at c10
  generalize S.g = g at *
  generalize S.gs = gs at *
  generalize S.a1 = a1 at *
  have hdk : d < S.k + 1 := by omega
  generalize S.k + 1 = k at *
  generalize S.c1 = k1 at *
  generalize S.cs = ks at *
  generalize S.cl = kl at *
  generalize S.ch = kh at *
  generalize S.m = m at *
  generalize hr : free.drop d = r at *
  clear hal hah hr
  go_enter Try.func57, Try.ntmps57
  go_wp2_with fail
  go_loopw [13] (fun i wr => ∃ j : Nat, j ≤ m ∧ i = .int .i64 j ∧ Below w.heap.size w wr ∧ Hid (U = (p.rows.drop j).all (okRow r x))) (fun i _ => m - (intOf i).toNat)
  case atStart => exact ⟨0, by omega, rfl, Below.refl _ _, Lib.hid (by rw [List.drop_zero]; exact HU.out.symm)⟩
  case round =>
    obtain ⟨j, hj, rfl, hb, HD⟩ := hrel
    by_cases hlt : j < m
    · obtain ⟨b, off, rfl, hbs, ai, li, ci, hrow, hcc⟩ := HR.out.at hlt
      obtain ⟨y0, y1, y2⟩ := hcc _ hb
      have HSt := Lib.hid (all_drop (okRow r x) p.rows j default (by rw [HM.out]; exact hlt))
      have hbd := HBd.out j (by rw [HM.out]; exact hlt)
      have ps := HOs.out.cellAt j hlt
      rw [sumsS_at _ _ _ (by rw [HM.out]; exact hlt)] at ps
      obtain ⟨bl1, ol1, rfl, hbl1, hcl⟩ := HL.out.2.at hlt
      obtain ⟨bh1, oh1, rfl, hbh1, hch⟩ := HH.out.2.at hlt
      have pl := hcl j hlt _ (Below.refl _ _)
      have ph := hch j hlt _ (Below.refl _ _)
      rw [lowsS_at _ _ _ (by rw [HM.out]; exact hlt)] at pl
      rw [highsS_at _ _ _ (by rw [HM.out]; exact hlt)] at ph
      have hgsl : gs < w.heap.size := Owns.in HOs.out gs rfl
      clear hcc hcl hch
      generalize hrk : p.rows.getD j default = q at *
      have hbx : Below wr.heap.size wr (wr.alloc (.cells #[.slice ai li ci, .int .i64 q.mn, .int .i64 q.mx] 44)) := (Below.refl _ _).alloc (Nat.le_refl _) _
      have hbw := hb.trans (hbx.mono hb.size)
      obtain ⟨z0, z1, z2⟩ := box3 wr 44 (.slice ai li ci) (.int .i64 q.mn) (.int .i64 q.mx) _ (Below.refl _ _)
      have k1 := bc hb hgl c1
      have k8 := bc hbw hgl c8
      have k9 := bc hbw hgl c9
      have k10 := bc hbw hgl c10
      have ps2 := bc hbw hgsl ps
      have pl2 := bc hbw hbl1 pl
      have ph2 := bc hbw hbh1 ph
      have hl2 := bc hbw hbl hl1
      have hh2 := bc hbw hbh hh1
      have HQ := Lib.hid (show okRow r x q = !(decide (q.mx < dotL q.coef x + lowS q.coef r) || decide (dotL q.coef x + highS q.coef r < q.mn)) from rfl)
      obtain ⟨⟨b1, b2⟩, ⟨b3, b4⟩, b5, b6⟩ := hbd
      generalize dotL q.coef x = s at *
      generalize lowS q.coef r = lw at *
      generalize highS q.coef r = hw at *
      have hw1 : IntKind.i64.wrap (s + lw) = s + lw := IntWalk.i64_in _ (by omega)
      have hw2 : IntKind.i64.wrap (s + hw) = s + hw := IntWalk.i64_in _ (by omega)
      clear c1 c8 c9 c10 ps pl ph hrow hrk hl1 hh1 hbx
      go_wp2_with fail
      generalize wr.alloc (.cells #[.slice ai li ci, .int .i64 q.mn, .int .i64 q.mx] 44) = wx at *
      by_cases h1 : q.mx < s + lw
      · have d1 : decide (q.mx < s + lw) = true := by simp [h1]
        have HE := Lib.hid (show U = false by rw [HD.out, HSt.out, HQ.out, d1]; rfl)
        go_quiet (fail)
        go_wp2_with fail
        go_ret
        exact ⟨by rw [HE.out]; rfl, below_drewN hbw _⟩
      · have d1 : decide (q.mx < s + lw) = false := by simp; omega
        by_cases h2 : s + hw < q.mn
        · have d2 : decide (s + hw < q.mn) = true := by simp [h2]
          have HE := Lib.hid (show U = false by rw [HD.out, HSt.out, HQ.out, d1, d2]; rfl)
          go_quiet (fail)
          go_wp2_with fail
          go_ret
          exact ⟨by rw [HE.out]; rfl, below_drewN hbw _⟩
        · have d2 : decide (s + hw < q.mn) = false := by simp; omega
          have HD2 := Lib.hid (show U = (p.rows.drop (j + 1)).all (okRow r x) by rw [HD.out, HSt.out, HQ.out, d1, d2]; rfl)
          go_quiet (fail)
          go_wp2_with fail
          go_roundw
          case rel => exact ⟨j + 1, by omega, by go_num, below_drewN hbw _, HD2⟩
          case measure => simp [intOf]; omega
    · have HE := Lib.hid (show U = true by rw [HD.out, List.drop_eq_nil_of_le (by rw [HM.out]; omega)]; rfl)
      have k1 := bc hb hgl c1
      go_wp2_with fail
      go_ret
      exact ⟨by rw [HE.out]; rfl, hb⟩

end Go.Proofs.Ytkgikajfeihbbaa
