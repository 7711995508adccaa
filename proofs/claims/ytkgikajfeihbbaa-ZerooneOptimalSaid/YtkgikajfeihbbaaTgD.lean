/- 0-1 programs: what zeroone.Tighten returns. -/
import Derived.Test.YtkgikajfeihbbaaTgC
namespace Go.Proofs.Ytkgikajfeihbbaa
set_option maxRecDepth 100000
open Go.RowKit

/-- the ints that lie in a slice -/
def fixOf (w : World) : Value → List Int
  | .slice (some a) n _ => (List.range n).map fun i => match w.cell? (a.add i) with | some (.int _ x) => x | _ => 0
  | _ => []
theorem fixOf_own {w : World} {B : Nat} {v : Value} {f : List Int} (h : OwnI w B v f) : fixOf w v = f := by
  obtain ⟨a, n, cap, rfl, hi⟩ := Owns.ints h
  have hl := hi.1
  cases a with
  | none =>
    have hc : cap = 0 := hi.2.2.2.1 rfl
    have : n ≤ cap := hi.2.1
    have : f = [] := List.eq_nil_of_length_eq_zero (by omega)
    rw [this]; rfl
  | some ad =>
    apply List.ext_getElem?
    intro i
    by_cases hin : i < n
    · obtain ⟨b, off, e, _, hc⟩ := hi.2.at hin
      cases e
      have h1 := hc i hin w (Below.refl _ _)
      simp [fixOf, addr_add, hin, h1, List.getD, List.getElem?_eq_getElem (show i < f.length by omega)]
    · simp [fixOf, hin, List.getElem?_eq_none (show f.length ≤ i by omega)]
def boolN : Value → Nat
  | .bool true => 1
  | _ => 0
/-- what Tighten returns -/
def resP (p : ProbM) : Option (List Int) → ProbM
  | some g => ⟨p.val, p.rows, g⟩
  | none => ⟨[], [], []⟩
def resE : Option (List Int) → Int
  | some _ => 0
  | none => 14
theorem prob_zero (w : World) : ProbIn w (.agg #[.slice none 0 0, .slice none 0 0, .slice none 0 0]) ⟨[], [], []⟩ :=
  ⟨none, 0, 0, none, 0, 0, none, 0, 0, rfl, ⟨rfl, by simp, by omega, by simp [maxLen], by simp, .inl rfl⟩, ⟨rfl, by omega, by simp [maxLen], by simp, .inl rfl⟩, ⟨rfl, by simp, by omega, by simp [maxLen], by simp, .inl rfl⟩⟩
theorem all_mem {rs : List RowM} {f : List Int} (h : (rs.all fun r => canB r f) = true) : ∀ r, r ∈ rs → canB r f = true := fun r hr => by
  simpa using List.all_eq_true.1 h r hr
theorem all_no {rs : List RowM} {f : List Int} (h : (rs.all fun r => canB r f) = false) : ∃ r, r ∈ rs ∧ canB r f = false := by
  rw [List.all_eq_false] at h
  obtain ⟨r, hr, hc⟩ := h
  exact ⟨r, hr, by simpa using hc⟩
theorem getD_mem {rs : List RowM} {i : Nat} (h : i < rs.length) : rs.getD i default ∈ rs := by simp [List.getD, List.getElem?_eq_getElem h]
theorem mem_getD {rs : List RowM} {r : RowM} (h : r ∈ rs) : ∃ i, i < rs.length ∧ rs.getD i default = r := by
  obtain ⟨i, hi, e⟩ := List.getElem_of_mem h
  exact ⟨i, hi, by simp [List.getD, List.getElem?_eq_getElem hi, e]⟩
theorem Wf64.of {w : World} {a : Option Addr} {l c : Nat} {xs : List Int} (h : Row .i64 w a l c xs) : Wf64 xs := h.2.1
/-- what the row loop knows -/
structure Pass (rs : List RowM) (f : List Int) (F a m : Nat) (c : Bool) : Prop where
  free : freeN f ≤ F
  less : c = true → freeN f < F
  rows : c = false → ∀ j, j < a → RowClosed (rs.getD j default) f
  row : c = false → ∀ i, i < m → f.getD i 0 = -1 → canB (rs.getD a default) (f.set i 0) = true ∧ canB (rs.getD a default) (f.set i 1) = true

theorem pass_start (rs : List RowM) (f : List Int) : Pass rs f (freeN f) 0 0 false := ⟨Nat.le_refl _, fun h => (by cases h), fun _ j hj => (by omega), fun _ i hi => (by omega)⟩
theorem Pass.skip {rs : List RowM} {f : List Int} {F a m : Nat} {c : Bool} (h : Pass rs f F a m c) (hm : f.getD m 0 ≠ -1) : Pass rs f F a (m + 1) c := ⟨h.free, h.less, h.rows, fun hc i hi hf => by
  by_cases him : i < m
  · exact h.row hc i him hf
  · obtain rfl : i = m := by omega
    exact absurd hf hm⟩
theorem Pass.keep {rs : List RowM} {f : List Int} {F a m : Nat} {c : Bool} (h : Pass rs f F a m c) (h0 : canB (rs.getD a default) (f.set m 0) = true) (h1 : canB (rs.getD a default) (f.set m 1) = true) : Pass rs f F a (m + 1) c := ⟨h.free, h.less, h.rows, fun hc i hi hf => by
  by_cases him : i < m
  · exact h.row hc i him hf
  · obtain rfl : i = m := by omega
    exact ⟨h0, h1⟩⟩
theorem Pass.set {rs : List RowM} {f f' : List Int} {F a m : Nat} {c : Bool} (h : Pass rs f F a m c) (hl : freeN f' + 1 = freeN f) : Pass rs f' F a (m + 1) true := ⟨(by have := h.free; omega), fun _ => (by have := h.free; omega), fun h => (by cases h), fun h => (by cases h)⟩
theorem Pass.next {rs : List RowM} {f : List Int} {F a n : Nat} {c : Bool} (h : Pass rs f F a n c) (hn : f.length = n) : Pass rs f F (a + 1) 0 c := ⟨h.free, h.less, fun hc j hj => (by
  by_cases hja : j < a
  · exact h.rows hc j hja
  · obtain rfl : j = a := by omega
    exact fun i hi hf => h.row hc i (by omega) hf), fun _ i hi => by omega⟩
/-- a row of rows that the call owns -/
theorem rows_at {w : World} {B : Nat} {b1 : Option Addr} {n d1 a : Nat} {cs : List Value} {rs : List RowM} (hO : OwnsK w B 44 3 (.slice b1 n d1) n cs) (h : RowsAre w B cs rs n) (ha : a < n) :
    ∃ gU b l d, b1 = some ⟨gU, 0, none⟩ ∧ gU < w.heap.size ∧ w.cell? ⟨gU, a * 3, none⟩ = some (.slice b l d) ∧ w.cell? ⟨gU, a * 3 + 1, none⟩ = some (.int .i64 (rs.getD a default).mn) ∧ w.cell? ⟨gU, a * 3 + 2, none⟩ = some (.int .i64 (rs.getD a default).mx) ∧ OwnI w B (.slice b l d) (rs.getD a default).coef := by
  obtain ⟨b, l, d, h0, h1, h2, h3⟩ := h a ha
  rcases hO.form with ⟨e, h0', -⟩ | ⟨g, cap, e, -, -, -, hlt, hc, -⟩
  · omega
  · cases e
    exact ⟨g, b, l, d, rfl, hlt, by rw [hc _ (by omega), h0], by rw [hc _ (by omega), h1], by rw [hc _ (by omega), h2], h3⟩

set_option maxHeartbeats 16000000 in
theorem tighten_any (p : ProbM) (a0 a1 a2 : Option Addr) (l0 c0 l1 c1 l2 c2 : Nat) (w : World) (h0 : Row .i64 w a0 l0 c0 p.val) (h1 : RowsIn w a1 l1 c1 p.rows) (h2 : Row .i64 w a2 l2 c2 p.fix) (ho : validOf p = 0) :
    Calls Try.prog 18 #[.agg #[.slice a0 l0 c0, .slice a1 l1 c1, .slice a2 l2 c2]] w fun e w' => ∃ o v, e = .returned (.tuple #[v, .int .i64 (resE o)]) ∧ TightTo p.rows p.fix o ∧ ProbIn w' v (resP p o) ∧ Below w.heap.size w w' := by
  have HPb := Lib.hid (show ProbIn w (.agg #[.slice a0 l0 c0, .slice a1 l1 c1, .slice a2 l2 c2]) p from ⟨a0, l0, c0, a1, l1, c1, a2, l2, c2, rfl, h0, h1, h2⟩)
  have H0 := Lib.hid h0
  have H1 := Lib.hid h1
  have H2 := Lib.hid h2
  have HL0 := Lib.hid h0.1
  have HL1 := Lib.hid h1.1
  have HL2 := Lib.hid h2.1
  have HVd := Lib.hid (validM ho)
  have HO := Lib.hid ho
  have hn2 : l2 ≤ 24 := by rw [← h2.1, (validM ho).fixn]; exact (validM ho).n
  have hn1 : l1 ≤ 60 := by rw [← h1.1]; exact (validM ho).m
  have HW0 := Lib.hid (show Wf64 p.val from h0.2.1)
  have HWr := Lib.hid (show ∀ i, i < l1 → Wf64 (p.rows.getD i default).coef from fun i hi => by
    obtain ⟨_, _, _, _, _, _, _, hrow, _⟩ := h1.at hi
    exact hrow.2.1)
  have HN := Lib.hid (show (∀ i, i < p.rows.length → (p.rows.getD i default).coef.length = l2) ∧ (∀ i, i < p.rows.length → Small (p.rows.getD i default).coef) from ⟨fun i hi => by rw [(validM ho).coefn i hi, ← (validM ho).fixn]; exact h2.1, (validM ho).coef⟩)
  clear h0 h1 h2 ho
  go_enter Try.func18, Try.ntmps18
  go_wp2_with fail
  have hbx : Below w.heap.size w ((w.alloc (.cells #[.slice a0 l0 c0, .slice a1 l1 c1, .slice a2 l2 c2] 25)).alloc (.cells #[.slice none 0 0, .slice none 0 0, .slice none 0 0] 25)) := (((Below.refl _ _).alloc (Nat.le_refl _) _).alloc (by simp) _)
  generalize hWW : ((w.alloc (.cells #[.slice a0 l0 c0, .slice a1 l1 c1, .slice a2 l2 c2] 25)).alloc (.cells #[.slice none 0 0, .slice none 0 0, .slice none 0 0] 25)) = w0 at *
  replace HPb := Lib.hid (HPb.out.below hbx)
  replace H0 := Lib.hid (H0.out.below hbx)
  replace H1 := Lib.hid (H1.out.below hbx)
  replace H2 := Lib.hid (H2.out.below hbx)
  have cK0 : w0.cell? ⟨w.heap.size, 0, none⟩ = some (.slice a0 l0 c0) := by subst hWW; go_simp
  have cK1 : w0.cell? ⟨w.heap.size, 1, none⟩ = some (.slice a1 l1 c1) := by subst hWW; go_simp
  have cK2 : w0.cell? ⟨w.heap.size, 2, none⟩ = some (.slice a2 l2 c2) := by subst hWW; go_simp
  have ltK : w.heap.size < w0.heap.size := by subst hWW; simp <;> omega
  have cR0 : w0.cell? ⟨w.heap.size + 1, 0, none⟩ = some (.slice none 0 0) := by subst hWW; go_simp
  have fR0 : w0.frozen? ⟨w.heap.size + 1, 0, none⟩ = false := by subst hWW; go_simp
  have cR1 : w0.cell? ⟨w.heap.size + 1, 1, none⟩ = some (.slice none 0 0) := by subst hWW; go_simp
  have fR1 : w0.frozen? ⟨w.heap.size + 1, 1, none⟩ = false := by subst hWW; go_simp
  have cR2 : w0.cell? ⟨w.heap.size + 1, 2, none⟩ = some (.slice none 0 0) := by subst hWW; go_simp
  have fR2 : w0.frozen? ⟨w.heap.size + 1, 2, none⟩ = false := by subst hWW; go_simp
  have ltR : w.heap.size + 1 < w0.heap.size := by subst hWW; simp
  have hB := hbx
  clear hbx hWW
  refine (valid_any _ p _ HPb.out).mono ?_
  rintro e w1 ⟨rfl, hb⟩
  replace cK0 := bc hb ltK cK0
  replace cK1 := bc hb ltK cK1
  replace cK2 := bc hb ltK cK2
  replace ltK := bl hb ltK
  replace cR0 := bc hb ltR cR0
  replace fR0 := bf hb ltR fR0
  replace cR1 := bc hb ltR cR1
  replace fR1 := bf hb ltR fR1
  replace cR2 := bc hb ltR cR2
  replace fR2 := bf hb ltR fR2
  replace ltR := bl hb ltR
  replace HPb := Lib.hid (HPb.out.below hb)
  replace H0 := Lib.hid (H0.out.below hb)
  replace H1 := Lib.hid (H1.out.below hb)
  replace H2 := Lib.hid (H2.out.below hb)
  replace hB := hB.trans (hb.mono hB.size)
  rw [HO.out]
  clear hb
  go_wp2_with fail
  have hs1 := ltR
  refine (zclone_any p a0 a1 a2 l0 c0 l1 c1 l2 c2 _ H0.out H1.out H2.out HVd.out).mono ?_
  rintro e w2 ⟨b0, d0, b1, d1, b2, d2, B, cs, rfl, hv0, hv2, hu, ha, hbt, hbn, hBB, hb⟩
  replace cK0 := bc hb ltK cK0
  replace cK1 := bc hb ltK cK1
  replace cK2 := bc hb ltK cK2
  replace ltK := bl hb ltK
  replace cR0 := bc hb ltR cR0
  replace fR0 := bf hb ltR fR0
  replace cR1 := bc hb ltR cR1
  replace fR1 := bf hb ltR fR1
  replace cR2 := bc hb ltR cR2
  replace fR2 := bf hb ltR fR2
  replace ltR := bl hb ltR
  replace HPb := Lib.hid (HPb.out.below hb)
  replace H0 := Lib.hid (H0.out.below hb)
  replace H1 := Lib.hid (H1.out.below hb)
  replace H2 := Lib.hid (H2.out.below hb)
  replace hB := hB.trans (hb.mono hB.size)
  have HV0 := Lib.hid hv0
  have HV2 := Lib.hid hv2
  have HU := Lib.hid hu
  have HA := Lib.hid ha
  obtain ⟨g, hg0, hg1, hgB, hgR, hgq, hgw⟩ : ∃ g, (l2 = 0 ∨ b2 = some ⟨g, 0, none⟩) ∧ ((Value.slice b0 l0 d0).ownBlock = none ∨ (Value.slice b0 l0 d0).ownBlock ≠ some g) ∧ g < B ∧ g ≠ w.heap.size + 1 ∧ g < w2.heap.size ∧ w.heap.size ≤ g := by
    have hws := hb.size
    rcases Owns.form2 hv2 with ⟨e, e'⟩ | ⟨g, cap, e, -, -, h1, h2⟩
    · cases e; exact ⟨w.heap.size, .inl rfl, own_ne hv0.lt (by omega), by omega, by omega, by omega, by omega⟩
    · cases e; exact ⟨g, .inr rfl, .inr (hbn g rfl), hbt g rfl, by omega, h2, by omega⟩
  clear hv0 hv2 hu ha hbt hbn
  clear hb
  go_wp2_with fail
  clear cK0 cK1 cK2 ltK
  have hw2l := hB.size
  have hq1 := ltR
  have hbx : Below w2.heap.size w2 (w2.alloc (.cells #[.slice b0 l0 d0, .slice b1 l1 d1, .slice b2 l2 d2] 25)) := ((Below.refl _ _).alloc (Nat.le_refl _) _)
  generalize hWW : (w2.alloc (.cells #[.slice b0 l0 d0, .slice b1 l1 d1, .slice b2 l2 d2] 25)) = w3 at *
  replace cR0 := bc hbx ltR cR0
  replace fR0 := bf hbx ltR fR0
  replace cR1 := bc hbx ltR cR1
  replace fR1 := bf hbx ltR fR1
  replace cR2 := bc hbx ltR cR2
  replace fR2 := bf hbx ltR fR2
  replace ltR := bl hbx ltR
  replace HV0 := Lib.hid (HV0.out.below hbx)
  replace HV2 := Lib.hid (HV2.out.below hbx)
  replace HA := Lib.hid (HA.out.below hbx)
  have cQ0 : w3.cell? ⟨w2.heap.size, 0, none⟩ = some (.slice b0 l0 d0) := by subst hWW; go_simp
  have cQ1 : w3.cell? ⟨w2.heap.size, 1, none⟩ = some (.slice b1 l1 d1) := by subst hWW; go_simp
  have cQ2 : w3.cell? ⟨w2.heap.size, 2, none⟩ = some (.slice b2 l2 d2) := by subst hWW; go_simp
  have ltQ : w2.heap.size < w3.heap.size := by subst hWW; simp
  replace hB := hB.trans (hbx.mono hB.size)
  have HU3 := Lib.hid (HU.out.later hbx)
  clear hbx hWW
  have hw3s : w2.heap.size < w3.heap.size := ltQ
  have HCx := Lib.hid (show ∀ wr, w3.grownBy wr (some g) → wr.cell? ⟨w2.heap.size, 0, none⟩ = some (.slice b0 l0 d0) ∧ wr.cell? ⟨w2.heap.size, 1, none⟩ = some (.slice b1 l1 d1) ∧ wr.cell? ⟨w2.heap.size, 2, none⟩ = some (.slice b2 l2 d2) ∧ RowsIn wr b1 l1 d1 p.rows ∧ RowsAre wr B cs p.rows l1 ∧ OwnI wr w1.heap.size (.slice b0 l0 d0) p.val ∧ OwnsK wr B 44 3 (.slice b1 l1 d1) l1 cs from fun wr hG => by
    have hne : w2.heap.size ≠ g := by omega
    have h1 : OwnsK wr B 44 3 (.slice b1 l1 d1) l1 cs := World.ownsRow.kept HU3.out hG (own_ne (OwnsK.lt HU3.out) hgB)
    have h2 := HA.out.by hG hgB
    obtain ⟨a, cap, e, h3⟩ := rows_in h1 h2 HL1.out HWr.out
    cases e
    exact ⟨(cell_by hG ltQ hne).trans cQ0, (cell_by hG ltQ hne).trans cQ1, (cell_by hG ltQ hne).trans cQ2, h3, h2, HV0.out.by hG hg1, h1⟩)
  have HRx := Lib.hid (show ∀ wr, w3.grownBy wr (some g) → wr.cell? ⟨w.heap.size + 1, 0, none⟩ = some (.slice none 0 0) ∧ wr.cell? ⟨w.heap.size + 1, 1, none⟩ = some (.slice none 0 0) ∧ wr.cell? ⟨w.heap.size + 1, 2, none⟩ = some (.slice none 0 0) ∧ wr.frozen? ⟨w.heap.size + 1, 0, none⟩ = false ∧ wr.frozen? ⟨w.heap.size + 1, 1, none⟩ = false ∧ wr.frozen? ⟨w.heap.size + 1, 2, none⟩ = false ∧ Below w.heap.size w wr from fun wr hG => by
    have hne : w.heap.size + 1 ≠ g := by omega
    exact ⟨(cell_by hG ltR hne).trans cR0, (cell_by hG ltR hne).trans cR1, (cell_by hG ltR hne).trans cR2, (frozen_by hG ltR hne).trans fR0, (frozen_by hG ltR hne).trans fR1, (frozen_by hG ltR hne).trans fR2, hB.trans (below_gby (B := w.heap.size) hG hB.size hgw)⟩)
  have hrl : w.heap.size + 1 < w3.heap.size := ltR
  have HVt := Lib.hid (show Trits p.fix from HVd.out.fix)
  have HRow := Lib.hid (show ∀ wr f, OwnI wr w1.heap.size (.slice b2 l2 d2) f → Trits f → Row .i64 wr b2 l2 d2 f ∧ f.length = l2 from fun wr f h ht => by
    obtain ⟨a, cap, e, h3⟩ := h.row (wf_trits ht)
    cases e
    exact ⟨h3, rfl⟩)
  obtain ⟨x0, x1, x2, hri, -, -, -⟩ := HCx.out w3 (gby_refl _ _)
  have HRi := Lib.hid hri
  obtain ⟨hrw, -⟩ := HRow.out w3 p.fix HV2.out HVt.out
  have HRf := Lib.hid hrw
  clear hri hrw cQ0 cQ1 cQ2 HU3 HU HA
  refine (satisfiable_any p.rows p.fix b0 b1 b2 l0 d0 l1 d1 l2 d2 _ HRi.out HRf.out HN.out.1 HN.out.2 hn2 hn1).mono ?_
  rintro e w4 ⟨rfl, hb4⟩
  have hG4 : w3.grownBy w4 (some g) := gby_below hb4
  have HV4 := Lib.hid (HV2.out.below hb4)
  clear HRi HRf x0 x1 x2 hb4
  obtain ⟨r0, r1, r2, f0, f1, f2, hBf⟩ := HRx.out w4 hG4
  have hs4 := hG4.size
  cases hsat : (p.rows.all fun r => canB r p.fix)
  · obtain ⟨r, hr, hc⟩ := all_no hsat
    have HT := Lib.hid (way_no (way_start HVt.out) hr hc)
    clear hsat hr hc
    have hrl4 : w.heap.size + 1 < w4.heap.size := by omega
    go_wp2_with fail
    exact bodyPost_ret (v := .tuple #[.agg #[.slice none 0 0, .slice none 0 0, .slice none 0 0], .int .i64 14]) (by simp [results, Try.results18, go_sem, r0, r1, r2]) rfl ⟨none, _, rfl, HT.out, prob_zero _, ((hBf.setCell (p := ⟨w.heap.size + 1, 0, none⟩) (by simp) _).setCell (p := ⟨w.heap.size + 1, 1, none⟩) (by simp) _).setCell (p := ⟨w.heap.size + 1, 2, none⟩) (by simp) _⟩
  have HAll := Lib.hid hsat
  clear hsat r0 r1 r2 f0 f1 f2 hBf
  have hRB : w.heap.size + 1 < B := by omega
  have HOut := Lib.hid (show ∀ wr f, w3.grownBy wr (some g) → OwnI wr w1.heap.size (.slice b2 l2 d2) f → Way p.rows p.fix f → (p.rows.all fun r => canB r f) = true → (∀ j, j < l1 → RowClosed (p.rows.getD j default) f) → TightTo p.rows p.fix (some f) ∧ ∀ wF, wr.grownBy wF (some (w.heap.size + 1)) → ProbIn wF (.agg #[.slice b0 l0 d0, .slice b1 l1 d1, .slice b2 l2 d2]) (resP p (some f)) from fun wr f hG hO hW ha hP => by
    refine ⟨way_yes hW fun r hr => ?_, fun wF hF => ?_⟩
    · obtain ⟨i, hi, rfl⟩ := mem_getD hr
      exact ⟨all_mem ha _ hr, hP i (by rw [← HL1.out]; exact hi)⟩
    · obtain ⟨-, -, -, -, h2, h3, h1⟩ := HCx.out wr hG
      have k1 : OwnsK wF B 44 3 (.slice b1 l1 d1) l1 cs := World.ownsRow.kept h1 hF (own_ne (OwnsK.lt h1) hRB)
      obtain ⟨a, cap, e, k2⟩ := rows_in k1 (h2.by hF hRB) HL1.out HWr.out
      cases e
      obtain ⟨a', cap', e', k3⟩ := (h3.by hF (own_ne h3.lt hs1)).row HW0.out
      cases e'
      obtain ⟨a'', cap'', e'', k4⟩ := (hO.by hF (own_ne hO.lt hs1)).row (wf_trits hW.trits)
      cases e''
      exact ⟨_, _, _, _, _, _, _, _, _, rfl, k3, k2, k4⟩)
  clear HV2 HV0
  go_wp2_with fail
  go_loopw [6] (fun ch wr => ∃ (c : Bool) (f : List Int), ch = .bool c ∧ w3.grownBy wr (some g) ∧ Hid (OwnI wr w1.heap.size (.slice b2 l2 d2) f) ∧ Hid (Way p.rows p.fix f) ∧ Hid ((p.rows.all fun r => canB r f) = true) ∧ Hid (c = false → ∀ j, j < l1 → RowClosed (p.rows.getD j default) f)) (fun ch wr => 2 * freeN (fixOf wr (.slice b2 l2 d2)) + boolN ch)
  case atStart => exact ⟨true, p.fix, rfl, hG4, HV4, Lib.hid (way_start HVt.out), HAll, Lib.hid (fun h => by cases h)⟩
  case round =>
    clear HV4 HAll
    obtain ⟨c, f, rfl, hG, HO, HW, HC, HP⟩ := hrel
    have hgs := hG.size
    cases c
    · obtain ⟨x0, x1, x2, -, -, -, -⟩ := HCx.out wr hG
      obtain ⟨r0, r1, r2, f0, f1, f2, hBf⟩ := HRx.out wr hG
      have HT := Lib.hid (HOut.out wr f hG HO.out HW.out HC.out (HP.out rfl))
      have hgF := gby_trans (gby_trans (gby_set wr (w.heap.size + 1) 0 (.slice b0 l0 d0)) (gby_set _ (w.heap.size + 1) 1 (.slice b1 l1 d1))) (gby_set _ (w.heap.size + 1) 2 (.slice b2 l2 d2))
      have HF := Lib.hid (HT.out.2 _ hgF)
      have HBF := Lib.hid (hBf.trans (below_gby (B := w.heap.size) hgF hBf.size (by omega)))
      have hrl4 : w.heap.size + 1 < wr.heap.size := by omega
      clear HO HW HC HP hgF hBf HOut
      go_wp2_with fail
      exact bodyPost_ret (v := .tuple #[.agg #[.slice b0 l0 d0, .slice b1 l1 d1, .slice b2 l2 d2], .int .i64 0]) (by simp [results, Try.results18, go_sem, r0, r1, r2]) rfl ⟨some f, _, rfl, HT.out.1, HF.out, HBF.out⟩
    · have HFe := Lib.hid (fixOf_own HO.out)
      obtain ⟨x0, x1, x2, -, -, -, -⟩ := HCx.out wr hG
      clear HP HOut
      go_wp2_with fail
      clear x0 x1 x2
      go_loopw [6, 26] (fun ch i wq => ∃ (c : Bool) (a : Nat) (f' : List Int), ch = .bool c ∧ i = .int .i64 a ∧ a ≤ l1 ∧ w3.grownBy wq (some g) ∧ Hid (OwnI wq w1.heap.size (.slice b2 l2 d2) f') ∧ Hid (Way p.rows p.fix f') ∧ Hid ((p.rows.all fun r => canB r f') = true) ∧ Hid (Pass p.rows f' (freeN f) a 0 c)) (fun _ i _ => l1 - (intOf i).toNat)
      case atStart => exact ⟨false, 0, f, rfl, rfl, by omega, hG, HO, HW, HC, Lib.hid (pass_start _ _)⟩
      case round =>
        clear HO HW HC hG hgs
        generalize wr = wq at *
        obtain ⟨c, a, f', rfl, rfl, hal, hG, HO, HW, HC, HP⟩ := hrel
        have hgs := hG.size
        by_cases hlt : a < l1
        · obtain ⟨-, -, -, -, hAr, -, hUr⟩ := HCx.out wq hG
          obtain ⟨gU, bb, ll, dd, rfl, hul, y0, y1, y2, hOc⟩ := rows_at hUr hAr hlt
          have HMem := Lib.hid (getD_mem (rs := p.rows) (i := a) (by rw [HL1.out]; exact hlt))
          have HNr := Lib.hid (And.intro (HN.out.1 a (by rw [HL1.out]; exact hlt)) (HN.out.2 a (by rw [HL1.out]; exact hlt)))
          have HWc := Lib.hid (HWr.out a hlt)
          generalize hrk : p.rows.getD a default = r at *
          have HRk := Lib.hid hrk
          have hbx : Below wq.heap.size wq (wq.alloc (.cells #[.slice bb ll dd, .int .i64 r.mn, .int .i64 r.mx] 44)) := (Below.refl _ _).alloc (Nat.le_refl _) _
          obtain ⟨x0, x1, x2, -, -, -, -⟩ := HCx.out _ (gby_trans hG (gby_below hbx))
          have HOc := Lib.hid (hOc.below hbx)
          have HOx := Lib.hid (HO.out.below hbx)
          have hGx := gby_trans hG (gby_below (g := some g) hbx)
          obtain ⟨z0, z1, z2⟩ := box3 wq 44 (.slice bb ll dd) (.int .i64 r.mn) (.int .i64 r.mx) _ (Below.refl _ _)
          have HZ := Lib.hid (And.intro z0 (And.intro z1 z2))
          have hxs : wq.heap.size < (wq.alloc (.cells #[.slice bb ll dd, .int .i64 r.mn, .int .i64 r.mx] 44)).heap.size := by simp
          clear hAr hUr hOc hrk HO hbx z0 z1 z2
          go_wp2_with fail
          generalize wq.alloc (.cells #[.slice bb ll dd, .int .i64 r.mn, .int .i64 r.mx] 44) = wx at *
          clear x0 x1 x2 y0 y1 y2
          go_loopw [6, 33] (fun ch i wz => ∃ (c : Bool) (m : Nat) (f2 : List Int), ch = .bool c ∧ i = .int .i64 m ∧ m ≤ l2 ∧ wx.grownBy wz (some g) ∧ Hid (OwnI wz w1.heap.size (.slice b2 l2 d2) f2) ∧ Hid (Way p.rows p.fix f2) ∧ Hid ((p.rows.all fun r => canB r f2) = true) ∧ Hid (Pass p.rows f2 (freeN f) a m c)) (fun _ i _ => l2 - (intOf i).toNat)
          case atStart => exact ⟨c, 0, f', rfl, rfl, by omega, gby_refl _ _, HOx, HW, HC, HP⟩
          case round =>
            clear HOx HW HC HP
            generalize wr = wz at *
            obtain ⟨c, m, f2, rfl, rfl, hml, hGz, HO, HW, HC, HP⟩ := hrel
            have hG3 := gby_trans hGx hGz
            have hzs := hGz.size
            by_cases hm : m < l2
            · rcases hg0 with h | rfl
              · omega
              obtain ⟨x0, x1, x2, hri, -, -, -⟩ := HCx.out wz hG3
              obtain ⟨hrf, hfl⟩ := HRow.out wz f2 HO.out HW.out.trits
              have cg := Owns.cell HO.out m hm
              rw [ivs_at f2 m (by omega)] at cg
              unfold iv at cg
              have htr := HW.out.trits m (by omega)
              have hng : wq.heap.size ≠ g := by omega
              have z0 : wz.cell? ⟨wq.heap.size, 0, none⟩ = some (.slice bb ll dd) := (cell_by hGz hxs hng).trans HZ.out.1
              have z1 : wz.cell? ⟨wq.heap.size, 1, none⟩ = some (.int .i64 r.mn) := (cell_by hGz hxs hng).trans HZ.out.2.1
              have z2 : wz.cell? ⟨wq.heap.size, 2, none⟩ = some (.int .i64 r.mx) := (cell_by hGz hxs hng).trans HZ.out.2.2
              have HVr := Lib.hid (show ∀ w', wz.grownBy w' (some g) → RowV w' (.agg #[.slice bb ll dd, .int .i64 r.mn, .int .i64 r.mx]) r from fun w' hw => by
                obtain ⟨a', cap', e', k⟩ := (HOc.out.by (gby_trans hGz hw) (own_ne HOc.out.lt hgB)).row HWc.out
                cases e'
                exact ⟨_, _, _, rfl, k⟩)
              generalize hx : f2.getD m 0 = x at *
              have HX := Lib.hid hx
              clear hx hri hrf
              by_cases hx1 : x = -1
              · subst hx1
                have hd0 : decide ((0 : Int) ≤ -1) = false := by decide
                clear htr
                go_wp2_with fail
                refine (force_any _ r f2 g l2 d2 m w1.heap.size _ HVr.out HO.out HNr.out.1 hn2 HNr.out.2 HW.out.trits hm HX.out).mono ?_
                rintro e w5 ⟨b, f3, rfl, hF, hO3, hG5⟩
                have hGz5 := gby_trans hGz hG5
                have hG35 := gby_trans hG3 hG5
                have HO3 := Lib.hid hO3
                have HFo := Lib.hid hF
                clear hO3 hF z0 z1 z2 x0 x1 x2 cg HVr
                cases b
                · have HE := Lib.hid (show f3 = f2 ∧ canB r (f2.set m 0) = true ∧ canB r (f2.set m 1) = true from by
                    rcases HFo.out with ⟨h, -⟩ | ⟨-, h1, h2, h3⟩
                    · cases h
                    · exact ⟨h1, h2, h3⟩)
                  have HP2 := Lib.hid (HP.out.keep (by rw [HRk.out]; exact HE.out.2.1) (by rw [HRk.out]; exact HE.out.2.2))
                  have HO4 := Lib.hid (show OwnI w5 w1.heap.size (.slice (some ⟨g, 0, none⟩) l2 d2) f2 by rw [← HE.out.1]; exact HO3.out)
                  clear HFo HO3 HE HP HO
                  go_wp2_with fail
                  go_roundw
                  case rel => exact ⟨c, m + 1, f2, rfl, by go_num, by omega, hGz5, HO4, HW, HC, HP2⟩
                  case measure => simp [intOf]; omega
                · have HE := Lib.hid (show Way p.rows p.fix f3 ∧ freeN f3 + 1 = freeN f2 from by
                    rcases HFo.out with ⟨-, v, hv, hno, rfl⟩ | ⟨h, -⟩
                    · exact ⟨way_set HW.out HMem.out (by omega) HX.out hv hno, free_set (by omega) HX.out (by omega)⟩
                    · cases h)
                  have HP2 := Lib.hid (HP.out.set (m := m) HE.out.2)
                  obtain ⟨x0, x1, x2, hri, -, -, -⟩ := HCx.out w5 hG35
                  obtain ⟨hrf, -⟩ := HRow.out w5 f3 HO3.out HE.out.1.trits
                  have HRi := Lib.hid hri
                  have HRf := Lib.hid hrf
                  clear HFo HP HO hri hrf
                  go_wp2_with fail
                  refine (satisfiable_any p.rows f3 b0 _ _ l0 d0 l1 d1 l2 d2 _ HRi.out HRf.out HN.out.1 HN.out.2 hn2 hn1).mono ?_
                  rintro e w6 ⟨rfl, hb6⟩
                  have hG6 := gby_trans hG35 (gby_below (g := some g) hb6)
                  have hGz6 := gby_trans hGz5 (gby_below (g := some g) hb6)
                  have HO6 := Lib.hid (HO3.out.below hb6)
                  clear HRi HRf x0 x1 x2 hb6 HO3
                  cases hsat : (p.rows.all fun r => canB r f3)
                  · obtain ⟨r', hr', hc'⟩ := all_no hsat
                    have HT := Lib.hid (way_no HE.out.1 hr' hc')
                    obtain ⟨r0, r1, r2, g0, g1, g2, hBf⟩ := HRx.out w6 hG6
                    have hs6 := hG6.size
                    have hrl4 : w.heap.size + 1 < w6.heap.size := by omega
                    clear hsat hr' hc'
                    go_wp2_with fail
                    exact bodyPost_ret (v := .tuple #[.agg #[.slice none 0 0, .slice none 0 0, .slice none 0 0], .int .i64 14]) (by simp [results, Try.results18, go_sem, r0, r1, r2]) rfl ⟨none, _, rfl, HT.out, prob_zero _, ((hBf.setCell (p := ⟨w.heap.size + 1, 0, none⟩) (by simp) _).setCell (p := ⟨w.heap.size + 1, 1, none⟩) (by simp) _).setCell (p := ⟨w.heap.size + 1, 2, none⟩) (by simp) _⟩
                  · have HC2 := Lib.hid hsat
                    have HW2 := Lib.hid HE.out.1
                    clear hsat
                    go_wp2_with fail
                    go_roundw
                    case rel => exact ⟨true, m + 1, f3, rfl, by go_num, by omega, hGz6, HO6, HW2, HC2, HP2⟩
                    case measure => simp [intOf]; omega
              · have hd0 : decide ((0 : Int) ≤ x) = true := by simp; omega
                have HP2 := Lib.hid (HP.out.skip (by rw [HX.out]; exact hx1))
                clear HP HVr htr hx1
                go_wp2_with fail
                go_roundw
                case rel => exact ⟨c, m + 1, f2, rfl, by go_num, by omega, hGz, HO, HW, HC, HP2⟩
                case measure => simp [intOf]; omega
            · obtain rfl : m = l2 := by omega
              have HP2 := Lib.hid (HP.out.next (HRow.out wz f2 HO.out HW.out.trits).2)
              clear HP
              go_wp2_with fail
              go_roundw
              case rel => exact ⟨c, a + 1, f2, rfl, by go_num, by omega, hG3, HO, HW, HC, HP2⟩
              case measure => simp [intOf]; omega
        · obtain rfl : a = l1 := by omega
          have HFq := Lib.hid (fixOf_own HO.out)
          have HPf := Lib.hid (show 2 * freeN f' + boolN (.bool c) < 2 * freeN f + 1 by
            have h1 := HP.out.free
            cases c
            · simp only [boolN]; omega
            · have h2 := HP.out.less rfl
              simp only [boolN]; omega)
          have HP2 := Lib.hid (show c = false → ∀ j, j < a → RowClosed (p.rows.getD j default) f' from HP.out.rows)
          clear HP
          go_wp2_with fail
          go_roundw
          case rel => exact ⟨c, f', rfl, hG, HO, HW, HC, HP2⟩
          case measure => rw [HFq.out, HFe.out]; exact HPf.out

end Go.Proofs.Ytkgikajfeihbbaa
