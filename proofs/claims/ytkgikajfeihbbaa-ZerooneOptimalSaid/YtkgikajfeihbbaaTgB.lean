/- 0-1 programs: what zeroone.satisfiable and force return. -/
import Derived.Test.YtkgikajfeihbbaaTgA
import Derived.Test.YtkgikajfeihbbaaZoV
namespace Go.Proofs.Ytkgikajfeihbbaa
set_option maxRecDepth 100000
open Go.RowKit

theorem gby_refl (w : World) (g : Option Nat) : w.grownBy w g := World.grownBy.refl w g
theorem gby_trans {w w1 w2 : World} {g : Option Nat} (h : w.grownBy w1 g) (k : w1.grownBy w2 g) : w.grownBy w2 g :=
  ⟨k.os.trans h.os, k.tape.trans h.tape, k.output.trans h.output, Nat.le_trans h.size k.size, fun i hi hne => (k.block i (Nat.lt_of_lt_of_le hi h.size) hne).trans (h.block i hi hne)⟩
theorem gby_below {w w' : World} {g : Option Nat} (hb : Below w.heap.size w w') : w.grownBy w' g := ⟨hb.os, hb.tape, hb.output, hb.size, fun i hi _ => hb.block i hi⟩
theorem below_gby {B : Nat} {w w' : World} {g : Nat} (h : w.grownBy w' (some g)) (hB : B ≤ w.heap.size) (hg : B ≤ g) : Below B w w' :=
  ⟨h.os, h.tape, h.output, h.size, fun i hi => h.block i (by omega) (by simp; omega)⟩
theorem cell_by {w w' : World} {g b o : Nat} (h : w.grownBy w' (some g)) (hb : b < w.heap.size) (hne : b ≠ g) : w'.cell? ⟨b, o, none⟩ = w.cell? ⟨b, o, none⟩ := by
  have := h.block b hb (by simpa using hne)
  simp only [World.cell?, this]
theorem OwnI.free {w : World} {B g n c : Nat} {xs : List Int} (h : OwnI w B (.slice (some ⟨g, 0, none⟩) n c) xs) (j : Nat) : w.frozen? ⟨g, j, none⟩ = false := Owns.free h j
theorem OwnI.store {w : World} {B g n c : Nat} {xs : List Int} (h : OwnI w B (.slice (some ⟨g, 0, none⟩) n c) xs) (j : Nat) (u : Int) : OwnI (w.setCell ⟨g, j, none⟩ (.int .i64 u)) B (.slice (some ⟨g, 0, none⟩) n c) (xs.set j u) ∧ w.grownBy (w.setCell ⟨g, j, none⟩ (.int .i64 u)) (some g) := by
  have hl := Owns.len h
  have h1 := Owns.store h j (iv u)
  rw [ivs_set] at h1
  rw [ivs_len] at hl
  refine ⟨h1, ?_⟩
  subst hl
  have h2 : w.ownsRow B 3 1 (.slice (some ⟨g, 0, none⟩) xs.length c) xs.length (ivs xs) := by have := h; unfold OwnI Owns at this; rw [ivs_len] at this; exact this
  exact (World.ownsRow.stored h2 j (.int .i64 u)).2

set_option maxHeartbeats 2000000 in
theorem satisfiable_any (rs : List RowM) (fs : List Int) (a0 a1 a2 : Option Addr) (l0 c0 l1 c1 n c2 : Nat) (w : World) (hr : RowsIn w a1 l1 c1 rs) (hf : Row .i64 w a2 n c2 fs) (hn : ∀ i, i < rs.length → (rs.getD i default).coef.length = n) (hs : ∀ i, i < rs.length → Small (rs.getD i default).coef) (hl : n ≤ 24) (hm : l1 ≤ 60) :
    Calls Try.prog 35 #[.agg #[.slice a0 l0 c0, .slice a1 l1 c1, .slice a2 n c2]] w fun e w' => e = .returned (.bool (rs.all fun r => canB r fs)) ∧ Below w.heap.size w w' := by
  generalize hU : (rs.all fun r => canB r fs) = U
  have HU := Lib.hid hU
  have e1 := Lib.hid hr.1
  have HN := Lib.hid (And.intro hn hs)
  have hb0 : Below w.heap.size w (w.alloc (.cells #[.slice a0 l0 c0, .slice a1 l1 c1, .slice a2 n c2] 25)) := (Below.refl _ _).alloc (Nat.le_refl _) _
  have HR := Lib.hid (hr.below hb0)
  have HF := Lib.hid (hf.below hb0)
  have HB := Lib.hid (box3 w 25 (.slice a0 l0 c0) (.slice a1 l1 c1) (.slice a2 n c2))
  clear hU hn hs hr hf
  go_enter Try.func35, Try.ntmps35
  go_wp2_with fail
  generalize w.alloc (.cells #[.slice a0 l0 c0, .slice a1 l1 c1, .slice a2 n c2] 25) = w0 at *
  go_loopw [8] (fun i wr => ∃ k : Nat, k ≤ l1 ∧ i = .int .i64 k ∧ Below w0.heap.size w0 wr ∧ Hid (U = (rs.drop k).all fun r => canB r fs)) (fun i _ => l1 - (intOf i).toNat)
  case atStart => exact ⟨0, by omega, rfl, Below.refl _ _, Lib.hid (by simpa using HU.out.symm)⟩
  case round =>
    obtain ⟨k, hk, rfl, hb, HD⟩ := hrel
    obtain ⟨x0, x1, x2⟩ := HB.out _ hb
    by_cases hlt : k < l1
    · obtain ⟨b, off, rfl, hbs, ai, li, ci, hrow, hcc⟩ := HR.out.at hlt
      obtain ⟨y0, y1, y2⟩ := hcc _ hb
      have HS := Lib.hid (all_drop (fun r => canB r fs) rs k default (by rw [e1.out]; omega))
      have HK := Lib.hid (And.intro (HN.out.1 k (by rw [e1.out]; exact hlt)) (HN.out.2 k (by rw [e1.out]; exact hlt)))
      generalize hrk : rs.getD k default = r at *
      have hbx : Below wr.heap.size wr (wr.alloc (.cells #[.slice ai li ci, .int .i64 r.mn, .int .i64 r.mx] 44)) := (Below.refl _ _).alloc (Nat.le_refl _) _
      have hbw := hb.trans (hbx.mono hb.size)
      have HV := Lib.hid (show RowV (wr.alloc (.cells #[.slice ai li ci, .int .i64 r.mn, .int .i64 r.mx] 44)) (.agg #[.slice ai li ci, .int .i64 r.mn, .int .i64 r.mx]) r from ⟨ai, li, ci, rfl, hrow.below hbw⟩)
      have HFw := Lib.hid (HF.out.below hbw)
      obtain ⟨x0', x1', x2'⟩ := HB.out _ hbw
      clear hcc hrow hrk
      go_wp2_with fail
      refine (open_any _ r fs a2 n c2 _ HV.out HFw.out HK.out.1 hl HK.out.2).mono ?_
      rintro e w2 ⟨rfl, hb2⟩
      have hbn := hbw.trans (hb2.mono hbw.size)
      clear HV HFw hb2
      cases hc : canB r fs
      · go_wp2_with fail
        go_ret
        exact ⟨by rw [HD.out, HS.out, hc]; rfl, hb0.trans (hbn.mono hb0.size)⟩
      · have HD2 := Lib.hid (show U = (rs.drop (k + 1)).all fun r => canB r fs by rw [HD.out, HS.out, hc]; rfl)
        clear hc
        go_wp2_with fail
        go_roundw
        case rel => exact ⟨k + 1, by omega, by go_num, hbn, HD2⟩
        case measure => simp [intOf]; omega
    · have HE := Lib.hid (show U = true by rw [HD.out, List.drop_eq_nil_of_le (by rw [e1.out]; omega)]; rfl)
      go_wp2_with fail
      go_ret
      exact ⟨by rw [HE.out]; rfl, hb0.trans (hb.mono hb0.size)⟩

/-- what force does -/
def ForceTo (r : RowM) (f : List Int) (i : Nat) (b : Bool) (f' : List Int) : Prop :=
  (b = true ∧ ∃ v : Int, (v = 0 ∨ v = 1) ∧ canB r (f.set i v) = false ∧ f' = f.set i (1 - v)) ∨ (b = false ∧ f' = f ∧ canB r (f.set i 0) = true ∧ canB r (f.set i 1) = true)
/-- the list in the middle of force -/
def curF (f : List Int) (i : Nat) : Nat → List Int
  | 0 => f
  | k + 1 => f.set i (k : Int)
theorem curF_set (f : List Int) (i k : Nat) (v : Int) : (curF f i k).set i v = f.set i v := by cases k <;> simp [curF]
theorem trits_set {f : List Int} {i : Nat} {v : Int} (h : Trits f) (hi : i < f.length) (hv : v = -1 ∨ v = 0 ∨ v = 1) : Trits (f.set i v) := fun j hj => by
  rw [getD_set f i j v hi]; split
  · exact hv
  · exact h j (by simpa using hj)

set_option maxHeartbeats 4000000 in
theorem force_any (v : Value) (r : RowM) (f : List Int) (g n c i B : Nat) (w : World) (hv : ∀ w', w.grownBy w' (some g) → RowV w' v r) (hO : OwnI w B (.slice (some ⟨g, 0, none⟩) n c) f) (hn : r.coef.length = n) (hl : n ≤ 24) (hs : Small r.coef) (ht : Trits f) (hi : i < n) (hfi : f.getD i 0 = -1) :
    Calls Try.prog 36 #[v, .slice (some ⟨g, 0, none⟩) n c, .int .i64 i] w fun e w' => ∃ b f', e = .returned (.bool b) ∧ ForceTo r f i b f' ∧ OwnI w' B (.slice (some ⟨g, 0, none⟩) n c) f' ∧ w.grownBy w' (some g) := by
  have hfl : f.length = n := by have := Owns.len hO; rw [ivs_len] at this; exact this
  have HV := Lib.hid hv
  have HS := Lib.hid (And.intro hn hs)
  have HT := Lib.hid (And.intro ht hfi)
  obtain ⟨ai, li, ci, rfl, -⟩ := hv w (gby_refl w _)
  have hb0 : Below w.heap.size w (w.alloc (.cells #[.slice ai li ci, .int .i64 r.mn, .int .i64 r.mx] 44)) := (Below.refl _ _).alloc (Nat.le_refl _) _
  have HO := Lib.hid (hO.below hb0)
  have hgl : g < w.heap.size := Owns.in hO g rfl
  have HB := Lib.hid (box3 w 44 (.slice ai li ci) (.int .i64 r.mn) (.int .i64 r.mx))
  have hG0 : w.grownBy (w.alloc (.cells #[.slice ai li ci, .int .i64 r.mn, .int .i64 r.mx] 44)) (some g) := gby_below hb0
  have hKs : w.heap.size < (w.alloc (.cells #[.slice ai li ci, .int .i64 r.mn, .int .i64 r.mx] 44)).heap.size := by simp
  obtain ⟨z0, z1, z2⟩ := HB.out _ (Below.refl _ _)
  have HZ := Lib.hid (And.intro z0 (And.intro z1 z2))
  clear hv hO hn hs ht hfi z0 z1 z2 HB hb0
  go_enter Try.func36, Try.ntmps36
  go_wp2_with fail
  generalize w.alloc (.cells #[.slice ai li ci, .int .i64 r.mn, .int .i64 r.mx] 44) = w0 at *
  go_loopw [8] (fun u wr => ∃ k : Nat, k ≤ 2 ∧ u = .int .i64 k ∧ w0.grownBy wr (some g) ∧ Hid (OwnI wr B (.slice (some ⟨g, 0, none⟩) n c) (curF f i k)) ∧ Hid (∀ j : Nat, j < k → canB r (f.set i (j : Int)) = true)) (fun u _ => 2 - (intOf u).toNat)
  case atStart => exact ⟨0, by omega, rfl, gby_refl _ _, HO, Lib.hid (fun j hj => by omega)⟩
  case round =>
    obtain ⟨k, hk, rfl, hG, HOk, HC⟩ := hrel
    have hck : w.heap.size ≠ g := by omega
    have cell0 : wr.cell? ⟨w.heap.size, 0, none⟩ = some (.slice ai li ci) := by rw [cell_by hG hKs (by omega)]; exact HZ.out.1
    have cell1 : wr.cell? ⟨w.heap.size, 1, none⟩ = some (.int .i64 r.mn) := by rw [cell_by hG hKs (by omega)]; exact HZ.out.2.1
    have cell2 : wr.cell? ⟨w.heap.size, 2, none⟩ = some (.int .i64 r.mx) := by rw [cell_by hG hKs (by omega)]; exact HZ.out.2.2
    have hgr : g < wr.heap.size := Nat.lt_of_lt_of_le (by omega) hG.size
    have fz := HOk.out.free i
    have cg := Owns.cell HOk.out i hi
    generalize (ivs (curF f i k)).getD i .nilFunc = old at *
    by_cases hlt : k < 2
    · obtain ⟨HS1, hG1⟩ := HOk.out.store i (k : Int)
      rw [curF_set] at HS1
      have hG2 := gby_trans hG hG1
      have HO1 := Lib.hid HS1
      have HVn := Lib.hid (HV.out _ (gby_trans hG0 hG2))
      obtain ⟨a2, c2, e2, hrow⟩ := OwnI.row HS1 (wf_trits (trits_set HT.out.1 (by omega) (by omega)))
      have hll : (f.set i (k : Int)).length = n := by simpa using hfl
      rw [hll] at e2 hrow
      cases e2
      have HRow := Lib.hid hrow
      have d1 : (wr.setCell ⟨g, i, none⟩ (.int .i64 k)).cell? ⟨w.heap.size, 0, none⟩ = some (.slice ai li ci) := by rw [cell_by hG2 hKs (by omega)]; exact HZ.out.1
      have d2 : (wr.setCell ⟨g, i, none⟩ (.int .i64 k)).cell? ⟨w.heap.size, 1, none⟩ = some (.int .i64 r.mn) := by rw [cell_by hG2 hKs (by omega)]; exact HZ.out.2.1
      have d3 : (wr.setCell ⟨g, i, none⟩ (.int .i64 k)).cell? ⟨w.heap.size, 2, none⟩ = some (.int .i64 r.mx) := by rw [cell_by hG2 hKs (by omega)]; exact HZ.out.2.2
      clear HS1 hG1 hrow hll
      go_wp2_with fail
      refine (open_any _ r (f.set i (k : Int)) _ n _ _ HVn.out HRow.out HS.out.1 hl HS.out.2).mono ?_
      rintro e w2 ⟨rfl, hb2⟩
      have hG3 := gby_trans hG2 (gby_below hb2)
      have HO2 := Lib.hid (HO1.out.below hb2)
      have fz2 := HO2.out.free i
      have cg2 := Owns.cell HO2.out i hi
      generalize (ivs (f.set i (k : Int))).getD i .nilFunc = old2 at *
      clear hb2 d1 d2 d3 HVn HRow HO1 cell0 cell1 cell2 fz cg
      cases hc : canB r (f.set i (k : Int))
      · obtain ⟨HS3, hG4⟩ := HO2.out.store i (1 - (k : Int))
        rw [List.set_set] at HS3
        have HFin := Lib.hid HS3
        have HF2 := Lib.hid (show ForceTo r f i true (f.set i (1 - (k : Int))) from .inl ⟨rfl, (k : Int), by omega, hc, rfl⟩)
        have hGf := gby_trans hG0 (gby_trans hG3 hG4)
        clear HS3 hG4 hc
        go_wp2_with fail
        go_ret
        exact ⟨true, _, rfl, HF2.out, HFin.out, hGf⟩
      · have HC2 := Lib.hid (show ∀ j : Nat, j < k + 1 → canB r (f.set i (j : Int)) = true from fun j hj => by
          by_cases hjk : j < k
          · exact HC.out j hjk
          · obtain rfl : j = k := by omega
            exact hc)
        clear hc
        go_wp2_with fail
        go_roundw
        case rel => exact ⟨k + 1, by omega, by go_num, hG3, HO2, HC2⟩
        case measure => simp [intOf]; omega
    · obtain rfl : k = 2 := by omega
      obtain ⟨HS1, hG1⟩ := HOk.out.store i (-1)
      rw [curF_set, set_self f i (by omega) HT.out.2] at HS1
      have HFin := Lib.hid HS1
      have HF2 := Lib.hid (show ForceTo r f i false f from .inr ⟨rfl, rfl, HC.out 0 (by omega), HC.out 1 (by omega)⟩)
      have hGf := gby_trans hG0 (gby_trans hG hG1)
      clear HS1 hG1
      go_wp2_with fail
      go_ret
      exact ⟨false, f, rfl, HF2.out, HFin.out, hGf⟩

end Go.Proofs.Ytkgikajfeihbbaa
