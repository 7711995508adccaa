/- 0-1 programs: the reference's search in memory; what rest and hopeless return. -/
import Derived.Test.YtkgikajfeihbbaaTgE
import Derived.Test.YtkgikajfeihbbaaZsQ
namespace Go.Proofs.Ytkgikajfeihbbaa
set_option maxRecDepth 100000
open Go.RowKit

/-- where the reference's search lies -/
structure Rh where
  g : Nat
  gx : Nat
  n : Nat
  m : Nat
  cx : Nat
  a0 : Option Addr
  c0 : Nat
  a1 : Option Addr
  c1 : Nat
  a2 : Option Addr
  c2 : Nat
def Rh.F (H : Rh) (i : Nat) : Prop := i = H.g ∨ i = H.gx
def Rh.cells (H : Rh) (vb : Value) (top : Int) : Array Value := #[.slice H.a0 H.n H.c0, .slice H.a1 H.m H.c1, .slice H.a2 H.n H.c2, .slice (some ⟨H.gx, 0, none⟩) H.n H.cx, vb, .int .i64 top]
/-- what is only read -/
structure RS (w : World) (H : Rh) (p : ProbM) : Prop where
  val : Row .i64 w H.a0 H.n H.c0 p.val
  rows : RowsIn w H.a1 H.m H.c1 p.rows
  fix : Row .i64 w H.a2 H.n H.c2 p.fix
theorem RS.below {w w' : World} {H : Rh} {p : ProbM} (h : RS w H p) (hb : Below w.heap.size w w') : RS w' H p := ⟨h.val.below hb, h.rows.below hb, h.fix.below hb⟩
/-- the best assignment so far: none, or owned ints -/
def BestIn (w : World) (B : Nat) (vb : Value) : Option (List Int) → Prop
  | none => vb = .slice none 0 0
  | some z => OwnI w B vb z ∧ ∃ g n c, vb = .slice (some ⟨g, 0, none⟩) n c
/-- what changes -/
structure RD (w : World) (B : Nat) (H : Rh) (x : List Int) (β : Option (List Int) × Int) (vb : Value) : Prop where
  blk : w.heap[H.g]? = some (.cells (H.cells vb β.2) 60)
  ox : OwnI w B (.slice (some ⟨H.gx, 0, none⟩) H.n H.cx) x
  ob : BestIn w B vb β.1
  off : ∀ j, vb.ownBlock = some j → ¬ H.F j
  ne : H.g ≠ H.gx
theorem BestIn.below {w w' : World} {B : Nat} {vb : Value} {z : Option (List Int)} (h : BestIn w B vb z) (hb : Below w.heap.size w w') : BestIn w' B vb z := by
  cases z with
  | none => exact h
  | some z => exact ⟨h.1.below hb, h.2⟩
theorem BestIn.by {w w' : World} {B : Nat} {vb : Value} {z : Option (List Int)} {g : Option Nat} (h : BestIn w B vb z) (hg : w.grownBy w' g) (hne : vb.ownBlock = none ∨ vb.ownBlock ≠ g) : BestIn w' B vb z := by
  cases z with
  | none => exact h
  | some z => exact ⟨h.1.by hg hne, h.2⟩
theorem RD.below {w w' : World} {B : Nat} {H : Rh} {x : List Int} {β : Option (List Int) × Int} {vb : Value} (h : RD w B H x β vb) (hb : Below w.heap.size w w') : RD w' B H x β vb :=
  ⟨by rw [hb.block H.g (blk_lt h.blk)]; exact h.blk, h.ox.below hb, h.ob.below hb, h.off, h.ne⟩
theorem RD.len {w : World} {B : Nat} {H : Rh} {x : List Int} {β : Option (List Int) × Int} {vb : Value} (h : RD w B H x β vb) : x.length = H.n := h.ox.len'
theorem RD.row {w : World} {B : Nat} {H : Rh} {x : List Int} {β : Option (List Int) × Int} {vb : Value} (h : RD w B H x β vb) (ht : Trits x) : Row .i64 w (some ⟨H.gx, 0, none⟩) H.n H.cx x := by
  obtain ⟨a, cap, e, h3⟩ := h.ox.row (wf_trits ht)
  rw [h.len] at e h3
  cases e
  exact h3

set_option maxHeartbeats 8000000 in
theorem rest_any (H : Rh) (p : ProbM) (B j : Nat) (x : List Int) (β : Option (List Int) × Int) (vb : Value) (w : World) (hv : ValidM p) (hS : RS w H p) (hD : RD w B H x β vb) (hj : j ≤ H.n) :
    Calls Try.prog 53 #[.pointer (some ⟨H.g, 0, none⟩), .int .i64 j] w fun e w' => e = .returned (.int .i64 (hiOf (p.val.drop j) (p.fix.drop j))) ∧ Below w.heap.size w w' := by
  have hgl := blk_lt hD.blk
  have k0 : w.cell? ⟨H.g, 0, none⟩ = some (.slice H.a0 H.n H.c0) := (blk_cell hD.blk 0).trans rfl
  have k2 : w.cell? ⟨H.g, 2, none⟩ = some (.slice H.a2 H.n H.c2) := (blk_cell hD.blk 2).trans rfl
  have HV := Lib.hid hS.val
  have HF := Lib.hid hS.fix
  have e0 := Lib.hid hS.val.1
  have e2 := Lib.hid hS.fix.1
  have HSm := Lib.hid hv.val
  have hn : H.n ≤ 24 := by rw [← hS.val.1]; exact hv.n
  generalize H.n = n at *
  generalize H.g = g at *
  generalize H.a0 = a0 at *
  generalize H.a2 = a2 at *
  generalize H.c0 = c0 at *
  generalize H.c2 = c2 at *
  clear hS hD hv
  go_enter Try.func53, Try.ntmps53
  go_wp2_with fail
  go_loop [5, 6] (fun s i => ∃ (k : Nat) (t : Int), j ≤ k ∧ k ≤ n ∧ i = .int .i64 k ∧ s = .int .i64 t ∧ -1000000 * (k : Int) ≤ t ∧ t ≤ 1000000 * (k : Int) ∧ Hid (hiOf (p.val.drop j) (p.fix.drop j) = t + hiOf (p.val.drop k) (p.fix.drop k))) (fun _ i => n - (intOf i).toNat)
  case atStart => exact ⟨j, 0, by omega, by omega, rfl, rfl, by omega, by omega, by simp [Hid]⟩
  case round =>
    obtain ⟨k, t, hjk, hk, rfl, rfl, hn1, hn2, HD⟩ := hrel
    by_cases hlt : k < n
    · obtain ⟨b, off, rfl, _, hcc⟩ := HV.out.2.2.at hlt
      have y0 := hcc k hlt _ (Below.refl _ _)
      obtain ⟨b', off', rfl, _, hcc'⟩ := HF.out.2.2.at hlt
      have y1 := hcc' k hlt _ (Below.refl _ _)
      have HT := Lib.hid (hiOf_drop p.val p.fix k (by rw [e0.out]; omega) (by rw [e2.out]; omega))
      have hs := HSm.out k
      clear hcc hcc'
      generalize p.val.getD k 0 = x at *
      generalize p.fix.getD k 0 = f at *
      by_cases f1 : f = 1
      · have HX := Lib.hid (show hiT x f = x by simp [hiT, f1])
        subst f1
        go_wp2_with fail
        go_round
        case rel => exact ⟨k + 1, t + x, by omega, by omega, by go_num, by go_num, by omega, by omega, by unfold Hid; rw [HD.out, HT.out, HX.out]; omega⟩
        case measure => simp [intOf]; omega
      have d1 : (f == 1) = false := by simp [f1]
      by_cases f2 : f = -1
      · by_cases f3 : 0 < x
        · have HX := Lib.hid (show hiT x f = x by simp [hiT, f2, f3])
          have d3 : decide (0 < x) = true := by simp [f3]
          subst f2
          go_wp2_with fail
          go_round
          case rel => exact ⟨k + 1, t + x, by omega, by omega, by go_num, by go_num, by omega, by omega, by unfold Hid; rw [HD.out, HT.out, HX.out]; omega⟩
          case measure => simp [intOf]; omega
        · have HX := Lib.hid (show hiT x f = 0 by simp [hiT, f1, f3])
          have d3 : decide (0 < x) = false := by simp [f3]
          subst f2
          go_wp2_with fail
          go_round
          case rel => exact ⟨k + 1, t, by omega, by omega, by go_num, rfl, by omega, by omega, by unfold Hid; rw [HD.out, HT.out, HX.out]; omega⟩
          case measure => simp [intOf]; omega
      · have HX := Lib.hid (show hiT x f = 0 by simp [hiT, f1, f2])
        have d2 : (f == -1) = false := by simp [f2]
        go_wp2_with fail
        go_round
        case rel => exact ⟨k + 1, t, by omega, by omega, by go_num, rfl, by omega, by omega, by unfold Hid; rw [HD.out, HT.out, HX.out]; omega⟩
        case measure => simp [intOf]; omega
    · have HE := Lib.hid (show hiOf (p.val.drop j) (p.fix.drop j) = t by rw [HD.out, hiOf_end _ _ _ (by rw [e0.out]; omega)]; omega)
      go_wp2_with fail
      go_ret
      exact ⟨by rw [HE.out]; rfl, Below.refl _ _⟩

theorem hop_step {rs : List RowM} {x : List Int} {a : Nat} (h : ∀ j, j < a → canB (rs.getD j default) x = true) (ha : rs.length ≤ a) : hop rs x = false := by
  unfold hop
  rw [List.any_eq_false]
  intro q hq
  obtain ⟨i, hi, rfl⟩ := in_getD hq
  rw [h i (by omega)]; simp
theorem hop_hit {rs : List RowM} {x : List Int} {a : Nat} (ha : a < rs.length) (h : canB (rs.getD a default) x = false) : hop rs x = true := by
  unfold hop
  rw [List.any_eq_true]
  exact ⟨_, getD_in ha, by rw [h]; rfl⟩

set_option maxHeartbeats 8000000 in
theorem hopeless_any (H : Rh) (p : ProbM) (B : Nat) (j : Int) (x : List Int) (β : Option (List Int) × Int) (vb : Value) (w : World) (hv : ValidM p) (hS : RS w H p) (hD : RD w B H x β vb) (hx : Trits x) :
    Calls Try.prog 52 #[.pointer (some ⟨H.g, 0, none⟩), .int .i64 j] w fun e w' => e = .returned (.bool (hop p.rows x)) ∧ Below w.heap.size w w' := by
  have hgl := blk_lt hD.blk
  have k1 : w.cell? ⟨H.g, 1, none⟩ = some (.slice H.a1 H.m H.c1) := (blk_cell hD.blk 1).trans rfl
  have k3 : w.cell? ⟨H.g, 3, none⟩ = some (.slice (some ⟨H.gx, 0, none⟩) H.n H.cx) := (blk_cell hD.blk 3).trans rfl
  have HR := Lib.hid hS.rows
  have HX := Lib.hid (hD.row hx)
  have HV := Lib.hid hv
  have hn : H.n ≤ 24 := by rw [← hS.val.1]; exact hv.n
  have hm : H.m ≤ 60 := by rw [← hS.rows.1]; exact hv.m
  have HL := Lib.hid (show p.rows.length = H.m ∧ p.val.length = H.n from ⟨hS.rows.1, hS.val.1⟩)
  generalize H.n = n at *
  generalize H.m = m at *
  generalize H.g = g at *
  generalize H.gx = gx at *
  generalize H.cx = cx at *
  generalize H.a1 = a1 at *
  generalize H.c1 = c1 at *
  clear hS hD hv hx
  go_enter Try.func52, Try.ntmps52
  go_wp2_with fail
  go_loopw [5] (fun i wr => ∃ a : Nat, a ≤ m ∧ i = .int .i64 a ∧ Below w.heap.size w wr ∧ Hid (∀ j, j < a → canB (p.rows.getD j default) x = true)) (fun i _ => m - (intOf i).toNat)
  case atStart => exact ⟨0, by omega, rfl, Below.refl _ _, Lib.hid (fun j hj => by omega)⟩
  case round =>
    obtain ⟨a, ha, rfl, hb, HP⟩ := hrel
    have y1 := bc hb hgl k1
    have y3 := bc hb hgl k3
    by_cases hlt : a < m
    · have HRr := Lib.hid (HR.out.below hb)
      obtain ⟨b, off, rfl, -, -⟩ := HRr.out.at hlt
      obtain ⟨ai, li, ci, z0, z1, z2, hrv⟩ := row_at HRr.out hlt
      have HC := Lib.hid (HV.out.coefn a (by rw [HL.out.1]; exact hlt))
      have HCs := Lib.hid (HV.out.coef a (by rw [HL.out.1]; exact hlt))
      have HRv := Lib.hid hrv
      have HXr := Lib.hid (HX.out.below hb)
      have HHit := Lib.hid (hop_hit (x := x) (show a < p.rows.length by rw [HL.out.1]; exact hlt))
      generalize hrk : p.rows.getD a default = r at *
      have HRk := Lib.hid hrk
      clear hrv hrk
      have q1 : ∀ W : Ext wr.heap.size wr, Calls Try.prog 46 #[.agg #[.slice ai li ci, .int .i64 r.mn, .int .i64 r.mx], .slice (some ⟨gx, 0, none⟩) n cx] W.1 fun e w'' => e = .returned (.bool (canB r x)) ∧ ∃ W' : Ext wr.heap.size wr, w'' = W'.val := fun W => Calls.ext W (can_any _ r x _ n cx W.1 (HRv.out.below W.2) (HXr.out.below W.2) (by rw [HC.out, HL.out.2]) hn HCs.out)
      have g1 := bl hb hgl
      have e1 : ∀ W : Ext wr.heap.size wr, W.1.cell? ⟨g, 1, none⟩ = some (.slice (some ⟨b, off, none⟩) m c1) := fun W => bc W.2 g1 y1
      have e3 : ∀ W : Ext wr.heap.size wr, W.1.cell? ⟨g, 3, none⟩ = some (.slice (some ⟨gx, 0, none⟩) n cx) := fun W => bc W.2 g1 y3
      have hbb : b < wr.heap.size := by
        obtain ⟨b', off', e', h', -⟩ := HRr.out.at hlt
        cases e'; exact h'
      have z0' : ∀ W : Ext wr.heap.size wr, W.1.cell? ⟨b, off + a * 3, none⟩ = some (.slice ai li ci) := fun W => bc W.2 hbb z0
      have z1' : ∀ W : Ext wr.heap.size wr, W.1.cell? ⟨b, off + a * 3 + 1, none⟩ = some (.int .i64 r.mn) := fun W => bc W.2 hbb z1
      have z2' : ∀ W : Ext wr.heap.size wr, W.1.cell? ⟨b, off + a * 3 + 2, none⟩ = some (.int .i64 r.mx) := fun W => bc W.2 hbb z2
      generalize hcn : canB r x = cn at *
      have HCn := Lib.hid hcn
      clear hcn
      go_wp2_with fail
      refine wp_region_ext wr.heap.size wr (by kernel_rfl) (by kernel_rfl) (Below.refl _ _) ?_
      repeat (first | go_big_quiet_step (first | with_reducible exact q1 _))
      refine wpQuiet_nil ?_
      intro W
      have hbW := hb.trans (W.2.mono hb.size)
      generalize W.1 = w3 at *
      clear q1 e1 e3 z0' z1' z2' z0 z1 z2 y1 y3 hb hbb g1 HRr HXr HRv
      cases cn
      · go_wp2_with fail
        go_ret
        exact ⟨by rw [HHit.out (by trivial)]; rfl, hbW⟩
      · have HP2 := Lib.hid (show ∀ j, j < a + 1 → canB (p.rows.getD j default) x = true from fun j hj => by
          by_cases hja : j < a
          · exact HP.out j hja
          · obtain rfl : j = a := by omega
            rw [HRk.out]; exact HCn.out)
        clear HP
        go_wp2_with fail
        go_roundw
        case rel => exact ⟨a + 1, by omega, by go_num, hbW, HP2⟩
        case measure => simp [intOf]; omega
    · have HE := Lib.hid (hop_step HP.out (by rw [HL.out.1]; omega))
      go_wp2_with fail
      go_ret
      exact ⟨by rw [HE.out]; rfl, hb⟩

end Go.Proofs.Ytkgikajfeihbbaa
