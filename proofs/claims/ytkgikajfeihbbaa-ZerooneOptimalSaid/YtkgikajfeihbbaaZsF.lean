/- 0-1 programs: what visit does to the search. -/
import Derived.Test.YtkgikajfeihbbaaZsE
import Derived.Test.YtkgikajfeihbbaaTail
namespace Go.Proofs.Ytkgikajfeihbbaa
set_option maxRecDepth 100000
open Go.RowKit

/-- the bound of the search, told by the variables that are left -/
def bdR (S : Sh) (p : ProbM) (free ord : List Nat) (r : List Nat) (x : List Int) : Int := bdS p.val (wideRow S p) (leftOf free ord (S.k - r.length)) x
def lateR (S : Sh) (p : ProbM) (i : Nat) : Bool := !S.one && decide (p.val.getD i 0 ≤ 0)
def topI : Int := 9223372036854775807
/-- what visit makes of what was found -/
def visR (S : Sh) (p : ProbM) (free ord : List Nat) (d : Nat) (x : List Int) (β : Sb) : Sb := visitM (okS p.rows) (bdR S p free ord) (dotL p.val) (lateR S p) S.once topI (free.drop d) x β
theorem bdR_at {S : Sh} {p : ProbM} {free ord : List Nat} (hk : free.length = S.k) {d : Nat} (hd : d ≤ S.k) (x : List Int) : bdR S p free ord (free.drop d) x = bdS p.val (wideRow S p) (leftOf free ord d) x := by
  unfold bdR
  rw [List.length_drop, hk, show S.k - (S.k - d) = d by omega]
theorem As.tail {S : Sh} {i : Nat} {r : List Nat} {x : List Int} (h : As S (i :: r) x) : As S r x ∧ As S r (x.set i 1) ∧ x.getD i 0 = 0 ∧ i < S.n := by
  obtain ⟨h1, h2⟩ := h.gd.tail
  exact ⟨⟨h1, h.bits⟩, ⟨h2, bits_set h.bits (.inr rfl)⟩, h.gd.zero i (by simp), h.gd.lt i (by simp)⟩
theorem wf_bits {x : List Int} (h : Bits01 x) : Wf64 x := fun n hn => by
  obtain ⟨i, hi, rfl⟩ := List.getElem_of_mem hn
  have := h i hi
  simp [List.getD, List.getElem?_eq_getElem hi] at this
  rcases this with e | e <;> rw [e] <;> rfl
theorem visR_no {S : Sh} {p : ProbM} {free ord : List Nat} {d : Nat} {x : List Int} {β : Sb} (h : (!okS p.rows (free.drop d) x || decide (bdR S p free ord (free.drop d) x < β.least)) = true) : visR S p free ord d x β = β := by
  unfold visR
  cases hr : free.drop d with
  | nil => rw [hr] at h; simp only [visitM]; rw [if_pos h]
  | cons i r => rw [hr] at h; simp only [visitM]; rw [if_pos h]
theorem visR_leaf {S : Sh} {p : ProbM} {free ord : List Nat} {d : Nat} {x : List Int} {β : Sb} (hd : free.length ≤ d) (h : (!okS p.rows (free.drop d) x || decide (bdR S p free ord (free.drop d) x < β.least)) = false) : visR S p free ord d x β = ⟨if S.once then topI else dotL p.val x + 1, x, dotL p.val x, true⟩ := by
  unfold visR
  rw [List.drop_eq_nil_of_le hd] at h ⊢
  simp only [visitM]
  rw [if_neg (by rw [h]; simp)]
theorem visR_cons {S : Sh} {p : ProbM} {free ord : List Nat} {d : Nat} {x : List Int} {β : Sb} (hd : d < free.length) (h : (!okS p.rows (free.drop d) x || decide (bdR S p free ord (free.drop d) x < β.least)) = false) :
    visR S p free ord d x β = if lateR S p (free.getD d 0) then visR S p free ord (d + 1) (x.set (free.getD d 0) 1) (visR S p free ord (d + 1) x β) else visR S p free ord (d + 1) x (visR S p free ord (d + 1) (x.set (free.getD d 0) 1) β) := by
  unfold visR
  rw [drop_cons free d 0 hd] at h ⊢
  simp only [visitM]
  rw [if_neg (by rw [h]; simp)]

/-- worlds in which the search has written itself, but not its assignment and value -/
structure GV (S : Sh) (v6 v7 : Value) (w : World) where
  val : World
  prop : But S.F w val ∧ val.cell? ⟨S.g, 6, none⟩ = some v6 ∧ val.cell? ⟨S.g, 7, none⟩ = some v7
theorem gv_set {S : Sh} {v6 v7 : Value} {w w' : World} (h : But S.F w w' ∧ w'.cell? ⟨S.g, 6, none⟩ = some v6 ∧ w'.cell? ⟨S.g, 7, none⟩ = some v7) (o : Nat) (h6 : o ≠ 6) (h7 : o ≠ 7) (v : Value) : But S.F w (w'.setCell ⟨S.g, o, none⟩ v) ∧ (w'.setCell ⟨S.g, o, none⟩ v).cell? ⟨S.g, 6, none⟩ = some v6 ∧ (w'.setCell ⟨S.g, o, none⟩ v).cell? ⟨S.g, 7, none⟩ = some v7 :=
  ⟨h.1.trans (But.set _ _ _ _ fun _ => .inl rfl), (World.cell?_setCell_other _ _ _ _ (by simp <;> omega)).trans h.2.1, (World.cell?_setCell_other _ _ _ _ (by simp <;> omega)).trans h.2.2⟩
theorem gv_below {S : Sh} {v6 v7 : Value} {w w' w2 : World} (h : But S.F w w' ∧ w'.cell? ⟨S.g, 6, none⟩ = some v6 ∧ w'.cell? ⟨S.g, 7, none⟩ = some v7) (hg : S.g < w'.heap.size) (hb : Below w'.heap.size w' w2) : But S.F w w2 ∧ w2.cell? ⟨S.g, 6, none⟩ = some v6 ∧ w2.cell? ⟨S.g, 7, none⟩ = some v7 :=
  ⟨h.1.trans (But.of hb), bc hb hg h.2.1, bc hb hg h.2.2⟩

set_option maxHeartbeats 16000000 in
theorem visit_leaf (S : Sh) (p : ProbM) (free ord : List Nat) (B : Nat) (hP : Pu S p free ord) (x : List Int) (β : Sb) (vb : Value) (w : World) (hS : ∀ w', But S.F w w' → St w' S p free ord) (hD : Dy w B S p x β vb) (hA : As S (free.drop S.k) x) (hB : B ≤ w.heap.size) :
    Calls Try.prog 51 #[.pointer (some ⟨S.g, 0, none⟩), .int .i64 S.k] w fun e w' => e = .returned (.tuple #[]) ∧ (∃ vb', Dy w' B S p x (visR S p free ord S.k x β) vb') ∧ But S.F w w' := by
  have HPu := Lib.hid hP
  have hkn := hP.kn
  have HSt := Lib.hid hS
  have HDy := Lib.hid hD
  have HAs := Lib.hid hA
  have hgl := blk_lt hD.blk
  have HNo := Lib.hid (visR_no (S := S) (p := p) (free := free) (ord := ord) (d := S.k) (x := x) (β := β))
  have HLf := Lib.hid (visR_leaf (S := S) (p := p) (free := free) (ord := ord) (d := S.k) (x := x) (β := β) (by rw [hP.k]; omega))
  rw [bdR_at hP.k (by omega)] at HNo HLf
  generalize hU : visR S p free ord S.k x β = U at *
  have q1 : ∀ W : Ext w.heap.size w, Calls Try.prog 57 #[.pointer (some ⟨S.g, 0, none⟩), .int .i64 S.k] W.1 fun e w'' => e = .returned (.bool (okS p.rows (free.drop S.k) x)) ∧ ∃ W' : Ext w.heap.size w, w'' = W'.val := fun W => Calls.ext W (possible_any S p free ord S.k B x β vb W.1 hP (hS _ (But.of W.2)) (hD.below W.2) hA (by omega))
  have q2 : ∀ W : Ext w.heap.size w, Calls Try.prog 58 #[.pointer (some ⟨S.g, 0, none⟩), .int .i64 S.k] W.1 fun e w'' => e = .returned (.int .i64 (bdS p.val (wideRow S p) (leftOf free ord S.k) x)) ∧ ∃ W' : Ext w.heap.size w, w'' = W'.val := fun W => Calls.ext W (sbound_any S p free ord S.k B x β vb W.1 hP (hS _ (But.of W.2)) (hD.below W.2) hA.bits)
  have e13 : ∀ W : Ext w.heap.size w, W.1.cell? ⟨S.g, 13, none⟩ = some (.int .i64 β.least) := fun W => (blk_cell (hD.below W.2).blk 13).trans rfl
  generalize okS p.rows (free.drop S.k) x = ok at *
  generalize bdS p.val (wideRow S p) (leftOf free ord S.k) x = bd at *
  clear hP hS hD hA hU
  cases ok
  · have hUe := HNo.out rfl
    clear HNo HLf
    subst hUe
    go_enter Try.func51, Try.ntmps51
    go_wp2_with fail
    refine wp_region_ext w.heap.size w (by kernel_rfl) (by kernel_rfl) (Below.refl _ _) ?_
    repeat (first | go_big_quiet_step (first | with_reducible exact q1 _ | with_reducible exact q2 _))
    refine wpQuiet_nil ?_
    intro W
    have hbW := W.2
    generalize W.1 = w1 at *
    clear q1 q2 e13
    go_wp2_with fail
    refine bodyPost_ret (results_none rfl _ _ _) rfl ?_
    exact ⟨rfl, ⟨_, HDy.out.below hbW⟩, But.of hbW⟩
  · by_cases hlt : bd < β.least
    · have hUe := HNo.out (by simp [hlt])
      have hdl : decide (bd < β.least) = true := by simp [hlt]
      clear HNo HLf
      subst hUe
      go_enter Try.func51, Try.ntmps51
      go_wp2_with fail
      refine wp_region_ext w.heap.size w (by kernel_rfl) (by kernel_rfl) (Below.refl _ _) ?_
      repeat (first | go_big_quiet_step (first | with_reducible exact q1 _ | with_reducible exact q2 _))
      refine wpQuiet_nil ?_
      intro W
      have hbW := W.2
      generalize W.1 = w1 at *
      clear q1 q2 e13
      go_wp2_with fail
      refine bodyPost_ret (results_none rfl _ _ _) rfl ?_
      exact ⟨rfl, ⟨_, HDy.out.below hbW⟩, But.of hbW⟩
    · have HUe := Lib.hid (HLf.out (by simp [hlt]))
      have hdl : decide (bd < β.least) = false := by simp [hlt]
      clear HNo HLf
      have hvb := dotL_bd p.val x HPu.out.valid.val HAs.out.bits
      have hvn := HPu.out.valid.n
      go_enter Try.func51, Try.ntmps51
      go_wp2_with fail
      refine wp_region_ext w.heap.size w (by kernel_rfl) (by kernel_rfl) (Below.refl _ _) ?_
      repeat (first | go_big_quiet_step (first | with_reducible exact q1 _ | with_reducible exact q2 _))
      refine wpQuiet_nil ?_
      intro W
      have hbW := W.2
      generalize W.1 = w1 at *
      clear q1 q2 e13
      have HD1 := Lib.hid (HDy.out.below hbW)
      have hgl1 := blk_lt HD1.out.blk
      have k3 : w1.cell? ⟨S.g, 3, none⟩ = some (.slice S.af S.k S.cf) := (blk_cell HD1.out.blk 3).trans rfl
      clear HDy
      go_wp2_with fail
      have k6 : w1.cell? ⟨S.g, 6, none⟩ = some (.slice (some ⟨S.gx, 0, none⟩) S.n S.cx) := (blk_cell HD1.out.blk 6).trans rfl
      have k7 : w1.cell? ⟨S.g, 7, none⟩ = some (.int .i64 (dotL p.val x)) := (blk_cell HD1.out.blk 7).trans rfl
      have e6 : ∀ W : GV S (.slice (some ⟨S.gx, 0, none⟩) S.n S.cx) (.int .i64 (dotL p.val x)) w1, W.1.cell? ⟨S.g, 6, none⟩ = some (.slice (some ⟨S.gx, 0, none⟩) S.n S.cx) := fun W => W.2.2.1
      have e7 : ∀ W : GV S (.slice (some ⟨S.gx, 0, none⟩) S.n S.cx) (.int .i64 (dotL p.val x)) w1, W.1.cell? ⟨S.g, 7, none⟩ = some (.int .i64 (dotL p.val x)) := fun W => W.2.2.2
      have hNe : Nonempty (GV S (.slice (some ⟨S.gx, 0, none⟩) S.n S.cx) (.int .i64 (dotL p.val x)) w1) := ⟨⟨w1, But.refl _ _, k6, k7⟩⟩
      refine wp_region_sched [(0, false), (1, false), (2, false), (3, false), (4, false), (5, false), (6, false), (8, false), (9, false), (10, false), (11, false), (7, true), (12, false), (13, false), (14, true), (15, false), (16, false), (17, true), (18, false), (19, false), (20, true)] (fun w' => ∃ W : GV S (.slice (some ⟨S.gx, 0, none⟩) S.n S.cx) (.int .i64 (dotL p.val x)) w1, w' = W.1) (by kernel_rfl) (by kernel_rfl) ⟨⟨w1.drew, (But.refl _ _).drew, k6, k7⟩, rfl⟩ ?_
      repeat (refine wpSched_calm rfl (fun K hK => ?_); go_simp; refine hK _ ?_; clear hK K)
      clear e6 e7
      have hbd1 : Below w1.heap.size w1 w1.drew := (Below.refl _ _).drew
      have HD2 := Lib.hid (HD1.out.below hbd1)
      have hM : But S.F w1 w1.drew ∧ w1.drew.cell? ⟨S.g, 6, none⟩ = some (.slice (some ⟨S.gx, 0, none⟩) S.n S.cx) ∧ w1.drew.cell? ⟨S.g, 7, none⟩ = some (.int .i64 (dotL p.val x)) := ⟨(But.refl _ _).drew, k6, k7⟩
      have hgd : S.g < w1.drew.heap.size := hgl1
      obtain ⟨ax, cx, hax, hrx⟩ := HD2.out.ox.row (wf_bits HAs.out.bits)
      have HRx := Lib.hid (show Row .i64 w1.drew (some ⟨S.gx, 0, none⟩) S.n S.cx x by
        have h1 := HD2.out.len
        rw [h1] at hax hrx
        cases hax; exact hrx)
      have hB2 : B ≤ w1.drew.heap.size := by have h1 := hbW.size; have h2 : w1.heap.size ≤ w1.drew.heap.size := hbd1.size; omega
      clear HD1 hgl1 k3 k6 k7 hax hrx
      have HWb := Lib.hid (hbW.trans (hbd1.mono hbW.size))
      have hws : w.heap.size ≤ w1.drew.heap.size := HWb.out.size
      clear hbW hbd1
      generalize w1.drew = w2 at *
      refine wpSched_eff rfl rfl (fun K hK => ?_)
      go_simp
      refine (clone_intsB w2.heap.size x _ _ _ w2 HRx.out (by omega) (Nat.le_refl _)).mono ?_
      rintro e w5 ⟨b5, d5, rfl, hO5, hb5⟩
      have hM5 := gv_below hM hgd hb5
      have HD5 := Lib.hid (HD2.out.below hb5)
      have HO5 := Lib.hid hO5
      have HWb5 := Lib.hid (HWb.out.trans (hb5.mono hws))
      have HOff := Lib.hid (show ∀ j, (Value.slice b5 S.n d5).ownBlock = some j → ¬ S.F j from fun j hj => by
        have h1 := hO5.lt j hj
        have h2 := Owns.in HD2.out.ox S.gx rfl
        have h3 := Owns.in HD2.out.os S.gs rfl
        unfold Sh.F
        omega)
      clear hM hO5 hb5 HD2 HRx HWb
      refine hK _ _ ⟨⟨w5, hM5⟩, rfl⟩ ?_
      clear hK K
      repeat (refine wpSched_calm rfl (fun K hK => ?_); go_simp; refine hK _ ?_; clear hK K)
      have y14 : w5.cell? ⟨S.g, 14, none⟩ = some vb := (blk_cell HD5.out.blk 14).trans rfl
      have y15 : w5.cell? ⟨S.g, 15, none⟩ = some (.int .i64 β.most) := (blk_cell HD5.out.blk 15).trans rfl
      have y16 : w5.cell? ⟨S.g, 16, none⟩ = some (.bool β.found) := (blk_cell HD5.out.blk 16).trans rfl
      have z14 := blk_free HD5.out.blk 14
      have z15 := blk_free HD5.out.blk 15
      have z16 := blk_free HD5.out.blk 16
      refine wpSched_eff rfl rfl (fun K hK => ?_)
      go_simp
      refine hK _ _ ⟨⟨_, gv_set hM5 14 (by omega) (by omega) (.slice b5 S.n d5)⟩, rfl⟩ ?_
      clear hK K
      repeat (refine wpSched_calm rfl (fun K hK => ?_); go_simp; refine hK _ ?_; clear hK K)
      refine wpSched_eff rfl rfl (fun K hK => ?_)
      go_simp
      refine hK _ _ ⟨⟨_, gv_set (gv_set hM5 14 (by omega) (by omega) (.slice b5 S.n d5)) 15 (by omega) (by omega) (.int .i64 (dotL p.val x))⟩, rfl⟩ ?_
      clear hK K
      repeat (refine wpSched_calm rfl (fun K hK => ?_); go_simp; refine hK _ ?_; clear hK K)
      refine wpSched_eff rfl rfl (fun K hK => ?_)
      go_simp
      refine hK _ _ ⟨⟨_, gv_set (gv_set (gv_set hM5 14 (by omega) (by omega) (.slice b5 S.n d5)) 15 (by omega) (by omega) (.int .i64 (dotL p.val x))) 16 (by omega) (by omega) (.bool true)⟩, rfl⟩ ?_
      clear hK K
      refine wpSched_nil ?_
      have HB6 := Lib.hid (show ((((w5.setCell ⟨S.g, 14, none⟩ (.slice b5 S.n d5)).setCell ⟨S.g, 15, none⟩ (.int .i64 (dotL p.val x))).setCell ⟨S.g, 16, none⟩ (.bool true))).heap[S.g]? = some (.cells (S.cells (dotL p.val x) β.least (.slice b5 S.n d5) (dotL p.val x) true) 71) from
        (heap_setCell_same _ S.g 16 _ _ (.bool true) (heap_setCell_same _ S.g 15 _ _ (.int .i64 (dotL p.val x)) (heap_setCell_same w5 S.g 14 _ _ (.slice b5 S.n d5) HD5.out.blk))).trans rfl)
      have hG6 : w5.grownBy ((((w5.setCell ⟨S.g, 14, none⟩ (.slice b5 S.n d5)).setCell ⟨S.g, 15, none⟩ (.int .i64 (dotL p.val x))).setCell ⟨S.g, 16, none⟩ (.bool true))) (some S.g) := gby_trans (gby_trans (gby_set _ _ _ _) (gby_set _ _ _ _)) (gby_set _ _ _ _)
      clear hNe y14 y15 y16 z14 z15 z16 hM5
      generalize ((((w5.setCell ⟨S.g, 14, none⟩ (.slice b5 S.n d5)).setCell ⟨S.g, 15, none⟩ (.int .i64 (dotL p.val x))).setCell ⟨S.g, 16, none⟩ (.bool true))) = w6 at *
      have y5 : w6.cell? ⟨S.g, 5, none⟩ = some (.bool S.once) := (blk_cell HB6.out 5).trans rfl
      have y7 : w6.cell? ⟨S.g, 7, none⟩ = some (.int .i64 (dotL p.val x)) := (blk_cell HB6.out 7).trans rfl
      have y13 : w6.cell? ⟨S.g, 13, none⟩ = some (.int .i64 β.least) := (blk_cell HB6.out 13).trans rfl
      have z13 := blk_free HB6.out 13
      have HFin := Lib.hid (show ∀ (w7 : World) (lst : Int), w6.grownBy w7 (some S.g) → w7.heap[S.g]? = some (.cells (S.cells (dotL p.val x) lst (.slice b5 S.n d5) (dotL p.val x) true) 71) → (∃ vb', Dy w7 B S p x ⟨lst, x, dotL p.val x, true⟩ vb') ∧ But S.F w w7 from fun w7 lst hG7 hB7 => by
        have hG := gby_trans hG6 hG7
        refine ⟨⟨.slice b5 S.n d5, hB7, HD5.out.ox.by hG (.inr (by simp [Value.ownBlock]; exact fun h => HPu.out.ne1 h.symm)), HD5.out.os.by hG (.inr (by simp [Value.ownBlock]; exact fun h => HPu.out.ne2 h.symm)), (HO5.out.mono hB2).by hG (.inr fun e => (not_F (HOff.out _ e)).1 rfl), HOff.out⟩, (But.of HWb5.out).trans (But.gby hG fun j hj _ => ?_)⟩
        cases hj; exact .inl rfl)
      cases ho : S.once
      · rw [ho] at y5 HUe
        have HF := Lib.hid (HFin.out (w6.setCell ⟨S.g, 13, none⟩ (.int .i64 (dotL p.val x + 1))) (dotL p.val x + 1) (gby_set _ _ _ _) ((heap_setCell_same w6 S.g 13 _ _ (.int .i64 (dotL p.val x + 1)) HB6.out).trans rfl))
        clear HFin HD5 HO5 HWb5 HOff HB6 hG6
        generalize dotL p.val x = sv at *
        go_wp2_with fail
        refine bodyPost_ret (results_none rfl _ _ _) rfl ?_
        exact ⟨rfl, by rw [HUe.out]; exact HF.out.1, HF.out.2⟩
      · rw [ho] at y5 HUe
        have HF := Lib.hid (HFin.out ((w6.setCell ⟨S.g, 13, none⟩ (.int .i64 (dotL p.val x + 1))).setCell ⟨S.g, 13, none⟩ (.int .i64 9223372036854775807)) topI (gby_trans (gby_set _ _ _ _) (gby_set _ _ _ _)) ((heap_setCell_same _ S.g 13 _ _ (.int .i64 9223372036854775807) (heap_setCell_same w6 S.g 13 _ _ (.int .i64 (dotL p.val x + 1)) HB6.out)).trans rfl))
        clear HFin HD5 HO5 HWb5 HOff HB6 hG6
        generalize dotL p.val x = sv at *
        go_wp2_with fail
        refine bodyPost_ret (results_none rfl _ _ _) rfl ?_
        exact ⟨rfl, by rw [HUe.out]; exact HF.out.1, HF.out.2⟩

set_option maxHeartbeats 16000000 in
theorem visit_node (S : Sh) (p : ProbM) (free ord : List Nat) (B d : Nat) (hP : Pu S p free ord) (hd : d < S.k)
    (IH : ∀ (x : List Int) (β : Sb) (vb : Value) (w : World), (∀ w', But S.F w w' → St w' S p free ord) → Dy w B S p x β vb → As S (free.drop (d + 1)) x → B ≤ w.heap.size →
      Calls Try.prog 51 #[.pointer (some ⟨S.g, 0, none⟩), .int .i64 ((d : Int) + 1)] w fun e w' => e = .returned (.tuple #[]) ∧ (∃ vb', Dy w' B S p x (visR S p free ord (d + 1) x β) vb') ∧ But S.F w w')
    (x : List Int) (β : Sb) (vb : Value) (w : World) (hS : ∀ w', But S.F w w' → St w' S p free ord) (hD : Dy w B S p x β vb) (hA : As S (free.drop d) x) (hB : B ≤ w.heap.size) :
    Calls Try.prog 51 #[.pointer (some ⟨S.g, 0, none⟩), .int .i64 d] w fun e w' => e = .returned (.tuple #[]) ∧ (∃ vb', Dy w' B S p x (visR S p free ord d x β) vb') ∧ But S.F w w' := by
  have HPu := Lib.hid hP
  have hkn := hP.kn
  have HSt := Lib.hid hS
  have HDy := Lib.hid hD
  have HIH := Lib.hid IH
  have hgl := blk_lt hD.blk
  have hdl' : d < free.length := by rw [hP.k]; exact hd
  have HNo := Lib.hid (visR_no (S := S) (p := p) (free := free) (ord := ord) (d := d) (x := x) (β := β))
  have HLf := Lib.hid (visR_cons (S := S) (p := p) (free := free) (ord := ord) (d := d) (x := x) (β := β) hdl')
  rw [bdR_at hP.k (by omega)] at HNo HLf
  generalize hU : visR S p free ord d x β = U at *
  have q1 : ∀ W : Ext w.heap.size w, Calls Try.prog 57 #[.pointer (some ⟨S.g, 0, none⟩), .int .i64 d] W.1 fun e w'' => e = .returned (.bool (okS p.rows (free.drop d) x)) ∧ ∃ W' : Ext w.heap.size w, w'' = W'.val := fun W => Calls.ext W (possible_any S p free ord d B x β vb W.1 hP (hS _ (But.of W.2)) (hD.below W.2) hA (by omega))
  have q2 : ∀ W : Ext w.heap.size w, Calls Try.prog 58 #[.pointer (some ⟨S.g, 0, none⟩), .int .i64 d] W.1 fun e w'' => e = .returned (.int .i64 (bdS p.val (wideRow S p) (leftOf free ord d) x)) ∧ ∃ W' : Ext w.heap.size w, w'' = W'.val := fun W => Calls.ext W (sbound_any S p free ord d B x β vb W.1 hP (hS _ (But.of W.2)) (hD.below W.2) hA.bits)
  have e13 : ∀ W : Ext w.heap.size w, W.1.cell? ⟨S.g, 13, none⟩ = some (.int .i64 β.least) := fun W => (blk_cell (hD.below W.2).blk 13).trans rfl
  have hA2 := hA
  rw [drop_cons free d 0 hdl'] at hA2
  obtain ⟨hA3, hA4, hx0, hin⟩ := hA2.tail
  have HA3 := Lib.hid hA3
  have HA4 := Lib.hid hA4
  have HAb := Lib.hid hA.bits
  have HX0 := Lib.hid hx0
  have HI := Lib.hid (show free.getD d 0 = free.getD d 0 from rfl)
  generalize okS p.rows (free.drop d) x = ok at *
  generalize bdS p.val (wideRow S p) (leftOf free ord d) x = bd at *
  have HFr := Lib.hid (show ∀ w', But S.F w w' → ∃ b off, S.af = some ⟨b, off, none⟩ ∧ w'.cell? ⟨b, off + d, none⟩ = some (.int .i64 (free.getD d 0 : Nat)) from fun w' h => by
    obtain ⟨b, off, e, -, h2⟩ := (hS w' h).fr.2.at hd
    have h3 := h2 d hd w' (Below.refl _ _)
    rw [ixs_at] at h3
    exact ⟨b, off, e, h3⟩)
  generalize hi : free.getD d 0 = i at *
  clear hP hS hD hA hA2 hA3 hA4 hU IH hx0 HI hi hdl'
  cases ok
  · have hUe := HNo.out rfl
    clear HNo HLf
    subst hUe
    go_enter Try.func51, Try.ntmps51
    go_wp2_with fail
    refine wp_region_ext w.heap.size w (by kernel_rfl) (by kernel_rfl) (Below.refl _ _) ?_
    repeat (first | go_big_quiet_step (first | with_reducible exact q1 _ | with_reducible exact q2 _))
    refine wpQuiet_nil ?_
    intro W
    have hbW := W.2
    generalize W.1 = w1 at *
    clear q1 q2 e13
    go_wp2_with fail
    refine bodyPost_ret (results_none rfl _ _ _) rfl ?_
    exact ⟨rfl, ⟨_, HDy.out.below hbW⟩, But.of hbW⟩
  · by_cases hlt : bd < β.least
    · have hUe := HNo.out (by simp [hlt])
      have hdl : decide (bd < β.least) = true := by simp [hlt]
      clear HNo HLf
      subst hUe
      go_enter Try.func51, Try.ntmps51
      go_wp2_with fail
      refine wp_region_ext w.heap.size w (by kernel_rfl) (by kernel_rfl) (Below.refl _ _) ?_
      repeat (first | go_big_quiet_step (first | with_reducible exact q1 _ | with_reducible exact q2 _))
      refine wpQuiet_nil ?_
      intro W
      have hbW := W.2
      generalize W.1 = w1 at *
      clear q1 q2 e13
      go_wp2_with fail
      refine bodyPost_ret (results_none rfl _ _ _) rfl ?_
      exact ⟨rfl, ⟨_, HDy.out.below hbW⟩, But.of hbW⟩
    · have HUe := Lib.hid (HLf.out (by simp [hlt]))
      have hdl : decide (bd < β.least) = false := by simp [hlt]
      clear HNo HLf
      go_enter Try.func51, Try.ntmps51
      go_wp2_with fail
      refine wp_region_ext w.heap.size w (by kernel_rfl) (by kernel_rfl) (Below.refl _ _) ?_
      repeat (first | go_big_quiet_step (first | with_reducible exact q1 _ | with_reducible exact q2 _))
      refine wpQuiet_nil ?_
      intro W
      have hbW := W.2
      generalize W.1 = w1 at *
      clear q1 q2 e13
      have HD1 := Lib.hid (HDy.out.below hbW)
      have hB1 : But S.F w w1 := But.of hbW
      have hBw1 : B ≤ w1.heap.size := by have := hbW.size; omega
      obtain ⟨bf0, of0, haf, pf⟩ := HFr.out w1 hB1
      obtain ⟨bv0, ov0, hva, hvl, hcv⟩ := (HSt.out w1 hB1).val.2.2.at hin
      have pv := hcv i hin w1 (Below.refl _ _)
      have k0 : w1.cell? ⟨S.g, 0, none⟩ = some (.slice S.a0 S.n S.c0) := (blk_cell HD1.out.blk 0).trans rfl
      have k2 : w1.cell? ⟨S.g, 4, none⟩ = some (.bool S.one) := (blk_cell HD1.out.blk 4).trans rfl
      have k3 : w1.cell? ⟨S.g, 3, none⟩ = some (.slice S.af S.k S.cf) := (blk_cell HD1.out.blk 3).trans rfl
      have hde : ((d : Int) == (S.k : Int)) = false := by simp; omega
      have hde2 : (d == S.k) = false := by simp; omega
      rw [haf] at k3
      rw [hva] at k0
      have HLt := Lib.hid (show lateR S p i = (!S.one && decide (p.val.getD i 0 ≤ 0)) from rfl)
      clear HDy hcv HFr
      generalize p.val.getD i 0 = vi at *
      have HX1 := Lib.hid (show (x.set i 1).getD i 0 = 1 from getD_set_eq _ _ _ (by rw [HD1.out.len]; exact hin))
      have HXb := Lib.hid (show (x.set i 1).set i 0 = x by rw [List.set_set]; exact set_self x i (by rw [HD1.out.len]; exact hin) HX0.out)
      cases ho : S.one
      · rw [ho] at k2 HLt
        by_cases hvi : vi ≤ 0
        · have hdv : decide (vi ≤ 0) = true := by simp [hvi]
          have hlt1 := Lib.hid (show lateR S p i = true by rw [HLt.out, hdv]; rfl)
          rw [hlt1.out, if_pos rfl] at HUe
          clear HLt
          go_wp2_with fail
          refine (HIH.out (x) (β) vb w1 (fun w' h => HSt.out w' (hB1.trans h)) HD1.out HA3.out hBw1).mono ?_
          rintro e w2 ⟨rfl, ⟨vb2, hD2⟩, hbb⟩
          have HD2 := Lib.hid hD2
          have hB2 := hB1.trans hbb
          have hBw2 : B ≤ w2.heap.size := by have := hbb.size; omega
          clear hD2 hbb
          generalize visR S p free ord (d + 1) (x) (β) = b2 at *
          go_wp2_with fail
          refine (set1_any S p free ord i B x (b2) vb2 w2 HPu.out (fun w' h => HSt.out w' (hB2.trans h)) HD2.out HAb.out hin HX0.out).mono ?_
          rintro e w3 ⟨rfl, hD3, hbb⟩
          have HD3 := Lib.hid hD3
          have hB3 := hB2.trans hbb
          have hBw3 : B ≤ w3.heap.size := by have := hbb.size; omega
          clear hD3 hbb
          go_wp2_with fail
          refine (HIH.out (x.set i 1) (b2) vb2 w3 (fun w' h => HSt.out w' (hB3.trans h)) HD3.out HA4.out hBw3).mono ?_
          rintro e w4 ⟨rfl, ⟨vb4, hD4⟩, hbb⟩
          have HD4 := Lib.hid hD4
          have hB4 := hB3.trans hbb
          have hBw4 : B ≤ w4.heap.size := by have := hbb.size; omega
          clear hD4 hbb
          generalize visR S p free ord (d + 1) (x.set i 1) (b2) = b4 at *
          go_wp2_with fail
          refine (set0_any S p free ord i B (x.set i 1) (b4) vb4 w4 HPu.out (fun w' h => HSt.out w' (hB4.trans h)) HD4.out (bits_set HAb.out (.inr rfl)) hin HX1.out).mono ?_
          rintro e w5 ⟨rfl, hD5, hbb⟩
          rw [HXb.out] at hD5
          have HD5 := Lib.hid hD5
          have hB5 := hB4.trans hbb
          have hBw5 : B ≤ w5.heap.size := by have := hbb.size; omega
          clear hD5 hbb
          go_wp2_with fail
          go_end0
          exact ⟨rfl, ⟨_, by rw [HUe.out]; exact HD5.out⟩, hB5⟩
        · have hdv : decide (vi ≤ 0) = false := by simp; omega
          have hlt1 := Lib.hid (show lateR S p i = false by rw [HLt.out, hdv]; rfl)
          rw [hlt1.out, if_neg (by simp)] at HUe
          clear HLt
          go_wp2_with fail
          refine (set1_any S p free ord i B x (β) vb w1 HPu.out (fun w' h => HSt.out w' (hB1.trans h)) HD1.out HAb.out hin HX0.out).mono ?_
          rintro e w2 ⟨rfl, hD2, hbb⟩
          have HD2 := Lib.hid hD2
          have hB2 := hB1.trans hbb
          have hBw2 : B ≤ w2.heap.size := by have := hbb.size; omega
          clear hD2 hbb
          go_wp2_with fail
          refine (HIH.out (x.set i 1) (β) vb w2 (fun w' h => HSt.out w' (hB2.trans h)) HD2.out HA4.out hBw2).mono ?_
          rintro e w3 ⟨rfl, ⟨vb3, hD3⟩, hbb⟩
          have HD3 := Lib.hid hD3
          have hB3 := hB2.trans hbb
          have hBw3 : B ≤ w3.heap.size := by have := hbb.size; omega
          clear hD3 hbb
          generalize visR S p free ord (d + 1) (x.set i 1) (β) = b3 at *
          go_wp2_with fail
          refine (set0_any S p free ord i B (x.set i 1) (b3) vb3 w3 HPu.out (fun w' h => HSt.out w' (hB3.trans h)) HD3.out (bits_set HAb.out (.inr rfl)) hin HX1.out).mono ?_
          rintro e w4 ⟨rfl, hD4, hbb⟩
          rw [HXb.out] at hD4
          have HD4 := Lib.hid hD4
          have hB4 := hB3.trans hbb
          have hBw4 : B ≤ w4.heap.size := by have := hbb.size; omega
          clear hD4 hbb
          go_wp2_with fail
          refine (HIH.out (x) (b3) vb3 w4 (fun w' h => HSt.out w' (hB4.trans h)) HD4.out HA3.out hBw4).mono ?_
          rintro e w5 ⟨rfl, ⟨vb5, hD5⟩, hbb⟩
          have HD5 := Lib.hid hD5
          have hB5 := hB4.trans hbb
          have hBw5 : B ≤ w5.heap.size := by have := hbb.size; omega
          clear hD5 hbb
          generalize visR S p free ord (d + 1) (x) (b3) = b5 at *
          go_wp2_with fail
          go_end0
          exact ⟨rfl, ⟨_, by rw [HUe.out]; exact HD5.out⟩, hB5⟩
      · rw [ho] at k2 HLt
        have hlt1 := Lib.hid (show lateR S p i = false by rw [HLt.out]; rfl)
        rw [hlt1.out, if_neg (by simp)] at HUe
        clear HLt
        go_wp2_with fail
        refine (set1_any S p free ord i B x (β) vb w1 HPu.out (fun w' h => HSt.out w' (hB1.trans h)) HD1.out HAb.out hin HX0.out).mono ?_
        rintro e w2 ⟨rfl, hD2, hbb⟩
        have HD2 := Lib.hid hD2
        have hB2 := hB1.trans hbb
        have hBw2 : B ≤ w2.heap.size := by have := hbb.size; omega
        clear hD2 hbb
        go_wp2_with fail
        refine (HIH.out (x.set i 1) (β) vb w2 (fun w' h => HSt.out w' (hB2.trans h)) HD2.out HA4.out hBw2).mono ?_
        rintro e w3 ⟨rfl, ⟨vb3, hD3⟩, hbb⟩
        have HD3 := Lib.hid hD3
        have hB3 := hB2.trans hbb
        have hBw3 : B ≤ w3.heap.size := by have := hbb.size; omega
        clear hD3 hbb
        generalize visR S p free ord (d + 1) (x.set i 1) (β) = b3 at *
        go_wp2_with fail
        refine (set0_any S p free ord i B (x.set i 1) (b3) vb3 w3 HPu.out (fun w' h => HSt.out w' (hB3.trans h)) HD3.out (bits_set HAb.out (.inr rfl)) hin HX1.out).mono ?_
        rintro e w4 ⟨rfl, hD4, hbb⟩
        rw [HXb.out] at hD4
        have HD4 := Lib.hid hD4
        have hB4 := hB3.trans hbb
        have hBw4 : B ≤ w4.heap.size := by have := hbb.size; omega
        clear hD4 hbb
        go_wp2_with fail
        refine (HIH.out (x) (b3) vb3 w4 (fun w' h => HSt.out w' (hB4.trans h)) HD4.out HA3.out hBw4).mono ?_
        rintro e w5 ⟨rfl, ⟨vb5, hD5⟩, hbb⟩
        have HD5 := Lib.hid hD5
        have hB5 := hB4.trans hbb
        have hBw5 : B ≤ w5.heap.size := by have := hbb.size; omega
        clear hD5 hbb
        generalize visR S p free ord (d + 1) (x) (b3) = b5 at *
        go_wp2_with fail
        go_end0
        exact ⟨rfl, ⟨_, by rw [HUe.out]; exact HD5.out⟩, hB5⟩

theorem visit_any (S : Sh) (p : ProbM) (free ord : List Nat) (B : Nat) (hP : Pu S p free ord) : ∀ (t d : Nat), d + t = S.k → ∀ (x : List Int) (β : Sb) (vb : Value) (w : World), (∀ w', But S.F w w' → St w' S p free ord) → Dy w B S p x β vb → As S (free.drop d) x → B ≤ w.heap.size →
    Calls Try.prog 51 #[.pointer (some ⟨S.g, 0, none⟩), .int .i64 d] w fun e w' => e = .returned (.tuple #[]) ∧ (∃ vb', Dy w' B S p x (visR S p free ord d x β) vb') ∧ But S.F w w'
  | 0, d, hd, x, β, vb, w, hS, hD, hA, hB => by
    obtain rfl : d = S.k := by omega
    exact visit_leaf S p free ord B hP x β vb w hS hD hA hB
  | t + 1, d, hd, x, β, vb, w, hS, hD, hA, hB => by
    refine visit_node S p free ord B d hP (by omega) (fun x β vb w h1 h2 h3 h4 => ?_) x β vb w hS hD hA hB
    have h := visit_any S p free ord B hP t (d + 1) (by omega) x β vb w h1 h2 h3 h4
    rwa [show ((d + 1 : Nat) : Int) = (d : Int) + 1 by omega] at h

end Go.Proofs.Ytkgikajfeihbbaa
