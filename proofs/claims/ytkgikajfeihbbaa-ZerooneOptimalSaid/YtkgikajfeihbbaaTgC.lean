/- 0-1 programs: what zeroone.clone returns. -/
import Derived.Test.YtkgikajfeihbbaaTgB
import Derived.Test.YtkgikajfeihbbaaWalkB
namespace Go.Proofs.Ytkgikajfeihbbaa
set_option maxRecDepth 100000
open Go.RowKit

theorem infoRow : (Try.prog.info? 44).map (fun i => (i.zero, i.size, i.bytes)) = some (some (.agg #[.slice none 0 0, .int .i64 0, .int .i64 0]), 3, 40) := by kernel_rfl
theorem gby_set (w : World) (g o : Nat) (v : Value) : w.grownBy (w.setCell ⟨g, o, none⟩ v) (some g) :=
  ⟨rfl, rfl, rfl, by simp, fun k _ hk => heap_setCell_other w ⟨g, o, none⟩ k v (fun e => hk (by simp [e]))⟩
theorem own_ne {v : Value} {B g : Nat} (h : ∀ j, v.ownBlock = some j → B ≤ j) (hg : g < B) : v.ownBlock = none ∨ v.ownBlock ≠ some g := by
  refine .inr fun e => ?_
  have := h g e; omega
theorem OwnI.lt {w : World} {B : Nat} {v : Value} {xs : List Int} (h : OwnI w B v xs) : ∀ j, v.ownBlock = some j → B ≤ j := Owns.lt h
theorem OwnI.in {w : World} {B : Nat} {v : Value} {xs : List Int} (h : OwnI w B v xs) : ∀ j, v.ownBlock = some j → j < w.heap.size := Owns.in h
/-- a slice of ints does not lie in a block of another type -/
theorem OwnI.offBlk {w : World} {B g : Nat} {v : Value} {xs : List Int} {c : Array Value} {t : TypeId} (h : OwnI w B v xs) (hg : w.heap[g]? = some (.cells c t)) (ht : t ≠ 3) : v.ownBlock = none ∨ v.ownBlock ≠ some g := by
  refine .inr fun e => ?_
  rcases h.2 with ⟨rfl, -⟩ | ⟨g', cap, cur, rfl, -, hh, -⟩
  · simp [Value.ownBlock] at e
  · simp [Value.ownBlock] at e
    subst e
    rw [hg] at hh
    cases hh
    exact ht rfl
theorem OwnI.offK {w : World} {B B' : Nat} {v u : Value} {xs : List Int} {n k : Nat} {cs : List Value} {t : TypeId} (h : OwnI w B v xs) (hk : OwnsK w B' t k u n cs) (ht : t ≠ 3) : v.ownBlock = none ∨ v.ownBlock ≠ u.ownBlock := by
  rcases hk.2 with ⟨rfl, -⟩ | ⟨g', cap, cur, rfl, -, hh, -⟩
  · cases hv : v.ownBlock with
    | none => exact .inl rfl
    | some j => exact .inr (by simp [Value.ownBlock])
  · exact h.offBlk hh ht
theorem clone_intsB (B : Nat) (xs : List Int) (a : Option Addr) (len cap : Nat) (w : World) (hx : Row .i64 w a len cap xs) (hm : len ≤ 1000) (hB : B ≤ w.heap.size) :
    Calls Try.prog 44 #[.slice a len cap] w fun e w' => ∃ b d, e = .returned (.slice b len d) ∧ OwnI w' B (.slice b len d) xs ∧ Below w.heap.size w w' := by
  refine (clone_ints xs a len cap w hx hm).mono ?_
  rintro e w' ⟨v, rfl, h1, h2⟩
  obtain ⟨b, n, d, rfl, hi⟩ := Owns.ints h1
  obtain rfl : n = len := by rw [← hi.1]; exact hx.1
  exact ⟨b, d, rfl, h1.mono hB, h2⟩

/-- a world of at least so many blocks -/
def Sz (w : World) (n : Nat) : Prop := n ≤ w.heap.size
theorem Sz.below {w w' : World} {n : Nat} (h : Sz w n) (hb : Below w.heap.size w w') : Sz w' n := Nat.le_trans h hb.size
/-- cells that are rows, whose coefficients lie from B on -/
def RowsAre (w : World) (B : Nat) (cs : List Value) (rs : List RowM) (k : Nat) : Prop :=
  ∀ i, i < k → ∃ b l d, cs.getD (i * 3) .nilFunc = .slice b l d ∧ cs.getD (i * 3 + 1) .nilFunc = .int .i64 (rs.getD i default).mn ∧ cs.getD (i * 3 + 2) .nilFunc = .int .i64 (rs.getD i default).mx ∧ OwnI w B (.slice b l d) (rs.getD i default).coef
theorem RowsAre.below {w w' : World} {B : Nat} {cs : List Value} {rs : List RowM} {k : Nat} (h : RowsAre w B cs rs k) (hb : Below w.heap.size w w') : RowsAre w' B cs rs k := fun i hi => by
  obtain ⟨b, l, d, h0, h1, h2, h3⟩ := h i hi
  exact ⟨b, l, d, h0, h1, h2, h3.below hb⟩
theorem RowsAre.by {w w' : World} {B g : Nat} {cs : List Value} {rs : List RowM} {k : Nat} (h : RowsAre w B cs rs k) (hb : w.grownBy w' (some g)) (hg : g < B) : RowsAre w' B cs rs k := fun i hi => by
  obtain ⟨b, l, d, h0, h1, h2, h3⟩ := h i hi
  exact ⟨b, l, d, h0, h1, h2, h3.by hb (own_ne h3.lt hg)⟩
theorem RowsAre.snoc {w w' : World} {B : Nat} {u : Value} {cs : List Value} {rs : List RowM} {k : Nat} {b : Option Addr} {l d : Nat} (h : RowsAre w B cs rs k) (hO : OwnsK w B 44 3 u k cs) (hg : w.grownBy w' u.ownBlock)
    (hv : OwnI w B (.slice b l d) (rs.getD k default).coef) : RowsAre w' B (cs ++ [.slice b l d, .int .i64 (rs.getD k default).mn, .int .i64 (rs.getD k default).mx]) rs (k + 1) := fun i hi => by
  have hl : cs.length = k * 3 := hO.1
  by_cases hik : i < k
  · obtain ⟨b', l', d', h0, h1, h2, h3⟩ := h i hik
    refine ⟨b', l', d', ?_, ?_, ?_, h3.by hg (h3.offK hO (by decide))⟩
    · rw [← h0]; simp [List.getD, List.getElem?_append_left (show i * 3 < cs.length by omega)]
    · rw [← h1]; simp [List.getD, List.getElem?_append_left (show i * 3 + 1 < cs.length by omega)]
    · rw [← h2]; simp [List.getD, List.getElem?_append_left (show i * 3 + 2 < cs.length by omega)]
  · obtain rfl : i = k := by omega
    refine ⟨b, l, d, ?_, ?_, ?_, hv.by hg (hv.offK hO (by decide))⟩
    · simp [List.getD, hl]
    · simp [List.getD, hl]
    · simp [List.getD, hl]
theorem rows_in {w : World} {B : Nat} {u : Value} {n : Nat} {cs : List Value} {rs : List RowM} (hO : OwnsK w B 44 3 u n cs) (h : RowsAre w B cs rs n) (hn : rs.length = n) (hf : ∀ i, i < n → Wf64 (rs.getD i default).coef) : ∃ a cap, u = .slice a n cap ∧ RowsIn w a n cap rs := by
  rcases hO.form with ⟨rfl, h0, -⟩ | ⟨g, cap, rfl, hnc, hcm, -, hlt, hc, -⟩
  · subst h0; exact ⟨none, 0, rfl, hn, Nat.le_refl _, by simp [maxLen], fun _ => rfl, .inl rfl⟩
  · refine ⟨_, cap, rfl, hn, hnc, hcm, by simp, .inr ⟨g, 0, rfl, hlt, fun i hi => ?_⟩⟩
    obtain ⟨b, l, d, h0, h1, h2, h3⟩ := h i hi
    obtain ⟨b', d', e, hrow⟩ := h3.row (hf i hi)
    cases e
    refine ⟨b, _, d, hrow, ?_, ?_, ?_⟩
    · rw [Nat.zero_add, hc _ (by omega), h0]
    · rw [Nat.zero_add, hc _ (by omega), h1]
    · rw [Nat.zero_add, hc _ (by omega), h2]
theorem blk_set {w : World} {g o : Nat} {c : Array Value} {t : TypeId} (h : w.heap[g]? = some (.cells c t)) (v : Value) : (w.setCell ⟨g, o, none⟩ v).heap[g]? = some (.cells (c.setIfInBounds o v) t) := heap_setCell_same w g o c t v h
theorem blk_by {w w' : World} {g : Nat} {r : Option Nat} {o : Obj} (h : w.heap[g]? = some o) (hg : w.grownBy w' r) (hne : some g ≠ r) : w'.heap[g]? = some o := by
  rw [hg.block g (blk_lt h) hne]; exact h
theorem kept_gby {w w' : World} {r : Option Nat} {R : Nat} (hg : w.grownBy w' r) (hr : ∀ j, r = some j → j = R) : Kept R R w w' :=
  ⟨hg.size, fun i hi hne _ => hg.block i hi fun e => hne (hr i e.symm)⟩
theorem gby_mix {w w1 w2 : World} {g : Nat} {r : Option Nat} (h : w.grownBy w1 (some g)) (k : w1.grownBy w2 r) (hr : ∀ j, r = some j → w.heap.size ≤ j) : w.grownBy w2 (some g) :=
  ⟨k.os.trans h.os, k.tape.trans h.tape, k.output.trans h.output, Nat.le_trans h.size k.size, fun i hi hne => (k.block i (Nat.lt_of_lt_of_le hi h.size) (fun e => by have := hr i e.symm; omega)).trans (h.block i hi hne)⟩
theorem frozen_by {w w' : World} {g b o : Nat} (h : w.grownBy w' (some g)) (hb : b < w.heap.size) (hne : b ≠ g) : w'.frozen? ⟨b, o, none⟩ = w.frozen? ⟨b, o, none⟩ := by
  have := h.block b hb (by simpa using hne)
  simp only [World.frozen?, this]
theorem kept_trans {w w1 w2 : World} {R : Nat} (h : Kept R R w w1) (k : Kept R R w1 w2) : Kept R R w w2 :=
  ⟨Nat.le_trans h.1 k.1, fun i hi h1 h2 => (k.2 i (Nat.lt_of_lt_of_le hi h.1) h1 h2).trans (h.2 i hi h1 h2)⟩

set_option maxHeartbeats 8000000 in
theorem zclone_any (p : ProbM) (a0 a1 a2 : Option Addr) (l0 c0 l1 c1 l2 c2 : Nat) (w : World) (h0 : Row .i64 w a0 l0 c0 p.val) (h1 : RowsIn w a1 l1 c1 p.rows) (h2 : Row .i64 w a2 l2 c2 p.fix) (hv : ValidM p) :
    Calls Try.prog 34 #[.agg #[.slice a0 l0 c0, .slice a1 l1 c1, .slice a2 l2 c2]] w fun e w' => ∃ b0 d0 b1 d1 b2 d2 B cs, e = .returned (.agg #[.slice b0 l0 d0, .slice b1 l1 d1, .slice b2 l2 d2]) ∧ OwnI w' w.heap.size (.slice b0 l0 d0) p.val ∧ OwnI w' w.heap.size (.slice b2 l2 d2) p.fix ∧ OwnsK w' B 44 3 (.slice b1 l1 d1) l1 cs ∧ RowsAre w' B cs p.rows l1 ∧ (∀ j, (Value.slice b2 l2 d2).ownBlock = some j → j < B) ∧ (∀ j, (Value.slice b2 l2 d2).ownBlock = some j → (Value.slice b0 l0 d0).ownBlock ≠ some j) ∧ w.heap.size ≤ B ∧ Below w.heap.size w w' := by
  have H0 := Lib.hid h0
  have H2 := Lib.hid h2
  have HRw := Lib.hid h1
  have hn0 : l0 ≤ 24 := by rw [← h0.1]; exact hv.n
  have hn1 : l1 ≤ 60 := by rw [← h1.1]; exact hv.m
  have hn2 : l2 ≤ 24 := by rw [← h2.1, hv.fixn]; exact hv.n
  have HL1 := Lib.hid h1.1
  have HVd := Lib.hid hv
  clear h0 h1 h2 hv
  go_enter Try.func34, Try.ntmps34
  go_wp2_with fail
  have hbx : Below w.heap.size w ((w.alloc (.cells #[.slice a0 l0 c0, .slice a1 l1 c1, .slice a2 l2 c2] 25)).alloc (.cells #[.slice none 0 0, .slice none 0 0, .slice none 0 0] 25)) := (((Below.refl _ _).alloc (Nat.le_refl _) _).alloc (by simp) _)
  generalize hWW : ((w.alloc (.cells #[.slice a0 l0 c0, .slice a1 l1 c1, .slice a2 l2 c2] 25)).alloc (.cells #[.slice none 0 0, .slice none 0 0, .slice none 0 0] 25)) = w0 at *
  replace H0 := Lib.hid (H0.out.below hbx)
  replace H2 := Lib.hid (H2.out.below hbx)
  have cK0 : w0.cell? ⟨w.heap.size, 0, none⟩ = some (.slice a0 l0 c0) := by subst hWW; go_simp
  have cK1 : w0.cell? ⟨w.heap.size, 1, none⟩ = some (.slice a1 l1 c1) := by subst hWW; go_simp
  have cK2 : w0.cell? ⟨w.heap.size, 2, none⟩ = some (.slice a2 l2 c2) := by subst hWW; go_simp
  have ltK : w.heap.size < w0.heap.size := by subst hWW; simp <;> omega
  have cR0 : w0.cell? ⟨w.heap.size + 1, 0, none⟩ = some (.slice none 0 0) := by subst hWW; go_simp
  have fR0 : w0.frozen? ⟨w.heap.size + 1, 0, none⟩ = false := by subst hWW; go_simp
  have cR1 : w0.cell? ⟨w.heap.size + 1, 1, none⟩ = some (.slice none 0 0) := by subst hWW; go_simp
  have fR1 : w0.frozen? ⟨w.heap.size + 1, 1, none⟩ = false := by subst hWW; go_simp
  have cR2 : w0.cell? ⟨w.heap.size + 1, 2, none⟩ = some (.slice none 0 0) := by subst hWW; go_simp
  have fR2 : w0.frozen? ⟨w.heap.size + 1, 2, none⟩ = false := by subst hWW; go_simp
  have ltR : w.heap.size + 1 < w0.heap.size := by subst hWW; simp
  have hB := hbx
  clear hbx hWW
  have SCK0 := Lib.hid cK0
  have SCK1 := Lib.hid cK1
  have SCK2 := Lib.hid cK2
  have SLK := Lib.hid ltK
  have SCR0 := Lib.hid cR0
  have SFR0 := Lib.hid fR0
  have SCR1 := Lib.hid cR1
  have SFR1 := Lib.hid fR1
  have SCR2 := Lib.hid cR2
  have SFR2 := Lib.hid fR2
  have SLR := Lib.hid ltR
  have SH0 := Lib.hid H0.out
  have SH2 := Lib.hid H2.out
  have SB := Lib.hid hB
  have eK0 := box_ext (B := w0.heap.size) cK0 ltK
  have eK1 := box_ext (B := w0.heap.size) cK1 ltK
  have eK2 := box_ext (B := w0.heap.size) cK2 ltK
  have eR0 := box_ext (B := w0.heap.size) cR0 ltR
  have eR1 := box_ext (B := w0.heap.size) cR1 ltR
  have eR2 := box_ext (B := w0.heap.size) cR2 ltR
  refine wp_region_float 7 [(0, false), (1, false), (3, false), (4, false), (2, true), (5, true), (6, false)] [(8, true)] (fun w' => ∃ W : Ext w0.heap.size w0, w' = W.1) _ 3 (.cells #[.slice none 0 0, .slice none 0 0, .slice none 0 0] 25) w0.heap.size (by kernel_rfl) rfl rfl rfl (fun a w => by simp [execOp, go_sem]) (fun w ⟨W, e⟩ => e ▸ W.2.size) (fun w ⟨W, e⟩ => ⟨⟨_, (e ▸ W.2).alloc (e ▸ W.2.size) _⟩, rfl⟩) (by kernel_rfl) ⟨⟨w0.drew, (Below.refl _ _).drew⟩, rfl⟩ ?_
  repeat (refine wpFl_calm rfl (fun K hK => ?_); go_simp; refine hK _ ?_; clear hK K)
  clear eK0 eK1 eK2 eR0 eR1 eR2
  have hbx : Below w0.heap.size w0 w0.drew := (Below.refl _ _).drew
  have hM := hbx
  replace cK0 := bc hbx ltK cK0
  replace cK1 := bc hbx ltK cK1
  replace cK2 := bc hbx ltK cK2
  replace ltK := bl hbx ltK
  replace cR0 := bc hbx ltR cR0
  replace fR0 := bf hbx ltR fR0
  replace cR1 := bc hbx ltR cR1
  replace fR1 := bf hbx ltR fR1
  replace cR2 := bc hbx ltR cR2
  replace fR2 := bf hbx ltR fR2
  replace ltR := bl hbx ltR
  replace H0 := Lib.hid (H0.out.below hbx)
  replace H2 := Lib.hid (H2.out.below hbx)
  replace hB := hB.trans (hbx.mono hB.size)
  clear hbx
  generalize w0.drew = ww0d at *
  refine wpFl_eff rfl rfl (fun wy hC hg K hK => ?_)
  obtain ⟨⟨wz, hE⟩, hwe⟩ := hC
  change wy = wz at hwe
  subst hwe
  replace cK0 := bc hg ltK cK0
  replace cK1 := bc hg ltK cK1
  replace cK2 := bc hg ltK cK2
  replace ltK := bl hg ltK
  replace cR0 := bc hg ltR cR0
  replace fR0 := bf hg ltR fR0
  replace cR1 := bc hg ltR cR1
  replace fR1 := bf hg ltR fR1
  replace cR2 := bc hg ltR cR2
  replace fR2 := bf hg ltR fR2
  replace ltR := bl hg ltR
  replace H0 := Lib.hid (H0.out.below hg)
  replace H2 := Lib.hid (H2.out.below hg)
  replace hB := hB.trans (hg.mono hB.size)
  replace hM := hE
  clear hE hg
  go_simp
  refine (clone_intsB (w.heap.size + 2) p.val a0 l0 c0 _ H0.out (by omega) (by omega)).mono ?_
  rintro e w1 ⟨b0, d0, rfl, hv1, hb⟩
  replace cK0 := bc hb ltK cK0
  replace cK1 := bc hb ltK cK1
  replace cK2 := bc hb ltK cK2
  replace ltK := bl hb ltK
  replace cR0 := bc hb ltR cR0
  replace fR0 := bf hb ltR fR0
  replace cR1 := bc hb ltR cR1
  replace fR1 := bf hb ltR fR1
  replace cR2 := bc hb ltR cR2
  replace fR2 := bf hb ltR fR2
  replace ltR := bl hb ltR
  replace H0 := Lib.hid (H0.out.below hb)
  replace H2 := Lib.hid (H2.out.below hb)
  replace hM := hM.trans (hb.mono hM.size)
  replace hB := hB.trans (hb.mono hB.size)
  have HV1 := Lib.hid hv1
  have HZ1 := Lib.hid (show Sz w1 w1.heap.size from Nat.le_refl _)
  have hz1 : w.heap.size + 2 ≤ w1.heap.size := ltR
  have HI1 := Lib.hid hv1.in
  clear hv1
  refine hK _ _ ⟨⟨w1, hM⟩, rfl⟩ hb ?_
  clear hK K hb
  refine wpFl_eff rfl rfl (fun wy hC hg K hK => ?_)
  obtain ⟨⟨wz, hE⟩, hwe⟩ := hC
  change wy = wz at hwe
  subst hwe
  replace cK0 := bc hg ltK cK0
  replace cK1 := bc hg ltK cK1
  replace cK2 := bc hg ltK cK2
  replace ltK := bl hg ltK
  replace cR0 := bc hg ltR cR0
  replace fR0 := bf hg ltR fR0
  replace cR1 := bc hg ltR cR1
  replace fR1 := bf hg ltR fR1
  replace cR2 := bc hg ltR cR2
  replace fR2 := bf hg ltR fR2
  replace ltR := bl hg ltR
  replace H0 := Lib.hid (H0.out.below hg)
  replace H2 := Lib.hid (H2.out.below hg)
  replace HV1 := Lib.hid (HV1.out.below hg)
  replace HZ1 := Lib.hid (HZ1.out.below hg)
  replace hB := hB.trans (hg.mono hB.size)
  replace hM := hE
  clear hE hg
  go_simp
  refine (clone_intsB w1.heap.size p.fix a2 l2 c2 _ H2.out (by omega) HZ1.out).mono ?_
  rintro e w2 ⟨b2, d2, rfl, hv2, hb⟩
  replace cK0 := bc hb ltK cK0
  replace cK1 := bc hb ltK cK1
  replace cK2 := bc hb ltK cK2
  replace ltK := bl hb ltK
  replace cR0 := bc hb ltR cR0
  replace fR0 := bf hb ltR fR0
  replace cR1 := bc hb ltR cR1
  replace fR1 := bf hb ltR fR1
  replace cR2 := bc hb ltR cR2
  replace fR2 := bf hb ltR fR2
  replace ltR := bl hb ltR
  replace H0 := Lib.hid (H0.out.below hb)
  replace H2 := Lib.hid (H2.out.below hb)
  replace HV1 := Lib.hid (HV1.out.below hb)
  replace HZ1 := Lib.hid (HZ1.out.below hb)
  replace hM := hM.trans (hb.mono hM.size)
  replace hB := hB.trans (hb.mono hB.size)
  have HLt2 := Lib.hid hv2.lt
  have HV2 := Lib.hid (hv2.mono hz1)
  clear hv2
  refine hK _ _ ⟨⟨w2, hM⟩, rfl⟩ hb ?_
  clear hK K hb
  repeat (refine wpFl_calm rfl (fun K hK => ?_); go_simp; refine hK _ ?_; clear hK K)
  refine wpFl_nil fun gQ wy hC hg hBk hge => ?_
  obtain ⟨⟨wz, hE⟩, hwe⟩ := hC
  change wy = wz at hwe
  subst hwe
  replace cK0 := bc hg ltK cK0
  replace cK1 := bc hg ltK cK1
  replace cK2 := bc hg ltK cK2
  replace ltK := bl hg ltK
  replace cR0 := bc hg ltR cR0
  replace fR0 := bf hg ltR fR0
  replace cR1 := bc hg ltR cR1
  replace fR1 := bf hg ltR fR1
  replace cR2 := bc hg ltR cR2
  replace fR2 := bf hg ltR fR2
  replace ltR := bl hg ltR
  replace H0 := Lib.hid (H0.out.below hg)
  replace H2 := Lib.hid (H2.out.below hg)
  replace HV1 := Lib.hid (HV1.out.below hg)
  replace HZ1 := Lib.hid (HZ1.out.below hg)
  replace HV2 := Lib.hid (HV2.out.below hg)
  replace hB := hB.trans (hg.mono hB.size)
  replace hM := hE
  clear hE hg
  have z0 := blk_cell hBk 0
  have y0 := blk_free hBk 0
  have z1 := blk_cell hBk 1
  have y1 := blk_free hBk 1
  have z2 := blk_cell hBk 2
  have y2 := blk_free hBk 2
  simp at z0 z1 z2
  have hgl := blk_lt hBk
  refine wpSched_eff rfl rfl (fun K hK => ?_)
  go_simp
  refine hK _ _ ⟨⟨_, (((hM.setCell (p := ⟨gQ, 0, none⟩) hge _).setCell (p := ⟨gQ, 1, none⟩) hge _).setCell (p := ⟨gQ, 2, none⟩) hge _)⟩, rfl⟩ ?_
  clear hK K
  refine wpSched_nil ?_
  have hMn := (((hM.setCell (p := ⟨gQ, 0, none⟩) hge (.slice b0 l0 d0)).setCell (p := ⟨gQ, 1, none⟩) hge (.slice none 0 0)).setCell (p := ⟨gQ, 2, none⟩) hge (.slice b2 l2 d2))
  have hq1 := HV1.out.offBlk hBk (by decide)
  have hq2 := HV2.out.offBlk hBk (by decide)
  replace HV1 := Lib.hid (((HV1.out.by (gby_set _ _ 0 (.slice b0 l0 d0)) hq1).by (gby_set _ _ 1 (.slice none 0 0)) hq1).by (gby_set _ _ 2 (.slice b2 l2 d2)) hq1)
  replace HV2 := Lib.hid (((HV2.out.by (gby_set _ _ 0 (.slice b0 l0 d0)) hq2).by (gby_set _ _ 1 (.slice none 0 0)) hq2).by (gby_set _ _ 2 (.slice b2 l2 d2)) hq2)
  have HQb := Lib.hid (blk_set (o := 2) (blk_set (o := 1) (blk_set (o := 0) hBk (.slice b0 l0 d0)) (.slice none 0 0)) (.slice b2 l2 d2))
  simp at HQb
  replace cK0 := bc hMn SLK.out SCK0.out
  replace cK1 := bc hMn SLK.out SCK1.out
  replace cK2 := bc hMn SLK.out SCK2.out
  replace ltK := bl hMn SLK.out
  replace cR0 := bc hMn SLR.out SCR0.out
  replace fR0 := bf hMn SLR.out SFR0.out
  replace cR1 := bc hMn SLR.out SCR1.out
  replace fR1 := bf hMn SLR.out SFR1.out
  replace cR2 := bc hMn SLR.out SCR2.out
  replace fR2 := bf hMn SLR.out SFR2.out
  replace ltR := bl hMn SLR.out
  replace H0 := Lib.hid (SH0.out.below hMn)
  replace H2 := Lib.hid (SH2.out.below hMn)
  replace hB := SB.out.trans (hMn.mono SB.out.size)
  have cQ0 : (((wy.setCell ⟨gQ, 0, none⟩ (.slice b0 l0 d0)).setCell ⟨gQ, 1, none⟩ (.slice none 0 0)).setCell ⟨gQ, 2, none⟩ (.slice b2 l2 d2)).cell? ⟨gQ, 0, none⟩ = some (.slice b0 l0 d0) := by go_simp
  have cQ1 : (((wy.setCell ⟨gQ, 0, none⟩ (.slice b0 l0 d0)).setCell ⟨gQ, 1, none⟩ (.slice none 0 0)).setCell ⟨gQ, 2, none⟩ (.slice b2 l2 d2)).cell? ⟨gQ, 1, none⟩ = some (.slice none 0 0) := by go_simp
  have cQ2 : (((wy.setCell ⟨gQ, 0, none⟩ (.slice b0 l0 d0)).setCell ⟨gQ, 1, none⟩ (.slice none 0 0)).setCell ⟨gQ, 2, none⟩ (.slice b2 l2 d2)).cell? ⟨gQ, 2, none⟩ = some (.slice b2 l2 d2) := by go_simp
  have ltQ : gQ < (((wy.setCell ⟨gQ, 0, none⟩ (.slice b0 l0 d0)).setCell ⟨gQ, 1, none⟩ (.slice none 0 0)).setCell ⟨gQ, 2, none⟩ (.slice b2 l2 d2)).heap.size := by simpa using hgl
  have neQK : w.heap.size < gQ := Nat.lt_of_lt_of_le SLK.out hge
  have neQR : w.heap.size + 1 < gQ := Nat.lt_of_lt_of_le SLR.out hge
  clear SCK0 SCK1 SCK2 SLK SCR0 SFR0 SCR1 SFR1 SCR2 SFR2 SLR SH0 SH2 SB
  clear hMn hM hBk hgl z0 y0 z1 y1 z2 y2
  go_wp2_with fail
  generalize (((wy.setCell ⟨gQ, 0, none⟩ (.slice b0 l0 d0)).setCell ⟨gQ, 1, none⟩ (.slice none 0 0)).setCell ⟨gQ, 2, none⟩ (.slice b2 l2 d2)) = w3 at *
  have HCr := Lib.hid (And.intro cR0 (And.intro cR1 (And.intro cR2 (And.intro fR0 (And.intro fR1 fR2)))))
  have HBw := Lib.hid hB
  have hwl : w.heap.size + 2 ≤ w3.heap.size := by omega
  have hqw : w.heap.size + 2 ≤ gQ := by omega
  have hbt : ∀ j, (Value.slice b2 l2 d2).ownBlock = some j → j < w3.heap.size := HV2.out.in
  clear cK0 cK1 cK2 ltK cR0 cR1 cR2 fR0 fR1 fR2 H0 H2 hB cQ0 cQ1 cQ2 hge neQK neQR
  have HBt := Lib.hid hbt
  have HQ1 := Lib.hid hq1
  have HQ2 := Lib.hid hq2
  clear hbt hq1 hq2
  go_loopw [16] (fun i wr => ∃ (k : Nat) (b1 : Option Addr) (d1 : Nat) (cs : List Value), k ≤ l1 ∧ i = .int .i64 k ∧ w3.grownBy wr (some gQ) ∧ Hid (wr.heap[gQ]? = some (.cells #[.slice b0 l0 d0, .slice b1 k d1, .slice b2 l2 d2] 25)) ∧ Hid (OwnsK wr w3.heap.size 44 3 (.slice b1 k d1) k cs) ∧ Hid (RowsAre wr w3.heap.size cs p.rows k)) (fun i _ => l1 - (intOf i).toNat)
  case atStart => exact ⟨0, none, 0, [], by omega, rfl, gby_refl _ _, HQb, Lib.hid (OwnsK.nil _ _ _ _), Lib.hid (fun i hi => by omega)⟩
  case round =>
    clear HQb
    obtain ⟨k, b1, d1, cs, hk, rfl, hG, HQ, HU, HA⟩ := hrel
    have hBr := HBw.out.trans (below_gby (B := w.heap.size) hG (by omega) (by omega))
    have hgs := hG.size
    by_cases hlt : k < l1
    · obtain ⟨b, off, rfl, hbs, ai, li, ci, hrow, hcc⟩ := HRw.out.at hlt
      obtain ⟨y0, y1, y2⟩ := hcc _ hBr
      have hli : li ≤ 24 := by rw [← hrow.1, HVd.out.coefn k (by rw [HL1.out]; exact hlt)]; exact HVd.out.n
      generalize hrk : p.rows.getD k default = r at *
      have HRk := Lib.hid hrk
      have HRr := Lib.hid (hrow.below hBr)
      clear hcc hrow hrk
      obtain ⟨gU, hu1, hu2, hu3⟩ : ∃ gU, (∀ j, (Value.slice b1 k d1).ownBlock = some j → j = gU) ∧ w3.heap.size ≤ gU ∧ gU ≠ wr.heap.size := by
        rcases HU.out.form with ⟨e, -, -⟩ | ⟨g', cap, e, -, -, hg', hlt', -⟩
        · exact ⟨wr.heap.size + 1, by rw [e]; simp [Value.ownBlock], by omega, by omega⟩
        · exact ⟨g', by rw [e]; simp [Value.ownBlock], hg', by omega⟩
      have HU1 := Lib.hid hu1
      have hbx : Below wr.heap.size wr (wr.alloc (.cells #[.slice ai li ci, .int .i64 r.mn, .int .i64 r.mx] 44)) := (Below.refl _ _).alloc (Nat.le_refl _) _
      have hgq : gQ < wr.heap.size := by omega
      clear hu1
      go_wp2_with fail
      have q1 : (wr.alloc (.cells #[.slice ai li ci, .int .i64 r.mn, .int .i64 r.mx] 44)).cell? ⟨gQ, 1, none⟩ = some (.slice b1 k d1) := bc hbx hgq ((blk_cell HQ.out 1).trans rfl)
      have z0 : (wr.alloc (.cells #[.slice ai li ci, .int .i64 r.mn, .int .i64 r.mx] 44)).cell? ⟨wr.heap.size, 0, none⟩ = some (.slice ai li ci) := by go_simp
      have z1 : (wr.alloc (.cells #[.slice ai li ci, .int .i64 r.mn, .int .i64 r.mx] 44)).cell? ⟨wr.heap.size, 1, none⟩ = some (.int .i64 r.mn) := by go_simp
      have z2 : (wr.alloc (.cells #[.slice ai li ci, .int .i64 r.mn, .int .i64 r.mx] 44)).cell? ⟨wr.heap.size, 2, none⟩ = some (.int .i64 r.mx) := by go_simp
      have hsz1 : (wr.alloc (.cells #[.slice ai li ci, .int .i64 r.mn, .int .i64 r.mx] 44)).heap.size = wr.heap.size + 1 := by simp
      generalize wr.alloc (.cells #[.slice ai li ci, .int .i64 r.mn, .int .i64 r.mx] 44) = wx at *
      have eq1 := Gr.cell (R := gU) (R2 := gU) q1 (by omega) (by omega) (by omega)
      have ez0 := Gr.cell (R := gU) (R2 := gU) z0 (by omega) (by omega) (by omega)
      have ez1 := Gr.cell (R := gU) (R2 := gU) z1 (by omega) (by omega) (by omega)
      have ez2 := Gr.cell (R := gU) (R2 := gU) z2 (by omega) (by omega) (by omega)
      have HRx := Lib.hid (HRr.out.below hbx)
      have HUx := Lib.hid (HU.out.later hbx)
      have HAx := Lib.hid (HA.out.below hbx)
      clear q1 z0 z1 z2 HRr HU HA y0 y1 y2
      refine wp_region_tail [(0, false), (1, false), (2, false), (3, false), (5, false), (6, false), (7, false), (8, false), (4, true), (9, false), (10, true), (11, true)] [12, 13] (fun w' => ∃ W : Gr gU gU wx, w' = W.1) (by kernel_rfl) (by kernel_rfl) ⟨⟨wx.drew, below_grown ((Below.refl _ _).drew)⟩, rfl⟩ ?_
      repeat (refine wpSt_calm rfl (fun K hK => ?_); go_simp; refine hK _ ?_; clear hK K)
      clear eq1 ez0 ez1 ez2
      refine wpSt_eff rfl rfl (fun K hK => ?_)
      go_simp
      refine (clone_intsB w3.heap.size r.coef ai li ci _ (HRx.out.below ((Below.refl _ _).drew)) (by omega) (by simp; omega)).mono ?_
      rintro e w4 ⟨b4, d4, rfl, hv4, hb4⟩
      have hM : Below wx.heap.size wx w4 := ((Below.refl wx.heap.size wx).drew).trans (hb4.mono (by simp))
      have HV4 := Lib.hid hv4
      have HU4 := Lib.hid (HUx.out.later hM)
      have HA4 := Lib.hid (HAx.out.below hM)
      have hms := hM.size
      refine hK _ _ ⟨⟨w4, below_grown hM⟩, rfl⟩ ?_
      clear hK K hb4 hv4 HRx HUx HAx
      repeat (refine wpSt_calm rfl (fun K hK => ?_); go_simp; refine hK _ ?_; clear hK K)
      refine wpSt_eff rfl rfl (fun K hK => ?_)
      go_simp
      refine hK _ _ ⟨⟨_, below_grown (hM.alloc hM.size _)⟩, rfl⟩ ?_
      clear hK K
      refine wpSt_eff rfl rfl (fun K hK => ?_)
      refine wp_appK1 _ _ 23 rfl w3.heap.size 44 3 (by omega) _ 40 Try.underlying23 infoRow rfl (.slice b1 k d1) k cs rfl [.slice b4 li d4, .int .i64 r.mn, .int .i64 r.mx] rfl (by simp [Value.oneCell']) HU4.out rfl (by omega) (by simp only [maxLen]; omega) (by omega) fun v' w5 h1 h2 => ?_
      have hG5 := h2.1
      rcases h1.form with ⟨-, h0, -⟩ | ⟨g', cap', rfl, hk1, hk2, hg', hgl', -, -⟩
      · omega
      refine hK _ _ ⟨⟨w5, kept_trans (below_grown hM) (kept_gby hG5 HU1.out)⟩, rfl⟩ ?_
      clear hK K
      have hne5 : some gQ ≠ (Value.slice b1 k d1).ownBlock := fun e => by have := HU1.out gQ e.symm; omega
      have HQ5 := Lib.hid (blk_by (blk_by (HQ.out) (gby_below (g := none) (hbx.trans (hM.mono (by omega)))) (by simp)) hG5 hne5)
      have q1 : w5.cell? ⟨gQ, 1, none⟩ = some (.slice b1 k d1) := (blk_cell HQ5.out 1).trans rfl
      have q2 : w5.frozen? ⟨gQ, 1, none⟩ = false := blk_free HQ5.out 1
      have hGw : w3.grownBy w5 (some gQ) := gby_mix (gby_mix hG (gby_below (g := none) (hbx.trans (hM.mono (by omega)))) (by simp)) hG5 (fun j hj => by have := HU1.out j hj; omega)
      have hGn := gby_trans hGw (gby_set w5 gQ 1 (.slice (some ⟨g', 0, none⟩) (k + 1) cap'))
      have HQn := Lib.hid (blk_set (o := 1) HQ5.out (.slice (some ⟨g', 0, none⟩) (k + 1) cap'))
      simp at HQn
      have hql : gQ < w3.heap.size := ltQ
      have HUn := Lib.hid (show OwnsK (w5.setCell ⟨gQ, 1, none⟩ (.slice (some ⟨g', 0, none⟩) (k + 1) cap')) w3.heap.size 44 3 (.slice (some ⟨g', 0, none⟩) (k + 1) cap') (k + 1) (cs ++ [.slice b4 li d4, .int .i64 r.mn, .int .i64 r.mx]) from World.ownsRow.kept h1 (gby_set _ _ _ _) (own_ne (OwnsK.lt h1) hql))
      have HAn := Lib.hid (show RowsAre (w5.setCell ⟨gQ, 1, none⟩ (.slice (some ⟨g', 0, none⟩) (k + 1) cap')) w3.heap.size (cs ++ [.slice b4 li d4, .int .i64 r.mn, .int .i64 r.mx]) p.rows (k + 1) by
        have hs := RowsAre.snoc (b := b4) (l := li) (d := d4) HA4.out HU4.out hG5 (by rw [HRk.out]; exact HV4.out)
        rw [HRk.out] at hs
        exact hs.by (gby_set _ _ _ _) hql)
      clear h1 h2 HQ5 hG5 hne5 HA4 HU4 HV4 HQ hGw
      refine wpSt_end ?_
      refine wpTail_op rfl rfl (fun K hK => ?_)
      go_simp
      refine hK _ _ ?_
      clear hK K
      refine wpTail_op rfl rfl (fun K hK => ?_)
      go_simp
      refine hK _ _ ?_
      clear hK K
      refine wpTail_nil ?_
      go_wp2_with fail
      go_roundw
      case rel => exact ⟨k + 1, some ⟨g', 0, none⟩, cap', _, by omega, by go_num, hGn, HQn, HUn, HAn⟩
      case measure => simp [intOf]; omega
    · obtain rfl : k = l1 := by omega
      have hne : w.heap.size + 1 ≠ gQ := by omega
      have r0 : wr.cell? ⟨w.heap.size + 1, 0, none⟩ = some (.slice none 0 0) := (cell_by hG ltR hne).trans HCr.out.1
      have r1 : wr.cell? ⟨w.heap.size + 1, 1, none⟩ = some (.slice none 0 0) := (cell_by hG ltR hne).trans HCr.out.2.1
      have r2 : wr.cell? ⟨w.heap.size + 1, 2, none⟩ = some (.slice none 0 0) := (cell_by hG ltR hne).trans HCr.out.2.2.1
      have g0 : wr.frozen? ⟨w.heap.size + 1, 0, none⟩ = false := (frozen_by hG ltR hne).trans HCr.out.2.2.2.1
      have g1 : wr.frozen? ⟨w.heap.size + 1, 1, none⟩ = false := (frozen_by hG ltR hne).trans HCr.out.2.2.2.2.1
      have g2 : wr.frozen? ⟨w.heap.size + 1, 2, none⟩ = false := (frozen_by hG ltR hne).trans HCr.out.2.2.2.2.2
      have q0 : wr.cell? ⟨gQ, 0, none⟩ = some (.slice b0 l0 d0) := (blk_cell HQ.out 0).trans rfl
      have q1 : wr.cell? ⟨gQ, 1, none⟩ = some (.slice b1 k d1) := (blk_cell HQ.out 1).trans rfl
      have q2 : wr.cell? ⟨gQ, 2, none⟩ = some (.slice b2 l2 d2) := (blk_cell HQ.out 2).trans rfl
      have hgF := gby_trans (gby_trans (gby_set wr (w.heap.size + 1) 0 (.slice b0 l0 d0)) (gby_set _ (w.heap.size + 1) 1 (.slice b1 k d1))) (gby_set _ (w.heap.size + 1) 2 (.slice b2 l2 d2))
      have F1 := Lib.hid (((HV1.out.by hG HQ1.out).by hgF (own_ne HV1.out.lt (by omega))).mono (show w.heap.size ≤ w.heap.size + 2 by omega))
      have F2 := Lib.hid (((HV2.out.by hG HQ2.out).by hgF (own_ne HV2.out.lt (by omega))).mono (show w.heap.size ≤ w.heap.size + 2 by omega))
      have F3 := Lib.hid (show OwnsK _ w3.heap.size 44 3 (.slice b1 k d1) k cs from World.ownsRow.kept HU.out hgF (own_ne (OwnsK.lt HU.out) (by omega)))
      have F4 := Lib.hid (HA.out.by hgF (by omega))
      have F5 := Lib.hid (hBr.trans (below_gby (B := w.heap.size) hgF hBr.size (by omega)))
      clear HV1 HV2 HU HA HQ hgF hBr
      have hrl : w.heap.size + 1 < wr.heap.size := by omega
      go_wp2_with fail
      exact bodyPost_ret (v := .agg #[.slice b0 l0 d0, .slice b1 k d1, .slice b2 l2 d2]) (by simp [results, Try.results34, go_sem, r0, r1, r2]) rfl ⟨b0, d0, b1, d1, b2, d2, w3.heap.size, cs, rfl, F1.out, F2.out, F3.out, F4.out, HBt.out, fun j hj e => by have h1 := HI1.out j e; have h2 := HLt2.out j hj; omega, by omega, F5.out⟩

end Go.Proofs.Ytkgikajfeihbbaa
