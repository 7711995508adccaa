/- The codec: what the reader's method node returns, or with what it panics. -/
import Derived.Test.YthbfmioikbphgaaDoorCoF
import Derived.Lib.BufferRead
namespace Go.Proofs.YthbfmioikbphgaaDoor
set_option maxRecDepth 100000
open Go.RowKit

theorem str_of {w : World} {a : Option Addr} {n c : Nat} {l : List UInt8} (h : Bytes w a n c l) : (convert 22 9 (.slice a n c)).run Tryd.prog w = .ok (.string ⟨l.toArray⟩) w := by
  obtain ⟨hl, h1, h2, h3, h4⟩ := h
  subst hl
  cases a with
  | none =>
    have hc := h3 rfl
    obtain rfl : l = [] := List.eq_nil_of_length_eq_zero (by omega)
    exact Lib.run_convert_nil_bytes w _ _ _ c Tryd.underlying22 Tryd.underlying5 Tryd.underlying9
  | some x =>
    refine run_convert_bytes_back w _ _ _ x c l Tryd.underlying22 Tryd.underlying5 Tryd.underlying9 fun j hj => ?_
    rcases h4 with h0 | ⟨b, off, hbo, hlt, hc⟩
    · omega
    · cases hbo
      rw [addr_add, hc j hj]
      simp [List.getD, hj]
theorem take1 (rb : Nat) (bs l : List UInt8) (c : UInt8) (en : Int) (w : World) (hR : Rd w rb bs en (c :: l)) :
    Calls Tryd.prog 75 #[.pointer (some ⟨rb, 0, none⟩), .int .i64 1] w fun e w' => ∃ b off cp, e = .returned (.slice (some ⟨b, off, none⟩) 1 cp) ∧ w'.cell? ⟨b, off, none⟩ = some (.int .u8 (c.toNat : Int)) ∧ Rd w' rb bs en l ∧ w.grownBy w' (some rb) := by
  refine (take_ok 1 rb bs (c :: l) en w hR (by simp) (by omega)).mono ?_
  rintro e w1 ⟨a1, c1, rfl, hb1, hr1, hg1⟩
  obtain ⟨b, off, rfl, hbl, hcc⟩ := hb1.2.at (k := 0) (by omega)
  have y0 := hcc 0 (by omega) w1 (Below.refl _ _)
  simp only [Nat.add_zero, List.take_succ_cons, List.take_zero, List.getD_cons_zero] at y0
  exact ⟨b, off, c1, rfl, y0, hr1, hg1⟩
theorem varint_ok {rb x : Nat} {bs l l' : List UInt8} {en : Int} (hv : vDec en 0 0 l = .ok (x, l')) (w : World) (hR : Rd w rb bs en l) :
    Calls Tryd.prog 74 #[.pointer (some ⟨rb, 0, none⟩)] w fun e w' => e = .returned (.int .u64 (x : Int)) ∧ Rd w' rb bs en l' ∧ w.grownBy w' (some rb) := by
  have := varint_any rb bs l en w hR
  rw [hv] at this; exact this
theorem varint_err {rb : Nat} {x : Int} {bs l : List UInt8} {en : Int} (hv : vDec en 0 0 l = .error x) (w : World) (hR : Rd w rb bs en l) :
    Calls Tryd.prog 74 #[.pointer (some ⟨rb, 0, none⟩)] w fun e w' => e = .panicked (fl x) ∧ w.grownBy w' (some rb) := by
  have := varint_any rb bs l en w hR
  rw [hv] at this; exact this
theorem count_ok {most rb x : Nat} {bs l l' : List UInt8} {en : Int} (hm : most ≤ 2000) (hv : vDec en 0 0 l = .ok (x, l')) (hx : x ≤ most) (w : World) (hR : Rd w rb bs en l) :
    Calls Tryd.prog 77 #[.pointer (some ⟨rb, 0, none⟩), .int .i64 (most : Int)] w fun e w' => e = .returned (.int .i64 (x : Int)) ∧ Rd w' rb bs en l' ∧ w.grownBy w' (some rb) := by
  have := count_any most rb bs l en w hm hR
  rw [hv] at this
  refine this.mono fun e w' h => ?_
  rcases h with h | h
  · exact h.2
  · omega
theorem count_big {most rb x : Nat} {bs l l' : List UInt8} {en : Int} (hm : most ≤ 2000) (hv : vDec en 0 0 l = .ok (x, l')) (hx : most < x) (w : World) (hR : Rd w rb bs en l) :
    Calls Tryd.prog 77 #[.pointer (some ⟨rb, 0, none⟩), .int .i64 (most : Int)] w fun e w' => e = .panicked (fl 5) ∧ w.grownBy w' (some rb) := by
  have := count_any most rb bs l en w hm hR
  rw [hv] at this
  refine this.mono fun e w' h => ?_
  rcases h with h | h
  · omega
  · exact h.2
theorem count_err {most rb : Nat} {x : Int} {bs l : List UInt8} {en : Int} (hm : most ≤ 2000) (hv : vDec en 0 0 l = .error x) (w : World) (hR : Rd w rb bs en l) :
    Calls Tryd.prog 77 #[.pointer (some ⟨rb, 0, none⟩), .int .i64 (most : Int)] w fun e w' => e = .panicked (fl x) ∧ w.grownBy w' (some rb) := by
  have := count_any most rb bs l en w hm hR
  rw [hv] at this; exact this

section
variable {e : Int} {f T : Nat} {l l1 l2 l3 : List UInt8} {k : UInt8}
theorem nodeD_tag {x : Int} (hv : vDec e 0 0 l = .error x) : nodeD e (f + 1) l = .error x := by simp only [nodeD, hv]
theorem nodeD_big (hv : vDec e 0 0 l = .ok (T, l1)) (h : 9999999 < T) : nodeD e (f + 1) l = .error 3 := by simp only [nodeD, hv]; rw [if_pos h]
theorem nodeD_nil (hv : vDec e 0 0 l = .ok (T, [])) (h : ¬ 9999999 < T) : nodeD e (f + 1) l = .error e := by simp only [nodeD, hv]; rw [if_neg h]
theorem nodeD_kind (hv : vDec e 0 0 l = .ok (T, k :: l2)) (h : ¬ 9999999 < T) (hk : k.toNat < 1 ∨ 3 < k.toNat) : nodeD e (f + 1) l = .error 2 := by simp only [nodeD, hv]; rw [if_neg h, if_pos hk]
theorem nodeD_num {x : Int} (hv : vDec e 0 0 l = .ok (T, k :: l2)) (h : ¬ 9999999 < T) (hk : ¬ (k.toNat < 1 ∨ 3 < k.toNat)) (hv2 : vDec e 0 0 l2 = .error x) : nodeD e (f + 1) l = .error x := by simp only [nodeD, hv]; rw [if_neg h, if_neg hk]; simp only [hv2]
theorem nodeD_body {x : Nat} (hv : vDec e 0 0 l = .ok (T, k :: l2)) (h : ¬ 9999999 < T) (hk : ¬ (k.toNat < 1 ∨ 3 < k.toNat)) (hv2 : vDec e 0 0 l2 = .ok (x, l3)) : nodeD e (f + 1) l = bodyD e (nodeD e f) T k.toNat x l3 := by simp only [nodeD, hv]; rw [if_neg h, if_neg hk]; simp only [hv2]
theorem vDec_lt {x : Nat} (hv : vDec e 0 0 l = .ok (x, l1)) : x < 18446744073709551616 := by
  obtain ⟨m, -, h2, -, h4⟩ := vDec_ok e l 0 0 x l1 (by omega) hv
  simp at h2 h4; omega
end

/-- what 'node' does -/
def NP (w : World) (rb : Nat) (bs : List UInt8) (en : Int) : Except Int (NodeT × List UInt8) → Ending → World → Prop
  | .ok (t, l), e, w' => ∃ nv, e = .returned nv ∧ NodeS (fun b => w.heap.size ≤ b) w' t nv ∧ Rd w' rb bs en l ∧ w.grownBy w' (some rb)
  | .error x, e, w' => e = .panicked (fl x) ∧ w.grownBy w' (some rb)
theorem np_err {w w' : World} {rb : Nat} {bs : List UInt8} {en : Int} {r : Except Int (NodeT × List UInt8)} {x : Int} {e : Ending} (h : r = .error x) (h1 : e = .panicked (fl x)) (h3 : w.grownBy w' (some rb)) : NP w rb bs en r e w' := by
  subst h; exact ⟨h1, h3⟩
theorem gb_new {w w1 : World} {r : Option Nat} {g o : Nat} {v : Value} (h : w.grownBy w1 r) (hg : w.heap.size ≤ g) : w.grownBy (w1.setCell ⟨g, o, none⟩ v) r :=
  ⟨h.os, h.tape, h.output, by simpa using h.size, fun i hi hne => (heap_setCell_other w1 ⟨g, o, none⟩ i v (fun e => by simp at e; omega)).trans (h.block i hi hne)⟩
theorem blk_gb {w w' : World} {g rb : Nat} {o : Obj} (h : w.heap[g]? = some o) (hg : w.grownBy w' (some rb)) (hne : g ≠ rb) : w'.heap[g]? = some o := by
  rw [hg.block g (blk_lt h) (by simpa using hne)]; exact h
theorem blk_grow {w w' : World} {g : Nat} {r : Option Nat} {o : Obj} (h : w.heap[g]? = some o) (hg : w.grownBy w' r) (hne : some g ≠ r) : w'.heap[g]? = some o := by
  rw [hg.block g (blk_lt h) hne]; exact h
theorem blk_set {w : World} {g o : Nat} {c : Array Value} {t : TypeId} (h : w.heap[g]? = some (.cells c t)) (v : Value) : (w.setCell ⟨g, o, none⟩ v).heap[g]? = some (.cells (c.setIfInBounds o v) t) := heap_setCell_same w g o c t v h
theorem blk_other {w : World} {g g' o : Nat} {x : Obj} (h : w.heap[g]? = some x) (v : Value) (hne : g ≠ g') : (w.setCell ⟨g', o, none⟩ v).heap[g]? = some x := by
  rw [heap_setCell_other w ⟨g', o, none⟩ g v (fun e => hne e)]; exact h
theorem np_ok {w W : World} {rb g0 : Nat} {bs l : List UInt8} {en : Int} {r : Except Int (NodeT × List UInt8)} {t : NodeT} {nv v0 v1 v2 v3 v4 : Value} {e : Ending} (h : r = .ok (t, l)) (he : e = .returned nv) (hN : NodeS (fun b => g0 < b) W t nv) (hR : Rd W rb bs en l) (hrb : rb < g0) (hg0 : w.heap.size ≤ g0) (hG : w.grownBy W (some rb)) :
    NP w rb bs en r e (((((W.setCell ⟨g0, 0, none⟩ v0).setCell ⟨g0, 1, none⟩ v1).setCell ⟨g0, 2, none⟩ v2).setCell ⟨g0, 3, none⟩ v3).setCell ⟨g0, 4, none⟩ v4) := by
  subst h
  have hb : ∀ b, b ≠ g0 → (((((W.setCell ⟨g0, 0, none⟩ v0).setCell ⟨g0, 1, none⟩ v1).setCell ⟨g0, 2, none⟩ v2).setCell ⟨g0, 3, none⟩ v3).setCell ⟨g0, 4, none⟩ v4).heap[b]? = W.heap[b]? := fun b hb => by
    rw [heap_setCell_other _ ⟨g0, 4, none⟩ b _ hb, heap_setCell_other _ ⟨g0, 3, none⟩ b _ hb, heap_setCell_other _ ⟨g0, 2, none⟩ b _ hb, heap_setCell_other _ ⟨g0, 1, none⟩ b _ hb, heap_setCell_other _ ⟨g0, 0, none⟩ b _ hb]
  refine ⟨nv, he, hN.keep (by simp) fun b h1 _ => ⟨by omega, hb b (by omega)⟩, ?_, gb_new (gb_new (gb_new (gb_new (gb_new hG hg0) hg0) hg0) hg0) hg0⟩
  exact ((((hR.by (gb_set _ _ _ _) hrb).by (gb_set _ _ _ _) hrb).by (gb_set _ _ _ _) hrb).by (gb_set _ _ _ _) hrb).by (gb_set _ _ _ _) hrb

/-- a world whose block g is as in w -/
structure GB (g : Nat) (w : World) where
  val : World
  prop : val.heap[g]? = w.heap[g]?
instance (g : Nat) (w : World) : Nonempty (GB g w) := ⟨⟨w, rfl⟩⟩
theorem GB.cell {g o : Nat} {w : World} {v : Value} (h : w.cell? ⟨g, o, none⟩ = some v) : ∀ W : GB g w, W.1.cell? ⟨g, o, none⟩ = some v := fun W => by
  rw [← h]; simp only [World.cell?, W.2]
def repK (ts : List NodeT) : Except Int (List NodeT × List UInt8) → Except Int (List NodeT × List UInt8)
  | .error e => .error e
  | .ok (us, l) => .ok (ts ++ us, l)
def fin3 (T : Nat) : Except Int (List NodeT × List UInt8) → Except Int (NodeT × List UInt8)
  | .error e => .error e
  | .ok (ts, l) => .ok (.mk (T : Int) 3 0 [] ts, l)
theorem body3 {e : Int} {g : List UInt8 → Except Int (NodeT × List UInt8)} {T x : Nat} {l : List UInt8} (hb : ¬ 1024 < x) : bodyD e g T 3 x l = fin3 T (repK [] (repD g (x - 0) l)) := by
  unfold bodyD
  rw [if_neg (by decide), if_neg (by decide), if_neg hb, Nat.sub_zero]
  cases repD g x l with
  | error e => rfl
  | ok r => rfl
theorem rep_step {g : List UInt8 → Except Int (NodeT × List UInt8)} {k : Nat} {l l' : List UInt8} {t : NodeT} {ts : List NodeT} (h : g l = .ok (t, l')) : repK ts (repD g (k + 1) l) = repK (ts ++ [t]) (repD g k l') := by
  simp only [repD, h]
  cases repD g k l' with
  | error e => rfl
  | ok r => simp [repK]
theorem Rd.grow {w w' : World} {rb : Nat} {r : Option Nat} {bs l : List UInt8} {en : Int} (h : Rd w rb bs en l) (hg : w.grownBy w' r) (hlt : ∀ g, r = some g → rb < g) : Rd w' rb bs en l := by
  cases r with
  | some g => exact h.by hg (hlt g rfl)
  | none => exact h.by (g := rb + 1) ⟨hg.os, hg.tape, hg.output, hg.size, fun i hi _ => hg.block i hi (by simp)⟩ (by omega)
theorem gb_grow {w w1 w2 : World} {r r2 : Option Nat} (h : w.grownBy w1 r) (k : w1.grownBy w2 r2) (hr : ∀ g, r2 = some g → w.heap.size ≤ g) : w.grownBy w2 r :=
  ⟨k.os.trans h.os, k.tape.trans h.tape, k.output.trans h.output, Nat.le_trans h.size k.size, fun i hi hne => (k.block i (Nat.lt_of_lt_of_le hi h.size) (fun e => by have := hr i e.symm; omega)).trans (h.block i hi hne)⟩
theorem own_slice {w : World} {B : Nat} {e : TypeId} {k : Nat} {v : Value} {n : Nat} {cs : List Value} (h : OwnsK w B e k v n cs) : ∃ a m c, v = .slice a m c := by
  rcases h.form with ⟨rfl, -⟩ | ⟨g, cap, rfl, -⟩
  · exact ⟨_, _, _, rfl⟩
  · exact ⟨_, _, _, rfl⟩
theorem OwnsK.at {w w' : World} {B : Nat} {e : TypeId} {k : Nat} {v : Value} {n : Nat} {cs : List Value} (h : OwnsK w B e k v n cs) (hk : ∀ g, v.ownBlock = some g → w'.heap[g]? = w.heap[g]?) : OwnsK w' B e k v n cs := by
  refine ⟨h.1, ?_⟩
  rcases h.2 with h2 | ⟨g, cap, cur, hv, hg, hh, r⟩
  · exact .inl h2
  · exact .inr ⟨g, cap, cur, hv, hg, by rw [hk g (by rw [hv]; rfl)]; exact hh, r⟩

set_option maxHeartbeats 16000000 in
theorem node_any (rb : Nat) (bs : List UInt8) (en : Int) : ∀ (f lv : Nat) (l : List UInt8) (w : World), lv + f = 9 → 1 ≤ lv → Rd w rb bs en l →
    Calls Tryd.prog 67 #[.pointer (some ⟨rb, 0, none⟩), .int .i64 (lv : Int)] w (NP w rb bs en (nodeD en f l)) := by
  intro f
  induction f with
  | zero =>
    intro lv l w hlv h1 hR
    have d0 : decide (8 < (lv : Int)) = true := by simp; omega
    have hb1 : Below w.heap.size w (w.alloc (.cells #[.int .i64 0, .int .i64 0, .int .i64 0, .string ⟨#[]⟩, .slice none 0 0] 25)) := (Below.refl _ _).alloc (Nat.le_refl _) _
    have HG := Lib.hid (gb_below (g := some rb) hb1)
    clear hb1
    go_enter Tryd.func67, Tryd.ntmps67
    go_wp2_with fail
    refine (fail_any 5 _).mono ?_
    rintro e w1 ⟨rfl, rfl⟩
    go_wp2_with fail
    exact bodyPost_pan rfl (np_err rfl rfl HG.out)
  | succ f ih =>
    intro lv l w hlv h1 hR
    have d0 : decide (8 < (lv : Int)) = false := by simp; omega
    have HR := Lib.hid hR
    have hrb := hR.lt
    clear hR
    cases hv1 : vDec en 0 0 l with
    | error x =>
      have HV1 := Lib.hid hv1
      have HE := Lib.hid (nodeD_tag (f := f) hv1)
      clear hv1
      go_enter Tryd.func67, Tryd.ntmps67
      go_wp2_with fail
      have hb1 : Below w.heap.size w (w.alloc (.cells #[.int .i64 0, .int .i64 0, .int .i64 0, .string ⟨#[]⟩, .slice none 0 0] 25)) := (Below.refl _ _).alloc (Nat.le_refl _) _
      have HB0 := Lib.hid (heap_alloc_new w (.cells #[.int .i64 0, .int .i64 0, .int .i64 0, .string ⟨#[]⟩, .slice none 0 0] 25))
      generalize w.alloc (.cells #[.int .i64 0, .int .i64 0, .int .i64 0, .string ⟨#[]⟩, .slice none 0 0] 25) = w1 at *
      have HR1 := Lib.hid (HR.out.keep hb1)
      have HG1 := Lib.hid (gb_below (g := some rb) hb1)
      clear hb1
      refine (varint_err HV1.out _ HR1.out).mono ?_
      rintro e w2 ⟨rfl, hg⟩
      have HG2 := Lib.hid (gb_trans HG1.out hg)
      clear hg
      go_wp2_with fail
      exact bodyPost_pan rfl (np_err HE.out rfl HG2.out)
    | ok r =>
      obtain ⟨T, l1⟩ := r
      have HV1 := Lib.hid hv1
      by_cases hT : 9999999 < T
      · have HE := Lib.hid (nodeD_big (f := f) hv1 hT)
        clear hv1
        have d1 : decide (9999999 < (T : Int)) = true := by simp; omega
        go_enter Tryd.func67, Tryd.ntmps67
        go_wp2_with fail
        have hb1 : Below w.heap.size w (w.alloc (.cells #[.int .i64 0, .int .i64 0, .int .i64 0, .string ⟨#[]⟩, .slice none 0 0] 25)) := (Below.refl _ _).alloc (Nat.le_refl _) _
        have HB0 := Lib.hid (heap_alloc_new w (.cells #[.int .i64 0, .int .i64 0, .int .i64 0, .string ⟨#[]⟩, .slice none 0 0] 25))
        generalize w.alloc (.cells #[.int .i64 0, .int .i64 0, .int .i64 0, .string ⟨#[]⟩, .slice none 0 0] 25) = w1 at *
        have HR1 := Lib.hid (HR.out.keep hb1)
        have HG1 := Lib.hid (gb_below (g := some rb) hb1)
        clear hb1
        refine (varint_ok HV1.out _ HR1.out).mono ?_
        rintro e w2 ⟨rfl, hr, hg⟩
        have HR2 := Lib.hid hr
        have HG2 := Lib.hid (gb_trans HG1.out hg)
        replace HB0 := Lib.hid (blk_gb HB0.out hg (by omega))
        clear hr hg
        go_wp2_with fail
        refine (fail_any 3 _).mono ?_
        rintro e w3 ⟨rfl, rfl⟩
        go_wp2_with fail
        exact bodyPost_pan rfl (np_err HE.out rfl HG2.out)
      have d1 : decide (9999999 < (T : Int)) = false := by simp; omega
      cases l1 with
      | nil =>
        have HE := Lib.hid (nodeD_nil (f := f) hv1 hT)
        clear hv1
        go_enter Tryd.func67, Tryd.ntmps67
        go_wp2_with fail
        have hb1 : Below w.heap.size w (w.alloc (.cells #[.int .i64 0, .int .i64 0, .int .i64 0, .string ⟨#[]⟩, .slice none 0 0] 25)) := (Below.refl _ _).alloc (Nat.le_refl _) _
        have HB0 := Lib.hid (heap_alloc_new w (.cells #[.int .i64 0, .int .i64 0, .int .i64 0, .string ⟨#[]⟩, .slice none 0 0] 25))
        generalize w.alloc (.cells #[.int .i64 0, .int .i64 0, .int .i64 0, .string ⟨#[]⟩, .slice none 0 0] 25) = w1 at *
        have HR1 := Lib.hid (HR.out.keep hb1)
        have HG1 := Lib.hid (gb_below (g := some rb) hb1)
        clear hb1
        refine (varint_ok HV1.out _ HR1.out).mono ?_
        rintro e w2 ⟨rfl, hr, hg⟩
        have HR2 := Lib.hid hr
        have HG2 := Lib.hid (gb_trans HG1.out hg)
        replace HB0 := Lib.hid (blk_gb HB0.out hg (by omega))
        clear hr hg
        go_wp2_with fail
        refine (take_no 1 rb bs [] en _ HR2.out (by simp) (by omega)).mono ?_
        rintro e w3 ⟨rfl, hg⟩
        have HG3 := Lib.hid (gb_trans HG2.out hg)
        clear hg
        go_wp2_with fail
        exact bodyPost_pan rfl (np_err HE.out rfl HG3.out)
      | cons k l2 =>
        have hk256 : k.toNat < 256 := k.toNat_lt
        by_cases hk0 : k.toNat < 1 ∨ 3 < k.toNat
        · have HE := Lib.hid (nodeD_kind (f := f) hv1 hT hk0)
          clear hv1
          generalize hk : k.toNat = kn at *
          have b1 : ((kn : Int) == 1) = false := by simp; omega
          have b2 : ((kn : Int) == 2) = false := by simp; omega
          have b3 : ((kn : Int) == 3) = false := by simp; omega
          go_enter Tryd.func67, Tryd.ntmps67
          go_wp2_with fail
          have hb1 : Below w.heap.size w (w.alloc (.cells #[.int .i64 0, .int .i64 0, .int .i64 0, .string ⟨#[]⟩, .slice none 0 0] 25)) := (Below.refl _ _).alloc (Nat.le_refl _) _
          have HB0 := Lib.hid (heap_alloc_new w (.cells #[.int .i64 0, .int .i64 0, .int .i64 0, .string ⟨#[]⟩, .slice none 0 0] 25))
          generalize w.alloc (.cells #[.int .i64 0, .int .i64 0, .int .i64 0, .string ⟨#[]⟩, .slice none 0 0] 25) = w1 at *
          have HR1 := Lib.hid (HR.out.keep hb1)
          have HG1 := Lib.hid (gb_below (g := some rb) hb1)
          clear hb1
          refine (varint_ok HV1.out _ HR1.out).mono ?_
          rintro e w2 ⟨rfl, hr, hg⟩
          have HR2 := Lib.hid hr
          have HG2 := Lib.hid (gb_trans HG1.out hg)
          replace HB0 := Lib.hid (blk_gb HB0.out hg (by omega))
          clear hr hg
          go_wp2_with fail
          refine (take1 rb bs l2 k en _ HR2.out).mono ?_
          rintro e w3 ⟨b, off, cp, rfl, y0, hr, hg⟩
          rw [hk] at y0
          have HR3 := Lib.hid hr
          have HG3 := Lib.hid (gb_trans HG2.out hg)
          replace HB0 := Lib.hid (blk_gb HB0.out hg (by omega))
          have HgL := Lib.hid (blk_lt HB0.out)
          clear hr hg
          go_wp2_with fail
          have hb4 : Below w3.heap.size w3 (w3.alloc (.cells #[.int .i64 (T : Int), .int .i64 (kn : Int), .int .i64 0, .string ⟨#[]⟩, .slice none 0 0] 25)) := (Below.refl _ _).alloc (Nat.le_refl _) _
          have HBn := Lib.hid (heap_alloc_new w3 (.cells #[.int .i64 (T : Int), .int .i64 (kn : Int), .int .i64 0, .string ⟨#[]⟩, .slice none 0 0] 25))
          generalize w3.alloc (.cells #[.int .i64 (T : Int), .int .i64 (kn : Int), .int .i64 0, .string ⟨#[]⟩, .slice none 0 0] 25) = w4 at *
          have HR4 := Lib.hid (HR3.out.keep hb4)
          have HG4 := Lib.hid (gb_trans HG3.out (gb_below hb4))
          replace HB0 := Lib.hid (blk_gb HB0.out (gb_below (g := some rb) hb4) (by omega))
          clear hb4 y0
          refine (fail_any 2 _).mono ?_
          rintro e w5 ⟨rfl, rfl⟩
          go_wp2_with fail
          exact bodyPost_pan rfl (np_err HE.out rfl HG4.out)
        have hkk : k.toNat = 1 ∨ k.toNat = 2 ∨ k.toNat = 3 := by omega
        rcases hkk with hk | hk | hk
        · cases hv2 : vDec en 0 0 l2 with
          | error x =>
            have HV2 := Lib.hid hv2
            have HE := Lib.hid (nodeD_num (f := f) hv1 hT hk0 hv2)
            clear hv1 hv2
            go_enter Tryd.func67, Tryd.ntmps67
            go_wp2_with fail
            have hb1 : Below w.heap.size w (w.alloc (.cells #[.int .i64 0, .int .i64 0, .int .i64 0, .string ⟨#[]⟩, .slice none 0 0] 25)) := (Below.refl _ _).alloc (Nat.le_refl _) _
            have HB0 := Lib.hid (heap_alloc_new w (.cells #[.int .i64 0, .int .i64 0, .int .i64 0, .string ⟨#[]⟩, .slice none 0 0] 25))
            generalize w.alloc (.cells #[.int .i64 0, .int .i64 0, .int .i64 0, .string ⟨#[]⟩, .slice none 0 0] 25) = w1 at *
            have HR1 := Lib.hid (HR.out.keep hb1)
            have HG1 := Lib.hid (gb_below (g := some rb) hb1)
            clear hb1
            refine (varint_ok HV1.out _ HR1.out).mono ?_
            rintro e w2 ⟨rfl, hr, hg⟩
            have HR2 := Lib.hid hr
            have HG2 := Lib.hid (gb_trans HG1.out hg)
            replace HB0 := Lib.hid (blk_gb HB0.out hg (by omega))
            clear hr hg
            go_wp2_with fail
            refine (take1 rb bs l2 k en _ HR2.out).mono ?_
            rintro e w3 ⟨b, off, cp, rfl, y0, hr, hg⟩
            rw [hk] at y0
            replace y0 : w3.cell? ⟨b, off, none⟩ = some (.int .u8 1) := y0
            have HR3 := Lib.hid hr
            have HG3 := Lib.hid (gb_trans HG2.out hg)
            replace HB0 := Lib.hid (blk_gb HB0.out hg (by omega))
            have HgL := Lib.hid (blk_lt HB0.out)
            clear hr hg
            go_wp2_with fail
            have hb4 : Below w3.heap.size w3 (w3.alloc (.cells #[.int .i64 (T : Int), .int .i64 1, .int .i64 0, .string ⟨#[]⟩, .slice none 0 0] 25)) := (Below.refl _ _).alloc (Nat.le_refl _) _
            have HBn := Lib.hid (heap_alloc_new w3 (.cells #[.int .i64 (T : Int), .int .i64 1, .int .i64 0, .string ⟨#[]⟩, .slice none 0 0] 25))
            generalize w3.alloc (.cells #[.int .i64 (T : Int), .int .i64 1, .int .i64 0, .string ⟨#[]⟩, .slice none 0 0] 25) = w4 at *
            have HR4 := Lib.hid (HR3.out.keep hb4)
            have HG4 := Lib.hid (gb_trans HG3.out (gb_below hb4))
            replace HB0 := Lib.hid (blk_gb HB0.out (gb_below (g := some rb) hb4) (by omega))
            clear hb4 y0
            refine (varint_err HV2.out _ HR4.out).mono ?_
            rintro e w5 ⟨rfl, hg⟩
            have HG5 := Lib.hid (gb_trans HG4.out hg)
            clear hg
            go_wp2_with fail
            exact bodyPost_pan rfl (np_err HE.out rfl HG5.out)
          | ok r =>
            obtain ⟨x, l3⟩ := r
            have HV2 := Lib.hid hv2
            have HE := Lib.hid (show nodeD en (f + 1) l = .ok (.mk (T : Int) 1 (unfoldN x) [] [], l3) by rw [nodeD_body (f := f) hv1 hT hk0 hv2, hk]; rfl)
            have hx := vDec_lt hv2
            clear hv1 hv2
            go_enter Tryd.func67, Tryd.ntmps67
            go_wp2_with fail
            have hb1 : Below w.heap.size w (w.alloc (.cells #[.int .i64 0, .int .i64 0, .int .i64 0, .string ⟨#[]⟩, .slice none 0 0] 25)) := (Below.refl _ _).alloc (Nat.le_refl _) _
            have HB0 := Lib.hid (heap_alloc_new w (.cells #[.int .i64 0, .int .i64 0, .int .i64 0, .string ⟨#[]⟩, .slice none 0 0] 25))
            generalize w.alloc (.cells #[.int .i64 0, .int .i64 0, .int .i64 0, .string ⟨#[]⟩, .slice none 0 0] 25) = w1 at *
            have HR1 := Lib.hid (HR.out.keep hb1)
            have HG1 := Lib.hid (gb_below (g := some rb) hb1)
            clear hb1
            refine (varint_ok HV1.out _ HR1.out).mono ?_
            rintro e w2 ⟨rfl, hr, hg⟩
            have HR2 := Lib.hid hr
            have HG2 := Lib.hid (gb_trans HG1.out hg)
            replace HB0 := Lib.hid (blk_gb HB0.out hg (by omega))
            clear hr hg
            go_wp2_with fail
            refine (take1 rb bs l2 k en _ HR2.out).mono ?_
            rintro e w3 ⟨b, off, cp, rfl, y0, hr, hg⟩
            rw [hk] at y0
            replace y0 : w3.cell? ⟨b, off, none⟩ = some (.int .u8 1) := y0
            have HR3 := Lib.hid hr
            have HG3 := Lib.hid (gb_trans HG2.out hg)
            replace HB0 := Lib.hid (blk_gb HB0.out hg (by omega))
            have HgL := Lib.hid (blk_lt HB0.out)
            clear hr hg
            go_wp2_with fail
            have hb4 : Below w3.heap.size w3 (w3.alloc (.cells #[.int .i64 (T : Int), .int .i64 1, .int .i64 0, .string ⟨#[]⟩, .slice none 0 0] 25)) := (Below.refl _ _).alloc (Nat.le_refl _) _
            have HBn := Lib.hid (heap_alloc_new w3 (.cells #[.int .i64 (T : Int), .int .i64 1, .int .i64 0, .string ⟨#[]⟩, .slice none 0 0] 25))
            generalize w3.alloc (.cells #[.int .i64 (T : Int), .int .i64 1, .int .i64 0, .string ⟨#[]⟩, .slice none 0 0] 25) = w4 at *
            have HR4 := Lib.hid (HR3.out.keep hb4)
            have HG4 := Lib.hid (gb_trans HG3.out (gb_below hb4))
            replace HB0 := Lib.hid (blk_gb HB0.out (gb_below (g := some rb) hb4) (by omega))
            clear hb4 y0
            refine (varint_ok HV2.out _ HR4.out).mono ?_
            rintro e w5 ⟨rfl, hr, hg⟩
            have HR5 := Lib.hid hr
            have HG5 := Lib.hid (gb_trans HG4.out hg)
            replace HB0 := Lib.hid (blk_gb HB0.out hg (by omega))
            have hr3 := HR3.out.lt
            replace HBn := Lib.hid (blk_gb HBn.out hg (by omega))
            clear hr hg
            have hgn := HgL.out
            have z0 := blk_cell HBn.out 0
            have z1 := blk_cell HBn.out 1
            have z2 := blk_cell HBn.out 2
            have z3 := blk_cell HBn.out 3
            have z4 := blk_cell HBn.out 4
            simp at z0 z1 z2 z3 z4
            have zf2 := blk_free HBn.out 2
            have v0 := blk_cell HB0.out 0
            have v1 := blk_cell HB0.out 1
            have v2 := blk_cell HB0.out 2
            have v3 := blk_cell HB0.out 3
            have v4 := blk_cell HB0.out 4
            simp at v0 v1 v2 v3 v4
            have vf0 := blk_free HB0.out 0
            have vf1 := blk_free HB0.out 1
            have vf2 := blk_free HB0.out 2
            have vf3 := blk_free HB0.out 3
            have vf4 := blk_free HB0.out 4
            go_wp2_with fail
            refine (unfold_any x _ hx).mono ?_
            rintro e w6 ⟨rfl, rfl⟩
            go_wp2_with fail
            refine bodyPost_ret (v := .agg #[.int .i64 (T : Int), .int .i64 1, .int .i64 (unfoldN x), .string ⟨#[]⟩, .slice none 0 0]) (by simp [results, Tryd.results67, go_sem, v0, v1, v2, v3, v4]) rfl (np_ok HE.out rfl ?_ (HR5.out.by (gb_set _ _ _ _) hr3) hrb (Nat.le_refl _) (gb_new HG5.out (by omega)))
            simp only [NodeS]
            exact ⟨none, 0, 0, rfl, by simp, rfl, Nat.le_refl _, by simp [maxLen], fun _ => rfl, .inl rfl⟩
        · cases hv2 : vDec en 0 0 l2 with
          | error x =>
            have HV2 := Lib.hid hv2
            have HE := Lib.hid (nodeD_num (f := f) hv1 hT hk0 hv2)
            clear hv1 hv2
            go_enter Tryd.func67, Tryd.ntmps67
            go_wp2_with fail
            have hb1 : Below w.heap.size w (w.alloc (.cells #[.int .i64 0, .int .i64 0, .int .i64 0, .string ⟨#[]⟩, .slice none 0 0] 25)) := (Below.refl _ _).alloc (Nat.le_refl _) _
            have HB0 := Lib.hid (heap_alloc_new w (.cells #[.int .i64 0, .int .i64 0, .int .i64 0, .string ⟨#[]⟩, .slice none 0 0] 25))
            generalize w.alloc (.cells #[.int .i64 0, .int .i64 0, .int .i64 0, .string ⟨#[]⟩, .slice none 0 0] 25) = w1 at *
            have HR1 := Lib.hid (HR.out.keep hb1)
            have HG1 := Lib.hid (gb_below (g := some rb) hb1)
            clear hb1
            refine (varint_ok HV1.out _ HR1.out).mono ?_
            rintro e w2 ⟨rfl, hr, hg⟩
            have HR2 := Lib.hid hr
            have HG2 := Lib.hid (gb_trans HG1.out hg)
            replace HB0 := Lib.hid (blk_gb HB0.out hg (by omega))
            clear hr hg
            go_wp2_with fail
            refine (take1 rb bs l2 k en _ HR2.out).mono ?_
            rintro e w3 ⟨b, off, cp, rfl, y0, hr, hg⟩
            rw [hk] at y0
            replace y0 : w3.cell? ⟨b, off, none⟩ = some (.int .u8 2) := y0
            have HR3 := Lib.hid hr
            have HG3 := Lib.hid (gb_trans HG2.out hg)
            replace HB0 := Lib.hid (blk_gb HB0.out hg (by omega))
            have HgL := Lib.hid (blk_lt HB0.out)
            clear hr hg
            go_wp2_with fail
            have hb4 : Below w3.heap.size w3 (w3.alloc (.cells #[.int .i64 (T : Int), .int .i64 2, .int .i64 0, .string ⟨#[]⟩, .slice none 0 0] 25)) := (Below.refl _ _).alloc (Nat.le_refl _) _
            have HBn := Lib.hid (heap_alloc_new w3 (.cells #[.int .i64 (T : Int), .int .i64 2, .int .i64 0, .string ⟨#[]⟩, .slice none 0 0] 25))
            generalize w3.alloc (.cells #[.int .i64 (T : Int), .int .i64 2, .int .i64 0, .string ⟨#[]⟩, .slice none 0 0] 25) = w4 at *
            have HR4 := Lib.hid (HR3.out.keep hb4)
            have HG4 := Lib.hid (gb_trans HG3.out (gb_below hb4))
            replace HB0 := Lib.hid (blk_gb HB0.out (gb_below (g := some rb) hb4) (by omega))
            clear hb4 y0
            refine (count_err (most := 2000) (by omega) HV2.out _ HR4.out).mono ?_
            rintro e w5 ⟨rfl, hg⟩
            have HG5 := Lib.hid (gb_trans HG4.out hg)
            clear hg
            go_wp2_with fail
            exact bodyPost_pan rfl (np_err HE.out rfl HG5.out)
          | ok r =>
            obtain ⟨x, l3⟩ := r
            have HV2 := Lib.hid hv2
            by_cases hbig : 2000 < x
            · have HE := Lib.hid (show nodeD en (f + 1) l = .error 5 by rw [nodeD_body (f := f) hv1 hT hk0 hv2, hk]; simp [bodyD, hbig])
              clear hv1 hv2
              go_enter Tryd.func67, Tryd.ntmps67
              go_wp2_with fail
              have hb1 : Below w.heap.size w (w.alloc (.cells #[.int .i64 0, .int .i64 0, .int .i64 0, .string ⟨#[]⟩, .slice none 0 0] 25)) := (Below.refl _ _).alloc (Nat.le_refl _) _
              have HB0 := Lib.hid (heap_alloc_new w (.cells #[.int .i64 0, .int .i64 0, .int .i64 0, .string ⟨#[]⟩, .slice none 0 0] 25))
              generalize w.alloc (.cells #[.int .i64 0, .int .i64 0, .int .i64 0, .string ⟨#[]⟩, .slice none 0 0] 25) = w1 at *
              have HR1 := Lib.hid (HR.out.keep hb1)
              have HG1 := Lib.hid (gb_below (g := some rb) hb1)
              clear hb1
              refine (varint_ok HV1.out _ HR1.out).mono ?_
              rintro e w2 ⟨rfl, hr, hg⟩
              have HR2 := Lib.hid hr
              have HG2 := Lib.hid (gb_trans HG1.out hg)
              replace HB0 := Lib.hid (blk_gb HB0.out hg (by omega))
              clear hr hg
              go_wp2_with fail
              refine (take1 rb bs l2 k en _ HR2.out).mono ?_
              rintro e w3 ⟨b, off, cp, rfl, y0, hr, hg⟩
              rw [hk] at y0
              replace y0 : w3.cell? ⟨b, off, none⟩ = some (.int .u8 2) := y0
              have HR3 := Lib.hid hr
              have HG3 := Lib.hid (gb_trans HG2.out hg)
              replace HB0 := Lib.hid (blk_gb HB0.out hg (by omega))
              have HgL := Lib.hid (blk_lt HB0.out)
              clear hr hg
              go_wp2_with fail
              have hb4 : Below w3.heap.size w3 (w3.alloc (.cells #[.int .i64 (T : Int), .int .i64 2, .int .i64 0, .string ⟨#[]⟩, .slice none 0 0] 25)) := (Below.refl _ _).alloc (Nat.le_refl _) _
              have HBn := Lib.hid (heap_alloc_new w3 (.cells #[.int .i64 (T : Int), .int .i64 2, .int .i64 0, .string ⟨#[]⟩, .slice none 0 0] 25))
              generalize w3.alloc (.cells #[.int .i64 (T : Int), .int .i64 2, .int .i64 0, .string ⟨#[]⟩, .slice none 0 0] 25) = w4 at *
              have HR4 := Lib.hid (HR3.out.keep hb4)
              have HG4 := Lib.hid (gb_trans HG3.out (gb_below hb4))
              replace HB0 := Lib.hid (blk_gb HB0.out (gb_below (g := some rb) hb4) (by omega))
              clear hb4 y0
              refine (count_big (most := 2000) (by omega) HV2.out hbig _ HR4.out).mono ?_
              rintro e w5 ⟨rfl, hg⟩
              have HG5 := Lib.hid (gb_trans HG4.out hg)
              clear hg
              go_wp2_with fail
              exact bodyPost_pan rfl (np_err HE.out rfl HG5.out)
            by_cases hshort : l3.length < x
            · have HE := Lib.hid (show nodeD en (f + 1) l = .error en by rw [nodeD_body (f := f) hv1 hT hk0 hv2, hk]; simp [bodyD, hbig, hshort])
              clear hv1 hv2
              go_enter Tryd.func67, Tryd.ntmps67
              go_wp2_with fail
              have hb1 : Below w.heap.size w (w.alloc (.cells #[.int .i64 0, .int .i64 0, .int .i64 0, .string ⟨#[]⟩, .slice none 0 0] 25)) := (Below.refl _ _).alloc (Nat.le_refl _) _
              have HB0 := Lib.hid (heap_alloc_new w (.cells #[.int .i64 0, .int .i64 0, .int .i64 0, .string ⟨#[]⟩, .slice none 0 0] 25))
              generalize w.alloc (.cells #[.int .i64 0, .int .i64 0, .int .i64 0, .string ⟨#[]⟩, .slice none 0 0] 25) = w1 at *
              have HR1 := Lib.hid (HR.out.keep hb1)
              have HG1 := Lib.hid (gb_below (g := some rb) hb1)
              clear hb1
              refine (varint_ok HV1.out _ HR1.out).mono ?_
              rintro e w2 ⟨rfl, hr, hg⟩
              have HR2 := Lib.hid hr
              have HG2 := Lib.hid (gb_trans HG1.out hg)
              replace HB0 := Lib.hid (blk_gb HB0.out hg (by omega))
              clear hr hg
              go_wp2_with fail
              refine (take1 rb bs l2 k en _ HR2.out).mono ?_
              rintro e w3 ⟨b, off, cp, rfl, y0, hr, hg⟩
              rw [hk] at y0
              replace y0 : w3.cell? ⟨b, off, none⟩ = some (.int .u8 2) := y0
              have HR3 := Lib.hid hr
              have HG3 := Lib.hid (gb_trans HG2.out hg)
              replace HB0 := Lib.hid (blk_gb HB0.out hg (by omega))
              have HgL := Lib.hid (blk_lt HB0.out)
              clear hr hg
              go_wp2_with fail
              have hb4 : Below w3.heap.size w3 (w3.alloc (.cells #[.int .i64 (T : Int), .int .i64 2, .int .i64 0, .string ⟨#[]⟩, .slice none 0 0] 25)) := (Below.refl _ _).alloc (Nat.le_refl _) _
              have HBn := Lib.hid (heap_alloc_new w3 (.cells #[.int .i64 (T : Int), .int .i64 2, .int .i64 0, .string ⟨#[]⟩, .slice none 0 0] 25))
              generalize w3.alloc (.cells #[.int .i64 (T : Int), .int .i64 2, .int .i64 0, .string ⟨#[]⟩, .slice none 0 0] 25) = w4 at *
              have HR4 := Lib.hid (HR3.out.keep hb4)
              have HG4 := Lib.hid (gb_trans HG3.out (gb_below hb4))
              replace HB0 := Lib.hid (blk_gb HB0.out (gb_below (g := some rb) hb4) (by omega))
              clear hb4 y0
              refine (count_ok (most := 2000) (by omega) HV2.out (by omega) _ HR4.out).mono ?_
              rintro e w5 ⟨rfl, hr, hg⟩
              have HR5 := Lib.hid hr
              have HG5 := Lib.hid (gb_trans HG4.out hg)
              replace HB0 := Lib.hid (blk_gb HB0.out hg (by omega))
              have hr3 := HR3.out.lt
              replace HBn := Lib.hid (blk_gb HBn.out hg (by omega))
              clear hr hg
              have hgn := HgL.out
              go_wp2_with fail
              refine (take_no x rb bs l3 en _ HR5.out hshort (by omega)).mono ?_
              rintro e w6 ⟨rfl, hg⟩
              have HG6 := Lib.hid (gb_trans HG5.out hg)
              clear hg
              go_wp2_with fail
              exact bodyPost_pan rfl (np_err HE.out rfl HG6.out)
            have HE := Lib.hid (show nodeD en (f + 1) l = .ok (.mk (T : Int) 2 0 (l3.take x) [], l3.drop x) by rw [nodeD_body (f := f) hv1 hT hk0 hv2, hk]; simp [bodyD, hbig, hshort])
            clear hv1 hv2
            go_enter Tryd.func67, Tryd.ntmps67
            go_wp2_with fail
            have hb1 : Below w.heap.size w (w.alloc (.cells #[.int .i64 0, .int .i64 0, .int .i64 0, .string ⟨#[]⟩, .slice none 0 0] 25)) := (Below.refl _ _).alloc (Nat.le_refl _) _
            have HB0 := Lib.hid (heap_alloc_new w (.cells #[.int .i64 0, .int .i64 0, .int .i64 0, .string ⟨#[]⟩, .slice none 0 0] 25))
            generalize w.alloc (.cells #[.int .i64 0, .int .i64 0, .int .i64 0, .string ⟨#[]⟩, .slice none 0 0] 25) = w1 at *
            have HR1 := Lib.hid (HR.out.keep hb1)
            have HG1 := Lib.hid (gb_below (g := some rb) hb1)
            clear hb1
            refine (varint_ok HV1.out _ HR1.out).mono ?_
            rintro e w2 ⟨rfl, hr, hg⟩
            have HR2 := Lib.hid hr
            have HG2 := Lib.hid (gb_trans HG1.out hg)
            replace HB0 := Lib.hid (blk_gb HB0.out hg (by omega))
            clear hr hg
            go_wp2_with fail
            refine (take1 rb bs l2 k en _ HR2.out).mono ?_
            rintro e w3 ⟨b, off, cp, rfl, y0, hr, hg⟩
            rw [hk] at y0
            replace y0 : w3.cell? ⟨b, off, none⟩ = some (.int .u8 2) := y0
            have HR3 := Lib.hid hr
            have HG3 := Lib.hid (gb_trans HG2.out hg)
            replace HB0 := Lib.hid (blk_gb HB0.out hg (by omega))
            have HgL := Lib.hid (blk_lt HB0.out)
            clear hr hg
            go_wp2_with fail
            have hb4 : Below w3.heap.size w3 (w3.alloc (.cells #[.int .i64 (T : Int), .int .i64 2, .int .i64 0, .string ⟨#[]⟩, .slice none 0 0] 25)) := (Below.refl _ _).alloc (Nat.le_refl _) _
            have HBn := Lib.hid (heap_alloc_new w3 (.cells #[.int .i64 (T : Int), .int .i64 2, .int .i64 0, .string ⟨#[]⟩, .slice none 0 0] 25))
            generalize w3.alloc (.cells #[.int .i64 (T : Int), .int .i64 2, .int .i64 0, .string ⟨#[]⟩, .slice none 0 0] 25) = w4 at *
            have HR4 := Lib.hid (HR3.out.keep hb4)
            have HG4 := Lib.hid (gb_trans HG3.out (gb_below hb4))
            replace HB0 := Lib.hid (blk_gb HB0.out (gb_below (g := some rb) hb4) (by omega))
            clear hb4 y0
            refine (count_ok (most := 2000) (by omega) HV2.out (by omega) _ HR4.out).mono ?_
            rintro e w5 ⟨rfl, hr, hg⟩
            have HR5 := Lib.hid hr
            have HG5 := Lib.hid (gb_trans HG4.out hg)
            replace HB0 := Lib.hid (blk_gb HB0.out hg (by omega))
            have hr3 := HR3.out.lt
            replace HBn := Lib.hid (blk_gb HBn.out hg (by omega))
            clear hr hg
            have hgn := HgL.out
            go_wp2_with fail
            refine (take_ok x rb bs l3 en _ HR5.out (by omega) (by omega)).mono ?_
            rintro e w6 ⟨a6, c6, rfl, hb6, hr6, hg6⟩
            have HR6 := Lib.hid hr6
            have HG6 := Lib.hid (gb_trans HG5.out hg6)
            replace HB0 := Lib.hid (blk_gb HB0.out hg6 (by omega))
            replace HBn := Lib.hid (blk_gb HBn.out hg6 (by omega))
            have hcv := str_of hb6
            clear hb6 hr6 hg6
            have z0 := blk_cell HBn.out 0
            have z1 := blk_cell HBn.out 1
            have z2 := blk_cell HBn.out 2
            have z3 := blk_cell HBn.out 3
            have z4 := blk_cell HBn.out 4
            simp at z0 z1 z2 z3 z4
            have zf3 := blk_free HBn.out 3
            have v0 := blk_cell HB0.out 0
            have v1 := blk_cell HB0.out 1
            have v2 := blk_cell HB0.out 2
            have v3 := blk_cell HB0.out 3
            have v4 := blk_cell HB0.out 4
            simp at v0 v1 v2 v3 v4
            have vf0 := blk_free HB0.out 0
            have vf1 := blk_free HB0.out 1
            have vf2 := blk_free HB0.out 2
            have vf3 := blk_free HB0.out 3
            have vf4 := blk_free HB0.out 4
            go_wp2_with fail
            refine bodyPost_ret (v := .agg #[.int .i64 (T : Int), .int .i64 2, .int .i64 0, .string ⟨(l3.take x).toArray⟩, .slice none 0 0]) (by simp [results, Tryd.results67, go_sem, v0, v1, v2, v3, v4]) rfl (np_ok HE.out rfl ?_ (HR6.out.by (gb_set _ _ _ _) hr3) hrb (Nat.le_refl _) (gb_new HG6.out (by omega)))
            simp only [NodeS]
            exact ⟨none, 0, 0, rfl, by rw [List.length_take]; simp only [maxLen]; omega, rfl, Nat.le_refl _, by simp [maxLen], fun _ => rfl, .inl rfl⟩
        · cases hv2 : vDec en 0 0 l2 with
          | error x =>
            have HV2 := Lib.hid hv2
            have HE := Lib.hid (nodeD_num (f := f) hv1 hT hk0 hv2)
            clear hv1 hv2
            go_enter Tryd.func67, Tryd.ntmps67
            go_wp2_with fail
            have hb1 : Below w.heap.size w (w.alloc (.cells #[.int .i64 0, .int .i64 0, .int .i64 0, .string ⟨#[]⟩, .slice none 0 0] 25)) := (Below.refl _ _).alloc (Nat.le_refl _) _
            have HB0 := Lib.hid (heap_alloc_new w (.cells #[.int .i64 0, .int .i64 0, .int .i64 0, .string ⟨#[]⟩, .slice none 0 0] 25))
            generalize w.alloc (.cells #[.int .i64 0, .int .i64 0, .int .i64 0, .string ⟨#[]⟩, .slice none 0 0] 25) = w1 at *
            have HR1 := Lib.hid (HR.out.keep hb1)
            have HG1 := Lib.hid (gb_below (g := some rb) hb1)
            clear hb1
            refine (varint_ok HV1.out _ HR1.out).mono ?_
            rintro e w2 ⟨rfl, hr, hg⟩
            have HR2 := Lib.hid hr
            have HG2 := Lib.hid (gb_trans HG1.out hg)
            replace HB0 := Lib.hid (blk_gb HB0.out hg (by omega))
            clear hr hg
            go_wp2_with fail
            refine (take1 rb bs l2 k en _ HR2.out).mono ?_
            rintro e w3 ⟨b, off, cp, rfl, y0, hr, hg⟩
            rw [hk] at y0
            replace y0 : w3.cell? ⟨b, off, none⟩ = some (.int .u8 3) := y0
            have HR3 := Lib.hid hr
            have HG3 := Lib.hid (gb_trans HG2.out hg)
            replace HB0 := Lib.hid (blk_gb HB0.out hg (by omega))
            have HgL := Lib.hid (blk_lt HB0.out)
            clear hr hg
            go_wp2_with fail
            have hb4 : Below w3.heap.size w3 (w3.alloc (.cells #[.int .i64 (T : Int), .int .i64 3, .int .i64 0, .string ⟨#[]⟩, .slice none 0 0] 25)) := (Below.refl _ _).alloc (Nat.le_refl _) _
            have HBn := Lib.hid (heap_alloc_new w3 (.cells #[.int .i64 (T : Int), .int .i64 3, .int .i64 0, .string ⟨#[]⟩, .slice none 0 0] 25))
            generalize w3.alloc (.cells #[.int .i64 (T : Int), .int .i64 3, .int .i64 0, .string ⟨#[]⟩, .slice none 0 0] 25) = w4 at *
            have HR4 := Lib.hid (HR3.out.keep hb4)
            have HG4 := Lib.hid (gb_trans HG3.out (gb_below hb4))
            replace HB0 := Lib.hid (blk_gb HB0.out (gb_below (g := some rb) hb4) (by omega))
            clear hb4 y0
            refine (count_err (most := 1024) (by omega) HV2.out _ HR4.out).mono ?_
            rintro e w5 ⟨rfl, hg⟩
            have HG5 := Lib.hid (gb_trans HG4.out hg)
            clear hg
            go_wp2_with fail
            exact bodyPost_pan rfl (np_err HE.out rfl HG5.out)
          | ok r =>
            obtain ⟨x, l3⟩ := r
            have HV2 := Lib.hid hv2
            by_cases hbig : 1024 < x
            · have HE := Lib.hid (show nodeD en (f + 1) l = .error 5 by rw [nodeD_body (f := f) hv1 hT hk0 hv2, hk]; simp [bodyD, hbig])
              clear hv1 hv2
              go_enter Tryd.func67, Tryd.ntmps67
              go_wp2_with fail
              have hb1 : Below w.heap.size w (w.alloc (.cells #[.int .i64 0, .int .i64 0, .int .i64 0, .string ⟨#[]⟩, .slice none 0 0] 25)) := (Below.refl _ _).alloc (Nat.le_refl _) _
              have HB0 := Lib.hid (heap_alloc_new w (.cells #[.int .i64 0, .int .i64 0, .int .i64 0, .string ⟨#[]⟩, .slice none 0 0] 25))
              generalize w.alloc (.cells #[.int .i64 0, .int .i64 0, .int .i64 0, .string ⟨#[]⟩, .slice none 0 0] 25) = w1 at *
              have HR1 := Lib.hid (HR.out.keep hb1)
              have HG1 := Lib.hid (gb_below (g := some rb) hb1)
              clear hb1
              refine (varint_ok HV1.out _ HR1.out).mono ?_
              rintro e w2 ⟨rfl, hr, hg⟩
              have HR2 := Lib.hid hr
              have HG2 := Lib.hid (gb_trans HG1.out hg)
              replace HB0 := Lib.hid (blk_gb HB0.out hg (by omega))
              clear hr hg
              go_wp2_with fail
              refine (take1 rb bs l2 k en _ HR2.out).mono ?_
              rintro e w3 ⟨b, off, cp, rfl, y0, hr, hg⟩
              rw [hk] at y0
              replace y0 : w3.cell? ⟨b, off, none⟩ = some (.int .u8 3) := y0
              have HR3 := Lib.hid hr
              have HG3 := Lib.hid (gb_trans HG2.out hg)
              replace HB0 := Lib.hid (blk_gb HB0.out hg (by omega))
              have HgL := Lib.hid (blk_lt HB0.out)
              clear hr hg
              go_wp2_with fail
              have hb4 : Below w3.heap.size w3 (w3.alloc (.cells #[.int .i64 (T : Int), .int .i64 3, .int .i64 0, .string ⟨#[]⟩, .slice none 0 0] 25)) := (Below.refl _ _).alloc (Nat.le_refl _) _
              have HBn := Lib.hid (heap_alloc_new w3 (.cells #[.int .i64 (T : Int), .int .i64 3, .int .i64 0, .string ⟨#[]⟩, .slice none 0 0] 25))
              generalize w3.alloc (.cells #[.int .i64 (T : Int), .int .i64 3, .int .i64 0, .string ⟨#[]⟩, .slice none 0 0] 25) = w4 at *
              have HR4 := Lib.hid (HR3.out.keep hb4)
              have HG4 := Lib.hid (gb_trans HG3.out (gb_below hb4))
              replace HB0 := Lib.hid (blk_gb HB0.out (gb_below (g := some rb) hb4) (by omega))
              clear hb4 y0
              refine (count_big (most := 1024) (by omega) HV2.out hbig _ HR4.out).mono ?_
              rintro e w5 ⟨rfl, hg⟩
              have HG5 := Lib.hid (gb_trans HG4.out hg)
              clear hg
              go_wp2_with fail
              exact bodyPost_pan rfl (np_err HE.out rfl HG5.out)
            have HE := Lib.hid (show nodeD en (f + 1) l = fin3 T (repK [] (repD (nodeD en f) (x - 0) l3)) by rw [nodeD_body (f := f) hv1 hT hk0 hv2, hk]; exact body3 hbig)
            clear hv1 hv2
            go_enter Tryd.func67, Tryd.ntmps67
            go_wp2_with fail
            have hb1 : Below w.heap.size w (w.alloc (.cells #[.int .i64 0, .int .i64 0, .int .i64 0, .string ⟨#[]⟩, .slice none 0 0] 25)) := (Below.refl _ _).alloc (Nat.le_refl _) _
            have HB0 := Lib.hid (heap_alloc_new w (.cells #[.int .i64 0, .int .i64 0, .int .i64 0, .string ⟨#[]⟩, .slice none 0 0] 25))
            generalize w.alloc (.cells #[.int .i64 0, .int .i64 0, .int .i64 0, .string ⟨#[]⟩, .slice none 0 0] 25) = w1 at *
            have HR1 := Lib.hid (HR.out.keep hb1)
            have HG1 := Lib.hid (gb_below (g := some rb) hb1)
            clear hb1
            refine (varint_ok HV1.out _ HR1.out).mono ?_
            rintro e w2 ⟨rfl, hr, hg⟩
            have HR2 := Lib.hid hr
            have HG2 := Lib.hid (gb_trans HG1.out hg)
            replace HB0 := Lib.hid (blk_gb HB0.out hg (by omega))
            clear hr hg
            go_wp2_with fail
            refine (take1 rb bs l2 k en _ HR2.out).mono ?_
            rintro e w3 ⟨b, off, cp, rfl, y0, hr, hg⟩
            rw [hk] at y0
            replace y0 : w3.cell? ⟨b, off, none⟩ = some (.int .u8 3) := y0
            have HR3 := Lib.hid hr
            have HG3 := Lib.hid (gb_trans HG2.out hg)
            replace HB0 := Lib.hid (blk_gb HB0.out hg (by omega))
            have HgL := Lib.hid (blk_lt HB0.out)
            clear hr hg
            go_wp2_with fail
            have hb4 : Below w3.heap.size w3 (w3.alloc (.cells #[.int .i64 (T : Int), .int .i64 3, .int .i64 0, .string ⟨#[]⟩, .slice none 0 0] 25)) := (Below.refl _ _).alloc (Nat.le_refl _) _
            have HBn := Lib.hid (heap_alloc_new w3 (.cells #[.int .i64 (T : Int), .int .i64 3, .int .i64 0, .string ⟨#[]⟩, .slice none 0 0] 25))
            generalize w3.alloc (.cells #[.int .i64 (T : Int), .int .i64 3, .int .i64 0, .string ⟨#[]⟩, .slice none 0 0] 25) = w4 at *
            have HR4 := Lib.hid (HR3.out.keep hb4)
            have HG4 := Lib.hid (gb_trans HG3.out (gb_below hb4))
            replace HB0 := Lib.hid (blk_gb HB0.out (gb_below (g := some rb) hb4) (by omega))
            clear hb4 y0
            refine (count_ok (most := 1024) (by omega) HV2.out (by omega) _ HR4.out).mono ?_
            rintro e w5 ⟨rfl, hr, hg⟩
            have HR5 := Lib.hid hr
            have HG5 := Lib.hid (gb_trans HG4.out hg)
            replace HB0 := Lib.hid (blk_gb HB0.out hg (by omega))
            have hr3 := HR3.out.lt
            replace HBn := Lib.hid (blk_gb HBn.out hg (by omega))
            clear hr hg
            have hgn := HgL.out
            have hB5 : w3.heap.size < w5.heap.size := blk_lt HBn.out
            clear HR4 HG4 HR3 HG3 HR2 HG2 HR1 HG1
            generalize hg3e : w3.heap.size = gn at *
            have HCell := Lib.hid HBn.out
            go_wp2_with fail
            go_loopw [44] (fun y wr => ∃ (j : Nat) (ts : List NodeT) (lj : List UInt8) (u : Value) (cs : List Value), j ≤ x ∧ y = .int .i64 (j : Int) ∧ Hid (Rd wr rb bs en lj) ∧ Hid (w.grownBy wr (some rb)) ∧ Hid (wr.heap[w.heap.size]? = some (.cells #[.int .i64 0, .int .i64 0, .int .i64 0, .string ⟨#[]⟩, .slice none 0 0] 25)) ∧ Hid (wr.heap[gn]? = some (.cells #[.int .i64 (T : Int), .int .i64 3, .int .i64 0, .string ⟨#[]⟩, u] 25)) ∧ Hid (OwnsK wr w5.heap.size 25 5 u j cs) ∧ Hid (KidsC (fun b => w5.heap.size ≤ b ∧ some b ≠ u.ownBlock) wr cs ts) ∧ Hid (ts.length = j) ∧ Hid (nodeD en (f + 1) l = fin3 T (repK ts (repD (nodeD en f) (x - j) lj))) ∧ Hid (w5.heap.size ≤ wr.heap.size)) (fun y _ => x - (intOf y).toNat)
            case atStart => exact ⟨0, [], l3, .slice none 0 0, [], by omega, rfl, HR5, HG5, HB0, HBn, Lib.hid (OwnsK.nil _ _ _ _), Lib.hid trivial, Lib.hid rfl, HE, Lib.hid (Nat.le_refl _)⟩
            case round =>
              obtain ⟨j, ts, lj, u, cs, hj, rfl, HRj, HGj, HB0j, HBnj, HOj, HCj, HTj, HDj, HSj⟩ := hrel
              by_cases hlt : j < x
              · cases hq : nodeD en f lj with
                | error y =>
                  have HE2 := Lib.hid (show nodeD en (f + 1) l = .error y by rw [HDj.out, show x - j = (x - (j + 1)) + 1 by omega]; simp only [repD, hq]; rfl)
                  have HC : ∀ W, Rd W rb bs en lj → Calls Tryd.prog 67 #[.pointer (some ⟨rb, 0, none⟩), .int .i64 ((lv : Int) + 1)] W fun e w' => e = .panicked (fl y) ∧ W.grownBy w' (some rb) := fun W h => by
                    have := ih (lv + 1) lj W (by omega) (by omega) h
                    rw [hq] at this
                    rw [show (lv : Int) + 1 = ((lv + 1 : Nat) : Int) by omega]; exact this
                  have e4 := GB.cell (g := gn) (w := wr) (o := 4) (v := u) (by rw [blk_cell HBnj.out]; rfl)
                  go_wp2_with fail
                  refine wp_region_tailP [(0, false), (1, false), (2, false), (3, false), (4, false), (5, true), (6, true), (7, true)] [8, 9] (fun w' => ∃ W : GB gn wr, w' = W.1) (by kernel_rfl) (by kernel_rfl) ⟨⟨wr.drew, rfl⟩, rfl⟩ ?_
                  have hw1 : IntKind.i64.wrap ((lv : Int) + 1) = (lv : Int) + 1 := by rw [IntKind.wrap_i64]; omega
                  repeat (refine wpSt_calm rfl (fun K hK => ?_); go_simp; refine hK _ ?_; clear hK K)
                  clear e4 hw1
                  have hbd : Below wr.heap.size wr wr.drew := (Below.refl _ _).drew
                  have HRd := Lib.hid (HRj.out.keep hbd)
                  have HGd := Lib.hid (gb_trans HGj.out (gb_below hbd))
                  generalize wr.drew = w6 at *
                  refine wpSt_eff rfl rfl (fun K hK => ?_)
                  go_simp
                  refine (HC _ HRd.out).mono ?_
                  rintro e w7 ⟨rfl, hg⟩
                  have HG7 := Lib.hid (gb_trans HGd.out hg)
                  refine anyP_pan fun a' ha' => ?_
                  clear hK K hg
                  go_wp2_with fail
                  exact bodyPost_pan (by simpa using ha') (np_err HE2.out rfl HG7.out)
                | ok r =>
                  obtain ⟨t, l4⟩ := r
                  have HD2 := Lib.hid (show nodeD en (f + 1) l = fin3 T (repK (ts ++ [t]) (repD (nodeD en f) (x - (j + 1)) l4)) by rw [HDj.out, show x - j = (x - (j + 1)) + 1 by omega, rep_step hq])
                  have HC : ∀ W, Rd W rb bs en lj → Calls Tryd.prog 67 #[.pointer (some ⟨rb, 0, none⟩), .int .i64 ((lv : Int) + 1)] W fun e w' => ∃ nv, e = .returned nv ∧ NodeS (fun b => W.heap.size ≤ b) w' t nv ∧ Rd w' rb bs en l4 ∧ W.grownBy w' (some rb) := fun W h => by
                    have := ih (lv + 1) lj W (by omega) (by omega) h
                    rw [hq] at this
                    rw [show (lv : Int) + 1 = ((lv + 1 : Nat) : Int) by omega]; exact this
                  have e4 := GB.cell (g := gn) (w := wr) (o := 4) (v := u) (by rw [blk_cell HBnj.out]; rfl)
                  go_wp2_with fail
                  refine wp_region_tailP [(0, false), (1, false), (2, false), (3, false), (4, false), (5, true), (6, true), (7, true)] [8, 9] (fun w' => ∃ W : GB gn wr, w' = W.1) (by kernel_rfl) (by kernel_rfl) ⟨⟨wr.drew, rfl⟩, rfl⟩ ?_
                  have hw1 : IntKind.i64.wrap ((lv : Int) + 1) = (lv : Int) + 1 := by rw [IntKind.wrap_i64]; omega
                  repeat (refine wpSt_calm rfl (fun K hK => ?_); go_simp; refine hK _ ?_; clear hK K)
                  clear e4 hw1
                  have hbd : Below wr.heap.size wr wr.drew := (Below.refl _ _).drew
                  have HRd := Lib.hid (HRj.out.keep hbd)
                  have HGd := Lib.hid (gb_trans HGj.out (gb_below hbd))
                  have HOd := Lib.hid (HOj.out.later hbd)
                  have HCd := Lib.hid (KidsC.keep (w := wr) (S' := fun b => w5.heap.size ≤ b ∧ some b ≠ u.ownBlock) (w' := wr.drew) (Nat.le_refl _) (fun b h _ => ⟨h, rfl⟩) cs ts HCj.out)
                  have HBnd := Lib.hid (show wr.drew.heap[gn]? = _ from HBnj.out)
                  have HB0d := Lib.hid (show wr.drew.heap[w.heap.size]? = _ from HB0j.out)
                  have HSd := Lib.hid (show w5.heap.size ≤ wr.drew.heap.size from HSj.out)
                  have HEq := Lib.hid (show wr.drew.heap[gn]? = wr.heap[gn]? from rfl)
                  clear hbd
                  generalize wr.drew = w6 at *
                  refine wpSt_eff rfl rfl (fun K hK => ?_)
                  go_simp
                  refine (HC _ HRd.out).mono ?_
                  rintro e w7 ⟨nv, rfl, hN7, hR7, hg7⟩
                  obtain ⟨n0, n1, n2, n3, n4, rfl, o0, o1, o2, o3, o4⟩ := hN7.form
                  have hrb6 := HRd.out.lt
                  have hrb5 := HR5.out.lt
                  have HN7 := Lib.hid hN7
                  have HR7 := Lib.hid hR7
                  have HG7 := Lib.hid (gb_trans HGd.out hg7)
                  have hgnrb : gn ≠ rb := by omega
                  have HBn7 := Lib.hid (blk_gb HBnd.out hg7 hgnrb)
                  have HB07 := Lib.hid (blk_gb HB0d.out hg7 (by omega))
                  have hub : ∀ g, u.ownBlock = some g → w5.heap.size ≤ g ∧ g < w6.heap.size := fun g hg => ⟨HOd.out.lt g hg, HOd.out.in g hg⟩
                  have HUb := Lib.hid hub
                  have HO7 := Lib.hid (HOd.out.at (w' := w7) fun g hg => hg7.block g (hub g hg).2 (by have := (hub g hg).1; simp; omega))
                  have HC7 := Lib.hid (KidsC.keep (S' := fun b => w5.heap.size ≤ b ∧ some b ≠ u.ownBlock) hg7.size (fun b h h2 => ⟨h, hg7.block b h2 (by have := h.1; simp; omega)⟩) cs ts HCd.out)
                  have hs67 : w6.heap.size ≤ w7.heap.size := hg7.size
                  have hm7 : w7.heap[gn]? = wr.heap[gn]? := by rw [hg7.block gn (blk_lt HBnd.out) (by simpa using hgnrb)]; exact HEq.out
                  refine hK _ _ ⟨⟨w7, hm7⟩, rfl⟩ ?_
                  clear hK K hN7 hR7 hg7 hub
                  refine wpSt_eff rfl rfl (fun K hK => ?_)
                  go_simp
                  refine hK _ _ ⟨⟨_, by rw [← hm7]; exact heap_alloc_old w7 _ (blk_lt HBn7.out)⟩, rfl⟩ ?_
                  clear hK K
                  refine wpSt_eff rfl rfl (fun K hK => ?_)
                  refine wp_appK1 (.tmp 47) (.tmp 52) 23 rfl w5.heap.size 25 5 (by omega) (.agg #[.int .i64 0, .int .i64 0, .int .i64 0, .string ⟨#[]⟩, .slice none 0 0]) 64 Tryd.underlying23 infoNode rfl u j cs rfl [n0, n1, n2, n3, n4] rfl (by intro y hy; simp at hy; rcases hy with rfl | rfl | rfl | rfl | rfl <;> assumption) HO7.out rfl (by omega) (by simp only [maxLen]; omega) (Nat.le_trans HSd.out hs67) fun u' w8 hO8 hG8 => ?_
                  obtain ⟨gu, nu, cu, rfl⟩ := own_slice hO8
                  have HO8 := Lib.hid hO8
                  have hu7 : ∀ g, u.ownBlock = some g → g < w7.heap.size := fun g hg => Nat.lt_of_lt_of_le (HUb.out g hg).2 hs67
                  have hgnu : some gn ≠ u.ownBlock := fun h => by have := (HUb.out gn h.symm).1; omega
                  have hg0u : some w.heap.size ≠ u.ownBlock := fun h => by have := (HUb.out _ h.symm).1; omega
                  have hrbu : some rb ≠ u.ownBlock := fun h => by have := (HUb.out _ h.symm).1; omega
                  have HBn8 := Lib.hid (blk_grow HBn7.out hG8.1 hgnu)
                  have HB08 := Lib.hid (blk_grow HB07.out hG8.1 hg0u)
                  have hs78 : w7.heap.size ≤ w8.heap.size := hG8.1.size
                  have HR8 := Lib.hid (HR7.out.grow hG8.1 (fun g hg => by have := (HUb.out g hg).1; omega))
                  have HG8 := Lib.hid (show w.grownBy w8 (some rb) from gb_grow HG7.out hG8.1 (fun g hg => by have := (HUb.out g hg).1; have := HG5.out.size; omega))
                  have hu8 : ∀ b, b < w7.heap.size → some b ≠ u.ownBlock → some b ≠ (Value.slice gu nu cu).ownBlock := fun b hb hne h => by
                    rcases hG8.2 with h2 | h2
                    · exact hne (h2 ▸ h)
                    · have := h2 b h.symm; omega
                  have HC8 := Lib.hid (KidsC.keep (S' := fun b => w5.heap.size ≤ b ∧ some b ≠ (Value.slice gu nu cu).ownBlock) hs78 (fun b h h2 => ⟨⟨h.1, hu8 b h2 h.2⟩, hG8.1.block b h2 h.2⟩) cs ts HC7.out)
                  have HN8 := Lib.hid (NodeS.keep (S' := fun b => w5.heap.size ≤ b ∧ some b ≠ (Value.slice gu nu cu).ownBlock) (w' := w8) hs78 (fun b h h2 => by
                    have hne : some b ≠ u.ownBlock := fun h3 => by have := (HUb.out b h3.symm).2; omega
                    exact ⟨⟨Nat.le_trans HSd.out h, hu8 b h2 hne⟩, hG8.1.block b h2 hne⟩) t _ HN7.out)
                  have hO8lt : ∀ g, (Value.slice gu nu cu).ownBlock = some g → w5.heap.size ≤ g := HO8.out.lt
                  refine hK _ _ ⟨⟨w8, by rw [← hm7]; exact hG8.1.block gn (blk_lt HBn7.out) hgnu⟩, rfl⟩ ?_
                  clear hK K hO8 hG8 HO7 HC7 HN7 HR7 HG7 HB07 hu8 hu7
                  refine wpSt_end ?_
                  refine wpTail_op rfl rfl (fun K hK => ?_)
                  go_simp
                  refine hK _ _ ?_
                  clear hK K
                  have z4 := blk_cell HBn8.out 4
                  simp at z4
                  have zf4 := blk_free HBn8.out 4
                  refine wpTail_op rfl rfl (fun K hK => ?_)
                  go_simp
                  refine hK _ _ ?_
                  clear hK K z4 zf4
                  refine wpTail_nilP ?_
                  have HW8 := Lib.hid (show w5.heap.size ≤ w8.heap.size by have := HSd.out; omega)
                  have HBn9 := Lib.hid (blk_set (o := 4) HBn8.out (.slice gu nu cu))
                  have HB09 := Lib.hid (blk_other (o := 4) HB08.out (.slice gu nu cu) (show w.heap.size ≠ gn by omega))
                  have HR9 := Lib.hid (HR8.out.by (gb_set w8 gn 4 (.slice gu nu cu)) (by omega))
                  have HG9 := Lib.hid (show w.grownBy (w8.setCell ⟨gn, 4, none⟩ (.slice gu nu cu)) (some rb) from gb_new HG8.out (by omega))
                  have HO9 := Lib.hid (HO8.out.at (w' := w8.setCell ⟨gn, 4, none⟩ (.slice gu nu cu)) fun g hg => heap_setCell_other w8 ⟨gn, 4, none⟩ g (.slice gu nu cu) (fun h => by have := hO8lt g hg; simp at h; omega))
                  have HC9 := Lib.hid (KidsC.keep (S' := fun b => w5.heap.size ≤ b ∧ some b ≠ (Value.slice gu nu cu).ownBlock) (w' := w8.setCell ⟨gn, 4, none⟩ (.slice gu nu cu)) (by simp) (fun b h _ => ⟨h, heap_setCell_other w8 ⟨gn, 4, none⟩ b (.slice gu nu cu) (fun hh => by have := h.1; simp at hh; omega)⟩) _ _ (KidsC.snoc HN8.out cs ts HC8.out))
                  have HW9 := Lib.hid (show w5.heap.size ≤ (w8.setCell ⟨gn, 4, none⟩ (.slice gu nu cu)).heap.size by have := HW8.out; simpa using this)
                  generalize w8.setCell ⟨gn, 4, none⟩ (.slice gu nu cu) = w9 at *
                  clear HN8 HC8 HO8 HG8 HR8 HB08 HBn8 HRd HGd HOd HCd HBnd HB0d HEq
                  go_wp2_with fail
                  go_roundw
                  case rel => exact ⟨j + 1, ts ++ [t], l4, .slice gu nu cu, cs ++ [n0, n1, n2, n3, n4], by omega, by go_num, HR9, HG9, HB09, HBn9, HO9, HC9, by unfold Hid; rw [List.length_append, HTj.out]; rfl, HD2, HW9⟩
                  case measure => simp [intOf]; omega
              · obtain rfl : j = x := by omega
                obtain ⟨gu, nu, cu, rfl⟩ := own_slice HOj.out
                have HE := Lib.hid (show nodeD en (f + 1) l = .ok (.mk (T : Int) 3 0 [] ts, lj) by rw [HDj.out, Nat.sub_self]; simp [repD, repK, fin3])
                have HNd := Lib.hid (show NodeS (fun b => w.heap.size < b) wr (.mk (T : Int) 3 0 [] ts) (.agg #[.int .i64 (T : Int), .int .i64 3, .int .i64 0, .string ⟨#[]⟩, .slice gu nu cu]) from kids_node HOj.out HCj.out HTj.out (fun b h _ => by have := h.1; omega) (fun b h _ => by omega) _ _ _ [] (by simp))
                clear HOj HCj
                have z0 := blk_cell HBnj.out 0
                have z1 := blk_cell HBnj.out 1
                have z2 := blk_cell HBnj.out 2
                have z3 := blk_cell HBnj.out 3
                have z4 := blk_cell HBnj.out 4
                simp at z0 z1 z2 z3 z4
                have v0 := blk_cell HB0j.out 0
                have v1 := blk_cell HB0j.out 1
                have v2 := blk_cell HB0j.out 2
                have v3 := blk_cell HB0j.out 3
                have v4 := blk_cell HB0j.out 4
                simp at v0 v1 v2 v3 v4
                have vf0 := blk_free HB0j.out 0
                have vf1 := blk_free HB0j.out 1
                have vf2 := blk_free HB0j.out 2
                have vf3 := blk_free HB0j.out 3
                have vf4 := blk_free HB0j.out 4
                go_wp2_with fail
                refine bodyPost_ret (v := .agg #[.int .i64 (T : Int), .int .i64 3, .int .i64 0, .string ⟨#[]⟩, .slice gu nu cu]) ?_ rfl (np_ok HE.out rfl HNd.out HRj.out hrb (Nat.le_refl _) HGj.out)
                simp [results, Tryd.results67, go_sem, v0, v1, v2, v3, v4]

end Go.Proofs.YthbfmioikbphgaaDoor
