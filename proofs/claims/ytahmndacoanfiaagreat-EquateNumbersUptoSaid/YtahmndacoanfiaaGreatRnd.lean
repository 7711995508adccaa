/- Rounding: what decimal.Round returns for 0 places. Condition: the limbs can be read, and take at most 2^47 bytes. -/
import Derived.Test.YtahmndacoanfiaaGreatRndA
import Derived.Test.YtahmndacoanfiaaGreatRatD
import Derived.Test.YtahmndacoanfiaaGreatIntD
import Derived.Test.YtahmndacoanfiaaGreatFloat2
import Derived.Test.YtahmndacoanfiaaGreatTail
namespace Go.Proofs.YtahmndacoanfiaaGreat
set_option maxRecDepth 100000
open Go.RowKit

theorem IntN.off4 {B : Nat} {w : World} {v : Value} {z : Int} (h : IntN B w v z) {g g2 : Nat} {cs cs2 : Array Value} {t t2 : TypeId} (hg : w.heap[g]? = some (.cells cs t)) (hc : ∀ (o : Nat) (n : Int), cs[o]? ≠ some (Value.int .u32 n))
    (hg2 : w.heap[g2]? = some (.cells cs2 t2)) (hc2 : ∀ (o : Nat) (n : Int), cs2[o]? ≠ some (Value.int .u32 n)) (v0 v1 v2 v3 : Value) :
    IntN B ((((w.setCell ⟨g, 0, none⟩ v0).setCell ⟨g, 1, none⟩ v1).setCell ⟨g2, 0, none⟩ v2).setCell ⟨g2, 1, none⟩ v3) v z := by
  obtain ⟨a, l, c, rfl, hl, hn⟩ := h
  have o1 := hl.offBlk hg hc
  have o2 := hl.offBlk hg2 hc2
  exact ⟨a, l, c, rfl, (((hl.off o1 0 _).off o1 1 _).off o2 0 _).off o2 1 _, hn⟩
theorem dec_store {B B' g : Nat} {w : World} {b : Bool} {a : Option Addr} {n c : Nat} {z : Int} (h : IntN B w (.agg #[.bool b, .slice a n c]) z) (hg : g < B) (hB : B' ≤ B) (u : Value) :
    IntN B' (((w.setCell ⟨g, 0, none⟩ (.bool b)).setCell ⟨g, 1, none⟩ (.slice a n c)).setCell ⟨g, 2, none⟩ u) (.agg #[.bool b, .slice a n c]) z := by
  obtain ⟨a', n', c', e, h1, h2⟩ := h
  cases e
  exact ⟨a, n, c, rfl, ((h1.off (h2.off hg) 0 _).off (h2.off hg) 1 _).off (h2.off hg) 2 _, h2.mono hB⟩
theorem rat_floor (r : Rat) : r.num * 1 / (r.den : Int) = r.floor := by
  rw [Int.mul_one, mk_floor r.den_nz, Rat.mkRat_self]
theorem rat_frac0 (r : Rat) : fracR r = 0 ↔ r.num * 1 % (r.den : Int) = 0 := by
  rw [Int.mul_one]
  have := frac_zero (p := r.num) r.den_nz
  rwa [Rat.mkRat_self] at this
theorem rat_half (r : Rat) : (r.num * 1 % (r.den : Int) + r.num * 1 % (r.den : Int) - (r.den : Int)).sign = rcmpI (fracR r) (mkRat 1 2) := by
  rw [Int.mul_one]
  have := frac_half (p := r.num) r.den_nz
  rw [Rat.mkRat_self] at this
  exact this.symm
theorem rat_neg (r : Rat) : decide (r.num.sign < 0) = decide (r < 0) := by
  have := neg_mk (p := r.num) r.den_nz
  rw [Rat.mkRat_self] at this
  rcases Int.lt_trichotomy r.num 0 with h | h | h
  · rw [Int.sign_eq_neg_one_of_neg h, decide_eq_true (this.2 h)]; rfl
  · have k : ¬ r < 0 := fun e => by have := this.1 e; omega
    rw [h, decide_eq_false k]; rfl
  · have k : ¬ r < 0 := fun e => by have := this.1 e; omega
    rw [Int.sign_eq_one_of_pos h, decide_eq_false k]; rfl
theorem round_no {m : Int} {r : Rat} (h : upB m r = false) : roundI m r = r.floor := by unfold roundI; rw [h]; simp
theorem round_up {m : Int} {r : Rat} (h : upB m r = true) : roundI m r = r.floor + 1 := by unfold roundI; rw [h]; simp
theorem upB_frac {m : Int} {r : Rat} (h : fracR r ≠ 0) : upM m (rcmpI (fracR r) (mkRat 1 2)) (decide (r < 0)) (oddI r.floor) = upB m r := by unfold upB; rw [decide_eq_false h]; rfl
theorem upB_none {m : Int} {r : Rat} (h : fracR r = 0) : upB m r = false := by unfold upB; rw [decide_eq_true h]; rfl
theorem floor_len (r : Rat) {L : Nat} (h : (digs r.num.natAbs).length ≤ L) : (digs (r.floor).natAbs).length ≤ L + 1 := by
  rw [← rat_floor, Int.mul_one]
  have h1 : (r.num / (r.den : Int)).natAbs ≤ r.num.natAbs + 1 := by
    have hd : (1 : Int) ≤ (r.den : Int) := by have := r.den_pos; omega
    rcases Int.lt_or_le r.num 0 with hn | hn
    · have k1 : r.num ≤ r.num / (r.den : Int) := by
        rw [Int.le_ediv_iff_mul_le (by omega)]
        have := Int.mul_le_mul_of_nonpos_left (Int.le_of_lt hn) hd
        omega
      have k2 : r.num / (r.den : Int) < 0 := Int.ediv_neg_of_neg_of_pos hn (by omega)
      omega
    · have k1 : r.num / (r.den : Int) ≤ r.num := Int.ediv_le_self _ hn
      have k2 : 0 ≤ r.num / (r.den : Int) := Int.ediv_nonneg hn (by omega)
      omega
  refine Nat.le_trans (digs_len_le' h1) (digs_length_le ?_)
  have := lt_of_digs_length h
  rw [Nat.pow_succ]
  have : 1 ≤ 4294967296 ^ L := Nat.one_le_pow _ _ (by omega)
  omega
theorem rest_len (r : Rat) {L : Nat} (h : (digs r.den).length ≤ L) : (digs (r.num * 1 % (r.den : Int)).natAbs).length ≤ L := by
  have hd := r.den_pos
  have k1 := Int.emod_nonneg (r.num * 1) (show (r.den : Int) ≠ 0 by omega)
  have k2 := Int.emod_lt_of_pos (r.num * 1) (show 0 < (r.den : Int) by omega)
  exact Nat.le_trans (digs_len_le' (by omega)) h

set_option maxHeartbeats 600000 in
theorem round_zero (v : Value) (r : Rat) (m : Int) (L : Nat) (w : World) (hv : RatV w v r L) (hL : 1 ≤ L) (hm : (L + 4) * 4 ≤ 140737488355328) (h1 : 1 ≤ m) (h2 : m ≤ 7) (hf : fracR r = 0) :
    Calls Tryz.prog 73 #[v, .int .i64 0, .int .i64 m] w fun e w' => ∃ b s, e = .returned (.tuple #[.agg #[b, s, .int .i64 0], .int .i64 0]) ∧ IntN w.heap.size w' (.agg #[b, s]) (roundI m r) ∧ Below w.heap.size w w' := by
  obtain ⟨p, q, hr, hpq⟩ := hv
  have HR := Lib.hid (show RatV w v r L from ⟨p, q, hr, hpq⟩)
  obtain ⟨neg, a', len', cap', xs, a, len, cap, ys, rfl, -, -, -, -, -, -⟩ := hr
  clear hpq
  have HRd := Lib.hid (round_no (upB_none (m := m) hf))
  have HF0 := Lib.hid ((rat_frac0 r).1 hf)
  clear hf
  go_enter Tryz.func73, Tryz.ntmps73
  go_wp2_with fail
  have hbx : Below w.heap.size w ((w.alloc (.cells #[.bool neg, .slice a' len' cap', .slice a len cap] 28)).alloc (.cells #[.bool false, .slice none 0 0, .int .i64 0] 86)) := (((Below.refl _ _).alloc (Nat.le_refl _) _).alloc (by simp) _)
  generalize hWW : ((w.alloc (.cells #[.bool neg, .slice a' len' cap', .slice a len cap] 28)).alloc (.cells #[.bool false, .slice none 0 0, .int .i64 0] 86)) = w0 at *
  replace HR := Lib.hid (HR.out.below hbx)
  have cA0 : w0.cell? ⟨w.heap.size, 0, none⟩ = some (.bool neg) := by subst hWW; go_simp
  have fA0 : w0.frozen? ⟨w.heap.size, 0, none⟩ = false := by subst hWW; go_simp
  have cA1 : w0.cell? ⟨w.heap.size, 1, none⟩ = some (.slice a' len' cap') := by subst hWW; go_simp
  have fA1 : w0.frozen? ⟨w.heap.size, 1, none⟩ = false := by subst hWW; go_simp
  have cA2 : w0.cell? ⟨w.heap.size, 2, none⟩ = some (.slice a len cap) := by subst hWW; go_simp
  have fA2 : w0.frozen? ⟨w.heap.size, 2, none⟩ = false := by subst hWW; go_simp
  have ltA : w.heap.size < w0.heap.size := by subst hWW; simp <;> omega
  have cR0 : w0.cell? ⟨w.heap.size + 1, 0, none⟩ = some (.bool false) := by subst hWW; go_simp
  have fR0 : w0.frozen? ⟨w.heap.size + 1, 0, none⟩ = false := by subst hWW; go_simp
  have cR1 : w0.cell? ⟨w.heap.size + 1, 1, none⟩ = some (.slice none 0 0) := by subst hWW; go_simp
  have fR1 : w0.frozen? ⟨w.heap.size + 1, 1, none⟩ = false := by subst hWW; go_simp
  have cR2 : w0.cell? ⟨w.heap.size + 1, 2, none⟩ = some (.int .i64 0) := by subst hWW; go_simp
  have fR2 : w0.frozen? ⟨w.heap.size + 1, 2, none⟩ = false := by subst hWW; go_simp
  have ltR : w.heap.size + 1 < w0.heap.size := by subst hWW; simp
  have hB := hbx
  clear hbx hWW
  refine (places_zero _).mono ?_
  rintro e w' ⟨rfl, rfl⟩
  go_wp2_with fail
  refine (mode_ok m _ h1 h2).mono ?_
  rintro e w' ⟨rfl, rfl⟩
  go_wp2_with fail
  have hA0 := ltA
  have hR0 := ltR
  refine (qnorm_any _ r L _ HR.out hL (by omega)).mono ?_
  rintro e w1 ⟨v1, rfl, hv1, hsz, hb⟩
  replace cA0 := bc hb ltA cA0
  replace fA0 := bf hb ltA fA0
  replace cA1 := bc hb ltA cA1
  replace fA1 := bf hb ltA fA1
  replace cA2 := bc hb ltA cA2
  replace fA2 := bf hb ltA fA2
  replace ltA := bl hb ltA
  replace cR0 := bc hb ltR cR0
  replace fR0 := bf hb ltR fR0
  replace cR1 := bc hb ltR cR1
  replace fR1 := bf hb ltR fR1
  replace cR2 := bc hb ltR cR2
  replace fR2 := bf hb ltR fR2
  replace ltR := bl hb ltR
  replace HR := Lib.hid (HR.out.below hb)
  replace hB := hB.trans (hb.mono hB.size)
  obtain ⟨x', l', k', x, l, k, rfl, p1, p2, p3, p4⟩ := hv1
  have hS1 := hsz.1
  have hS2 := hsz.2
  have HI := Lib.hid (show IntR (((w1.setCell ⟨w.heap.size, 0, none⟩ (.bool (decide (r.num < 0)))).setCell ⟨w.heap.size, 1, none⟩ (.slice x' l' k')).setCell ⟨w.heap.size, 2, none⟩ (.slice x l k)) (.agg #[.bool (decide (r.num < 0)), .slice x' l' k']) r.num L from ⟨_, x', l', k', _, rfl, ((p1.off (p2.off hA0) 0 _).off (p2.off hA0) 1 _).off (p2.off hA0) 2 _, by rw [natOf_digs, sgn_self], by rw [← p1.1]; exact hS1⟩)
  have HD := Lib.hid (show Num (((w1.setCell ⟨w.heap.size, 0, none⟩ (.bool (decide (r.num < 0)))).setCell ⟨w.heap.size, 1, none⟩ (.slice x' l' k')).setCell ⟨w.heap.size, 2, none⟩ (.slice x l k)) (.slice x l k) r.den from ⟨_, _, _, rfl, ((p3.off (p4.off hA0) 0 _).off (p4.off hA0) 1 _).off (p4.off hA0) 2 _⟩)
  clear p1 p2 p3 p4 hsz
  generalize decide (r.num < 0) = dn at *
  clear hb
  clear HR
  go_wp2_with fail
  have cB0 : (((w1.setCell ⟨w.heap.size, 0, none⟩ (.bool dn)).setCell ⟨w.heap.size, 1, none⟩ (.slice x' l' k')).setCell ⟨w.heap.size, 2, none⟩ (.slice x l k)).cell? ⟨w.heap.size, 0, none⟩ = some (.bool dn) := by go_simp
  have cB1 : (((w1.setCell ⟨w.heap.size, 0, none⟩ (.bool dn)).setCell ⟨w.heap.size, 1, none⟩ (.slice x' l' k')).setCell ⟨w.heap.size, 2, none⟩ (.slice x l k)).cell? ⟨w.heap.size, 1, none⟩ = some (.slice x' l' k') := by go_simp
  have cB2 : (((w1.setCell ⟨w.heap.size, 0, none⟩ (.bool dn)).setCell ⟨w.heap.size, 1, none⟩ (.slice x' l' k')).setCell ⟨w.heap.size, 2, none⟩ (.slice x l k)).cell? ⟨w.heap.size, 2, none⟩ = some (.slice x l k) := by go_simp
  have cS0 : (((w1.setCell ⟨w.heap.size, 0, none⟩ (.bool dn)).setCell ⟨w.heap.size, 1, none⟩ (.slice x' l' k')).setCell ⟨w.heap.size, 2, none⟩ (.slice x l k)).cell? ⟨w.heap.size + 1, 0, none⟩ = some (.bool false) := by go_simp
  have fS0 : (((w1.setCell ⟨w.heap.size, 0, none⟩ (.bool dn)).setCell ⟨w.heap.size, 1, none⟩ (.slice x' l' k')).setCell ⟨w.heap.size, 2, none⟩ (.slice x l k)).frozen? ⟨w.heap.size + 1, 0, none⟩ = false := by go_simp
  have cS1 : (((w1.setCell ⟨w.heap.size, 0, none⟩ (.bool dn)).setCell ⟨w.heap.size, 1, none⟩ (.slice x' l' k')).setCell ⟨w.heap.size, 2, none⟩ (.slice x l k)).cell? ⟨w.heap.size + 1, 1, none⟩ = some (.slice none 0 0) := by go_simp
  have fS1 : (((w1.setCell ⟨w.heap.size, 0, none⟩ (.bool dn)).setCell ⟨w.heap.size, 1, none⟩ (.slice x' l' k')).setCell ⟨w.heap.size, 2, none⟩ (.slice x l k)).frozen? ⟨w.heap.size + 1, 1, none⟩ = false := by go_simp
  have cS2 : (((w1.setCell ⟨w.heap.size, 0, none⟩ (.bool dn)).setCell ⟨w.heap.size, 1, none⟩ (.slice x' l' k')).setCell ⟨w.heap.size, 2, none⟩ (.slice x l k)).cell? ⟨w.heap.size + 1, 2, none⟩ = some (.int .i64 0) := by go_simp
  have fS2 : (((w1.setCell ⟨w.heap.size, 0, none⟩ (.bool dn)).setCell ⟨w.heap.size, 1, none⟩ (.slice x' l' k')).setCell ⟨w.heap.size, 2, none⟩ (.slice x l k)).frozen? ⟨w.heap.size + 1, 2, none⟩ = false := by go_simp
  have ltB : w.heap.size < (((w1.setCell ⟨w.heap.size, 0, none⟩ (.bool dn)).setCell ⟨w.heap.size, 1, none⟩ (.slice x' l' k')).setCell ⟨w.heap.size, 2, none⟩ (.slice x l k)).heap.size := by simpa using ltA
  have ltS : w.heap.size + 1 < (((w1.setCell ⟨w.heap.size, 0, none⟩ (.bool dn)).setCell ⟨w.heap.size, 1, none⟩ (.slice x' l' k')).setCell ⟨w.heap.size, 2, none⟩ (.slice x l k)).heap.size := by simpa using ltR
  have hB2 := ((hB.setCell (p := ⟨w.heap.size, 0, none⟩) (Nat.le_refl _) (.bool dn)).setCell (p := ⟨w.heap.size, 1, none⟩) (Nat.le_refl _) (.slice x' l' k')).setCell (p := ⟨w.heap.size, 2, none⟩) (Nat.le_refl _) (.slice x l k)
  clear cA0 cA1 cA2 fA0 fA1 fA2 ltA cR0 cR1 cR2 fR0 fR1 fR2 ltR hB
  generalize (((w1.setCell ⟨w.heap.size, 0, none⟩ (.bool dn)).setCell ⟨w.heap.size, 1, none⟩ (.slice x' l' k')).setCell ⟨w.heap.size, 2, none⟩ (.slice x l k)) = w2 at *
  have hB := hB2
  clear hB2
  refine (imake_num false _ r.den _ HD.out (by omega)).mono ?_
  rintro e w3 ⟨v3, rfl, hv3, hb⟩
  replace cB0 := bc hb ltB cB0
  replace cB1 := bc hb ltB cB1
  replace cB2 := bc hb ltB cB2
  replace ltB := bl hb ltB
  replace cS0 := bc hb ltS cS0
  replace fS0 := bf hb ltS fS0
  replace cS1 := bc hb ltS cS1
  replace fS1 := bf hb ltS fS1
  replace cS2 := bc hb ltS cS2
  replace fS2 := bf hb ltS fS2
  replace ltS := bl hb ltS
  replace HI := Lib.hid (HI.out.below hb)
  replace HD := Lib.hid (HD.out.below hb)
  replace hB := hB.trans (hb.mono hB.size)
  rw [show sgn false r.den = (r.den : Int) from rfl] at hv3
  have HDn := Lib.hid (hv3.raw L (by simpa using hS2))
  obtain ⟨a3, n3, c3, rfl, -, -⟩ := hv3
  generalize decide ((r.den : Int) < 0) = dd at *
  clear hb
  clear HD
  go_wp2_with fail
  have hbx : Below w3.heap.size w3 (w3.alloc (.cells #[.bool dd, .slice a3 n3 c3] 26)) := ((Below.refl _ _).alloc (Nat.le_refl _) _)
  generalize hWW : (w3.alloc (.cells #[.bool dd, .slice a3 n3 c3] 26)) = w3a at *
  replace cB0 := bc hbx ltB cB0
  replace cB1 := bc hbx ltB cB1
  replace cB2 := bc hbx ltB cB2
  replace ltB := bl hbx ltB
  replace cS0 := bc hbx ltS cS0
  replace fS0 := bf hbx ltS fS0
  replace cS1 := bc hbx ltS cS1
  replace fS1 := bf hbx ltS fS1
  replace cS2 := bc hbx ltS cS2
  replace fS2 := bf hbx ltS fS2
  replace ltS := bl hbx ltS
  replace HI := Lib.hid (HI.out.below hbx)
  replace HDn := Lib.hid (HDn.out.below hbx)
  have cD0 : w3a.cell? ⟨w3.heap.size, 0, none⟩ = some (.bool dd) := by subst hWW; go_simp
  have cD1 : w3a.cell? ⟨w3.heap.size, 1, none⟩ = some (.slice a3 n3 c3) := by subst hWW; go_simp
  have ltD : w3.heap.size < w3a.heap.size := by subst hWW; simp
  replace hB := hB.trans (hbx.mono hB.size)
  clear hbx hWW
  have SCB0 := Lib.hid cB0
  have SCB1 := Lib.hid cB1
  have SCB2 := Lib.hid cB2
  have SLB := Lib.hid ltB
  have SCS0 := Lib.hid cS0
  have SFS0 := Lib.hid fS0
  have SCS1 := Lib.hid cS1
  have SFS1 := Lib.hid fS1
  have SCS2 := Lib.hid cS2
  have SFS2 := Lib.hid fS2
  have SLS := Lib.hid ltS
  have SCD0 := Lib.hid cD0
  have SCD1 := Lib.hid cD1
  have SLD := Lib.hid ltD
  have SHI := Lib.hid HI.out
  have SHDn := Lib.hid HDn.out
  have SB := Lib.hid hB
  have eB0 := box_ext (B := w3a.heap.size) cB0 ltB
  have eB1 := box_ext (B := w3a.heap.size) cB1 ltB
  have eB2 := box_ext (B := w3a.heap.size) cB2 ltB
  have eS0 := box_ext (B := w3a.heap.size) cS0 ltS
  have eS1 := box_ext (B := w3a.heap.size) cS1 ltS
  have eS2 := box_ext (B := w3a.heap.size) cS2 ltS
  have eD0 := box_ext (B := w3a.heap.size) cD0 ltD
  have eD1 := box_ext (B := w3a.heap.size) cD1 ltD
  refine wp_region_float2 11 12 [(0, false), (1, false), (2, false), (5, false), (3, true), (4, true), (6, true), (7, false), (8, false), (9, false), (10, false)] [(13, true), (14, true), (15, false)] (fun w' => ∃ W : Ext w3a.heap.size w3a, w' = W.1) _ _ 9 10 (.cells #[.bool false, .slice none 0 0] 26) (.cells #[.bool false, .slice none 0 0] 26) w3a.heap.size (by kernel_rfl) rfl rfl rfl rfl rfl rfl (fun a w => by simp [execOp, go_sem, ptr]) (fun a w => by simp [execOp, go_sem, ptr]) (fun w ⟨W, e⟩ => e ▸ W.2.size) (fun w ⟨W, e⟩ => ⟨⟨_, (e ▸ W.2).alloc (e ▸ W.2.size) _⟩, rfl⟩) (fun w ⟨W, e⟩ => ⟨⟨_, (e ▸ W.2).alloc (e ▸ W.2.size) _⟩, rfl⟩) (by decide) (by kernel_rfl) ⟨⟨w3a.drew, (Below.refl _ _).drew⟩, rfl⟩ ?_
  repeat (refine wpFl2_calm rfl (fun K hK => ?_); go_simp; refine hK _ ?_; clear hK K)
  clear eB0 eB1 eB2 eS0 eS1 eS2 eD0 eD1
  have hbx : Below w3a.heap.size w3a w3a.drew := (Below.refl _ _).drew
  have hM := hbx
  replace cB0 := bc hbx ltB cB0
  replace cB1 := bc hbx ltB cB1
  replace cB2 := bc hbx ltB cB2
  replace ltB := bl hbx ltB
  replace cS0 := bc hbx ltS cS0
  replace fS0 := bf hbx ltS fS0
  replace cS1 := bc hbx ltS cS1
  replace fS1 := bf hbx ltS fS1
  replace cS2 := bc hbx ltS cS2
  replace fS2 := bf hbx ltS fS2
  replace ltS := bl hbx ltS
  replace cD0 := bc hbx ltD cD0
  replace cD1 := bc hbx ltD cD1
  replace ltD := bl hbx ltD
  replace HI := Lib.hid (HI.out.below hbx)
  replace HDn := Lib.hid (HDn.out.below hbx)
  replace hB := hB.trans (hbx.mono hB.size)
  clear hbx
  generalize w3a.drew = ww3ad at *
  refine wpFl2_eff rfl rfl (fun wy hC hg K hK => ?_)
  obtain ⟨⟨wz, hE⟩, hwe⟩ := hC
  change wy = wz at hwe
  subst hwe
  replace cB0 := bc hg ltB cB0
  replace cB1 := bc hg ltB cB1
  replace cB2 := bc hg ltB cB2
  replace ltB := bl hg ltB
  replace cS0 := bc hg ltS cS0
  replace fS0 := bf hg ltS fS0
  replace cS1 := bc hg ltS cS1
  replace fS1 := bf hg ltS fS1
  replace cS2 := bc hg ltS cS2
  replace fS2 := bf hg ltS fS2
  replace ltS := bl hg ltS
  replace cD0 := bc hg ltD cD0
  replace cD1 := bc hg ltD cD1
  replace ltD := bl hg ltD
  replace HI := Lib.hid (HI.out.below hg)
  replace HDn := Lib.hid (HDn.out.below hg)
  replace hB := hB.trans (hg.mono hB.size)
  replace hM := hE
  clear hE hg
  go_simp
  refine (power_none _).mono ?_
  rintro e w4 ⟨v4, rfl, hv4, hb⟩
  replace cB0 := bc hb ltB cB0
  replace cB1 := bc hb ltB cB1
  replace cB2 := bc hb ltB cB2
  replace ltB := bl hb ltB
  replace cS0 := bc hb ltS cS0
  replace fS0 := bf hb ltS fS0
  replace cS1 := bc hb ltS cS1
  replace fS1 := bf hb ltS fS1
  replace cS2 := bc hb ltS cS2
  replace fS2 := bf hb ltS fS2
  replace ltS := bl hb ltS
  replace cD0 := bc hb ltD cD0
  replace cD1 := bc hb ltD cD1
  replace ltD := bl hb ltD
  replace HI := Lib.hid (HI.out.below hb)
  replace HDn := Lib.hid (HDn.out.below hb)
  replace hM := hM.trans (hb.mono hM.size)
  replace hB := hB.trans (hb.mono hB.size)
  have HP := Lib.hid (hv4.raw 1 (digs_length_le (by simp)))
  clear hv4
  refine hK _ _ ⟨⟨w4, hM⟩, rfl⟩ hb ?_
  clear hK K hb
  refine wpFl2_eff rfl rfl (fun wy hC hg K hK => ?_)
  obtain ⟨⟨wz, hE⟩, hwe⟩ := hC
  change wy = wz at hwe
  subst hwe
  replace cB0 := bc hg ltB cB0
  replace cB1 := bc hg ltB cB1
  replace cB2 := bc hg ltB cB2
  replace ltB := bl hg ltB
  replace cS0 := bc hg ltS cS0
  replace fS0 := bf hg ltS fS0
  replace cS1 := bc hg ltS cS1
  replace fS1 := bf hg ltS fS1
  replace cS2 := bc hg ltS cS2
  replace fS2 := bf hg ltS fS2
  replace ltS := bl hg ltS
  replace cD0 := bc hg ltD cD0
  replace cD1 := bc hg ltD cD1
  replace ltD := bl hg ltD
  replace HI := Lib.hid (HI.out.below hg)
  replace HDn := Lib.hid (HDn.out.below hg)
  replace HP := Lib.hid (HP.out.below hg)
  replace hB := hB.trans (hg.mono hB.size)
  replace hM := hE
  clear hE hg
  go_simp
  refine (imul_any _ _ _ _ L 1 _ HI.out HP.out (by omega)).mono ?_
  rintro e w5 ⟨v5, rfl, hv5, hb⟩
  replace cB0 := bc hb ltB cB0
  replace cB1 := bc hb ltB cB1
  replace cB2 := bc hb ltB cB2
  replace ltB := bl hb ltB
  replace cS0 := bc hb ltS cS0
  replace fS0 := bf hb ltS fS0
  replace cS1 := bc hb ltS cS1
  replace fS1 := bf hb ltS fS1
  replace cS2 := bc hb ltS cS2
  replace fS2 := bf hb ltS fS2
  replace ltS := bl hb ltS
  replace cD0 := bc hb ltD cD0
  replace cD1 := bc hb ltD cD1
  replace ltD := bl hb ltD
  replace HI := Lib.hid (HI.out.below hb)
  replace HDn := Lib.hid (HDn.out.below hb)
  replace HP := Lib.hid (HP.out.below hb)
  replace hM := hM.trans (hb.mono hM.size)
  replace hB := hB.trans (hb.mono hB.size)
  have HV5 := Lib.hid (hv5.raw (L + 1) (by rw [Int.mul_one]; omega))
  clear hv5
  refine hK _ _ ⟨⟨w5, hM⟩, rfl⟩ hb ?_
  clear hK K hb
  skip
  refine wpFl2_eff rfl rfl (fun wy hC hg K hK => ?_)
  obtain ⟨⟨wz, hE⟩, hwe⟩ := hC
  change wy = wz at hwe
  subst hwe
  replace cB0 := bc hg ltB cB0
  replace cB1 := bc hg ltB cB1
  replace cB2 := bc hg ltB cB2
  replace ltB := bl hg ltB
  replace cS0 := bc hg ltS cS0
  replace fS0 := bf hg ltS fS0
  replace cS1 := bc hg ltS cS1
  replace fS1 := bf hg ltS fS1
  replace cS2 := bc hg ltS cS2
  replace fS2 := bf hg ltS fS2
  replace ltS := bl hg ltS
  replace cD0 := bc hg ltD cD0
  replace cD1 := bc hg ltD cD1
  replace ltD := bl hg ltD
  replace HI := Lib.hid (HI.out.below hg)
  replace HDn := Lib.hid (HDn.out.below hg)
  replace HP := Lib.hid (HP.out.below hg)
  replace HV5 := Lib.hid (HV5.out.below hg)
  replace hB := hB.trans (hg.mono hB.size)
  replace hM := hE
  clear hE hg
  go_simp
  have hsB' : w.heap.size + 2 ≤ wy.heap.size := ltS
  refine (idivmod_any _ _ _ _ (L + 1) _ HV5.out (HDn.out.mono (by omega)) (by have := r.den_pos; omega) (by omega)).mono ?_
  rintro e w6 ⟨vq, vs, rfl, hq, hs, hb⟩
  replace cB0 := bc hb ltB cB0
  replace cB1 := bc hb ltB cB1
  replace cB2 := bc hb ltB cB2
  replace ltB := bl hb ltB
  replace cS0 := bc hb ltS cS0
  replace fS0 := bf hb ltS fS0
  replace cS1 := bc hb ltS cS1
  replace fS1 := bf hb ltS fS1
  replace cS2 := bc hb ltS cS2
  replace fS2 := bf hb ltS fS2
  replace ltS := bl hb ltS
  replace cD0 := bc hb ltD cD0
  replace cD1 := bc hb ltD cD1
  replace ltD := bl hb ltD
  replace HI := Lib.hid (HI.out.below hb)
  replace HDn := Lib.hid (HDn.out.below hb)
  replace HP := Lib.hid (HP.out.below hb)
  replace HV5 := Lib.hid (HV5.out.below hb)
  replace hM := hM.trans (hb.mono hM.size)
  replace hB := hB.trans (hb.mono hB.size)
  rw [rat_floor] at hq
  have HQ := Lib.hid (hq.mono hsB')
  have HS := Lib.hid (hs.mono hsB')
  obtain ⟨aq, nq, cq, rfl, -, -⟩ := hq
  obtain ⟨az, nz, cz, rfl, -, -⟩ := hs
  generalize decide (r.floor < 0) = dq at *
  generalize decide (r.num * 1 % (r.den : Int) < 0) = ds at *
  refine hK _ _ ⟨⟨w6, hM⟩, rfl⟩ hb ?_
  clear hK K hb
  clear HP HV5
  repeat (refine wpFl2_calm rfl (fun K hK => ?_); go_simp; refine hK _ ?_; clear hK K)
  refine wpFl2_nil fun gQ gE wy hC hg hBk hBk2 hge hge2 hgn => ?_
  obtain ⟨⟨wz, hE⟩, hwe⟩ := hC
  change wy = wz at hwe
  subst hwe
  replace cB0 := bc hg ltB cB0
  replace cB1 := bc hg ltB cB1
  replace cB2 := bc hg ltB cB2
  replace ltB := bl hg ltB
  replace cS0 := bc hg ltS cS0
  replace fS0 := bf hg ltS fS0
  replace cS1 := bc hg ltS cS1
  replace fS1 := bf hg ltS fS1
  replace cS2 := bc hg ltS cS2
  replace fS2 := bf hg ltS fS2
  replace ltS := bl hg ltS
  replace cD0 := bc hg ltD cD0
  replace cD1 := bc hg ltD cD1
  replace ltD := bl hg ltD
  replace HI := Lib.hid (HI.out.below hg)
  replace HDn := Lib.hid (HDn.out.below hg)
  replace HQ := Lib.hid (HQ.out.below hg)
  replace HS := Lib.hid (HS.out.below hg)
  replace hB := hB.trans (hg.mono hB.size)
  replace hM := hE
  clear hE hg
  have z0 := blk_cell hBk 0
  have y0 := blk_free hBk 0
  have z1 := blk_cell hBk 1
  have y1 := blk_free hBk 1
  have v0 := blk_cell hBk2 0
  have u0 := blk_free hBk2 0
  have v1 := blk_cell hBk2 1
  have u1 := blk_free hBk2 1
  simp at z0 z1 v0 v1
  have hgl := blk_lt hBk
  have hgl2 := blk_lt hBk2
  have hgn2 := Ne.symm hgn
  refine wpSched_eff rfl rfl (fun K hK => ?_)
  go_simp
  refine hK _ _ ⟨⟨_, ((hM.setCell (p := ⟨gQ, 0, none⟩) hge _).setCell (p := ⟨gQ, 1, none⟩) hge _)⟩, rfl⟩ ?_
  clear hK K
  refine wpSched_eff rfl rfl (fun K hK => ?_)
  go_simp
  refine hK _ _ ⟨⟨_, ((((hM.setCell (p := ⟨gQ, 0, none⟩) hge _).setCell (p := ⟨gQ, 1, none⟩) hge _).setCell (p := ⟨gE, 0, none⟩) hge2 _).setCell (p := ⟨gE, 1, none⟩) hge2 _)⟩, rfl⟩ ?_
  clear hK K
  repeat (refine wpSched_calm rfl (fun K hK => ?_); go_simp; refine hK _ ?_; clear hK K)
  refine wpSched_nil ?_
  have hMn := ((((hM.setCell (p := ⟨gQ, 0, none⟩) hge (.bool dq)).setCell (p := ⟨gQ, 1, none⟩) hge (.slice aq nq cq)).setCell (p := ⟨gE, 0, none⟩) hge2 (.bool ds)).setCell (p := ⟨gE, 1, none⟩) hge2 (.slice az nz cz))
  replace HQ := Lib.hid (HQ.out.off4 hBk zInt_no hBk2 zInt_no (.bool dq) (.slice aq nq cq) (.bool ds) (.slice az nz cz))
  replace HS := Lib.hid (HS.out.off4 hBk zInt_no hBk2 zInt_no (.bool dq) (.slice aq nq cq) (.bool ds) (.slice az nz cz))
  replace cB0 := bc hMn SLB.out SCB0.out
  replace cB1 := bc hMn SLB.out SCB1.out
  replace cB2 := bc hMn SLB.out SCB2.out
  replace ltB := bl hMn SLB.out
  replace cS0 := bc hMn SLS.out SCS0.out
  replace fS0 := bf hMn SLS.out SFS0.out
  replace cS1 := bc hMn SLS.out SCS1.out
  replace fS1 := bf hMn SLS.out SFS1.out
  replace cS2 := bc hMn SLS.out SCS2.out
  replace fS2 := bf hMn SLS.out SFS2.out
  replace ltS := bl hMn SLS.out
  replace cD0 := bc hMn SLD.out SCD0.out
  replace cD1 := bc hMn SLD.out SCD1.out
  replace ltD := bl hMn SLD.out
  replace HI := Lib.hid (SHI.out.below hMn)
  replace HDn := Lib.hid (SHDn.out.below hMn)
  replace hB := SB.out.trans (hMn.mono SB.out.size)
  have cQ0 : ((((wy.setCell ⟨gQ, 0, none⟩ (.bool dq)).setCell ⟨gQ, 1, none⟩ (.slice aq nq cq)).setCell ⟨gE, 0, none⟩ (.bool ds)).setCell ⟨gE, 1, none⟩ (.slice az nz cz)).cell? ⟨gQ, 0, none⟩ = some (.bool dq) := by go_simp
  have fQ0 : ((((wy.setCell ⟨gQ, 0, none⟩ (.bool dq)).setCell ⟨gQ, 1, none⟩ (.slice aq nq cq)).setCell ⟨gE, 0, none⟩ (.bool ds)).setCell ⟨gE, 1, none⟩ (.slice az nz cz)).frozen? ⟨gQ, 0, none⟩ = false := by go_simp
  have cQ1 : ((((wy.setCell ⟨gQ, 0, none⟩ (.bool dq)).setCell ⟨gQ, 1, none⟩ (.slice aq nq cq)).setCell ⟨gE, 0, none⟩ (.bool ds)).setCell ⟨gE, 1, none⟩ (.slice az nz cz)).cell? ⟨gQ, 1, none⟩ = some (.slice aq nq cq) := by go_simp
  have fQ1 : ((((wy.setCell ⟨gQ, 0, none⟩ (.bool dq)).setCell ⟨gQ, 1, none⟩ (.slice aq nq cq)).setCell ⟨gE, 0, none⟩ (.bool ds)).setCell ⟨gE, 1, none⟩ (.slice az nz cz)).frozen? ⟨gQ, 1, none⟩ = false := by go_simp
  have ltQ : gQ < ((((wy.setCell ⟨gQ, 0, none⟩ (.bool dq)).setCell ⟨gQ, 1, none⟩ (.slice aq nq cq)).setCell ⟨gE, 0, none⟩ (.bool ds)).setCell ⟨gE, 1, none⟩ (.slice az nz cz)).heap.size := by simpa using hgl
  have cE0 : ((((wy.setCell ⟨gQ, 0, none⟩ (.bool dq)).setCell ⟨gQ, 1, none⟩ (.slice aq nq cq)).setCell ⟨gE, 0, none⟩ (.bool ds)).setCell ⟨gE, 1, none⟩ (.slice az nz cz)).cell? ⟨gE, 0, none⟩ = some (.bool ds) := by go_simp
  have fE0 : ((((wy.setCell ⟨gQ, 0, none⟩ (.bool dq)).setCell ⟨gQ, 1, none⟩ (.slice aq nq cq)).setCell ⟨gE, 0, none⟩ (.bool ds)).setCell ⟨gE, 1, none⟩ (.slice az nz cz)).frozen? ⟨gE, 0, none⟩ = false := by go_simp
  have cE1 : ((((wy.setCell ⟨gQ, 0, none⟩ (.bool dq)).setCell ⟨gQ, 1, none⟩ (.slice aq nq cq)).setCell ⟨gE, 0, none⟩ (.bool ds)).setCell ⟨gE, 1, none⟩ (.slice az nz cz)).cell? ⟨gE, 1, none⟩ = some (.slice az nz cz) := by go_simp
  have fE1 : ((((wy.setCell ⟨gQ, 0, none⟩ (.bool dq)).setCell ⟨gQ, 1, none⟩ (.slice aq nq cq)).setCell ⟨gE, 0, none⟩ (.bool ds)).setCell ⟨gE, 1, none⟩ (.slice az nz cz)).frozen? ⟨gE, 1, none⟩ = false := by go_simp
  have ltE : gE < ((((wy.setCell ⟨gQ, 0, none⟩ (.bool dq)).setCell ⟨gQ, 1, none⟩ (.slice aq nq cq)).setCell ⟨gE, 0, none⟩ (.bool ds)).setCell ⟨gE, 1, none⟩ (.slice az nz cz)).heap.size := by simpa using hgl2
  have neQB : w.heap.size < gQ := Nat.lt_of_lt_of_le SLB.out hge
  have neEB : w.heap.size < gE := Nat.lt_of_lt_of_le SLB.out hge2
  have neQS : w.heap.size + 1 < gQ := Nat.lt_of_lt_of_le SLS.out hge
  have neES : w.heap.size + 1 < gE := Nat.lt_of_lt_of_le SLS.out hge2
  have neQD : w3.heap.size < gQ := Nat.lt_of_lt_of_le SLD.out hge
  have neED : w3.heap.size < gE := Nat.lt_of_lt_of_le SLD.out hge2
  clear SCB0 SCB1 SCB2 SLB SCS0 SFS0 SCS1 SFS1 SCS2 SFS2 SLS SCD0 SCD1 SLD SHI SHDn SB
  clear hMn hM hBk hBk2 hgl hgl2 z0 y0 z1 y1 v0 u0 v1 u1
  go_wp2_with fail
  generalize ((((wy.setCell ⟨gQ, 0, none⟩ (.bool dq)).setCell ⟨gQ, 1, none⟩ (.slice aq nq cq)).setCell ⟨gE, 0, none⟩ (.bool ds)).setCell ⟨gE, 1, none⟩ (.slice az nz cz)) = w7 at *
  refine (isign_any _ _ L _ (HS.out.raw L (rest_len r hS2))).mono ?_
  rintro e w8 ⟨rfl, hb⟩
  replace cB0 := bc hb ltB cB0
  replace cB1 := bc hb ltB cB1
  replace cB2 := bc hb ltB cB2
  replace ltB := bl hb ltB
  replace cS0 := bc hb ltS cS0
  replace fS0 := bf hb ltS fS0
  replace cS1 := bc hb ltS cS1
  replace fS1 := bf hb ltS fS1
  replace cS2 := bc hb ltS cS2
  replace fS2 := bf hb ltS fS2
  replace ltS := bl hb ltS
  replace cD0 := bc hb ltD cD0
  replace cD1 := bc hb ltD cD1
  replace ltD := bl hb ltD
  replace cQ0 := bc hb ltQ cQ0
  replace fQ0 := bf hb ltQ fQ0
  replace cQ1 := bc hb ltQ cQ1
  replace fQ1 := bf hb ltQ fQ1
  replace ltQ := bl hb ltQ
  replace cE0 := bc hb ltE cE0
  replace fE0 := bf hb ltE fE0
  replace cE1 := bc hb ltE cE1
  replace fE1 := bf hb ltE fE1
  replace ltE := bl hb ltE
  replace HI := Lib.hid (HI.out.below hb)
  replace HDn := Lib.hid (HDn.out.below hb)
  replace HQ := Lib.hid (HQ.out.below hb)
  replace HS := Lib.hid (HS.out.below hb)
  replace hB := hB.trans (hb.mono hB.size)
  rw [HF0.out]
  clear hb
  have HF := HQ
  have HFin := Lib.hid (dec_store (B' := w.heap.size) (g := w.heap.size + 1) HF.out (by omega) (by omega) (.int .i64 0))
  go_wp2_with fail
  exact bodyPost_ret (v := .tuple #[.agg #[.bool dq, .slice aq nq cq, .int .i64 0], .int .i64 0]) (by simp [results, Tryz.results73, go_sem, cS0, cS1, cS2]) rfl ⟨_, _, rfl, by rw [HRd.out]; exact HFin.out, ((hB.setCell (p := ⟨w.heap.size + 1, 0, none⟩) (by simp) _).setCell (p := ⟨w.heap.size + 1, 1, none⟩) (by simp) _).setCell (p := ⟨w.heap.size + 1, 2, none⟩) (by simp) _⟩

set_option maxHeartbeats 600000 in
theorem round_no' (v : Value) (r : Rat) (m : Int) (L : Nat) (w : World) (hv : RatV w v r L) (hL : 1 ≤ L) (hm : (L + 4) * 4 ≤ 140737488355328) (h1 : 1 ≤ m) (h2 : m ≤ 7) (hf0 : fracR r ≠ 0) (hu : upB m r = false) :
    Calls Tryz.prog 73 #[v, .int .i64 0, .int .i64 m] w fun e w' => ∃ b s, e = .returned (.tuple #[.agg #[b, s, .int .i64 0], .int .i64 0]) ∧ IntN w.heap.size w' (.agg #[b, s]) (roundI m r) ∧ Below w.heap.size w w' := by
  obtain ⟨p, q, hr, hpq⟩ := hv
  have HR := Lib.hid (show RatV w v r L from ⟨p, q, hr, hpq⟩)
  obtain ⟨neg, a', len', cap', xs, a, len, cap, ys, rfl, -, -, -, -, -, -⟩ := hr
  clear hpq
  have HRd := Lib.hid (round_no (m := m) hu)
  have hsn : ((r.num * 1 % (r.den : Int)).sign == 0) = false := by
    rw [beq_eq_false_iff_ne, Ne, Int.sign_eq_zero_iff_zero, ← rat_frac0]; exact hf0
  have HUp := Lib.hid ((upB_frac (m := m) hf0).trans hu)
  clear hf0 hu
  go_enter Tryz.func73, Tryz.ntmps73
  go_wp2_with fail
  have hbx : Below w.heap.size w ((w.alloc (.cells #[.bool neg, .slice a' len' cap', .slice a len cap] 28)).alloc (.cells #[.bool false, .slice none 0 0, .int .i64 0] 86)) := (((Below.refl _ _).alloc (Nat.le_refl _) _).alloc (by simp) _)
  generalize hWW : ((w.alloc (.cells #[.bool neg, .slice a' len' cap', .slice a len cap] 28)).alloc (.cells #[.bool false, .slice none 0 0, .int .i64 0] 86)) = w0 at *
  replace HR := Lib.hid (HR.out.below hbx)
  have cA0 : w0.cell? ⟨w.heap.size, 0, none⟩ = some (.bool neg) := by subst hWW; go_simp
  have fA0 : w0.frozen? ⟨w.heap.size, 0, none⟩ = false := by subst hWW; go_simp
  have cA1 : w0.cell? ⟨w.heap.size, 1, none⟩ = some (.slice a' len' cap') := by subst hWW; go_simp
  have fA1 : w0.frozen? ⟨w.heap.size, 1, none⟩ = false := by subst hWW; go_simp
  have cA2 : w0.cell? ⟨w.heap.size, 2, none⟩ = some (.slice a len cap) := by subst hWW; go_simp
  have fA2 : w0.frozen? ⟨w.heap.size, 2, none⟩ = false := by subst hWW; go_simp
  have ltA : w.heap.size < w0.heap.size := by subst hWW; simp <;> omega
  have cR0 : w0.cell? ⟨w.heap.size + 1, 0, none⟩ = some (.bool false) := by subst hWW; go_simp
  have fR0 : w0.frozen? ⟨w.heap.size + 1, 0, none⟩ = false := by subst hWW; go_simp
  have cR1 : w0.cell? ⟨w.heap.size + 1, 1, none⟩ = some (.slice none 0 0) := by subst hWW; go_simp
  have fR1 : w0.frozen? ⟨w.heap.size + 1, 1, none⟩ = false := by subst hWW; go_simp
  have cR2 : w0.cell? ⟨w.heap.size + 1, 2, none⟩ = some (.int .i64 0) := by subst hWW; go_simp
  have fR2 : w0.frozen? ⟨w.heap.size + 1, 2, none⟩ = false := by subst hWW; go_simp
  have ltR : w.heap.size + 1 < w0.heap.size := by subst hWW; simp
  have hB := hbx
  clear hbx hWW
  refine (places_zero _).mono ?_
  rintro e w' ⟨rfl, rfl⟩
  go_wp2_with fail
  refine (mode_ok m _ h1 h2).mono ?_
  rintro e w' ⟨rfl, rfl⟩
  go_wp2_with fail
  have hA0 := ltA
  have hR0 := ltR
  refine (qnorm_any _ r L _ HR.out hL (by omega)).mono ?_
  rintro e w1 ⟨v1, rfl, hv1, hsz, hb⟩
  replace cA0 := bc hb ltA cA0
  replace fA0 := bf hb ltA fA0
  replace cA1 := bc hb ltA cA1
  replace fA1 := bf hb ltA fA1
  replace cA2 := bc hb ltA cA2
  replace fA2 := bf hb ltA fA2
  replace ltA := bl hb ltA
  replace cR0 := bc hb ltR cR0
  replace fR0 := bf hb ltR fR0
  replace cR1 := bc hb ltR cR1
  replace fR1 := bf hb ltR fR1
  replace cR2 := bc hb ltR cR2
  replace fR2 := bf hb ltR fR2
  replace ltR := bl hb ltR
  replace HR := Lib.hid (HR.out.below hb)
  replace hB := hB.trans (hb.mono hB.size)
  obtain ⟨x', l', k', x, l, k, rfl, p1, p2, p3, p4⟩ := hv1
  have hS1 := hsz.1
  have hS2 := hsz.2
  have HI := Lib.hid (show IntR (((w1.setCell ⟨w.heap.size, 0, none⟩ (.bool (decide (r.num < 0)))).setCell ⟨w.heap.size, 1, none⟩ (.slice x' l' k')).setCell ⟨w.heap.size, 2, none⟩ (.slice x l k)) (.agg #[.bool (decide (r.num < 0)), .slice x' l' k']) r.num L from ⟨_, x', l', k', _, rfl, ((p1.off (p2.off hA0) 0 _).off (p2.off hA0) 1 _).off (p2.off hA0) 2 _, by rw [natOf_digs, sgn_self], by rw [← p1.1]; exact hS1⟩)
  have HD := Lib.hid (show Num (((w1.setCell ⟨w.heap.size, 0, none⟩ (.bool (decide (r.num < 0)))).setCell ⟨w.heap.size, 1, none⟩ (.slice x' l' k')).setCell ⟨w.heap.size, 2, none⟩ (.slice x l k)) (.slice x l k) r.den from ⟨_, _, _, rfl, ((p3.off (p4.off hA0) 0 _).off (p4.off hA0) 1 _).off (p4.off hA0) 2 _⟩)
  clear p1 p2 p3 p4 hsz
  generalize decide (r.num < 0) = dn at *
  clear hb
  clear HR
  go_wp2_with fail
  have cB0 : (((w1.setCell ⟨w.heap.size, 0, none⟩ (.bool dn)).setCell ⟨w.heap.size, 1, none⟩ (.slice x' l' k')).setCell ⟨w.heap.size, 2, none⟩ (.slice x l k)).cell? ⟨w.heap.size, 0, none⟩ = some (.bool dn) := by go_simp
  have cB1 : (((w1.setCell ⟨w.heap.size, 0, none⟩ (.bool dn)).setCell ⟨w.heap.size, 1, none⟩ (.slice x' l' k')).setCell ⟨w.heap.size, 2, none⟩ (.slice x l k)).cell? ⟨w.heap.size, 1, none⟩ = some (.slice x' l' k') := by go_simp
  have cB2 : (((w1.setCell ⟨w.heap.size, 0, none⟩ (.bool dn)).setCell ⟨w.heap.size, 1, none⟩ (.slice x' l' k')).setCell ⟨w.heap.size, 2, none⟩ (.slice x l k)).cell? ⟨w.heap.size, 2, none⟩ = some (.slice x l k) := by go_simp
  have cS0 : (((w1.setCell ⟨w.heap.size, 0, none⟩ (.bool dn)).setCell ⟨w.heap.size, 1, none⟩ (.slice x' l' k')).setCell ⟨w.heap.size, 2, none⟩ (.slice x l k)).cell? ⟨w.heap.size + 1, 0, none⟩ = some (.bool false) := by go_simp
  have fS0 : (((w1.setCell ⟨w.heap.size, 0, none⟩ (.bool dn)).setCell ⟨w.heap.size, 1, none⟩ (.slice x' l' k')).setCell ⟨w.heap.size, 2, none⟩ (.slice x l k)).frozen? ⟨w.heap.size + 1, 0, none⟩ = false := by go_simp
  have cS1 : (((w1.setCell ⟨w.heap.size, 0, none⟩ (.bool dn)).setCell ⟨w.heap.size, 1, none⟩ (.slice x' l' k')).setCell ⟨w.heap.size, 2, none⟩ (.slice x l k)).cell? ⟨w.heap.size + 1, 1, none⟩ = some (.slice none 0 0) := by go_simp
  have fS1 : (((w1.setCell ⟨w.heap.size, 0, none⟩ (.bool dn)).setCell ⟨w.heap.size, 1, none⟩ (.slice x' l' k')).setCell ⟨w.heap.size, 2, none⟩ (.slice x l k)).frozen? ⟨w.heap.size + 1, 1, none⟩ = false := by go_simp
  have cS2 : (((w1.setCell ⟨w.heap.size, 0, none⟩ (.bool dn)).setCell ⟨w.heap.size, 1, none⟩ (.slice x' l' k')).setCell ⟨w.heap.size, 2, none⟩ (.slice x l k)).cell? ⟨w.heap.size + 1, 2, none⟩ = some (.int .i64 0) := by go_simp
  have fS2 : (((w1.setCell ⟨w.heap.size, 0, none⟩ (.bool dn)).setCell ⟨w.heap.size, 1, none⟩ (.slice x' l' k')).setCell ⟨w.heap.size, 2, none⟩ (.slice x l k)).frozen? ⟨w.heap.size + 1, 2, none⟩ = false := by go_simp
  have ltB : w.heap.size < (((w1.setCell ⟨w.heap.size, 0, none⟩ (.bool dn)).setCell ⟨w.heap.size, 1, none⟩ (.slice x' l' k')).setCell ⟨w.heap.size, 2, none⟩ (.slice x l k)).heap.size := by simpa using ltA
  have ltS : w.heap.size + 1 < (((w1.setCell ⟨w.heap.size, 0, none⟩ (.bool dn)).setCell ⟨w.heap.size, 1, none⟩ (.slice x' l' k')).setCell ⟨w.heap.size, 2, none⟩ (.slice x l k)).heap.size := by simpa using ltR
  have hB2 := ((hB.setCell (p := ⟨w.heap.size, 0, none⟩) (Nat.le_refl _) (.bool dn)).setCell (p := ⟨w.heap.size, 1, none⟩) (Nat.le_refl _) (.slice x' l' k')).setCell (p := ⟨w.heap.size, 2, none⟩) (Nat.le_refl _) (.slice x l k)
  clear cA0 cA1 cA2 fA0 fA1 fA2 ltA cR0 cR1 cR2 fR0 fR1 fR2 ltR hB
  generalize (((w1.setCell ⟨w.heap.size, 0, none⟩ (.bool dn)).setCell ⟨w.heap.size, 1, none⟩ (.slice x' l' k')).setCell ⟨w.heap.size, 2, none⟩ (.slice x l k)) = w2 at *
  have hB := hB2
  clear hB2
  refine (imake_num false _ r.den _ HD.out (by omega)).mono ?_
  rintro e w3 ⟨v3, rfl, hv3, hb⟩
  replace cB0 := bc hb ltB cB0
  replace cB1 := bc hb ltB cB1
  replace cB2 := bc hb ltB cB2
  replace ltB := bl hb ltB
  replace cS0 := bc hb ltS cS0
  replace fS0 := bf hb ltS fS0
  replace cS1 := bc hb ltS cS1
  replace fS1 := bf hb ltS fS1
  replace cS2 := bc hb ltS cS2
  replace fS2 := bf hb ltS fS2
  replace ltS := bl hb ltS
  replace HI := Lib.hid (HI.out.below hb)
  replace HD := Lib.hid (HD.out.below hb)
  replace hB := hB.trans (hb.mono hB.size)
  rw [show sgn false r.den = (r.den : Int) from rfl] at hv3
  have HDn := Lib.hid (hv3.raw L (by simpa using hS2))
  obtain ⟨a3, n3, c3, rfl, -, -⟩ := hv3
  generalize decide ((r.den : Int) < 0) = dd at *
  clear hb
  clear HD
  go_wp2_with fail
  have hbx : Below w3.heap.size w3 (w3.alloc (.cells #[.bool dd, .slice a3 n3 c3] 26)) := ((Below.refl _ _).alloc (Nat.le_refl _) _)
  generalize hWW : (w3.alloc (.cells #[.bool dd, .slice a3 n3 c3] 26)) = w3a at *
  replace cB0 := bc hbx ltB cB0
  replace cB1 := bc hbx ltB cB1
  replace cB2 := bc hbx ltB cB2
  replace ltB := bl hbx ltB
  replace cS0 := bc hbx ltS cS0
  replace fS0 := bf hbx ltS fS0
  replace cS1 := bc hbx ltS cS1
  replace fS1 := bf hbx ltS fS1
  replace cS2 := bc hbx ltS cS2
  replace fS2 := bf hbx ltS fS2
  replace ltS := bl hbx ltS
  replace HI := Lib.hid (HI.out.below hbx)
  replace HDn := Lib.hid (HDn.out.below hbx)
  have cD0 : w3a.cell? ⟨w3.heap.size, 0, none⟩ = some (.bool dd) := by subst hWW; go_simp
  have cD1 : w3a.cell? ⟨w3.heap.size, 1, none⟩ = some (.slice a3 n3 c3) := by subst hWW; go_simp
  have ltD : w3.heap.size < w3a.heap.size := by subst hWW; simp
  replace hB := hB.trans (hbx.mono hB.size)
  clear hbx hWW
  have SCB0 := Lib.hid cB0
  have SCB1 := Lib.hid cB1
  have SCB2 := Lib.hid cB2
  have SLB := Lib.hid ltB
  have SCS0 := Lib.hid cS0
  have SFS0 := Lib.hid fS0
  have SCS1 := Lib.hid cS1
  have SFS1 := Lib.hid fS1
  have SCS2 := Lib.hid cS2
  have SFS2 := Lib.hid fS2
  have SLS := Lib.hid ltS
  have SCD0 := Lib.hid cD0
  have SCD1 := Lib.hid cD1
  have SLD := Lib.hid ltD
  have SHI := Lib.hid HI.out
  have SHDn := Lib.hid HDn.out
  have SB := Lib.hid hB
  have eB0 := box_ext (B := w3a.heap.size) cB0 ltB
  have eB1 := box_ext (B := w3a.heap.size) cB1 ltB
  have eB2 := box_ext (B := w3a.heap.size) cB2 ltB
  have eS0 := box_ext (B := w3a.heap.size) cS0 ltS
  have eS1 := box_ext (B := w3a.heap.size) cS1 ltS
  have eS2 := box_ext (B := w3a.heap.size) cS2 ltS
  have eD0 := box_ext (B := w3a.heap.size) cD0 ltD
  have eD1 := box_ext (B := w3a.heap.size) cD1 ltD
  refine wp_region_float2 11 12 [(0, false), (1, false), (2, false), (5, false), (3, true), (4, true), (6, true), (7, false), (8, false), (9, false), (10, false)] [(13, true), (14, true), (15, false)] (fun w' => ∃ W : Ext w3a.heap.size w3a, w' = W.1) _ _ 9 10 (.cells #[.bool false, .slice none 0 0] 26) (.cells #[.bool false, .slice none 0 0] 26) w3a.heap.size (by kernel_rfl) rfl rfl rfl rfl rfl rfl (fun a w => by simp [execOp, go_sem, ptr]) (fun a w => by simp [execOp, go_sem, ptr]) (fun w ⟨W, e⟩ => e ▸ W.2.size) (fun w ⟨W, e⟩ => ⟨⟨_, (e ▸ W.2).alloc (e ▸ W.2.size) _⟩, rfl⟩) (fun w ⟨W, e⟩ => ⟨⟨_, (e ▸ W.2).alloc (e ▸ W.2.size) _⟩, rfl⟩) (by decide) (by kernel_rfl) ⟨⟨w3a.drew, (Below.refl _ _).drew⟩, rfl⟩ ?_
  repeat (refine wpFl2_calm rfl (fun K hK => ?_); go_simp; refine hK _ ?_; clear hK K)
  clear eB0 eB1 eB2 eS0 eS1 eS2 eD0 eD1
  have hbx : Below w3a.heap.size w3a w3a.drew := (Below.refl _ _).drew
  have hM := hbx
  replace cB0 := bc hbx ltB cB0
  replace cB1 := bc hbx ltB cB1
  replace cB2 := bc hbx ltB cB2
  replace ltB := bl hbx ltB
  replace cS0 := bc hbx ltS cS0
  replace fS0 := bf hbx ltS fS0
  replace cS1 := bc hbx ltS cS1
  replace fS1 := bf hbx ltS fS1
  replace cS2 := bc hbx ltS cS2
  replace fS2 := bf hbx ltS fS2
  replace ltS := bl hbx ltS
  replace cD0 := bc hbx ltD cD0
  replace cD1 := bc hbx ltD cD1
  replace ltD := bl hbx ltD
  replace HI := Lib.hid (HI.out.below hbx)
  replace HDn := Lib.hid (HDn.out.below hbx)
  replace hB := hB.trans (hbx.mono hB.size)
  clear hbx
  generalize w3a.drew = ww3ad at *
  refine wpFl2_eff rfl rfl (fun wy hC hg K hK => ?_)
  obtain ⟨⟨wz, hE⟩, hwe⟩ := hC
  change wy = wz at hwe
  subst hwe
  replace cB0 := bc hg ltB cB0
  replace cB1 := bc hg ltB cB1
  replace cB2 := bc hg ltB cB2
  replace ltB := bl hg ltB
  replace cS0 := bc hg ltS cS0
  replace fS0 := bf hg ltS fS0
  replace cS1 := bc hg ltS cS1
  replace fS1 := bf hg ltS fS1
  replace cS2 := bc hg ltS cS2
  replace fS2 := bf hg ltS fS2
  replace ltS := bl hg ltS
  replace cD0 := bc hg ltD cD0
  replace cD1 := bc hg ltD cD1
  replace ltD := bl hg ltD
  replace HI := Lib.hid (HI.out.below hg)
  replace HDn := Lib.hid (HDn.out.below hg)
  replace hB := hB.trans (hg.mono hB.size)
  replace hM := hE
  clear hE hg
  go_simp
  refine (power_none _).mono ?_
  rintro e w4 ⟨v4, rfl, hv4, hb⟩
  replace cB0 := bc hb ltB cB0
  replace cB1 := bc hb ltB cB1
  replace cB2 := bc hb ltB cB2
  replace ltB := bl hb ltB
  replace cS0 := bc hb ltS cS0
  replace fS0 := bf hb ltS fS0
  replace cS1 := bc hb ltS cS1
  replace fS1 := bf hb ltS fS1
  replace cS2 := bc hb ltS cS2
  replace fS2 := bf hb ltS fS2
  replace ltS := bl hb ltS
  replace cD0 := bc hb ltD cD0
  replace cD1 := bc hb ltD cD1
  replace ltD := bl hb ltD
  replace HI := Lib.hid (HI.out.below hb)
  replace HDn := Lib.hid (HDn.out.below hb)
  replace hM := hM.trans (hb.mono hM.size)
  replace hB := hB.trans (hb.mono hB.size)
  have HP := Lib.hid (hv4.raw 1 (digs_length_le (by simp)))
  clear hv4
  refine hK _ _ ⟨⟨w4, hM⟩, rfl⟩ hb ?_
  clear hK K hb
  refine wpFl2_eff rfl rfl (fun wy hC hg K hK => ?_)
  obtain ⟨⟨wz, hE⟩, hwe⟩ := hC
  change wy = wz at hwe
  subst hwe
  replace cB0 := bc hg ltB cB0
  replace cB1 := bc hg ltB cB1
  replace cB2 := bc hg ltB cB2
  replace ltB := bl hg ltB
  replace cS0 := bc hg ltS cS0
  replace fS0 := bf hg ltS fS0
  replace cS1 := bc hg ltS cS1
  replace fS1 := bf hg ltS fS1
  replace cS2 := bc hg ltS cS2
  replace fS2 := bf hg ltS fS2
  replace ltS := bl hg ltS
  replace cD0 := bc hg ltD cD0
  replace cD1 := bc hg ltD cD1
  replace ltD := bl hg ltD
  replace HI := Lib.hid (HI.out.below hg)
  replace HDn := Lib.hid (HDn.out.below hg)
  replace HP := Lib.hid (HP.out.below hg)
  replace hB := hB.trans (hg.mono hB.size)
  replace hM := hE
  clear hE hg
  go_simp
  refine (imul_any _ _ _ _ L 1 _ HI.out HP.out (by omega)).mono ?_
  rintro e w5 ⟨v5, rfl, hv5, hb⟩
  replace cB0 := bc hb ltB cB0
  replace cB1 := bc hb ltB cB1
  replace cB2 := bc hb ltB cB2
  replace ltB := bl hb ltB
  replace cS0 := bc hb ltS cS0
  replace fS0 := bf hb ltS fS0
  replace cS1 := bc hb ltS cS1
  replace fS1 := bf hb ltS fS1
  replace cS2 := bc hb ltS cS2
  replace fS2 := bf hb ltS fS2
  replace ltS := bl hb ltS
  replace cD0 := bc hb ltD cD0
  replace cD1 := bc hb ltD cD1
  replace ltD := bl hb ltD
  replace HI := Lib.hid (HI.out.below hb)
  replace HDn := Lib.hid (HDn.out.below hb)
  replace HP := Lib.hid (HP.out.below hb)
  replace hM := hM.trans (hb.mono hM.size)
  replace hB := hB.trans (hb.mono hB.size)
  have HV5 := Lib.hid (hv5.raw (L + 1) (by rw [Int.mul_one]; omega))
  clear hv5
  refine hK _ _ ⟨⟨w5, hM⟩, rfl⟩ hb ?_
  clear hK K hb
  skip
  refine wpFl2_eff rfl rfl (fun wy hC hg K hK => ?_)
  obtain ⟨⟨wz, hE⟩, hwe⟩ := hC
  change wy = wz at hwe
  subst hwe
  replace cB0 := bc hg ltB cB0
  replace cB1 := bc hg ltB cB1
  replace cB2 := bc hg ltB cB2
  replace ltB := bl hg ltB
  replace cS0 := bc hg ltS cS0
  replace fS0 := bf hg ltS fS0
  replace cS1 := bc hg ltS cS1
  replace fS1 := bf hg ltS fS1
  replace cS2 := bc hg ltS cS2
  replace fS2 := bf hg ltS fS2
  replace ltS := bl hg ltS
  replace cD0 := bc hg ltD cD0
  replace cD1 := bc hg ltD cD1
  replace ltD := bl hg ltD
  replace HI := Lib.hid (HI.out.below hg)
  replace HDn := Lib.hid (HDn.out.below hg)
  replace HP := Lib.hid (HP.out.below hg)
  replace HV5 := Lib.hid (HV5.out.below hg)
  replace hB := hB.trans (hg.mono hB.size)
  replace hM := hE
  clear hE hg
  go_simp
  have hsB' : w.heap.size + 2 ≤ wy.heap.size := ltS
  refine (idivmod_any _ _ _ _ (L + 1) _ HV5.out (HDn.out.mono (by omega)) (by have := r.den_pos; omega) (by omega)).mono ?_
  rintro e w6 ⟨vq, vs, rfl, hq, hs, hb⟩
  replace cB0 := bc hb ltB cB0
  replace cB1 := bc hb ltB cB1
  replace cB2 := bc hb ltB cB2
  replace ltB := bl hb ltB
  replace cS0 := bc hb ltS cS0
  replace fS0 := bf hb ltS fS0
  replace cS1 := bc hb ltS cS1
  replace fS1 := bf hb ltS fS1
  replace cS2 := bc hb ltS cS2
  replace fS2 := bf hb ltS fS2
  replace ltS := bl hb ltS
  replace cD0 := bc hb ltD cD0
  replace cD1 := bc hb ltD cD1
  replace ltD := bl hb ltD
  replace HI := Lib.hid (HI.out.below hb)
  replace HDn := Lib.hid (HDn.out.below hb)
  replace HP := Lib.hid (HP.out.below hb)
  replace HV5 := Lib.hid (HV5.out.below hb)
  replace hM := hM.trans (hb.mono hM.size)
  replace hB := hB.trans (hb.mono hB.size)
  rw [rat_floor] at hq
  have HQ := Lib.hid (hq.mono hsB')
  have HS := Lib.hid (hs.mono hsB')
  obtain ⟨aq, nq, cq, rfl, -, -⟩ := hq
  obtain ⟨az, nz, cz, rfl, -, -⟩ := hs
  generalize decide (r.floor < 0) = dq at *
  generalize decide (r.num * 1 % (r.den : Int) < 0) = ds at *
  refine hK _ _ ⟨⟨w6, hM⟩, rfl⟩ hb ?_
  clear hK K hb
  clear HP HV5
  repeat (refine wpFl2_calm rfl (fun K hK => ?_); go_simp; refine hK _ ?_; clear hK K)
  refine wpFl2_nil fun gQ gE wy hC hg hBk hBk2 hge hge2 hgn => ?_
  obtain ⟨⟨wz, hE⟩, hwe⟩ := hC
  change wy = wz at hwe
  subst hwe
  replace cB0 := bc hg ltB cB0
  replace cB1 := bc hg ltB cB1
  replace cB2 := bc hg ltB cB2
  replace ltB := bl hg ltB
  replace cS0 := bc hg ltS cS0
  replace fS0 := bf hg ltS fS0
  replace cS1 := bc hg ltS cS1
  replace fS1 := bf hg ltS fS1
  replace cS2 := bc hg ltS cS2
  replace fS2 := bf hg ltS fS2
  replace ltS := bl hg ltS
  replace cD0 := bc hg ltD cD0
  replace cD1 := bc hg ltD cD1
  replace ltD := bl hg ltD
  replace HI := Lib.hid (HI.out.below hg)
  replace HDn := Lib.hid (HDn.out.below hg)
  replace HQ := Lib.hid (HQ.out.below hg)
  replace HS := Lib.hid (HS.out.below hg)
  replace hB := hB.trans (hg.mono hB.size)
  replace hM := hE
  clear hE hg
  have z0 := blk_cell hBk 0
  have y0 := blk_free hBk 0
  have z1 := blk_cell hBk 1
  have y1 := blk_free hBk 1
  have v0 := blk_cell hBk2 0
  have u0 := blk_free hBk2 0
  have v1 := blk_cell hBk2 1
  have u1 := blk_free hBk2 1
  simp at z0 z1 v0 v1
  have hgl := blk_lt hBk
  have hgl2 := blk_lt hBk2
  have hgn2 := Ne.symm hgn
  refine wpSched_eff rfl rfl (fun K hK => ?_)
  go_simp
  refine hK _ _ ⟨⟨_, ((hM.setCell (p := ⟨gQ, 0, none⟩) hge _).setCell (p := ⟨gQ, 1, none⟩) hge _)⟩, rfl⟩ ?_
  clear hK K
  refine wpSched_eff rfl rfl (fun K hK => ?_)
  go_simp
  refine hK _ _ ⟨⟨_, ((((hM.setCell (p := ⟨gQ, 0, none⟩) hge _).setCell (p := ⟨gQ, 1, none⟩) hge _).setCell (p := ⟨gE, 0, none⟩) hge2 _).setCell (p := ⟨gE, 1, none⟩) hge2 _)⟩, rfl⟩ ?_
  clear hK K
  repeat (refine wpSched_calm rfl (fun K hK => ?_); go_simp; refine hK _ ?_; clear hK K)
  refine wpSched_nil ?_
  have hMn := ((((hM.setCell (p := ⟨gQ, 0, none⟩) hge (.bool dq)).setCell (p := ⟨gQ, 1, none⟩) hge (.slice aq nq cq)).setCell (p := ⟨gE, 0, none⟩) hge2 (.bool ds)).setCell (p := ⟨gE, 1, none⟩) hge2 (.slice az nz cz))
  replace HQ := Lib.hid (HQ.out.off4 hBk zInt_no hBk2 zInt_no (.bool dq) (.slice aq nq cq) (.bool ds) (.slice az nz cz))
  replace HS := Lib.hid (HS.out.off4 hBk zInt_no hBk2 zInt_no (.bool dq) (.slice aq nq cq) (.bool ds) (.slice az nz cz))
  replace cB0 := bc hMn SLB.out SCB0.out
  replace cB1 := bc hMn SLB.out SCB1.out
  replace cB2 := bc hMn SLB.out SCB2.out
  replace ltB := bl hMn SLB.out
  replace cS0 := bc hMn SLS.out SCS0.out
  replace fS0 := bf hMn SLS.out SFS0.out
  replace cS1 := bc hMn SLS.out SCS1.out
  replace fS1 := bf hMn SLS.out SFS1.out
  replace cS2 := bc hMn SLS.out SCS2.out
  replace fS2 := bf hMn SLS.out SFS2.out
  replace ltS := bl hMn SLS.out
  replace cD0 := bc hMn SLD.out SCD0.out
  replace cD1 := bc hMn SLD.out SCD1.out
  replace ltD := bl hMn SLD.out
  replace HI := Lib.hid (SHI.out.below hMn)
  replace HDn := Lib.hid (SHDn.out.below hMn)
  replace hB := SB.out.trans (hMn.mono SB.out.size)
  have cQ0 : ((((wy.setCell ⟨gQ, 0, none⟩ (.bool dq)).setCell ⟨gQ, 1, none⟩ (.slice aq nq cq)).setCell ⟨gE, 0, none⟩ (.bool ds)).setCell ⟨gE, 1, none⟩ (.slice az nz cz)).cell? ⟨gQ, 0, none⟩ = some (.bool dq) := by go_simp
  have fQ0 : ((((wy.setCell ⟨gQ, 0, none⟩ (.bool dq)).setCell ⟨gQ, 1, none⟩ (.slice aq nq cq)).setCell ⟨gE, 0, none⟩ (.bool ds)).setCell ⟨gE, 1, none⟩ (.slice az nz cz)).frozen? ⟨gQ, 0, none⟩ = false := by go_simp
  have cQ1 : ((((wy.setCell ⟨gQ, 0, none⟩ (.bool dq)).setCell ⟨gQ, 1, none⟩ (.slice aq nq cq)).setCell ⟨gE, 0, none⟩ (.bool ds)).setCell ⟨gE, 1, none⟩ (.slice az nz cz)).cell? ⟨gQ, 1, none⟩ = some (.slice aq nq cq) := by go_simp
  have fQ1 : ((((wy.setCell ⟨gQ, 0, none⟩ (.bool dq)).setCell ⟨gQ, 1, none⟩ (.slice aq nq cq)).setCell ⟨gE, 0, none⟩ (.bool ds)).setCell ⟨gE, 1, none⟩ (.slice az nz cz)).frozen? ⟨gQ, 1, none⟩ = false := by go_simp
  have ltQ : gQ < ((((wy.setCell ⟨gQ, 0, none⟩ (.bool dq)).setCell ⟨gQ, 1, none⟩ (.slice aq nq cq)).setCell ⟨gE, 0, none⟩ (.bool ds)).setCell ⟨gE, 1, none⟩ (.slice az nz cz)).heap.size := by simpa using hgl
  have cE0 : ((((wy.setCell ⟨gQ, 0, none⟩ (.bool dq)).setCell ⟨gQ, 1, none⟩ (.slice aq nq cq)).setCell ⟨gE, 0, none⟩ (.bool ds)).setCell ⟨gE, 1, none⟩ (.slice az nz cz)).cell? ⟨gE, 0, none⟩ = some (.bool ds) := by go_simp
  have fE0 : ((((wy.setCell ⟨gQ, 0, none⟩ (.bool dq)).setCell ⟨gQ, 1, none⟩ (.slice aq nq cq)).setCell ⟨gE, 0, none⟩ (.bool ds)).setCell ⟨gE, 1, none⟩ (.slice az nz cz)).frozen? ⟨gE, 0, none⟩ = false := by go_simp
  have cE1 : ((((wy.setCell ⟨gQ, 0, none⟩ (.bool dq)).setCell ⟨gQ, 1, none⟩ (.slice aq nq cq)).setCell ⟨gE, 0, none⟩ (.bool ds)).setCell ⟨gE, 1, none⟩ (.slice az nz cz)).cell? ⟨gE, 1, none⟩ = some (.slice az nz cz) := by go_simp
  have fE1 : ((((wy.setCell ⟨gQ, 0, none⟩ (.bool dq)).setCell ⟨gQ, 1, none⟩ (.slice aq nq cq)).setCell ⟨gE, 0, none⟩ (.bool ds)).setCell ⟨gE, 1, none⟩ (.slice az nz cz)).frozen? ⟨gE, 1, none⟩ = false := by go_simp
  have ltE : gE < ((((wy.setCell ⟨gQ, 0, none⟩ (.bool dq)).setCell ⟨gQ, 1, none⟩ (.slice aq nq cq)).setCell ⟨gE, 0, none⟩ (.bool ds)).setCell ⟨gE, 1, none⟩ (.slice az nz cz)).heap.size := by simpa using hgl2
  have neQB : w.heap.size < gQ := Nat.lt_of_lt_of_le SLB.out hge
  have neEB : w.heap.size < gE := Nat.lt_of_lt_of_le SLB.out hge2
  have neQS : w.heap.size + 1 < gQ := Nat.lt_of_lt_of_le SLS.out hge
  have neES : w.heap.size + 1 < gE := Nat.lt_of_lt_of_le SLS.out hge2
  have neQD : w3.heap.size < gQ := Nat.lt_of_lt_of_le SLD.out hge
  have neED : w3.heap.size < gE := Nat.lt_of_lt_of_le SLD.out hge2
  clear SCB0 SCB1 SCB2 SLB SCS0 SFS0 SCS1 SFS1 SCS2 SFS2 SLS SCD0 SCD1 SLD SHI SHDn SB
  clear hMn hM hBk hBk2 hgl hgl2 z0 y0 z1 y1 v0 u0 v1 u1
  go_wp2_with fail
  generalize ((((wy.setCell ⟨gQ, 0, none⟩ (.bool dq)).setCell ⟨gQ, 1, none⟩ (.slice aq nq cq)).setCell ⟨gE, 0, none⟩ (.bool ds)).setCell ⟨gE, 1, none⟩ (.slice az nz cz)) = w7 at *
  refine (isign_any _ _ L _ (HS.out.raw L (rest_len r hS2))).mono ?_
  rintro e w8 ⟨rfl, hb⟩
  replace cB0 := bc hb ltB cB0
  replace cB1 := bc hb ltB cB1
  replace cB2 := bc hb ltB cB2
  replace ltB := bl hb ltB
  replace cS0 := bc hb ltS cS0
  replace fS0 := bf hb ltS fS0
  replace cS1 := bc hb ltS cS1
  replace fS1 := bf hb ltS fS1
  replace cS2 := bc hb ltS cS2
  replace fS2 := bf hb ltS fS2
  replace ltS := bl hb ltS
  replace cD0 := bc hb ltD cD0
  replace cD1 := bc hb ltD cD1
  replace ltD := bl hb ltD
  replace cQ0 := bc hb ltQ cQ0
  replace fQ0 := bf hb ltQ fQ0
  replace cQ1 := bc hb ltQ cQ1
  replace fQ1 := bf hb ltQ fQ1
  replace ltQ := bl hb ltQ
  replace cE0 := bc hb ltE cE0
  replace fE0 := bf hb ltE fE0
  replace cE1 := bc hb ltE cE1
  replace fE1 := bf hb ltE fE1
  replace ltE := bl hb ltE
  replace HI := Lib.hid (HI.out.below hb)
  replace HDn := Lib.hid (HDn.out.below hb)
  replace HQ := Lib.hid (HQ.out.below hb)
  replace HS := Lib.hid (HS.out.below hb)
  replace hB := hB.trans (hb.mono hB.size)
  generalize (r.num * 1 % (r.den : Int)).sign = sg at *
  clear hb
  go_wp2_with fail
  have eB0 := box_ext (B := w8.heap.size) cB0 ltB
  have eB1 := box_ext (B := w8.heap.size) cB1 ltB
  have eB2 := box_ext (B := w8.heap.size) cB2 ltB
  have eS0 := box_ext (B := w8.heap.size) cS0 ltS
  have eS1 := box_ext (B := w8.heap.size) cS1 ltS
  have eS2 := box_ext (B := w8.heap.size) cS2 ltS
  have eD0 := box_ext (B := w8.heap.size) cD0 ltD
  have eD1 := box_ext (B := w8.heap.size) cD1 ltD
  have eQ0 := box_ext (B := w8.heap.size) cQ0 ltQ
  have eQ1 := box_ext (B := w8.heap.size) cQ1 ltQ
  have eE0 := box_ext (B := w8.heap.size) cE0 ltE
  have eE1 := box_ext (B := w8.heap.size) cE1 ltE
  refine wp_region_sched [(0, false), (1, false), (3, false), (2, true), (4, true), (5, false)] (fun w' => ∃ W : Ext w8.heap.size w8, w' = W.1) (by kernel_rfl) (by kernel_rfl) ⟨⟨w8.drew, (Below.refl _ _).drew⟩, rfl⟩ ?_
  repeat (refine wpSched_calm rfl (fun K hK => ?_); go_simp; refine hK _ ?_; clear hK K)
  clear eB0 eB1 eB2 eS0 eS1 eS2 eD0 eD1 eQ0 eQ1 eE0 eE1
  have hbx : Below w8.heap.size w8 w8.drew := (Below.refl _ _).drew
  have hM := hbx
  replace cB0 := bc hbx ltB cB0
  replace cB1 := bc hbx ltB cB1
  replace cB2 := bc hbx ltB cB2
  replace ltB := bl hbx ltB
  replace cS0 := bc hbx ltS cS0
  replace fS0 := bf hbx ltS fS0
  replace cS1 := bc hbx ltS cS1
  replace fS1 := bf hbx ltS fS1
  replace cS2 := bc hbx ltS cS2
  replace fS2 := bf hbx ltS fS2
  replace ltS := bl hbx ltS
  replace cD0 := bc hbx ltD cD0
  replace cD1 := bc hbx ltD cD1
  replace ltD := bl hbx ltD
  replace cQ0 := bc hbx ltQ cQ0
  replace fQ0 := bf hbx ltQ fQ0
  replace cQ1 := bc hbx ltQ cQ1
  replace fQ1 := bf hbx ltQ fQ1
  replace ltQ := bl hbx ltQ
  replace cE0 := bc hbx ltE cE0
  replace fE0 := bf hbx ltE fE0
  replace cE1 := bc hbx ltE cE1
  replace fE1 := bf hbx ltE fE1
  replace ltE := bl hbx ltE
  replace HI := Lib.hid (HI.out.below hbx)
  replace HDn := Lib.hid (HDn.out.below hbx)
  replace HQ := Lib.hid (HQ.out.below hbx)
  replace HS := Lib.hid (HS.out.below hbx)
  replace hB := hB.trans (hbx.mono hB.size)
  clear hbx
  generalize w8.drew = ww8d at *
  refine wpSched_eff rfl rfl (fun K hK => ?_)
  go_simp
  refine (iadd_any _ _ _ _ L _ (HS.out.raw L (rest_len r hS2)) (HS.out.raw L (rest_len r hS2)) (by omega)).mono ?_
  rintro e w9 ⟨v9, rfl, hv9, hb⟩
  replace cB0 := bc hb ltB cB0
  replace cB1 := bc hb ltB cB1
  replace cB2 := bc hb ltB cB2
  replace ltB := bl hb ltB
  replace cS0 := bc hb ltS cS0
  replace fS0 := bf hb ltS fS0
  replace cS1 := bc hb ltS cS1
  replace fS1 := bf hb ltS fS1
  replace cS2 := bc hb ltS cS2
  replace fS2 := bf hb ltS fS2
  replace ltS := bl hb ltS
  replace cD0 := bc hb ltD cD0
  replace cD1 := bc hb ltD cD1
  replace ltD := bl hb ltD
  replace cQ0 := bc hb ltQ cQ0
  replace fQ0 := bf hb ltQ fQ0
  replace cQ1 := bc hb ltQ cQ1
  replace fQ1 := bf hb ltQ fQ1
  replace ltQ := bl hb ltQ
  replace cE0 := bc hb ltE cE0
  replace fE0 := bf hb ltE fE0
  replace cE1 := bc hb ltE cE1
  replace fE1 := bf hb ltE fE1
  replace ltE := bl hb ltE
  replace HI := Lib.hid (HI.out.below hb)
  replace HDn := Lib.hid (HDn.out.below hb)
  replace HQ := Lib.hid (HQ.out.below hb)
  replace HS := Lib.hid (HS.out.below hb)
  replace hM := hM.trans (hb.mono hM.size)
  replace hB := hB.trans (hb.mono hB.size)
  have HV9 := Lib.hid (hv9.raw (L + 1) (int_add_len (rest_len r hS2) (rest_len r hS2)))
  clear hv9
  clear hb
  refine hK _ _ ⟨⟨w9, hM⟩, rfl⟩ ?_
  clear hK K
  refine wpSched_eff rfl rfl (fun K hK => ?_)
  go_simp
  refine (icmp_any _ _ _ _ (L + 1) L _ HV9.out HDn.out).mono ?_
  rintro e w10 ⟨rfl, hb⟩
  replace cB0 := bc hb ltB cB0
  replace cB1 := bc hb ltB cB1
  replace cB2 := bc hb ltB cB2
  replace ltB := bl hb ltB
  replace cS0 := bc hb ltS cS0
  replace fS0 := bf hb ltS fS0
  replace cS1 := bc hb ltS cS1
  replace fS1 := bf hb ltS fS1
  replace cS2 := bc hb ltS cS2
  replace fS2 := bf hb ltS fS2
  replace ltS := bl hb ltS
  replace cD0 := bc hb ltD cD0
  replace cD1 := bc hb ltD cD1
  replace ltD := bl hb ltD
  replace cQ0 := bc hb ltQ cQ0
  replace fQ0 := bf hb ltQ fQ0
  replace cQ1 := bc hb ltQ cQ1
  replace fQ1 := bf hb ltQ fQ1
  replace ltQ := bl hb ltQ
  replace cE0 := bc hb ltE cE0
  replace fE0 := bf hb ltE fE0
  replace cE1 := bc hb ltE cE1
  replace fE1 := bf hb ltE fE1
  replace ltE := bl hb ltE
  replace HI := Lib.hid (HI.out.below hb)
  replace HDn := Lib.hid (HDn.out.below hb)
  replace HQ := Lib.hid (HQ.out.below hb)
  replace HS := Lib.hid (HS.out.below hb)
  replace HV9 := Lib.hid (HV9.out.below hb)
  replace hM := hM.trans (hb.mono hM.size)
  replace hB := hB.trans (hb.mono hB.size)
  rw [rat_half]
  clear hb
  refine hK _ _ ⟨⟨w10, hM⟩, rfl⟩ ?_
  clear hK K
  clear HV9
  repeat (refine wpSched_calm rfl (fun K hK => ?_); go_simp; refine hK _ ?_; clear hK K)
  refine wpSched_nil ?_
  go_wp2_with fail
  have hhb := rcmpI_bd (fracR r) (mkRat 1 2)
  generalize rcmpI (fracR r) (mkRat 1 2) = hf at *
  have eB0 := box_ext (B := w10.heap.size) cB0 ltB
  have eB1 := box_ext (B := w10.heap.size) cB1 ltB
  have eB2 := box_ext (B := w10.heap.size) cB2 ltB
  have eS0 := box_ext (B := w10.heap.size) cS0 ltS
  have eS1 := box_ext (B := w10.heap.size) cS1 ltS
  have eS2 := box_ext (B := w10.heap.size) cS2 ltS
  have eD0 := box_ext (B := w10.heap.size) cD0 ltD
  have eD1 := box_ext (B := w10.heap.size) cD1 ltD
  have eQ0 := box_ext (B := w10.heap.size) cQ0 ltQ
  have eQ1 := box_ext (B := w10.heap.size) cQ1 ltQ
  have eE0 := box_ext (B := w10.heap.size) cE0 ltE
  have eE1 := box_ext (B := w10.heap.size) cE1 ltE
  refine wp_region_sched [(0, false), (1, false), (2, false), (3, false), (6, false), (4, true), (5, false), (7, true)] (fun w' => ∃ W : Ext w10.heap.size w10, w' = W.1) (by kernel_rfl) (by kernel_rfl) ⟨⟨w10.drew, (Below.refl _ _).drew⟩, rfl⟩ ?_
  repeat (refine wpSched_calm rfl (fun K hK => ?_); go_simp; refine hK _ ?_; clear hK K)
  clear eB0 eB1 eB2 eS0 eS1 eS2 eD0 eD1 eQ0 eQ1 eE0 eE1
  have hbx : Below w10.heap.size w10 w10.drew := (Below.refl _ _).drew
  have hM := hbx
  replace cB0 := bc hbx ltB cB0
  replace cB1 := bc hbx ltB cB1
  replace cB2 := bc hbx ltB cB2
  replace ltB := bl hbx ltB
  replace cS0 := bc hbx ltS cS0
  replace fS0 := bf hbx ltS fS0
  replace cS1 := bc hbx ltS cS1
  replace fS1 := bf hbx ltS fS1
  replace cS2 := bc hbx ltS cS2
  replace fS2 := bf hbx ltS fS2
  replace ltS := bl hbx ltS
  replace cD0 := bc hbx ltD cD0
  replace cD1 := bc hbx ltD cD1
  replace ltD := bl hbx ltD
  replace cQ0 := bc hbx ltQ cQ0
  replace fQ0 := bf hbx ltQ fQ0
  replace cQ1 := bc hbx ltQ cQ1
  replace fQ1 := bf hbx ltQ fQ1
  replace ltQ := bl hbx ltQ
  replace cE0 := bc hbx ltE cE0
  replace fE0 := bf hbx ltE fE0
  replace cE1 := bc hbx ltE cE1
  replace fE1 := bf hbx ltE fE1
  replace ltE := bl hbx ltE
  replace HI := Lib.hid (HI.out.below hbx)
  replace HDn := Lib.hid (HDn.out.below hbx)
  replace HQ := Lib.hid (HQ.out.below hbx)
  replace HS := Lib.hid (HS.out.below hbx)
  replace hB := hB.trans (hbx.mono hB.size)
  clear hbx
  generalize w10.drew = ww10d at *
  refine wpSched_eff rfl rfl (fun K hK => ?_)
  go_simp
  refine (isign_any _ _ L _ HI.out).mono ?_
  rintro e w11 ⟨rfl, hb⟩
  replace cB0 := bc hb ltB cB0
  replace cB1 := bc hb ltB cB1
  replace cB2 := bc hb ltB cB2
  replace ltB := bl hb ltB
  replace cS0 := bc hb ltS cS0
  replace fS0 := bf hb ltS fS0
  replace cS1 := bc hb ltS cS1
  replace fS1 := bf hb ltS fS1
  replace cS2 := bc hb ltS cS2
  replace fS2 := bf hb ltS fS2
  replace ltS := bl hb ltS
  replace cD0 := bc hb ltD cD0
  replace cD1 := bc hb ltD cD1
  replace ltD := bl hb ltD
  replace cQ0 := bc hb ltQ cQ0
  replace fQ0 := bf hb ltQ fQ0
  replace cQ1 := bc hb ltQ cQ1
  replace fQ1 := bf hb ltQ fQ1
  replace ltQ := bl hb ltQ
  replace cE0 := bc hb ltE cE0
  replace fE0 := bf hb ltE fE0
  replace cE1 := bc hb ltE cE1
  replace fE1 := bf hb ltE fE1
  replace ltE := bl hb ltE
  replace HI := Lib.hid (HI.out.below hb)
  replace HDn := Lib.hid (HDn.out.below hb)
  replace HQ := Lib.hid (HQ.out.below hb)
  replace HS := Lib.hid (HS.out.below hb)
  replace hM := hM.trans (hb.mono hM.size)
  replace hB := hB.trans (hb.mono hB.size)
  have HSg := Lib.hid (rat_neg r)
  generalize r.num.sign = sg1 at *
  clear hb
  refine hK _ _ ⟨⟨w11, hM⟩, rfl⟩ ?_
  clear hK K
  repeat (refine wpSched_calm rfl (fun K hK => ?_); go_simp; refine hK _ ?_; clear hK K)
  rw [HSg.out]
  clear HSg
  generalize decide (r < 0) = ngr at *
  refine wpSched_eff rfl rfl (fun K hK => ?_)
  go_simp
  refine (higher_any _ _ _ hf ngr m _ HQ.out hhb.1 hhb.2 h1 h2).mono ?_
  rintro e w12 ⟨rfl, hb⟩
  replace cB0 := bc hb ltB cB0
  replace cB1 := bc hb ltB cB1
  replace cB2 := bc hb ltB cB2
  replace ltB := bl hb ltB
  replace cS0 := bc hb ltS cS0
  replace fS0 := bf hb ltS fS0
  replace cS1 := bc hb ltS cS1
  replace fS1 := bf hb ltS fS1
  replace cS2 := bc hb ltS cS2
  replace fS2 := bf hb ltS fS2
  replace ltS := bl hb ltS
  replace cD0 := bc hb ltD cD0
  replace cD1 := bc hb ltD cD1
  replace ltD := bl hb ltD
  replace cQ0 := bc hb ltQ cQ0
  replace fQ0 := bf hb ltQ fQ0
  replace cQ1 := bc hb ltQ cQ1
  replace fQ1 := bf hb ltQ fQ1
  replace ltQ := bl hb ltQ
  replace cE0 := bc hb ltE cE0
  replace fE0 := bf hb ltE fE0
  replace cE1 := bc hb ltE cE1
  replace fE1 := bf hb ltE fE1
  replace ltE := bl hb ltE
  replace HI := Lib.hid (HI.out.below hb)
  replace HDn := Lib.hid (HDn.out.below hb)
  replace HQ := Lib.hid (HQ.out.below hb)
  replace HS := Lib.hid (HS.out.below hb)
  replace hM := hM.trans (hb.mono hM.size)
  replace hB := hB.trans (hb.mono hB.size)
  rw [HUp.out]
  clear hb
  refine hK _ _ ⟨⟨w12, hM⟩, rfl⟩ ?_
  clear hK K
  refine wpSched_nil ?_
  have HF := HQ
  have HFin := Lib.hid (dec_store (B' := w.heap.size) (g := w.heap.size + 1) HF.out (by omega) (by omega) (.int .i64 0))
  go_wp2_with fail
  exact bodyPost_ret (v := .tuple #[.agg #[.bool dq, .slice aq nq cq, .int .i64 0], .int .i64 0]) (by simp [results, Tryz.results73, go_sem, cS0, cS1, cS2]) rfl ⟨_, _, rfl, by rw [HRd.out]; exact HFin.out, ((hB.setCell (p := ⟨w.heap.size + 1, 0, none⟩) (by simp) _).setCell (p := ⟨w.heap.size + 1, 1, none⟩) (by simp) _).setCell (p := ⟨w.heap.size + 1, 2, none⟩) (by simp) _⟩

set_option maxHeartbeats 600000 in
theorem round_up' (v : Value) (r : Rat) (m : Int) (L : Nat) (w : World) (hv : RatV w v r L) (hL : 1 ≤ L) (hm : (L + 4) * 4 ≤ 140737488355328) (h1 : 1 ≤ m) (h2 : m ≤ 7) (hf0 : fracR r ≠ 0) (hu : upB m r = true) :
    Calls Tryz.prog 73 #[v, .int .i64 0, .int .i64 m] w fun e w' => ∃ b s, e = .returned (.tuple #[.agg #[b, s, .int .i64 0], .int .i64 0]) ∧ IntN w.heap.size w' (.agg #[b, s]) (roundI m r) ∧ Below w.heap.size w w' := by
  obtain ⟨p, q, hr, hpq⟩ := hv
  have HR := Lib.hid (show RatV w v r L from ⟨p, q, hr, hpq⟩)
  obtain ⟨neg, a', len', cap', xs, a, len, cap, ys, rfl, -, -, -, -, -, -⟩ := hr
  clear hpq
  have HRd := Lib.hid (round_up (m := m) hu)
  have hsn : ((r.num * 1 % (r.den : Int)).sign == 0) = false := by
    rw [beq_eq_false_iff_ne, Ne, Int.sign_eq_zero_iff_zero, ← rat_frac0]; exact hf0
  have HUp := Lib.hid ((upB_frac (m := m) hf0).trans hu)
  clear hf0 hu
  go_enter Tryz.func73, Tryz.ntmps73
  go_wp2_with fail
  have hbx : Below w.heap.size w ((w.alloc (.cells #[.bool neg, .slice a' len' cap', .slice a len cap] 28)).alloc (.cells #[.bool false, .slice none 0 0, .int .i64 0] 86)) := (((Below.refl _ _).alloc (Nat.le_refl _) _).alloc (by simp) _)
  generalize hWW : ((w.alloc (.cells #[.bool neg, .slice a' len' cap', .slice a len cap] 28)).alloc (.cells #[.bool false, .slice none 0 0, .int .i64 0] 86)) = w0 at *
  replace HR := Lib.hid (HR.out.below hbx)
  have cA0 : w0.cell? ⟨w.heap.size, 0, none⟩ = some (.bool neg) := by subst hWW; go_simp
  have fA0 : w0.frozen? ⟨w.heap.size, 0, none⟩ = false := by subst hWW; go_simp
  have cA1 : w0.cell? ⟨w.heap.size, 1, none⟩ = some (.slice a' len' cap') := by subst hWW; go_simp
  have fA1 : w0.frozen? ⟨w.heap.size, 1, none⟩ = false := by subst hWW; go_simp
  have cA2 : w0.cell? ⟨w.heap.size, 2, none⟩ = some (.slice a len cap) := by subst hWW; go_simp
  have fA2 : w0.frozen? ⟨w.heap.size, 2, none⟩ = false := by subst hWW; go_simp
  have ltA : w.heap.size < w0.heap.size := by subst hWW; simp <;> omega
  have cR0 : w0.cell? ⟨w.heap.size + 1, 0, none⟩ = some (.bool false) := by subst hWW; go_simp
  have fR0 : w0.frozen? ⟨w.heap.size + 1, 0, none⟩ = false := by subst hWW; go_simp
  have cR1 : w0.cell? ⟨w.heap.size + 1, 1, none⟩ = some (.slice none 0 0) := by subst hWW; go_simp
  have fR1 : w0.frozen? ⟨w.heap.size + 1, 1, none⟩ = false := by subst hWW; go_simp
  have cR2 : w0.cell? ⟨w.heap.size + 1, 2, none⟩ = some (.int .i64 0) := by subst hWW; go_simp
  have fR2 : w0.frozen? ⟨w.heap.size + 1, 2, none⟩ = false := by subst hWW; go_simp
  have ltR : w.heap.size + 1 < w0.heap.size := by subst hWW; simp
  have hB := hbx
  clear hbx hWW
  refine (places_zero _).mono ?_
  rintro e w' ⟨rfl, rfl⟩
  go_wp2_with fail
  refine (mode_ok m _ h1 h2).mono ?_
  rintro e w' ⟨rfl, rfl⟩
  go_wp2_with fail
  have hA0 := ltA
  have hR0 := ltR
  refine (qnorm_any _ r L _ HR.out hL (by omega)).mono ?_
  rintro e w1 ⟨v1, rfl, hv1, hsz, hb⟩
  replace cA0 := bc hb ltA cA0
  replace fA0 := bf hb ltA fA0
  replace cA1 := bc hb ltA cA1
  replace fA1 := bf hb ltA fA1
  replace cA2 := bc hb ltA cA2
  replace fA2 := bf hb ltA fA2
  replace ltA := bl hb ltA
  replace cR0 := bc hb ltR cR0
  replace fR0 := bf hb ltR fR0
  replace cR1 := bc hb ltR cR1
  replace fR1 := bf hb ltR fR1
  replace cR2 := bc hb ltR cR2
  replace fR2 := bf hb ltR fR2
  replace ltR := bl hb ltR
  replace HR := Lib.hid (HR.out.below hb)
  replace hB := hB.trans (hb.mono hB.size)
  obtain ⟨x', l', k', x, l, k, rfl, p1, p2, p3, p4⟩ := hv1
  have hS1 := hsz.1
  have hS2 := hsz.2
  have HI := Lib.hid (show IntR (((w1.setCell ⟨w.heap.size, 0, none⟩ (.bool (decide (r.num < 0)))).setCell ⟨w.heap.size, 1, none⟩ (.slice x' l' k')).setCell ⟨w.heap.size, 2, none⟩ (.slice x l k)) (.agg #[.bool (decide (r.num < 0)), .slice x' l' k']) r.num L from ⟨_, x', l', k', _, rfl, ((p1.off (p2.off hA0) 0 _).off (p2.off hA0) 1 _).off (p2.off hA0) 2 _, by rw [natOf_digs, sgn_self], by rw [← p1.1]; exact hS1⟩)
  have HD := Lib.hid (show Num (((w1.setCell ⟨w.heap.size, 0, none⟩ (.bool (decide (r.num < 0)))).setCell ⟨w.heap.size, 1, none⟩ (.slice x' l' k')).setCell ⟨w.heap.size, 2, none⟩ (.slice x l k)) (.slice x l k) r.den from ⟨_, _, _, rfl, ((p3.off (p4.off hA0) 0 _).off (p4.off hA0) 1 _).off (p4.off hA0) 2 _⟩)
  clear p1 p2 p3 p4 hsz
  generalize decide (r.num < 0) = dn at *
  clear hb
  clear HR
  go_wp2_with fail
  have cB0 : (((w1.setCell ⟨w.heap.size, 0, none⟩ (.bool dn)).setCell ⟨w.heap.size, 1, none⟩ (.slice x' l' k')).setCell ⟨w.heap.size, 2, none⟩ (.slice x l k)).cell? ⟨w.heap.size, 0, none⟩ = some (.bool dn) := by go_simp
  have cB1 : (((w1.setCell ⟨w.heap.size, 0, none⟩ (.bool dn)).setCell ⟨w.heap.size, 1, none⟩ (.slice x' l' k')).setCell ⟨w.heap.size, 2, none⟩ (.slice x l k)).cell? ⟨w.heap.size, 1, none⟩ = some (.slice x' l' k') := by go_simp
  have cB2 : (((w1.setCell ⟨w.heap.size, 0, none⟩ (.bool dn)).setCell ⟨w.heap.size, 1, none⟩ (.slice x' l' k')).setCell ⟨w.heap.size, 2, none⟩ (.slice x l k)).cell? ⟨w.heap.size, 2, none⟩ = some (.slice x l k) := by go_simp
  have cS0 : (((w1.setCell ⟨w.heap.size, 0, none⟩ (.bool dn)).setCell ⟨w.heap.size, 1, none⟩ (.slice x' l' k')).setCell ⟨w.heap.size, 2, none⟩ (.slice x l k)).cell? ⟨w.heap.size + 1, 0, none⟩ = some (.bool false) := by go_simp
  have fS0 : (((w1.setCell ⟨w.heap.size, 0, none⟩ (.bool dn)).setCell ⟨w.heap.size, 1, none⟩ (.slice x' l' k')).setCell ⟨w.heap.size, 2, none⟩ (.slice x l k)).frozen? ⟨w.heap.size + 1, 0, none⟩ = false := by go_simp
  have cS1 : (((w1.setCell ⟨w.heap.size, 0, none⟩ (.bool dn)).setCell ⟨w.heap.size, 1, none⟩ (.slice x' l' k')).setCell ⟨w.heap.size, 2, none⟩ (.slice x l k)).cell? ⟨w.heap.size + 1, 1, none⟩ = some (.slice none 0 0) := by go_simp
  have fS1 : (((w1.setCell ⟨w.heap.size, 0, none⟩ (.bool dn)).setCell ⟨w.heap.size, 1, none⟩ (.slice x' l' k')).setCell ⟨w.heap.size, 2, none⟩ (.slice x l k)).frozen? ⟨w.heap.size + 1, 1, none⟩ = false := by go_simp
  have cS2 : (((w1.setCell ⟨w.heap.size, 0, none⟩ (.bool dn)).setCell ⟨w.heap.size, 1, none⟩ (.slice x' l' k')).setCell ⟨w.heap.size, 2, none⟩ (.slice x l k)).cell? ⟨w.heap.size + 1, 2, none⟩ = some (.int .i64 0) := by go_simp
  have fS2 : (((w1.setCell ⟨w.heap.size, 0, none⟩ (.bool dn)).setCell ⟨w.heap.size, 1, none⟩ (.slice x' l' k')).setCell ⟨w.heap.size, 2, none⟩ (.slice x l k)).frozen? ⟨w.heap.size + 1, 2, none⟩ = false := by go_simp
  have ltB : w.heap.size < (((w1.setCell ⟨w.heap.size, 0, none⟩ (.bool dn)).setCell ⟨w.heap.size, 1, none⟩ (.slice x' l' k')).setCell ⟨w.heap.size, 2, none⟩ (.slice x l k)).heap.size := by simpa using ltA
  have ltS : w.heap.size + 1 < (((w1.setCell ⟨w.heap.size, 0, none⟩ (.bool dn)).setCell ⟨w.heap.size, 1, none⟩ (.slice x' l' k')).setCell ⟨w.heap.size, 2, none⟩ (.slice x l k)).heap.size := by simpa using ltR
  have hB2 := ((hB.setCell (p := ⟨w.heap.size, 0, none⟩) (Nat.le_refl _) (.bool dn)).setCell (p := ⟨w.heap.size, 1, none⟩) (Nat.le_refl _) (.slice x' l' k')).setCell (p := ⟨w.heap.size, 2, none⟩) (Nat.le_refl _) (.slice x l k)
  clear cA0 cA1 cA2 fA0 fA1 fA2 ltA cR0 cR1 cR2 fR0 fR1 fR2 ltR hB
  generalize (((w1.setCell ⟨w.heap.size, 0, none⟩ (.bool dn)).setCell ⟨w.heap.size, 1, none⟩ (.slice x' l' k')).setCell ⟨w.heap.size, 2, none⟩ (.slice x l k)) = w2 at *
  have hB := hB2
  clear hB2
  refine (imake_num false _ r.den _ HD.out (by omega)).mono ?_
  rintro e w3 ⟨v3, rfl, hv3, hb⟩
  replace cB0 := bc hb ltB cB0
  replace cB1 := bc hb ltB cB1
  replace cB2 := bc hb ltB cB2
  replace ltB := bl hb ltB
  replace cS0 := bc hb ltS cS0
  replace fS0 := bf hb ltS fS0
  replace cS1 := bc hb ltS cS1
  replace fS1 := bf hb ltS fS1
  replace cS2 := bc hb ltS cS2
  replace fS2 := bf hb ltS fS2
  replace ltS := bl hb ltS
  replace HI := Lib.hid (HI.out.below hb)
  replace HD := Lib.hid (HD.out.below hb)
  replace hB := hB.trans (hb.mono hB.size)
  rw [show sgn false r.den = (r.den : Int) from rfl] at hv3
  have HDn := Lib.hid (hv3.raw L (by simpa using hS2))
  obtain ⟨a3, n3, c3, rfl, -, -⟩ := hv3
  generalize decide ((r.den : Int) < 0) = dd at *
  clear hb
  clear HD
  go_wp2_with fail
  have hbx : Below w3.heap.size w3 (w3.alloc (.cells #[.bool dd, .slice a3 n3 c3] 26)) := ((Below.refl _ _).alloc (Nat.le_refl _) _)
  generalize hWW : (w3.alloc (.cells #[.bool dd, .slice a3 n3 c3] 26)) = w3a at *
  replace cB0 := bc hbx ltB cB0
  replace cB1 := bc hbx ltB cB1
  replace cB2 := bc hbx ltB cB2
  replace ltB := bl hbx ltB
  replace cS0 := bc hbx ltS cS0
  replace fS0 := bf hbx ltS fS0
  replace cS1 := bc hbx ltS cS1
  replace fS1 := bf hbx ltS fS1
  replace cS2 := bc hbx ltS cS2
  replace fS2 := bf hbx ltS fS2
  replace ltS := bl hbx ltS
  replace HI := Lib.hid (HI.out.below hbx)
  replace HDn := Lib.hid (HDn.out.below hbx)
  have cD0 : w3a.cell? ⟨w3.heap.size, 0, none⟩ = some (.bool dd) := by subst hWW; go_simp
  have cD1 : w3a.cell? ⟨w3.heap.size, 1, none⟩ = some (.slice a3 n3 c3) := by subst hWW; go_simp
  have ltD : w3.heap.size < w3a.heap.size := by subst hWW; simp
  replace hB := hB.trans (hbx.mono hB.size)
  clear hbx hWW
  have SCB0 := Lib.hid cB0
  have SCB1 := Lib.hid cB1
  have SCB2 := Lib.hid cB2
  have SLB := Lib.hid ltB
  have SCS0 := Lib.hid cS0
  have SFS0 := Lib.hid fS0
  have SCS1 := Lib.hid cS1
  have SFS1 := Lib.hid fS1
  have SCS2 := Lib.hid cS2
  have SFS2 := Lib.hid fS2
  have SLS := Lib.hid ltS
  have SCD0 := Lib.hid cD0
  have SCD1 := Lib.hid cD1
  have SLD := Lib.hid ltD
  have SHI := Lib.hid HI.out
  have SHDn := Lib.hid HDn.out
  have SB := Lib.hid hB
  have eB0 := box_ext (B := w3a.heap.size) cB0 ltB
  have eB1 := box_ext (B := w3a.heap.size) cB1 ltB
  have eB2 := box_ext (B := w3a.heap.size) cB2 ltB
  have eS0 := box_ext (B := w3a.heap.size) cS0 ltS
  have eS1 := box_ext (B := w3a.heap.size) cS1 ltS
  have eS2 := box_ext (B := w3a.heap.size) cS2 ltS
  have eD0 := box_ext (B := w3a.heap.size) cD0 ltD
  have eD1 := box_ext (B := w3a.heap.size) cD1 ltD
  refine wp_region_float2 11 12 [(0, false), (1, false), (2, false), (5, false), (3, true), (4, true), (6, true), (7, false), (8, false), (9, false), (10, false)] [(13, true), (14, true), (15, false)] (fun w' => ∃ W : Ext w3a.heap.size w3a, w' = W.1) _ _ 9 10 (.cells #[.bool false, .slice none 0 0] 26) (.cells #[.bool false, .slice none 0 0] 26) w3a.heap.size (by kernel_rfl) rfl rfl rfl rfl rfl rfl (fun a w => by simp [execOp, go_sem, ptr]) (fun a w => by simp [execOp, go_sem, ptr]) (fun w ⟨W, e⟩ => e ▸ W.2.size) (fun w ⟨W, e⟩ => ⟨⟨_, (e ▸ W.2).alloc (e ▸ W.2.size) _⟩, rfl⟩) (fun w ⟨W, e⟩ => ⟨⟨_, (e ▸ W.2).alloc (e ▸ W.2.size) _⟩, rfl⟩) (by decide) (by kernel_rfl) ⟨⟨w3a.drew, (Below.refl _ _).drew⟩, rfl⟩ ?_
  repeat (refine wpFl2_calm rfl (fun K hK => ?_); go_simp; refine hK _ ?_; clear hK K)
  clear eB0 eB1 eB2 eS0 eS1 eS2 eD0 eD1
  have hbx : Below w3a.heap.size w3a w3a.drew := (Below.refl _ _).drew
  have hM := hbx
  replace cB0 := bc hbx ltB cB0
  replace cB1 := bc hbx ltB cB1
  replace cB2 := bc hbx ltB cB2
  replace ltB := bl hbx ltB
  replace cS0 := bc hbx ltS cS0
  replace fS0 := bf hbx ltS fS0
  replace cS1 := bc hbx ltS cS1
  replace fS1 := bf hbx ltS fS1
  replace cS2 := bc hbx ltS cS2
  replace fS2 := bf hbx ltS fS2
  replace ltS := bl hbx ltS
  replace cD0 := bc hbx ltD cD0
  replace cD1 := bc hbx ltD cD1
  replace ltD := bl hbx ltD
  replace HI := Lib.hid (HI.out.below hbx)
  replace HDn := Lib.hid (HDn.out.below hbx)
  replace hB := hB.trans (hbx.mono hB.size)
  clear hbx
  generalize w3a.drew = ww3ad at *
  refine wpFl2_eff rfl rfl (fun wy hC hg K hK => ?_)
  obtain ⟨⟨wz, hE⟩, hwe⟩ := hC
  change wy = wz at hwe
  subst hwe
  replace cB0 := bc hg ltB cB0
  replace cB1 := bc hg ltB cB1
  replace cB2 := bc hg ltB cB2
  replace ltB := bl hg ltB
  replace cS0 := bc hg ltS cS0
  replace fS0 := bf hg ltS fS0
  replace cS1 := bc hg ltS cS1
  replace fS1 := bf hg ltS fS1
  replace cS2 := bc hg ltS cS2
  replace fS2 := bf hg ltS fS2
  replace ltS := bl hg ltS
  replace cD0 := bc hg ltD cD0
  replace cD1 := bc hg ltD cD1
  replace ltD := bl hg ltD
  replace HI := Lib.hid (HI.out.below hg)
  replace HDn := Lib.hid (HDn.out.below hg)
  replace hB := hB.trans (hg.mono hB.size)
  replace hM := hE
  clear hE hg
  go_simp
  refine (power_none _).mono ?_
  rintro e w4 ⟨v4, rfl, hv4, hb⟩
  replace cB0 := bc hb ltB cB0
  replace cB1 := bc hb ltB cB1
  replace cB2 := bc hb ltB cB2
  replace ltB := bl hb ltB
  replace cS0 := bc hb ltS cS0
  replace fS0 := bf hb ltS fS0
  replace cS1 := bc hb ltS cS1
  replace fS1 := bf hb ltS fS1
  replace cS2 := bc hb ltS cS2
  replace fS2 := bf hb ltS fS2
  replace ltS := bl hb ltS
  replace cD0 := bc hb ltD cD0
  replace cD1 := bc hb ltD cD1
  replace ltD := bl hb ltD
  replace HI := Lib.hid (HI.out.below hb)
  replace HDn := Lib.hid (HDn.out.below hb)
  replace hM := hM.trans (hb.mono hM.size)
  replace hB := hB.trans (hb.mono hB.size)
  have HP := Lib.hid (hv4.raw 1 (digs_length_le (by simp)))
  clear hv4
  refine hK _ _ ⟨⟨w4, hM⟩, rfl⟩ hb ?_
  clear hK K hb
  refine wpFl2_eff rfl rfl (fun wy hC hg K hK => ?_)
  obtain ⟨⟨wz, hE⟩, hwe⟩ := hC
  change wy = wz at hwe
  subst hwe
  replace cB0 := bc hg ltB cB0
  replace cB1 := bc hg ltB cB1
  replace cB2 := bc hg ltB cB2
  replace ltB := bl hg ltB
  replace cS0 := bc hg ltS cS0
  replace fS0 := bf hg ltS fS0
  replace cS1 := bc hg ltS cS1
  replace fS1 := bf hg ltS fS1
  replace cS2 := bc hg ltS cS2
  replace fS2 := bf hg ltS fS2
  replace ltS := bl hg ltS
  replace cD0 := bc hg ltD cD0
  replace cD1 := bc hg ltD cD1
  replace ltD := bl hg ltD
  replace HI := Lib.hid (HI.out.below hg)
  replace HDn := Lib.hid (HDn.out.below hg)
  replace HP := Lib.hid (HP.out.below hg)
  replace hB := hB.trans (hg.mono hB.size)
  replace hM := hE
  clear hE hg
  go_simp
  refine (imul_any _ _ _ _ L 1 _ HI.out HP.out (by omega)).mono ?_
  rintro e w5 ⟨v5, rfl, hv5, hb⟩
  replace cB0 := bc hb ltB cB0
  replace cB1 := bc hb ltB cB1
  replace cB2 := bc hb ltB cB2
  replace ltB := bl hb ltB
  replace cS0 := bc hb ltS cS0
  replace fS0 := bf hb ltS fS0
  replace cS1 := bc hb ltS cS1
  replace fS1 := bf hb ltS fS1
  replace cS2 := bc hb ltS cS2
  replace fS2 := bf hb ltS fS2
  replace ltS := bl hb ltS
  replace cD0 := bc hb ltD cD0
  replace cD1 := bc hb ltD cD1
  replace ltD := bl hb ltD
  replace HI := Lib.hid (HI.out.below hb)
  replace HDn := Lib.hid (HDn.out.below hb)
  replace HP := Lib.hid (HP.out.below hb)
  replace hM := hM.trans (hb.mono hM.size)
  replace hB := hB.trans (hb.mono hB.size)
  have HV5 := Lib.hid (hv5.raw (L + 1) (by rw [Int.mul_one]; omega))
  clear hv5
  refine hK _ _ ⟨⟨w5, hM⟩, rfl⟩ hb ?_
  clear hK K hb
  skip
  refine wpFl2_eff rfl rfl (fun wy hC hg K hK => ?_)
  obtain ⟨⟨wz, hE⟩, hwe⟩ := hC
  change wy = wz at hwe
  subst hwe
  replace cB0 := bc hg ltB cB0
  replace cB1 := bc hg ltB cB1
  replace cB2 := bc hg ltB cB2
  replace ltB := bl hg ltB
  replace cS0 := bc hg ltS cS0
  replace fS0 := bf hg ltS fS0
  replace cS1 := bc hg ltS cS1
  replace fS1 := bf hg ltS fS1
  replace cS2 := bc hg ltS cS2
  replace fS2 := bf hg ltS fS2
  replace ltS := bl hg ltS
  replace cD0 := bc hg ltD cD0
  replace cD1 := bc hg ltD cD1
  replace ltD := bl hg ltD
  replace HI := Lib.hid (HI.out.below hg)
  replace HDn := Lib.hid (HDn.out.below hg)
  replace HP := Lib.hid (HP.out.below hg)
  replace HV5 := Lib.hid (HV5.out.below hg)
  replace hB := hB.trans (hg.mono hB.size)
  replace hM := hE
  clear hE hg
  go_simp
  have hsB' : w.heap.size + 2 ≤ wy.heap.size := ltS
  refine (idivmod_any _ _ _ _ (L + 1) _ HV5.out (HDn.out.mono (by omega)) (by have := r.den_pos; omega) (by omega)).mono ?_
  rintro e w6 ⟨vq, vs, rfl, hq, hs, hb⟩
  replace cB0 := bc hb ltB cB0
  replace cB1 := bc hb ltB cB1
  replace cB2 := bc hb ltB cB2
  replace ltB := bl hb ltB
  replace cS0 := bc hb ltS cS0
  replace fS0 := bf hb ltS fS0
  replace cS1 := bc hb ltS cS1
  replace fS1 := bf hb ltS fS1
  replace cS2 := bc hb ltS cS2
  replace fS2 := bf hb ltS fS2
  replace ltS := bl hb ltS
  replace cD0 := bc hb ltD cD0
  replace cD1 := bc hb ltD cD1
  replace ltD := bl hb ltD
  replace HI := Lib.hid (HI.out.below hb)
  replace HDn := Lib.hid (HDn.out.below hb)
  replace HP := Lib.hid (HP.out.below hb)
  replace HV5 := Lib.hid (HV5.out.below hb)
  replace hM := hM.trans (hb.mono hM.size)
  replace hB := hB.trans (hb.mono hB.size)
  rw [rat_floor] at hq
  have HQ := Lib.hid (hq.mono hsB')
  have HS := Lib.hid (hs.mono hsB')
  obtain ⟨aq, nq, cq, rfl, -, -⟩ := hq
  obtain ⟨az, nz, cz, rfl, -, -⟩ := hs
  generalize decide (r.floor < 0) = dq at *
  generalize decide (r.num * 1 % (r.den : Int) < 0) = ds at *
  refine hK _ _ ⟨⟨w6, hM⟩, rfl⟩ hb ?_
  clear hK K hb
  clear HP HV5
  repeat (refine wpFl2_calm rfl (fun K hK => ?_); go_simp; refine hK _ ?_; clear hK K)
  refine wpFl2_nil fun gQ gE wy hC hg hBk hBk2 hge hge2 hgn => ?_
  obtain ⟨⟨wz, hE⟩, hwe⟩ := hC
  change wy = wz at hwe
  subst hwe
  replace cB0 := bc hg ltB cB0
  replace cB1 := bc hg ltB cB1
  replace cB2 := bc hg ltB cB2
  replace ltB := bl hg ltB
  replace cS0 := bc hg ltS cS0
  replace fS0 := bf hg ltS fS0
  replace cS1 := bc hg ltS cS1
  replace fS1 := bf hg ltS fS1
  replace cS2 := bc hg ltS cS2
  replace fS2 := bf hg ltS fS2
  replace ltS := bl hg ltS
  replace cD0 := bc hg ltD cD0
  replace cD1 := bc hg ltD cD1
  replace ltD := bl hg ltD
  replace HI := Lib.hid (HI.out.below hg)
  replace HDn := Lib.hid (HDn.out.below hg)
  replace HQ := Lib.hid (HQ.out.below hg)
  replace HS := Lib.hid (HS.out.below hg)
  replace hB := hB.trans (hg.mono hB.size)
  replace hM := hE
  clear hE hg
  have z0 := blk_cell hBk 0
  have y0 := blk_free hBk 0
  have z1 := blk_cell hBk 1
  have y1 := blk_free hBk 1
  have v0 := blk_cell hBk2 0
  have u0 := blk_free hBk2 0
  have v1 := blk_cell hBk2 1
  have u1 := blk_free hBk2 1
  simp at z0 z1 v0 v1
  have hgl := blk_lt hBk
  have hgl2 := blk_lt hBk2
  have hgn2 := Ne.symm hgn
  refine wpSched_eff rfl rfl (fun K hK => ?_)
  go_simp
  refine hK _ _ ⟨⟨_, ((hM.setCell (p := ⟨gQ, 0, none⟩) hge _).setCell (p := ⟨gQ, 1, none⟩) hge _)⟩, rfl⟩ ?_
  clear hK K
  refine wpSched_eff rfl rfl (fun K hK => ?_)
  go_simp
  refine hK _ _ ⟨⟨_, ((((hM.setCell (p := ⟨gQ, 0, none⟩) hge _).setCell (p := ⟨gQ, 1, none⟩) hge _).setCell (p := ⟨gE, 0, none⟩) hge2 _).setCell (p := ⟨gE, 1, none⟩) hge2 _)⟩, rfl⟩ ?_
  clear hK K
  repeat (refine wpSched_calm rfl (fun K hK => ?_); go_simp; refine hK _ ?_; clear hK K)
  refine wpSched_nil ?_
  have hMn := ((((hM.setCell (p := ⟨gQ, 0, none⟩) hge (.bool dq)).setCell (p := ⟨gQ, 1, none⟩) hge (.slice aq nq cq)).setCell (p := ⟨gE, 0, none⟩) hge2 (.bool ds)).setCell (p := ⟨gE, 1, none⟩) hge2 (.slice az nz cz))
  replace HQ := Lib.hid (HQ.out.off4 hBk zInt_no hBk2 zInt_no (.bool dq) (.slice aq nq cq) (.bool ds) (.slice az nz cz))
  replace HS := Lib.hid (HS.out.off4 hBk zInt_no hBk2 zInt_no (.bool dq) (.slice aq nq cq) (.bool ds) (.slice az nz cz))
  replace cB0 := bc hMn SLB.out SCB0.out
  replace cB1 := bc hMn SLB.out SCB1.out
  replace cB2 := bc hMn SLB.out SCB2.out
  replace ltB := bl hMn SLB.out
  replace cS0 := bc hMn SLS.out SCS0.out
  replace fS0 := bf hMn SLS.out SFS0.out
  replace cS1 := bc hMn SLS.out SCS1.out
  replace fS1 := bf hMn SLS.out SFS1.out
  replace cS2 := bc hMn SLS.out SCS2.out
  replace fS2 := bf hMn SLS.out SFS2.out
  replace ltS := bl hMn SLS.out
  replace cD0 := bc hMn SLD.out SCD0.out
  replace cD1 := bc hMn SLD.out SCD1.out
  replace ltD := bl hMn SLD.out
  replace HI := Lib.hid (SHI.out.below hMn)
  replace HDn := Lib.hid (SHDn.out.below hMn)
  replace hB := SB.out.trans (hMn.mono SB.out.size)
  have cQ0 : ((((wy.setCell ⟨gQ, 0, none⟩ (.bool dq)).setCell ⟨gQ, 1, none⟩ (.slice aq nq cq)).setCell ⟨gE, 0, none⟩ (.bool ds)).setCell ⟨gE, 1, none⟩ (.slice az nz cz)).cell? ⟨gQ, 0, none⟩ = some (.bool dq) := by go_simp
  have fQ0 : ((((wy.setCell ⟨gQ, 0, none⟩ (.bool dq)).setCell ⟨gQ, 1, none⟩ (.slice aq nq cq)).setCell ⟨gE, 0, none⟩ (.bool ds)).setCell ⟨gE, 1, none⟩ (.slice az nz cz)).frozen? ⟨gQ, 0, none⟩ = false := by go_simp
  have cQ1 : ((((wy.setCell ⟨gQ, 0, none⟩ (.bool dq)).setCell ⟨gQ, 1, none⟩ (.slice aq nq cq)).setCell ⟨gE, 0, none⟩ (.bool ds)).setCell ⟨gE, 1, none⟩ (.slice az nz cz)).cell? ⟨gQ, 1, none⟩ = some (.slice aq nq cq) := by go_simp
  have fQ1 : ((((wy.setCell ⟨gQ, 0, none⟩ (.bool dq)).setCell ⟨gQ, 1, none⟩ (.slice aq nq cq)).setCell ⟨gE, 0, none⟩ (.bool ds)).setCell ⟨gE, 1, none⟩ (.slice az nz cz)).frozen? ⟨gQ, 1, none⟩ = false := by go_simp
  have ltQ : gQ < ((((wy.setCell ⟨gQ, 0, none⟩ (.bool dq)).setCell ⟨gQ, 1, none⟩ (.slice aq nq cq)).setCell ⟨gE, 0, none⟩ (.bool ds)).setCell ⟨gE, 1, none⟩ (.slice az nz cz)).heap.size := by simpa using hgl
  have cE0 : ((((wy.setCell ⟨gQ, 0, none⟩ (.bool dq)).setCell ⟨gQ, 1, none⟩ (.slice aq nq cq)).setCell ⟨gE, 0, none⟩ (.bool ds)).setCell ⟨gE, 1, none⟩ (.slice az nz cz)).cell? ⟨gE, 0, none⟩ = some (.bool ds) := by go_simp
  have fE0 : ((((wy.setCell ⟨gQ, 0, none⟩ (.bool dq)).setCell ⟨gQ, 1, none⟩ (.slice aq nq cq)).setCell ⟨gE, 0, none⟩ (.bool ds)).setCell ⟨gE, 1, none⟩ (.slice az nz cz)).frozen? ⟨gE, 0, none⟩ = false := by go_simp
  have cE1 : ((((wy.setCell ⟨gQ, 0, none⟩ (.bool dq)).setCell ⟨gQ, 1, none⟩ (.slice aq nq cq)).setCell ⟨gE, 0, none⟩ (.bool ds)).setCell ⟨gE, 1, none⟩ (.slice az nz cz)).cell? ⟨gE, 1, none⟩ = some (.slice az nz cz) := by go_simp
  have fE1 : ((((wy.setCell ⟨gQ, 0, none⟩ (.bool dq)).setCell ⟨gQ, 1, none⟩ (.slice aq nq cq)).setCell ⟨gE, 0, none⟩ (.bool ds)).setCell ⟨gE, 1, none⟩ (.slice az nz cz)).frozen? ⟨gE, 1, none⟩ = false := by go_simp
  have ltE : gE < ((((wy.setCell ⟨gQ, 0, none⟩ (.bool dq)).setCell ⟨gQ, 1, none⟩ (.slice aq nq cq)).setCell ⟨gE, 0, none⟩ (.bool ds)).setCell ⟨gE, 1, none⟩ (.slice az nz cz)).heap.size := by simpa using hgl2
  have neQB : w.heap.size < gQ := Nat.lt_of_lt_of_le SLB.out hge
  have neEB : w.heap.size < gE := Nat.lt_of_lt_of_le SLB.out hge2
  have neQS : w.heap.size + 1 < gQ := Nat.lt_of_lt_of_le SLS.out hge
  have neES : w.heap.size + 1 < gE := Nat.lt_of_lt_of_le SLS.out hge2
  have neQD : w3.heap.size < gQ := Nat.lt_of_lt_of_le SLD.out hge
  have neED : w3.heap.size < gE := Nat.lt_of_lt_of_le SLD.out hge2
  clear SCB0 SCB1 SCB2 SLB SCS0 SFS0 SCS1 SFS1 SCS2 SFS2 SLS SCD0 SCD1 SLD SHI SHDn SB
  clear hMn hM hBk hBk2 hgl hgl2 z0 y0 z1 y1 v0 u0 v1 u1
  go_wp2_with fail
  generalize ((((wy.setCell ⟨gQ, 0, none⟩ (.bool dq)).setCell ⟨gQ, 1, none⟩ (.slice aq nq cq)).setCell ⟨gE, 0, none⟩ (.bool ds)).setCell ⟨gE, 1, none⟩ (.slice az nz cz)) = w7 at *
  refine (isign_any _ _ L _ (HS.out.raw L (rest_len r hS2))).mono ?_
  rintro e w8 ⟨rfl, hb⟩
  replace cB0 := bc hb ltB cB0
  replace cB1 := bc hb ltB cB1
  replace cB2 := bc hb ltB cB2
  replace ltB := bl hb ltB
  replace cS0 := bc hb ltS cS0
  replace fS0 := bf hb ltS fS0
  replace cS1 := bc hb ltS cS1
  replace fS1 := bf hb ltS fS1
  replace cS2 := bc hb ltS cS2
  replace fS2 := bf hb ltS fS2
  replace ltS := bl hb ltS
  replace cD0 := bc hb ltD cD0
  replace cD1 := bc hb ltD cD1
  replace ltD := bl hb ltD
  replace cQ0 := bc hb ltQ cQ0
  replace fQ0 := bf hb ltQ fQ0
  replace cQ1 := bc hb ltQ cQ1
  replace fQ1 := bf hb ltQ fQ1
  replace ltQ := bl hb ltQ
  replace cE0 := bc hb ltE cE0
  replace fE0 := bf hb ltE fE0
  replace cE1 := bc hb ltE cE1
  replace fE1 := bf hb ltE fE1
  replace ltE := bl hb ltE
  replace HI := Lib.hid (HI.out.below hb)
  replace HDn := Lib.hid (HDn.out.below hb)
  replace HQ := Lib.hid (HQ.out.below hb)
  replace HS := Lib.hid (HS.out.below hb)
  replace hB := hB.trans (hb.mono hB.size)
  generalize (r.num * 1 % (r.den : Int)).sign = sg at *
  clear hb
  go_wp2_with fail
  have eB0 := box_ext (B := w8.heap.size) cB0 ltB
  have eB1 := box_ext (B := w8.heap.size) cB1 ltB
  have eB2 := box_ext (B := w8.heap.size) cB2 ltB
  have eS0 := box_ext (B := w8.heap.size) cS0 ltS
  have eS1 := box_ext (B := w8.heap.size) cS1 ltS
  have eS2 := box_ext (B := w8.heap.size) cS2 ltS
  have eD0 := box_ext (B := w8.heap.size) cD0 ltD
  have eD1 := box_ext (B := w8.heap.size) cD1 ltD
  have eQ0 := box_ext (B := w8.heap.size) cQ0 ltQ
  have eQ1 := box_ext (B := w8.heap.size) cQ1 ltQ
  have eE0 := box_ext (B := w8.heap.size) cE0 ltE
  have eE1 := box_ext (B := w8.heap.size) cE1 ltE
  refine wp_region_sched [(0, false), (1, false), (3, false), (2, true), (4, true), (5, false)] (fun w' => ∃ W : Ext w8.heap.size w8, w' = W.1) (by kernel_rfl) (by kernel_rfl) ⟨⟨w8.drew, (Below.refl _ _).drew⟩, rfl⟩ ?_
  repeat (refine wpSched_calm rfl (fun K hK => ?_); go_simp; refine hK _ ?_; clear hK K)
  clear eB0 eB1 eB2 eS0 eS1 eS2 eD0 eD1 eQ0 eQ1 eE0 eE1
  have hbx : Below w8.heap.size w8 w8.drew := (Below.refl _ _).drew
  have hM := hbx
  replace cB0 := bc hbx ltB cB0
  replace cB1 := bc hbx ltB cB1
  replace cB2 := bc hbx ltB cB2
  replace ltB := bl hbx ltB
  replace cS0 := bc hbx ltS cS0
  replace fS0 := bf hbx ltS fS0
  replace cS1 := bc hbx ltS cS1
  replace fS1 := bf hbx ltS fS1
  replace cS2 := bc hbx ltS cS2
  replace fS2 := bf hbx ltS fS2
  replace ltS := bl hbx ltS
  replace cD0 := bc hbx ltD cD0
  replace cD1 := bc hbx ltD cD1
  replace ltD := bl hbx ltD
  replace cQ0 := bc hbx ltQ cQ0
  replace fQ0 := bf hbx ltQ fQ0
  replace cQ1 := bc hbx ltQ cQ1
  replace fQ1 := bf hbx ltQ fQ1
  replace ltQ := bl hbx ltQ
  replace cE0 := bc hbx ltE cE0
  replace fE0 := bf hbx ltE fE0
  replace cE1 := bc hbx ltE cE1
  replace fE1 := bf hbx ltE fE1
  replace ltE := bl hbx ltE
  replace HI := Lib.hid (HI.out.below hbx)
  replace HDn := Lib.hid (HDn.out.below hbx)
  replace HQ := Lib.hid (HQ.out.below hbx)
  replace HS := Lib.hid (HS.out.below hbx)
  replace hB := hB.trans (hbx.mono hB.size)
  clear hbx
  generalize w8.drew = ww8d at *
  refine wpSched_eff rfl rfl (fun K hK => ?_)
  go_simp
  refine (iadd_any _ _ _ _ L _ (HS.out.raw L (rest_len r hS2)) (HS.out.raw L (rest_len r hS2)) (by omega)).mono ?_
  rintro e w9 ⟨v9, rfl, hv9, hb⟩
  replace cB0 := bc hb ltB cB0
  replace cB1 := bc hb ltB cB1
  replace cB2 := bc hb ltB cB2
  replace ltB := bl hb ltB
  replace cS0 := bc hb ltS cS0
  replace fS0 := bf hb ltS fS0
  replace cS1 := bc hb ltS cS1
  replace fS1 := bf hb ltS fS1
  replace cS2 := bc hb ltS cS2
  replace fS2 := bf hb ltS fS2
  replace ltS := bl hb ltS
  replace cD0 := bc hb ltD cD0
  replace cD1 := bc hb ltD cD1
  replace ltD := bl hb ltD
  replace cQ0 := bc hb ltQ cQ0
  replace fQ0 := bf hb ltQ fQ0
  replace cQ1 := bc hb ltQ cQ1
  replace fQ1 := bf hb ltQ fQ1
  replace ltQ := bl hb ltQ
  replace cE0 := bc hb ltE cE0
  replace fE0 := bf hb ltE fE0
  replace cE1 := bc hb ltE cE1
  replace fE1 := bf hb ltE fE1
  replace ltE := bl hb ltE
  replace HI := Lib.hid (HI.out.below hb)
  replace HDn := Lib.hid (HDn.out.below hb)
  replace HQ := Lib.hid (HQ.out.below hb)
  replace HS := Lib.hid (HS.out.below hb)
  replace hM := hM.trans (hb.mono hM.size)
  replace hB := hB.trans (hb.mono hB.size)
  have HV9 := Lib.hid (hv9.raw (L + 1) (int_add_len (rest_len r hS2) (rest_len r hS2)))
  clear hv9
  clear hb
  refine hK _ _ ⟨⟨w9, hM⟩, rfl⟩ ?_
  clear hK K
  refine wpSched_eff rfl rfl (fun K hK => ?_)
  go_simp
  refine (icmp_any _ _ _ _ (L + 1) L _ HV9.out HDn.out).mono ?_
  rintro e w10 ⟨rfl, hb⟩
  replace cB0 := bc hb ltB cB0
  replace cB1 := bc hb ltB cB1
  replace cB2 := bc hb ltB cB2
  replace ltB := bl hb ltB
  replace cS0 := bc hb ltS cS0
  replace fS0 := bf hb ltS fS0
  replace cS1 := bc hb ltS cS1
  replace fS1 := bf hb ltS fS1
  replace cS2 := bc hb ltS cS2
  replace fS2 := bf hb ltS fS2
  replace ltS := bl hb ltS
  replace cD0 := bc hb ltD cD0
  replace cD1 := bc hb ltD cD1
  replace ltD := bl hb ltD
  replace cQ0 := bc hb ltQ cQ0
  replace fQ0 := bf hb ltQ fQ0
  replace cQ1 := bc hb ltQ cQ1
  replace fQ1 := bf hb ltQ fQ1
  replace ltQ := bl hb ltQ
  replace cE0 := bc hb ltE cE0
  replace fE0 := bf hb ltE fE0
  replace cE1 := bc hb ltE cE1
  replace fE1 := bf hb ltE fE1
  replace ltE := bl hb ltE
  replace HI := Lib.hid (HI.out.below hb)
  replace HDn := Lib.hid (HDn.out.below hb)
  replace HQ := Lib.hid (HQ.out.below hb)
  replace HS := Lib.hid (HS.out.below hb)
  replace HV9 := Lib.hid (HV9.out.below hb)
  replace hM := hM.trans (hb.mono hM.size)
  replace hB := hB.trans (hb.mono hB.size)
  rw [rat_half]
  clear hb
  refine hK _ _ ⟨⟨w10, hM⟩, rfl⟩ ?_
  clear hK K
  clear HV9
  repeat (refine wpSched_calm rfl (fun K hK => ?_); go_simp; refine hK _ ?_; clear hK K)
  refine wpSched_nil ?_
  go_wp2_with fail
  have hhb := rcmpI_bd (fracR r) (mkRat 1 2)
  generalize rcmpI (fracR r) (mkRat 1 2) = hf at *
  have eB0 := box_ext (B := w10.heap.size) cB0 ltB
  have eB1 := box_ext (B := w10.heap.size) cB1 ltB
  have eB2 := box_ext (B := w10.heap.size) cB2 ltB
  have eS0 := box_ext (B := w10.heap.size) cS0 ltS
  have eS1 := box_ext (B := w10.heap.size) cS1 ltS
  have eS2 := box_ext (B := w10.heap.size) cS2 ltS
  have eD0 := box_ext (B := w10.heap.size) cD0 ltD
  have eD1 := box_ext (B := w10.heap.size) cD1 ltD
  have eQ0 := box_ext (B := w10.heap.size) cQ0 ltQ
  have eQ1 := box_ext (B := w10.heap.size) cQ1 ltQ
  have eE0 := box_ext (B := w10.heap.size) cE0 ltE
  have eE1 := box_ext (B := w10.heap.size) cE1 ltE
  refine wp_region_sched [(0, false), (1, false), (2, false), (3, false), (6, false), (4, true), (5, false), (7, true)] (fun w' => ∃ W : Ext w10.heap.size w10, w' = W.1) (by kernel_rfl) (by kernel_rfl) ⟨⟨w10.drew, (Below.refl _ _).drew⟩, rfl⟩ ?_
  repeat (refine wpSched_calm rfl (fun K hK => ?_); go_simp; refine hK _ ?_; clear hK K)
  clear eB0 eB1 eB2 eS0 eS1 eS2 eD0 eD1 eQ0 eQ1 eE0 eE1
  have hbx : Below w10.heap.size w10 w10.drew := (Below.refl _ _).drew
  have hM := hbx
  replace cB0 := bc hbx ltB cB0
  replace cB1 := bc hbx ltB cB1
  replace cB2 := bc hbx ltB cB2
  replace ltB := bl hbx ltB
  replace cS0 := bc hbx ltS cS0
  replace fS0 := bf hbx ltS fS0
  replace cS1 := bc hbx ltS cS1
  replace fS1 := bf hbx ltS fS1
  replace cS2 := bc hbx ltS cS2
  replace fS2 := bf hbx ltS fS2
  replace ltS := bl hbx ltS
  replace cD0 := bc hbx ltD cD0
  replace cD1 := bc hbx ltD cD1
  replace ltD := bl hbx ltD
  replace cQ0 := bc hbx ltQ cQ0
  replace fQ0 := bf hbx ltQ fQ0
  replace cQ1 := bc hbx ltQ cQ1
  replace fQ1 := bf hbx ltQ fQ1
  replace ltQ := bl hbx ltQ
  replace cE0 := bc hbx ltE cE0
  replace fE0 := bf hbx ltE fE0
  replace cE1 := bc hbx ltE cE1
  replace fE1 := bf hbx ltE fE1
  replace ltE := bl hbx ltE
  replace HI := Lib.hid (HI.out.below hbx)
  replace HDn := Lib.hid (HDn.out.below hbx)
  replace HQ := Lib.hid (HQ.out.below hbx)
  replace HS := Lib.hid (HS.out.below hbx)
  replace hB := hB.trans (hbx.mono hB.size)
  clear hbx
  generalize w10.drew = ww10d at *
  refine wpSched_eff rfl rfl (fun K hK => ?_)
  go_simp
  refine (isign_any _ _ L _ HI.out).mono ?_
  rintro e w11 ⟨rfl, hb⟩
  replace cB0 := bc hb ltB cB0
  replace cB1 := bc hb ltB cB1
  replace cB2 := bc hb ltB cB2
  replace ltB := bl hb ltB
  replace cS0 := bc hb ltS cS0
  replace fS0 := bf hb ltS fS0
  replace cS1 := bc hb ltS cS1
  replace fS1 := bf hb ltS fS1
  replace cS2 := bc hb ltS cS2
  replace fS2 := bf hb ltS fS2
  replace ltS := bl hb ltS
  replace cD0 := bc hb ltD cD0
  replace cD1 := bc hb ltD cD1
  replace ltD := bl hb ltD
  replace cQ0 := bc hb ltQ cQ0
  replace fQ0 := bf hb ltQ fQ0
  replace cQ1 := bc hb ltQ cQ1
  replace fQ1 := bf hb ltQ fQ1
  replace ltQ := bl hb ltQ
  replace cE0 := bc hb ltE cE0
  replace fE0 := bf hb ltE fE0
  replace cE1 := bc hb ltE cE1
  replace fE1 := bf hb ltE fE1
  replace ltE := bl hb ltE
  replace HI := Lib.hid (HI.out.below hb)
  replace HDn := Lib.hid (HDn.out.below hb)
  replace HQ := Lib.hid (HQ.out.below hb)
  replace HS := Lib.hid (HS.out.below hb)
  replace hM := hM.trans (hb.mono hM.size)
  replace hB := hB.trans (hb.mono hB.size)
  have HSg := Lib.hid (rat_neg r)
  generalize r.num.sign = sg1 at *
  clear hb
  refine hK _ _ ⟨⟨w11, hM⟩, rfl⟩ ?_
  clear hK K
  repeat (refine wpSched_calm rfl (fun K hK => ?_); go_simp; refine hK _ ?_; clear hK K)
  rw [HSg.out]
  clear HSg
  generalize decide (r < 0) = ngr at *
  refine wpSched_eff rfl rfl (fun K hK => ?_)
  go_simp
  refine (higher_any _ _ _ hf ngr m _ HQ.out hhb.1 hhb.2 h1 h2).mono ?_
  rintro e w12 ⟨rfl, hb⟩
  replace cB0 := bc hb ltB cB0
  replace cB1 := bc hb ltB cB1
  replace cB2 := bc hb ltB cB2
  replace ltB := bl hb ltB
  replace cS0 := bc hb ltS cS0
  replace fS0 := bf hb ltS fS0
  replace cS1 := bc hb ltS cS1
  replace fS1 := bf hb ltS fS1
  replace cS2 := bc hb ltS cS2
  replace fS2 := bf hb ltS fS2
  replace ltS := bl hb ltS
  replace cD0 := bc hb ltD cD0
  replace cD1 := bc hb ltD cD1
  replace ltD := bl hb ltD
  replace cQ0 := bc hb ltQ cQ0
  replace fQ0 := bf hb ltQ fQ0
  replace cQ1 := bc hb ltQ cQ1
  replace fQ1 := bf hb ltQ fQ1
  replace ltQ := bl hb ltQ
  replace cE0 := bc hb ltE cE0
  replace fE0 := bf hb ltE fE0
  replace cE1 := bc hb ltE cE1
  replace fE1 := bf hb ltE fE1
  replace ltE := bl hb ltE
  replace HI := Lib.hid (HI.out.below hb)
  replace HDn := Lib.hid (HDn.out.below hb)
  replace HQ := Lib.hid (HQ.out.below hb)
  replace HS := Lib.hid (HS.out.below hb)
  replace hM := hM.trans (hb.mono hM.size)
  replace hB := hB.trans (hb.mono hB.size)
  rw [HUp.out]
  clear hb
  refine hK _ _ ⟨⟨w12, hM⟩, rfl⟩ ?_
  clear hK K
  refine wpSched_nil ?_
  go_wp2_with fail
  have eB0 := box_ext (B := w12.heap.size) cB0 ltB
  have eB1 := box_ext (B := w12.heap.size) cB1 ltB
  have eB2 := box_ext (B := w12.heap.size) cB2 ltB
  have eS0 := box_ext (B := w12.heap.size) cS0 ltS
  have eS1 := box_ext (B := w12.heap.size) cS1 ltS
  have eS2 := box_ext (B := w12.heap.size) cS2 ltS
  have eD0 := box_ext (B := w12.heap.size) cD0 ltD
  have eD1 := box_ext (B := w12.heap.size) cD1 ltD
  have eQ0 := box_ext (B := w12.heap.size) cQ0 ltQ
  have eQ1 := box_ext (B := w12.heap.size) cQ1 ltQ
  have eE0 := box_ext (B := w12.heap.size) cE0 ltE
  have eE1 := box_ext (B := w12.heap.size) cE1 ltE
  refine wp_region_tail [(0, false), (1, true), (2, true)] [3] (fun w' => ∃ W : Ext w12.heap.size w12, w' = W.1) (by kernel_rfl) (by kernel_rfl) ⟨⟨w12.drew, (Below.refl _ _).drew⟩, rfl⟩ ?_
  repeat (refine wpSt_calm rfl (fun K hK => ?_); go_simp; refine hK _ ?_; clear hK K)
  clear eB0 eB1 eB2 eS0 eS1 eS2 eD0 eD1 eQ0 eQ1 eE0 eE1
  have hbx : Below w12.heap.size w12 w12.drew := (Below.refl _ _).drew
  have hM := hbx
  replace cB0 := bc hbx ltB cB0
  replace cB1 := bc hbx ltB cB1
  replace cB2 := bc hbx ltB cB2
  replace ltB := bl hbx ltB
  replace cS0 := bc hbx ltS cS0
  replace fS0 := bf hbx ltS fS0
  replace cS1 := bc hbx ltS cS1
  replace fS1 := bf hbx ltS fS1
  replace cS2 := bc hbx ltS cS2
  replace fS2 := bf hbx ltS fS2
  replace ltS := bl hbx ltS
  replace cD0 := bc hbx ltD cD0
  replace cD1 := bc hbx ltD cD1
  replace ltD := bl hbx ltD
  replace cQ0 := bc hbx ltQ cQ0
  replace fQ0 := bf hbx ltQ fQ0
  replace cQ1 := bc hbx ltQ cQ1
  replace fQ1 := bf hbx ltQ fQ1
  replace ltQ := bl hbx ltQ
  replace cE0 := bc hbx ltE cE0
  replace fE0 := bf hbx ltE fE0
  replace cE1 := bc hbx ltE cE1
  replace fE1 := bf hbx ltE fE1
  replace ltE := bl hbx ltE
  replace HI := Lib.hid (HI.out.below hbx)
  replace HDn := Lib.hid (HDn.out.below hbx)
  replace HQ := Lib.hid (HQ.out.below hbx)
  replace HS := Lib.hid (HS.out.below hbx)
  replace hB := hB.trans (hbx.mono hB.size)
  clear hbx
  generalize w12.drew = ww12d at *
  refine wpSt_eff rfl rfl (fun K hK => ?_)
  go_simp
  refine (iof_any 1 _ (by omega) (by omega)).mono ?_
  rintro e w13 ⟨v13, rfl, hv13, hb⟩
  replace cB0 := bc hb ltB cB0
  replace cB1 := bc hb ltB cB1
  replace cB2 := bc hb ltB cB2
  replace ltB := bl hb ltB
  replace cS0 := bc hb ltS cS0
  replace fS0 := bf hb ltS fS0
  replace cS1 := bc hb ltS cS1
  replace fS1 := bf hb ltS fS1
  replace cS2 := bc hb ltS cS2
  replace fS2 := bf hb ltS fS2
  replace ltS := bl hb ltS
  replace cD0 := bc hb ltD cD0
  replace cD1 := bc hb ltD cD1
  replace ltD := bl hb ltD
  replace cQ0 := bc hb ltQ cQ0
  replace fQ0 := bf hb ltQ fQ0
  replace cQ1 := bc hb ltQ cQ1
  replace fQ1 := bf hb ltQ fQ1
  replace ltQ := bl hb ltQ
  replace cE0 := bc hb ltE cE0
  replace fE0 := bf hb ltE fE0
  replace cE1 := bc hb ltE cE1
  replace fE1 := bf hb ltE fE1
  replace ltE := bl hb ltE
  replace HI := Lib.hid (HI.out.below hb)
  replace HDn := Lib.hid (HDn.out.below hb)
  replace HQ := Lib.hid (HQ.out.below hb)
  replace HS := Lib.hid (HS.out.below hb)
  replace hM := hM.trans (hb.mono hM.size)
  replace hB := hB.trans (hb.mono hB.size)
  have HO := Lib.hid ((hv13.raw 1 (digs_length_le (by simp))).mono (show 1 ≤ L + 1 by omega))
  clear hv13
  clear hb
  refine hK _ _ ⟨⟨w13, hM⟩, rfl⟩ ?_
  clear hK K
  have hsQ := ltQ
  have hsS := ltS
  refine wpSt_eff rfl rfl (fun K hK => ?_)
  go_simp
  refine (iadd_any _ _ _ _ (L + 1) _ (HQ.out.raw (L + 1) (floor_len r hS1)) HO.out (by omega)).mono ?_
  rintro e w14 ⟨v14, rfl, hv14, hb⟩
  replace cB0 := bc hb ltB cB0
  replace cB1 := bc hb ltB cB1
  replace cB2 := bc hb ltB cB2
  replace ltB := bl hb ltB
  replace cS0 := bc hb ltS cS0
  replace fS0 := bf hb ltS fS0
  replace cS1 := bc hb ltS cS1
  replace fS1 := bf hb ltS fS1
  replace cS2 := bc hb ltS cS2
  replace fS2 := bf hb ltS fS2
  replace ltS := bl hb ltS
  replace cD0 := bc hb ltD cD0
  replace cD1 := bc hb ltD cD1
  replace ltD := bl hb ltD
  replace cQ0 := bc hb ltQ cQ0
  replace fQ0 := bf hb ltQ fQ0
  replace cQ1 := bc hb ltQ cQ1
  replace fQ1 := bf hb ltQ fQ1
  replace ltQ := bl hb ltQ
  replace cE0 := bc hb ltE cE0
  replace fE0 := bf hb ltE fE0
  replace cE1 := bc hb ltE cE1
  replace fE1 := bf hb ltE fE1
  replace ltE := bl hb ltE
  replace HI := Lib.hid (HI.out.below hb)
  replace HDn := Lib.hid (HDn.out.below hb)
  replace HQ := Lib.hid (HQ.out.below hb)
  replace HS := Lib.hid (HS.out.below hb)
  replace HO := Lib.hid (HO.out.below hb)
  replace hM := hM.trans (hb.mono hM.size)
  replace hB := hB.trans (hb.mono hB.size)
  obtain ⟨a14, n14, c14, rfl, p1, p2⟩ := hv14
  have HF := Lib.hid (int_store (B := w13.heap.size) (B' := w13.heap.size) (g := gQ) ⟨a14, n14, c14, rfl, p1, p2⟩ hsQ (Nat.le_refl _))
  clear p1 p2
  generalize decide (r.floor + 1 < 0) = d14 at *
  clear hb
  refine hK _ _ ⟨⟨w14, hM⟩, rfl⟩ ?_
  clear hK K
  refine wpSt_end ?_
  refine wpTail_op rfl rfl (fun K hK => ?_)
  go_simp
  refine hK _ _ ?_
  clear hK K
  refine wpTail_nil ?_
  have hq1 : gQ ≠ w.heap.size + 1 := by omega
  have hq2 : w.heap.size + 1 ≠ gQ := by omega
  have hB2 := (hB.setCell (p := ⟨gQ, 0, none⟩) (by simp only; omega) (.bool d14)).setCell (p := ⟨gQ, 1, none⟩) (by simp only; omega) (.slice a14 n14 c14)
  have cT0 : ((w14.setCell ⟨gQ, 0, none⟩ (.bool d14)).setCell ⟨gQ, 1, none⟩ (.slice a14 n14 c14)).cell? ⟨gQ, 0, none⟩ = some (.bool d14) := by go_simp
  have cT1 : ((w14.setCell ⟨gQ, 0, none⟩ (.bool d14)).setCell ⟨gQ, 1, none⟩ (.slice a14 n14 c14)).cell? ⟨gQ, 1, none⟩ = some (.slice a14 n14 c14) := by go_simp
  have k0 : ((w14.setCell ⟨gQ, 0, none⟩ (.bool d14)).setCell ⟨gQ, 1, none⟩ (.slice a14 n14 c14)).cell? ⟨w.heap.size + 1, 0, none⟩ = some (.bool false) := by rw [World.cell?_setCell_far _ _ _ _ hq1, World.cell?_setCell_far _ _ _ _ hq1]; exact cS0
  have k1 : ((w14.setCell ⟨gQ, 0, none⟩ (.bool d14)).setCell ⟨gQ, 1, none⟩ (.slice a14 n14 c14)).cell? ⟨w.heap.size + 1, 1, none⟩ = some (.slice none 0 0) := by rw [World.cell?_setCell_far _ _ _ _ hq1, World.cell?_setCell_far _ _ _ _ hq1]; exact cS1
  have k2 : ((w14.setCell ⟨gQ, 0, none⟩ (.bool d14)).setCell ⟨gQ, 1, none⟩ (.slice a14 n14 c14)).cell? ⟨w.heap.size + 1, 2, none⟩ = some (.int .i64 0) := by rw [World.cell?_setCell_far _ _ _ _ hq1, World.cell?_setCell_far _ _ _ _ hq1]; exact cS2
  have j0 : ((w14.setCell ⟨gQ, 0, none⟩ (.bool d14)).setCell ⟨gQ, 1, none⟩ (.slice a14 n14 c14)).frozen? ⟨w.heap.size + 1, 0, none⟩ = false := by go_simp
  have j1 : ((w14.setCell ⟨gQ, 0, none⟩ (.bool d14)).setCell ⟨gQ, 1, none⟩ (.slice a14 n14 c14)).frozen? ⟨w.heap.size + 1, 1, none⟩ = false := by go_simp
  have j2 : ((w14.setCell ⟨gQ, 0, none⟩ (.bool d14)).setCell ⟨gQ, 1, none⟩ (.slice a14 n14 c14)).frozen? ⟨w.heap.size + 1, 2, none⟩ = false := by go_simp
  clear cS0 cS1 cS2 fS0 fS1 fS2 cQ0 cQ1 hB
  generalize ((w14.setCell ⟨gQ, 0, none⟩ (.bool d14)).setCell ⟨gQ, 1, none⟩ (.slice a14 n14 c14)) = w15 at *
  have hB := hB2
  have cS0 := k0
  have cS1 := k1
  have cS2 := k2
  clear hB2 k0 k1 k2
  have HFin := Lib.hid (dec_store (B' := w.heap.size) (g := w.heap.size + 1) HF.out (by omega) (by omega) (.int .i64 0))
  go_wp2_with fail
  exact bodyPost_ret (v := .tuple #[.agg #[.bool d14, .slice a14 n14 c14, .int .i64 0], .int .i64 0]) (by simp [results, Tryz.results73, go_sem, cS0, cS1, cS2]) rfl ⟨_, _, rfl, by rw [HRd.out]; exact HFin.out, ((hB.setCell (p := ⟨w.heap.size + 1, 0, none⟩) (by simp) _).setCell (p := ⟨w.heap.size + 1, 1, none⟩) (by simp) _).setCell (p := ⟨w.heap.size + 1, 2, none⟩) (by simp) _⟩

theorem round_any (v : Value) (r : Rat) (m : Int) (L : Nat) (w : World) (hv : RatV w v r L) (hL : 1 ≤ L) (hm : (L + 4) * 4 ≤ 140737488355328) (h1 : 1 ≤ m) (h2 : m ≤ 7) :
    Calls Tryz.prog 73 #[v, .int .i64 0, .int .i64 m] w fun e w' => ∃ b s, e = .returned (.tuple #[.agg #[b, s, .int .i64 0], .int .i64 0]) ∧ IntN w.heap.size w' (.agg #[b, s]) (roundI m r) ∧ Below w.heap.size w w' := by
  by_cases hf : fracR r = 0
  · exact round_zero v r m L w hv hL hm h1 h2 hf
  · cases hu : upB m r
    · exact round_no' v r m L w hv hL hm h1 h2 hf hu
    · exact round_up' v r m L w hv hL hm h1 h2 hf hu

end Go.Proofs.YtahmndacoanfiaaGreat
