/- Uploads: what Receive returns for a packet of the log. Condition: as stated (Inb). -/
import Derived.Test.YtpdodapdaeochaaUpK
namespace Go.Proofs.Ytpdodapdaeochaa
set_option maxRecDepth 100000
open Go.RowKit

structure OwB (w : World) (B : Nat) (v : Value) (xs : List UInt8) : Prop where
  out : Owns w B 5 v (bvs xs)
theorem OwB.below {w w' : World} {B : Nat} {v : Value} {xs : List UInt8} (h : OwB w B v xs) (hb : Below w.heap.size w w') : OwB w' B v xs := ⟨h.1.later hb⟩
set_option maxHeartbeats 8000000 in
theorem receive_n (s : Nat) (log : List UInt8) (d : Nat) (l : List PK) (q : PK) (su : UInt64) (a0 a1 a2 : Option Addr) (c0 k1 c1 n c2 p : Nat) (w : World) (hI : Inb s log d l) (h0 : Bytes w a0 d c0 (log.take d)) (hx : PksIn w a1 k1 c1 (pks s log l)) (hk : l.length = k1) (hq : GoodQ log q) (hp : q.1 = p) (hn : q.2 = n) (hsu : (pk s log q).su = su) (hy : Bytes w a2 n c2 (seg log q)) (hg : ¬ d < q.1) :
    Calls Try.prog 11 #[.agg #[.int .i64 s, .slice a0 d c0, .slice a1 k1 c1], .agg #[.int .i64 s, .int .i64 p, .slice a2 n c2, .int .u64 (su.toNat : Int)]] w fun e w' => ∃ b0 e0 b1 e1 d' l', rxN d l q = (d', l') ∧ e = .returned (.tuple #[.agg #[.int .i64 s, .slice b0 d' e0, .slice b1 l'.length e1], .int .i64 0]) ∧ Bytes w' b0 d' e0 (log.take d') ∧ PksIn w' b1 l'.length e1 (pks s log l') ∧ d' ≤ log.length ∧ Below w.heap.size w w' := by
  have HX := Lib.hid hx
  have HI := Lib.hid hI
  have HK := Lib.hid hk
  have H0 := Lib.hid h0
  have HY := Lib.hid hy
  have HQ := Lib.hid hq
  have HP := Lib.hid hp
  have HN := Lib.hid hn
  have HS := Lib.hid hsu
  have hn1 : k1 ≤ 1000 := by rw [← hk]; exact hI.n
  have hL := hI.L
  have hd1 : d ≤ log.length := hI.dl
  have hpn : p + n ≤ log.length := by rw [← hp, ← hn]; exact hq.2.2
  have hqe : (p, n) = q := by rw [← hp, ← hn]
  have HQe := Lib.hid hqe
  have hof : OfLog log ⟨s, p, seg log q, su⟩ := by
    have := pk_of (s := s) hq
    rw [← hp, ← hsu]; exact this
  have HCk := Lib.hid (show chkE ⟨s, p, seg log q, su⟩ = 0 by
    have := pk_chk (s := s) hI.s hI.L hq
    rw [← hp, ← hsu]; exact this)
  have HF := Lib.hid hof
  have HFs := Lib.hid (show ∀ i, i < k1 → OfLog log (pks s log l i) from fun i hi => pk_of (hI.q i (by rw [hk]; exact hi)).1)
  have HLs := Lib.hid (show LsOf l (pks s log l) k1 from ⟨hk, fun i hi => ⟨rfl, pk_len (hI.q i (by rw [hk]; exact hi)).1⟩⟩)
  have hdp : p ≤ d := by rw [← hp]; omega
  have dg : decide (d < p) = false := decide_eq_false (by omega)
  have HRx := Lib.hid (show rxN d l q = absorb (max d (p + n)) l by unfold rxN; rw [if_neg hg, ← hp, ← hn])
  clear hg
  clear hx hI hk h0 hy hq hp hn hsu hqe hof
  go_enter Try.func11, Try.ntmps11
  go_wp2_with fail
  have hbx : Below w.heap.size w (((w.alloc (.cells #[.int .i64 s, .slice a0 d c0, .slice a1 k1 c1] 28)).alloc (.cells #[.int .i64 s, .int .i64 p, .slice a2 n c2, .int .u64 (su.toNat : Int)] 35)).alloc (.cells #[.int .i64 0, .slice none 0 0, .slice none 0 0] 28)) := ((((Below.refl _ _).alloc (Nat.le_refl _) _).alloc (by simp) _).alloc (by simp <;> omega) _)
  generalize hWW : (((w.alloc (.cells #[.int .i64 s, .slice a0 d c0, .slice a1 k1 c1] 28)).alloc (.cells #[.int .i64 s, .int .i64 p, .slice a2 n c2, .int .u64 (su.toNat : Int)] 35)).alloc (.cells #[.int .i64 0, .slice none 0 0, .slice none 0 0] 28)) = w0 at *
  replace H0 := Lib.hid (H0.out.below hbx)
  replace HX := Lib.hid (HX.out.below hbx)
  replace HY := Lib.hid (HY.out.below hbx)
  have cI0 : w0.cell? ⟨w.heap.size, 0, none⟩ = some (.int .i64 s) := by subst hWW; go_simp
  have cI1 : w0.cell? ⟨w.heap.size, 1, none⟩ = some (.slice a0 d c0) := by subst hWW; go_simp
  have cI2 : w0.cell? ⟨w.heap.size, 2, none⟩ = some (.slice a1 k1 c1) := by subst hWW; go_simp
  have ltI : w.heap.size < w0.heap.size := by subst hWW; simp <;> omega
  have cP0 : w0.cell? ⟨w.heap.size + 1, 0, none⟩ = some (.int .i64 s) := by subst hWW; go_simp
  have cP1 : w0.cell? ⟨w.heap.size + 1, 1, none⟩ = some (.int .i64 p) := by subst hWW; go_simp
  have cP2 : w0.cell? ⟨w.heap.size + 1, 2, none⟩ = some (.slice a2 n c2) := by subst hWW; go_simp
  have cP3 : w0.cell? ⟨w.heap.size + 1, 3, none⟩ = some (.int .u64 (su.toNat : Int)) := by subst hWW; go_simp
  have ltP : w.heap.size + 1 < w0.heap.size := by subst hWW; simp <;> omega
  have cR0 : w0.cell? ⟨w.heap.size + 1 + 1, 0, none⟩ = some (.int .i64 0) := by subst hWW; go_simp
  have fR0 : w0.frozen? ⟨w.heap.size + 1 + 1, 0, none⟩ = false := by subst hWW; go_simp
  have cR1 : w0.cell? ⟨w.heap.size + 1 + 1, 1, none⟩ = some (.slice none 0 0) := by subst hWW; go_simp
  have fR1 : w0.frozen? ⟨w.heap.size + 1 + 1, 1, none⟩ = false := by subst hWW; go_simp
  have cR2 : w0.cell? ⟨w.heap.size + 1 + 1, 2, none⟩ = some (.slice none 0 0) := by subst hWW; go_simp
  have fR2 : w0.frozen? ⟨w.heap.size + 1 + 1, 2, none⟩ = false := by subst hWW; go_simp
  have ltR : w.heap.size + 1 + 1 < w0.heap.size := by subst hWW; simp
  have hB := hbx
  clear hbx hWW
  have HA := Lib.hid (show Bl w0 w0 from Below.refl _ _)
  have hw0 : w.heap.size + 3 ≤ w0.heap.size := by omega
  have HcI := Lib.hid cI2
  have HlI := Lib.hid ltI
  have HcP := Lib.hid (And.intro cP0 (And.intro cP1 (And.intro cP2 cP3)))
  have HlP := Lib.hid ltP
  have HcR := Lib.hid (And.intro cR0 (And.intro cR1 (And.intro cR2 (And.intro fR0 (And.intro fR1 fR2)))))
  have HlR := Lib.hid ltR
  have HX0 := Lib.hid HX.out
  have HY0 := Lib.hid HY.out
  have HB0 := Lib.hid hB
  refine (valid_any s log d l a0 a1 c0 k1 c1 _ HI.out HX.out HK.out).mono ?_
  rintro e w1 ⟨rfl, hb⟩
  replace cI0 := bc hb ltI cI0
  replace cI1 := bc hb ltI cI1
  replace cI2 := bc hb ltI cI2
  replace ltI := bl hb ltI
  replace cP0 := bc hb ltP cP0
  replace cP1 := bc hb ltP cP1
  replace cP2 := bc hb ltP cP2
  replace cP3 := bc hb ltP cP3
  replace ltP := bl hb ltP
  replace cR0 := bc hb ltR cR0
  replace fR0 := bf hb ltR fR0
  replace cR1 := bc hb ltR cR1
  replace fR1 := bf hb ltR fR1
  replace cR2 := bc hb ltR cR2
  replace fR2 := bf hb ltR fR2
  replace ltR := bl hb ltR
  replace H0 := Lib.hid (H0.out.below hb)
  replace HX := Lib.hid (HX.out.below hb)
  replace HY := Lib.hid (HY.out.below hb)
  replace HA := Lib.hid (HA.out.below hb)
  replace hB := hB.trans (hb.mono hB.size)
  clear hb
  go_wp2_with fail
  refine (check_any ⟨s, p, seg log q, su⟩ a2 n c2 _ HY.out).mono ?_
  rintro e w2 ⟨rfl, hb⟩
  replace cI0 := bc hb ltI cI0
  replace cI1 := bc hb ltI cI1
  replace cI2 := bc hb ltI cI2
  replace ltI := bl hb ltI
  replace cP0 := bc hb ltP cP0
  replace cP1 := bc hb ltP cP1
  replace cP2 := bc hb ltP cP2
  replace cP3 := bc hb ltP cP3
  replace ltP := bl hb ltP
  replace cR0 := bc hb ltR cR0
  replace fR0 := bf hb ltR fR0
  replace cR1 := bc hb ltR cR1
  replace fR1 := bf hb ltR fR1
  replace cR2 := bc hb ltR cR2
  replace fR2 := bf hb ltR fR2
  replace ltR := bl hb ltR
  replace H0 := Lib.hid (H0.out.below hb)
  replace HX := Lib.hid (HX.out.below hb)
  replace HY := Lib.hid (HY.out.below hb)
  replace HA := Lib.hid (HA.out.below hb)
  replace hB := hB.trans (hb.mono hB.size)
  rw [HCk.out]
  clear hb
  go_wp2_with fail
  refine (clash_any log s (pks s log l) ⟨s, p, seg log q, su⟩ a0 a1 a2 d c0 k1 c1 n c2 _ hL hd1 H0.out HFs.out HF.out HX.out HY.out).mono ?_
  rintro e w3 ⟨rfl, hb⟩
  replace cI0 := bc hb ltI cI0
  replace cI1 := bc hb ltI cI1
  replace cI2 := bc hb ltI cI2
  replace ltI := bl hb ltI
  replace cP0 := bc hb ltP cP0
  replace cP1 := bc hb ltP cP1
  replace cP2 := bc hb ltP cP2
  replace cP3 := bc hb ltP cP3
  replace ltP := bl hb ltP
  replace cR0 := bc hb ltR cR0
  replace fR0 := bf hb ltR fR0
  replace cR1 := bc hb ltR cR1
  replace fR1 := bf hb ltR fR1
  replace cR2 := bc hb ltR cR2
  replace fR2 := bf hb ltR fR2
  replace ltR := bl hb ltR
  replace H0 := Lib.hid (H0.out.below hb)
  replace HX := Lib.hid (HX.out.below hb)
  replace HY := Lib.hid (HY.out.below hb)
  replace HA := Lib.hid (HA.out.below hb)
  replace hB := hB.trans (hb.mono hB.size)
  clear hb
  go_wp2_with fail
  refine (bsearch_any l (pks s log l) ⟨s, p, seg log q, su⟩ a1 a2 k1 c1 n c2 _ HX.out HLs.out HI.out.srt (by omega)).mono ?_
  rintro e w4 ⟨rfl, hb⟩
  replace cI0 := bc hb ltI cI0
  replace cI1 := bc hb ltI cI1
  replace cI2 := bc hb ltI cI2
  replace ltI := bl hb ltI
  replace cP0 := bc hb ltP cP0
  replace cP1 := bc hb ltP cP1
  replace cP2 := bc hb ltP cP2
  replace cP3 := bc hb ltP cP3
  replace ltP := bl hb ltP
  replace cR0 := bc hb ltR cR0
  replace fR0 := bf hb ltR fR0
  replace cR1 := bc hb ltR cR1
  replace fR1 := bf hb ltR fR1
  replace cR2 := bc hb ltR cR2
  replace fR2 := bf hb ltR fR2
  replace ltR := bl hb ltR
  replace H0 := Lib.hid (H0.out.below hb)
  replace HX := Lib.hid (HX.out.below hb)
  replace HY := Lib.hid (HY.out.below hb)
  replace HA := Lib.hid (HA.out.below hb)
  replace hB := hB.trans (hb.mono hB.size)
  rw [show ((⟨s, p, seg log q, su⟩ : PkM).pos, n) = q from HQe.out]
  generalize hfd : decide (q ∈ l) = fd at *
  generalize ht : place q l = t at *
  have HT := Lib.hid ht
  clear hfd ht
  clear hb
  go_wp2_with fail
  have hs4 : w0.heap.size ≤ w4.heap.size := Below.size HA.out
  clear cR0 cR1 cR2 fR0 fR1 fR2 ltR
  have SCI0 := Lib.hid cI0
  have SCI1 := Lib.hid cI1
  have SCI2 := Lib.hid cI2
  have SLI := Lib.hid ltI
  have SCP0 := Lib.hid cP0
  have SCP1 := Lib.hid cP1
  have SCP2 := Lib.hid cP2
  have SCP3 := Lib.hid cP3
  have SLP := Lib.hid ltP
  have SH0 := Lib.hid H0.out
  have SHX := Lib.hid HX.out
  have SHY := Lib.hid HY.out
  have SHA := Lib.hid HA.out
  have SB := Lib.hid hB
  have eI0 := box_ext (B := w4.heap.size) cI0 ltI
  have eI1 := box_ext (B := w4.heap.size) cI1 ltI
  have eI2 := box_ext (B := w4.heap.size) cI2 ltI
  have eP0 := box_ext (B := w4.heap.size) cP0 ltP
  have eP1 := box_ext (B := w4.heap.size) cP1 ltP
  have eP2 := box_ext (B := w4.heap.size) cP2 ltP
  have eP3 := box_ext (B := w4.heap.size) cP3 ltP
  refine wp_region_float 6 [(0, false), (1, false), (2, false), (3, false), (4, true), (5, false)] [(7, true)] (fun w' => ∃ W : Ext w4.heap.size w4, w' = W.1) _ 10 (.cells #[.int .i64 0, .slice none 0 0, .slice none 0 0] 28) w4.heap.size (by kernel_rfl) rfl rfl rfl (fun a w => by simp [execOp, go_sem]) (fun w ⟨W, e⟩ => e ▸ W.2.size) (fun w ⟨W, e⟩ => ⟨⟨_, (e ▸ W.2).alloc (e ▸ W.2.size) _⟩, rfl⟩) (by kernel_rfl) ⟨⟨w4.drew, (Below.refl _ _).drew⟩, rfl⟩ ?_
  repeat (refine wpFl_calm rfl (fun K hK => ?_); go_simp; refine hK _ ?_; clear hK K)
  clear eI0 eI1 eI2 eP0 eP1 eP2 eP3
  have hbx : Below w4.heap.size w4 w4.drew := (Below.refl _ _).drew
  have hM := hbx
  replace cI0 := bc hbx ltI cI0
  replace cI1 := bc hbx ltI cI1
  replace cI2 := bc hbx ltI cI2
  replace ltI := bl hbx ltI
  replace cP0 := bc hbx ltP cP0
  replace cP1 := bc hbx ltP cP1
  replace cP2 := bc hbx ltP cP2
  replace cP3 := bc hbx ltP cP3
  replace ltP := bl hbx ltP
  replace H0 := Lib.hid (H0.out.below hbx)
  replace HX := Lib.hid (HX.out.below hbx)
  replace HY := Lib.hid (HY.out.below hbx)
  replace HA := Lib.hid (HA.out.below hbx)
  replace hB := hB.trans (hbx.mono hB.size)
  clear hbx
  generalize w4.drew = ww4d at *
  refine wpFl_eff rfl rfl (fun wy hC hg K hK => ?_)
  obtain ⟨⟨wz, hE⟩, hwe⟩ := hC
  change wy = wz at hwe
  subst hwe
  replace cI0 := bc hg ltI cI0
  replace cI1 := bc hg ltI cI1
  replace cI2 := bc hg ltI cI2
  replace ltI := bl hg ltI
  replace cP0 := bc hg ltP cP0
  replace cP1 := bc hg ltP cP1
  replace cP2 := bc hg ltP cP2
  replace cP3 := bc hg ltP cP3
  replace ltP := bl hg ltP
  replace H0 := Lib.hid (H0.out.below hg)
  replace HX := Lib.hid (HX.out.below hg)
  replace HY := Lib.hid (HY.out.below hg)
  replace HA := Lib.hid (HA.out.below hg)
  replace hB := hB.trans (hg.mono hB.size)
  replace hM := hE
  clear hE hg
  go_simp
  refine (bclone_own (log.take d) a0 d c0 w0.heap.size _ H0.out (by omega) (Below.size HA.out)).mono ?_
  rintro e w5 ⟨b0, e0, rfl, hv, hb⟩
  replace cI0 := bc hb ltI cI0
  replace cI1 := bc hb ltI cI1
  replace cI2 := bc hb ltI cI2
  replace ltI := bl hb ltI
  replace cP0 := bc hb ltP cP0
  replace cP1 := bc hb ltP cP1
  replace cP2 := bc hb ltP cP2
  replace cP3 := bc hb ltP cP3
  replace ltP := bl hb ltP
  replace H0 := Lib.hid (H0.out.below hb)
  replace HX := Lib.hid (HX.out.below hb)
  replace HY := Lib.hid (HY.out.below hb)
  replace HA := Lib.hid (HA.out.below hb)
  replace hM := hM.trans (hb.mono hM.size)
  replace hB := hB.trans (hb.mono hB.size)
  have HV := Lib.hid (OwB.mk hv)
  clear hv
  refine hK _ _ ⟨⟨w5, hM⟩, rfl⟩ hb ?_
  clear hK K hb
  repeat (refine wpFl_calm rfl (fun K hK => ?_); go_simp; refine hK _ ?_; clear hK K)
  refine wpFl_nil fun gQ wy hC hg hBk hge => ?_
  obtain ⟨⟨wz, hE⟩, hwe⟩ := hC
  change wy = wz at hwe
  subst hwe
  replace cI0 := bc hg ltI cI0
  replace cI1 := bc hg ltI cI1
  replace cI2 := bc hg ltI cI2
  replace ltI := bl hg ltI
  replace cP0 := bc hg ltP cP0
  replace cP1 := bc hg ltP cP1
  replace cP2 := bc hg ltP cP2
  replace cP3 := bc hg ltP cP3
  replace ltP := bl hg ltP
  replace H0 := Lib.hid (H0.out.below hg)
  replace HX := Lib.hid (HX.out.below hg)
  replace HY := Lib.hid (HY.out.below hg)
  replace HA := Lib.hid (HA.out.below hg)
  replace HV := Lib.hid (HV.out.below hg)
  replace hB := hB.trans (hg.mono hB.size)
  replace hM := hE
  clear hE hg
  have z0 := blk_cell hBk 0
  have y0 := blk_free hBk 0
  have z1 := blk_cell hBk 1
  have y1 := blk_free hBk 1
  have z2 := blk_cell hBk 2
  have y2 := blk_free hBk 2
  simp at z0 z1 z2
  have hgl := blk_lt hBk
  refine wpSched_eff rfl rfl (fun K hK => ?_)
  go_simp
  refine hK _ _ ⟨⟨_, (((hM.setCell (p := ⟨gQ, 0, none⟩) hge _).setCell (p := ⟨gQ, 1, none⟩) hge _).setCell (p := ⟨gQ, 2, none⟩) hge _)⟩, rfl⟩ ?_
  clear hK K
  refine wpSched_nil ?_
  have hMn := (((hM.setCell (p := ⟨gQ, 0, none⟩) hge (.int .i64 s)).setCell (p := ⟨gQ, 1, none⟩) hge (.slice b0 d e0)).setCell (p := ⟨gQ, 2, none⟩) hge (.slice none 0 0))
  have hq1 := row_off HV.out.1 hBk (by decide)
  have HVn := Lib.hid (World.ownsRow.kept (World.ownsRow.kept (World.ownsRow.kept HV.out.1 (gby_set _ gQ 0 (.int .i64 s)) (.inr hq1)) (gby_set _ gQ 1 (.slice b0 d e0)) (.inr hq1)) (gby_set _ gQ 2 (.slice none 0 0)) (.inr hq1))
  have HQb := Lib.hid (blk_set (o := 2) (blk_set (o := 1) (blk_set (o := 0) hBk (.int .i64 s)) (.slice b0 d e0)) (.slice none 0 0))
  simp at HQb
  have HNX := Lib.hid (NX.mk (s := s) (f := pks s log []) HQb.out HVn.out (OwnsK.nil _ _ _ _) (fun i hi => by omega))
  clear hq1 HVn HQb
  replace cI0 := bc hMn SLI.out SCI0.out
  replace cI1 := bc hMn SLI.out SCI1.out
  replace cI2 := bc hMn SLI.out SCI2.out
  replace ltI := bl hMn SLI.out
  replace cP0 := bc hMn SLP.out SCP0.out
  replace cP1 := bc hMn SLP.out SCP1.out
  replace cP2 := bc hMn SLP.out SCP2.out
  replace cP3 := bc hMn SLP.out SCP3.out
  replace ltP := bl hMn SLP.out
  replace H0 := Lib.hid (SH0.out.below hMn)
  replace HX := Lib.hid (SHX.out.below hMn)
  replace HY := Lib.hid (SHY.out.below hMn)
  replace HA := Lib.hid (SHA.out.below hMn)
  replace hB := SB.out.trans (hMn.mono SB.out.size)
  have cQ0 : (((wy.setCell ⟨gQ, 0, none⟩ (.int .i64 s)).setCell ⟨gQ, 1, none⟩ (.slice b0 d e0)).setCell ⟨gQ, 2, none⟩ (.slice none 0 0)).cell? ⟨gQ, 0, none⟩ = some (.int .i64 s) := by go_simp
  have cQ1 : (((wy.setCell ⟨gQ, 0, none⟩ (.int .i64 s)).setCell ⟨gQ, 1, none⟩ (.slice b0 d e0)).setCell ⟨gQ, 2, none⟩ (.slice none 0 0)).cell? ⟨gQ, 1, none⟩ = some (.slice b0 d e0) := by go_simp
  have cQ2 : (((wy.setCell ⟨gQ, 0, none⟩ (.int .i64 s)).setCell ⟨gQ, 1, none⟩ (.slice b0 d e0)).setCell ⟨gQ, 2, none⟩ (.slice none 0 0)).cell? ⟨gQ, 2, none⟩ = some (.slice none 0 0) := by go_simp
  have ltQ : gQ < (((wy.setCell ⟨gQ, 0, none⟩ (.int .i64 s)).setCell ⟨gQ, 1, none⟩ (.slice b0 d e0)).setCell ⟨gQ, 2, none⟩ (.slice none 0 0)).heap.size := by simpa using hgl
  have neQI : w.heap.size < gQ := Nat.lt_of_lt_of_le SLI.out hge
  have neQP : w.heap.size + 1 < gQ := Nat.lt_of_lt_of_le SLP.out hge
  clear SCI0 SCI1 SCI2 SLI SCP0 SCP1 SCP2 SCP3 SLP SH0 SHX SHY SHA SB
  clear hMn hM hBk hgl z0 y0 z1 y1 z2 y2
  go_wp2_with fail
  generalize (((wy.setCell ⟨gQ, 0, none⟩ (.int .i64 s)).setCell ⟨gQ, 1, none⟩ (.slice b0 d e0)).setCell ⟨gQ, 2, none⟩ (.slice none 0 0)) = w6 at *
  clear cI0 cI1 cI2 ltI
  clear cP0 cP1 cP2 cP3 ltP
  have HSgp := Lib.hid (show Bytes w6 a2 n c2 (seg log (p, n)) by rw [HQe.out]; exact HY.out)
  refine (extend_sl log ⟨s, p, seg log q, su⟩ p n d w0.heap.size e0 b0 a2 c2 _ rfl hL HNX.out.own hd1 HSgp.out hdp hpn (Below.size HA.out)).mono ?_
  rintro e w7 ⟨b1, e1, rfl, hO, hG⟩
  have hd8 : max d (p + n) ≤ log.length := by omega
  generalize max d (p + n) = d8 at *
  obtain ⟨q1, q2⟩ := HNX.out.grown1 hG
  have HN8 := Lib.hid (HNX.out.ext hO hG)
  have HA8 := Lib.hid (HA.out.step hG (fun j hj => (HNX.out.own.lt j hj)) (show w0.heap.size ≤ gQ by omega) 1 (.slice b1 d8 e1))
  have cI2 := bc HA8.out HlI.out HcI.out
  clear hO hG HNX HSgp cQ0 cQ1 cQ2 ltQ HV HA
  go_wp2_with fail
  clear q1 q2 cI2
  generalize w7.setCell ⟨gQ, 1, none⟩ (.slice b1 d8 e1) = w8 at *
  clear H0 HX HY hB
  go_loopw [74] (fun i wr => ∃ (k dk na cv cu : Nat) (av au : Option Addr) (acc : List PK) (cs : List Value), k ≤ k1 ∧ i = .int .i64 k ∧ na ≤ k + 1 ∧ dk ≤ log.length ∧ Hid (acc.length = na) ∧ Hid (AbsI d8 l dk acc k) ∧ Hid (Bl w0 wr) ∧ Hid (NX wr w0.heap.size gQ s log dk (.slice av dk cv) (.slice au na cu) na (pks s log acc) cs)) (fun i _ => k1 - (intOf i).toNat)
  case atStart => exact ⟨0, d8, 0, e1, 0, b1, none, [], [], by omega, rfl, by omega, hd8, Lib.hid rfl, Lib.hid (AbsI.start _ _), HA8, HN8⟩
  case round =>
    generalize wr = wq at *
    obtain ⟨k, dk, na, cv, cu, av, au, acc, cs, hk, rfl, hna, hdk, HAc, HIn, HA, HNX⟩ := hrel
    have cI2 := bc HA.out HlI.out HcI.out
    by_cases hlt : k < k1
    · obtain ⟨b, off, rfl, hbs, hcc⟩ := HX0.out.at hlt
      obtain ⟨aq, nq, cq, i0, i1, i2, i3, hbq⟩ := hcc k hlt
      replace i0 := bc HA.out hbs i0
      replace i1 := bc HA.out hbs i1
      replace i2 := bc HA.out hbs i2
      replace i3 := bc HA.out hbs i3
      replace hbs := bl HA.out hbs
      have hkl : k < l.length := by rw [HK.out]; exact hlt
      obtain ⟨hgq, hdq⟩ := HI.out.q k hkl
      have HNq := Lib.hid (show (l.getD k (0, 0)).2 = nq by rw [← hbq.1]; exact (pk_len hgq).symm)
      have hnq : nq ≤ 2000 := by rw [← HNq.out]; exact hgq.2.1
      have hse : (pks s log l k).se = s := rfl
      rw [hse] at i0
      have HPq := Lib.hid (show (l.getD k (0, 0)).1 = (pks s log l k).pos from rfl)
      have HSq := Lib.hid (show (pk s log (l.getD k (0, 0))).su = (pks s log l k).su from rfl)
      have HDq := Lib.hid (show (pk s log (l.getD k (0, 0))).da = (pks s log l k).da from rfl)
      have HBq0 := Lib.hid hbq
      have hpq : (pks s log l k).pos + nq ≤ log.length := by rw [← HPq.out, ← HNq.out]; exact hgq.2.2
      have hdpq : d < (pks s log l k).pos := hdq
      have HSg0 := Lib.hid (show Bytes w0 aq nq cq (seg log ((pks s log l k).pos, nq)) by
        have h9 : (pks s log l k).da = seg log (l.getD k (0, 0)) := rfl
        rw [h9, show l.getD k (0, 0) = ((pks s log l k).pos, nq) from Prod.ext rfl HNq.out] at hbq
        exact hbq)
      generalize (pks s log l k).pos = pq at *
      generalize (pks s log l k).su = sq at *
      generalize (pks s log l k).da = dq at *
      have HKl := Lib.hid hkl
      clear hcc hbq hgq hdq hse hkl
      obtain ⟨cQ0, cQ1, cQ2, ltQ⟩ := HNX.out.cell
      have hbx : Below wq.heap.size wq (wq.alloc (.cells #[.int .i64 s, .int .i64 pq, .slice aq nq cq, .int .u64 (sq.toNat : Int)] 35)) := (Below.refl _ _).alloc (Nat.le_refl _) _
      have z0 : (wq.alloc (.cells #[.int .i64 s, .int .i64 pq, .slice aq nq cq, .int .u64 (sq.toNat : Int)] 35)).cell? ⟨wq.heap.size, 0, none⟩ = some (.int .i64 s) := by go_simp
      have z1 : (wq.alloc (.cells #[.int .i64 s, .int .i64 pq, .slice aq nq cq, .int .u64 (sq.toNat : Int)] 35)).cell? ⟨wq.heap.size, 1, none⟩ = some (.int .i64 pq) := by go_simp
      have z2 : (wq.alloc (.cells #[.int .i64 s, .int .i64 pq, .slice aq nq cq, .int .u64 (sq.toNat : Int)] 35)).cell? ⟨wq.heap.size, 2, none⟩ = some (.slice aq nq cq) := by go_simp
      have z3 : (wq.alloc (.cells #[.int .i64 s, .int .i64 pq, .slice aq nq cq, .int .u64 (sq.toNat : Int)] 35)).cell? ⟨wq.heap.size, 3, none⟩ = some (.int .u64 (sq.toNat : Int)) := by go_simp
      have hzl : wq.heap.size < (wq.alloc (.cells #[.int .i64 s, .int .i64 pq, .slice aq nq cq, .int .u64 (sq.toNat : Int)] 35)).heap.size := by simp
      have hsw := Below.size HA.out
      by_cases hkeep : dk < pq
      · have dkp : decide (dk < pq) = true := decide_eq_true hkeep
        have HKp := Lib.hid (HIn.out.keep HKl.out (by rw [HPq.out]; exact hkeep))
        clear hkeep
        replace HA := Lib.hid (HA.out.below hbx)
        have HNX0 := HNX
        replace HNX := Lib.hid (HNX.out.later hbx)
        have HBq := Lib.hid (HBq0.out.below HA.out)
        have HSg := Lib.hid (HSg0.out.below HA.out)
        replace cQ1 := bc hbx ltQ cQ1
        replace cQ2 := bc hbx ltQ cQ2
        have HNb := Lib.hid (show ∀ j, (Value.slice au na cu).ownBlock = some j → j ≠ wq.heap.size from fun j hj => by have := HNX0.out.pq.in j hj; omega)
        have HNb1 := Lib.hid (show ∀ j, (Value.slice av dk cv).ownBlock = some j → j ≠ wq.heap.size from fun j hj => by have := HNX0.out.own.in j hj; omega)

        go_wp2_with fail
        generalize (wq.alloc (.cells #[.int .i64 s, .int .i64 pq, .slice aq nq cq, .int .u64 (sq.toNat : Int)] 35)) = wx at *
        obtain ⟨gU, hu1, hu2⟩ := gUx (.slice au na cu) (wx.heap.size + 1)
        have HU1 := Lib.hid hu1
        have hgl : gQ < wx.heap.size := blk_lt HNX.out.blk
        have gne : gU ≠ gQ := hu2 gQ (by omega) (fun j hj e => HNX.out.ne2 (e ▸ hj))
        have gns : gU ≠ wq.heap.size := hu2 (wq.heap.size) (by omega) HNb.out
        have hmu := HNX.out.mut_lt (Below.size HA.out)
        have eq2 := Gr.cell (R := gU) (R2 := gU) cQ2 hgl (by omega) (by omega)
        have ez0 := Gr.cell (R := gU) (R2 := gU) z0 hzl (by omega) (by omega)
        have ez1 := Gr.cell (R := gU) (R2 := gU) z1 hzl (by omega) (by omega)
        have ez2 := Gr.cell (R := gU) (R2 := gU) z2 hzl (by omega) (by omega)
        have ez3 := Gr.cell (R := gU) (R2 := gU) z3 hzl (by omega) (by omega)
        clear hu1 hu2
        refine wp_region_tail [(0, false), (1, false), (2, false), (3, true), (4, true), (5, true)] [6, 7] (fun w' => ∃ W : Gr gU gU wx, w' = W.1) (by kernel_rfl) (by kernel_rfl) ⟨⟨wx.drew, below_grown ((Below.refl _ _).drew)⟩, rfl⟩ ?_
        repeat (refine wpSt_calm rfl (fun K hK => ?_); go_simp; refine hK _ ?_; clear hK K)
        clear eq2 ez0 ez1 ez2 ez3
        refine wpSt_eff rfl rfl (fun K hK => ?_)
        go_simp
        refine (copy_any ⟨s, pq, dq, sq⟩ _ _ _ _ (HBq.out.below ((Below.refl _ _).drew)) (by omega)).mono ?_
        rintro e w4 ⟨b4, d4, rfl, hv4, hun4, hb4⟩
        have hM : Below wx.heap.size wx w4 := ((Below.refl wx.heap.size wx).drew).trans (hb4.mono (by simp))
        have HV4 := Lib.hid hv4
        have HUn := Lib.hid hun4
        have hms := hM.size
        have HN4 := Lib.hid (HNX.out.later hM)
        have HA4 := Lib.hid (HA.out.below hM)
        have hA4 := Below.size HA4.out
        refine hK _ _ ⟨⟨w4, below_grown hM⟩, rfl⟩ ?_
        clear hK K hb4 hv4 hun4
        repeat (refine wpSt_calm rfl (fun K hK => ?_); go_simp; refine hK _ ?_; clear hK K)
        refine wpSt_eff rfl rfl (fun K hK => ?_)
        go_simp
        refine hK _ _ ⟨⟨_, below_grown (hM.alloc hM.size _)⟩, rfl⟩ ?_
        clear hK K
        refine wpSt_eff rfl rfl (fun K hK => ?_)
        refine wp_appK1 _ _ 24 rfl w0.heap.size 35 4 (by omega) _ 48 Try.underlying24 infoPacket rfl (.slice au na cu) na cs rfl [.int .i64 s, .int .i64 pq, .slice b4 nq d4, .int .u64 (sq.toNat : Int)] rfl (by simp [Value.oneCell']) HN4.out.pq rfl (by omega) (by simp only [maxLen]; omega) (by omega) fun v' w5 h1 h2 => ?_
        rcases h1.form with ⟨-, h0, -⟩ | ⟨g', cap', rfl, -, -, -, -, -, -⟩
        · omega
        have hG5 := h2.1
        refine hK _ _ ⟨⟨w5, kept_trans (below_grown hM) (kept_gby hG5 HU1.out)⟩, rfl⟩ ?_
        clear hK K
        have HNn := Lib.hid (HN4.out.push HAc.out HPq.out HSq.out HDq.out h1 h2 HV4.out HUn.out (by simpa using hmu))
        have HAn := Lib.hid (HA4.out.step h2 (fun j hj => (HN4.out.pq.lt j hj)) (show w0.heap.size ≤ gQ by omega) 2 (.slice (some ⟨g', 0, none⟩) (na + 1) cap'))
        have HNg := Lib.hid (show ∀ x, x < wx.heap.size → (∀ j, (Value.slice au na cu).ownBlock = some j → j ≠ x) → ∀ j, (Value.slice (some ⟨g', 0, none⟩) (na + 1) cap').ownBlock = some j → j ≠ x from fun x hx hn j hj => by
          rcases h2.2 with h9 | h9
          · exact hn j (h9 ▸ hj)
          · have := h9 j hj; omega)
        obtain ⟨q1, q2⟩ := HN4.out.grown2 h2
        clear h1 h2 hG5 HN4 HV4 HUn HU1 gne gns hmu HA4
        refine wpSt_end ?_
        refine wpTail_op rfl rfl (fun K hK => ?_)
        go_simp
        refine hK _ _ ?_
        clear hK K
        refine wpTail_op rfl rfl (fun K hK => ?_)
        go_simp
        refine hK _ _ ?_
        clear hK K
        refine wpTail_nil ?_
        clear q1 q2 cQ1 cQ2
        generalize (w5.setCell ⟨gQ, 2, none⟩ (.slice (some ⟨g', 0, none⟩) (na + 1) cap')) = wy2 at *

        go_wp2_with fail
        go_roundw
        case rel => exact ⟨k + 1, dk, na + 1, cv, cap', av, some ⟨g', 0, none⟩, _, _, by omega, by go_num, by omega, hdk, Lib.hid (by rw [List.length_append, HAc.out]; rfl), HKp, HAn, HNn⟩
        case measure => simp [intOf]; omega
      · have dkp : decide (dk < pq) = false := decide_eq_false hkeep
        have hqd : pq ≤ dk := by omega
        have HTk := Lib.hid (HIn.out.take HKl.out (by rw [HPq.out]; exact hkeep))
        rw [HPq.out, HNq.out] at HTk
        clear hkeep
        replace HA := Lib.hid (HA.out.below hbx)
        have HNX0 := HNX
        replace HNX := Lib.hid (HNX.out.later hbx)
        have HBq := Lib.hid (HBq0.out.below HA.out)
        have HSg := Lib.hid (HSg0.out.below HA.out)
        replace cQ1 := bc hbx ltQ cQ1
        replace cQ2 := bc hbx ltQ cQ2
        have HNb := Lib.hid (show ∀ j, (Value.slice au na cu).ownBlock = some j → j ≠ wq.heap.size from fun j hj => by have := HNX0.out.pq.in j hj; omega)
        have HNb1 := Lib.hid (show ∀ j, (Value.slice av dk cv).ownBlock = some j → j ≠ wq.heap.size from fun j hj => by have := HNX0.out.own.in j hj; omega)

        go_wp2_with fail
        generalize (wq.alloc (.cells #[.int .i64 s, .int .i64 pq, .slice aq nq cq, .int .u64 (sq.toNat : Int)] 35)) = wx at *
        refine (extend_sl log ⟨s, pq, dq, sq⟩ pq nq dk w0.heap.size cv av aq cq _ rfl hL HNX.out.own hdk HSg.out hqd hpq (Below.size HA.out)).mono ?_
        rintro e w7 ⟨b4, e4, rfl, hO, hG⟩
        have hd9 : max dk (pq + nq) ≤ log.length := by omega
        generalize max dk (pq + nq) = d9 at *
        obtain ⟨q1, q2⟩ := HNX.out.grown1 hG
        have HN9 := Lib.hid (HNX.out.ext hO hG)
        have HA9 := Lib.hid (HA.out.step hG (fun j hj => (HNX.out.own.lt j hj)) (show w0.heap.size ≤ gQ by omega) 1 (.slice b4 d9 e4))
        clear hO hG HNX HSg HA
        go_wp2_with fail
        go_roundw
        case rel => exact ⟨k + 1, d9, na, e4, cu, b4, au, acc, cs, by omega, by go_num, by omega, hd9, HAc, HTk, HA9, HN9⟩
        case measure => simp [intOf]; omega
    · obtain rfl : k = k1 := by omega
      have HDn := Lib.hid (HIn.out.done (by rw [HK.out]; omega))
      have cR0 := bc HA.out HlR.out HcR.out.1
      have cR1 := bc HA.out HlR.out HcR.out.2.1
      have cR2 := bc HA.out HlR.out HcR.out.2.2.1
      have fR0 := bf HA.out HlR.out HcR.out.2.2.2.1
      have fR1 := bf HA.out HlR.out HcR.out.2.2.2.2.1
      have fR2 := bf HA.out HlR.out HcR.out.2.2.2.2.2
      obtain ⟨cQ0, cQ1, cQ2, ltQ⟩ := HNX.out.cell
      have hsw := Below.size HA.out
      have hqR : w.heap.size + 1 + 1 < gQ := by omega
      have HFn := Lib.hid (((HNX.out.res (R := w.heap.size + 1 + 1) (by omega) (show w0.heap.size ≤ gQ by omega) 0 (.int .i64 s)).res (R := w.heap.size + 1 + 1) (by omega) (show w0.heap.size ≤ gQ by omega) 1 (.slice av dk cv)).res (R := w.heap.size + 1 + 1) (by omega) (show w0.heap.size ≤ gQ by omega) 2 (.slice au na cu))
      have HBn := Lib.hid ((((HB0.out.trans (HA.out.mono (Below.size HB0.out))).setCell (p := ⟨w.heap.size + 1 + 1, 0, none⟩) (by show w.heap.size ≤ w.heap.size + 1 + 1; omega) (.int .i64 s)).setCell (p := ⟨w.heap.size + 1 + 1, 1, none⟩) (by show w.heap.size ≤ w.heap.size + 1 + 1; omega) (.slice av dk cv)).setCell (p := ⟨w.heap.size + 1 + 1, 2, none⟩) (by show w.heap.size ≤ w.heap.size + 1 + 1; omega) (.slice au na cu))
      have hrl : w.heap.size + 1 + 1 < wq.heap.size := by omega
      clear HNX HA HcI HcP HcR HX0 HY0
      go_wp2_with fail
      exact bodyPost_ret (v := .tuple #[.agg #[.int .i64 s, .slice av dk cv, .slice au na cu], .int .i64 0]) (by simp [results, Try.results11, go_sem, cR0, cR1, cR2]) rfl ⟨av, cv, au, cu, dk, acc, by rw [HRx.out]; exact HDn.out, by rw [HAc.out], HFn.out.data, by rw [HAc.out]; exact HFn.out.pks.2, hdk, HBn.out⟩

end Go.Proofs.Ytpdodapdaeochaa
