/- Uploads: what valid returns for an inbox of one log. Condition: a log of at most 2^20 bytes, at most 1024 packets. -/
import Derived.Test.YtpdodapdaeochaaUpI
namespace Go.Proofs.Ytpdodapdaeochaa
set_option maxRecDepth 100000
open Go.RowKit

def GoodQ (log : List UInt8) (q : PK) : Prop := 1 ≤ q.2 ∧ q.2 ≤ 2000 ∧ q.1 + q.2 ≤ log.length
/-- the packets of a list -/
def pks (s : Nat) (log : List UInt8) (l : List PK) : Nat → PkM := fun i => pk s log (l.getD i (0, 0))
theorem pk_len {s : Nat} {log : List UInt8} {q : PK} (h : GoodQ log q) : (pk s log q).da.length = q.2 := seg_len h.2.2
theorem pk_of {s : Nat} {log : List UInt8} {q : PK} (h : GoodQ log q) : OfLog log (pk s log q) := ⟨by rw [pk_len h]; rfl, by rw [pk_len h]; exact h.2.2⟩
theorem pk_chk {s : Nat} {log : List UInt8} {q : PK} (hs : OkS s) (hL : log.length ≤ 1048576) (h : GoodQ log q) : chkE (pk s log q) = 0 := by
  obtain ⟨h1, h2, h3⟩ := h
  unfold chkE
  rw [pk_len ⟨h1, h2, h3⟩, if_pos ⟨hs, by omega, by show ((q.1 : Nat) : Int) ≤ 1048576; omega, by omega, by omega, by show ((q.1 : Nat) : Int) + q.2 ≤ 1048576; omega⟩]
  exact if_pos rfl
/-- an inbox of a log: d bytes, the packets of l behind them -/
structure Inb (s : Nat) (log : List UInt8) (d : Nat) (l : List PK) : Prop where
  s : OkS s
  L : log.length ≤ 1048576
  dl : d ≤ log.length
  q : ∀ i, i < l.length → GoodQ log (l.getD i (0, 0)) ∧ d < (l.getD i (0, 0)).1
  srt : Srt l
  n : l.length ≤ 1000
set_option maxHeartbeats 4000000 in
theorem valid_any (s : Nat) (log : List UInt8) (d : Nat) (l : List PK) (a0 a1 : Option Addr) (c0 k1 c1 : Nat) (w : World) (hI : Inb s log d l) (hx : PksIn w a1 k1 c1 (pks s log l)) (hk : l.length = k1) :
    Calls Try.prog 27 #[.agg #[.int .i64 s, .slice a0 d c0, .slice a1 k1 c1]] w fun e w' => e = .returned (.bool true) ∧ Below w.heap.size w w' := by
  have HX := Lib.hid hx
  have HI := Lib.hid hI
  have HK := Lib.hid hk
  have hn1 : k1 ≤ 1000 := by rw [← hk]; exact hI.n
  have hd1 : d ≤ 1048576 := Nat.le_trans hI.dl hI.L
  have dS : decide (OkS s) = true := decide_eq_true hI.s
  clear hx hI hk
  go_enter Try.func27, Try.ntmps27
  go_wp2_with fail
  have hbx : Below w.heap.size w (w.alloc (.cells #[.int .i64 s, .slice a0 d c0, .slice a1 k1 c1] 28)) := ((Below.refl _ _).alloc (Nat.le_refl _) _)
  generalize hWW : (w.alloc (.cells #[.int .i64 s, .slice a0 d c0, .slice a1 k1 c1] 28)) = w0 at *
  replace HX := Lib.hid (HX.out.below hbx)
  have cI0 : w0.cell? ⟨w.heap.size, 0, none⟩ = some (.int .i64 s) := by subst hWW; go_simp
  have cI1 : w0.cell? ⟨w.heap.size, 1, none⟩ = some (.slice a0 d c0) := by subst hWW; go_simp
  have cI2 : w0.cell? ⟨w.heap.size, 2, none⟩ = some (.slice a1 k1 c1) := by subst hWW; go_simp
  have ltI : w.heap.size < w0.heap.size := by subst hWW; simp
  have hB := hbx
  clear hbx hWW
  refine (numbered_any s _).mono ?_
  rintro e w1 ⟨rfl, rfl⟩
  go_wp2_with fail
  have HB0 := Lib.hid hB
  have HcI := Lib.hid (And.intro cI0 (And.intro cI1 cI2))
  have HlI := Lib.hid ltI
  clear hB cI0 cI1 cI2 ltI
  go_loopw [24] (fun i wr => ∃ k : Nat, k ≤ k1 ∧ i = .int .i64 k ∧ Below w0.heap.size w0 wr) (fun i _ => k1 - (intOf i).toNat)
  case atStart => exact ⟨0, by omega, rfl, Below.refl _ _⟩
  case round =>
    generalize wr = wq at *
    obtain ⟨k, hk, rfl, hBq⟩ := hrel
    have cI0 := bc hBq HlI.out HcI.out.1
    have cI1 := bc hBq HlI.out HcI.out.2.1
    have cI2 := bc hBq HlI.out HcI.out.2.2
    have ltI := bl hBq HlI.out
    have HXq := Lib.hid (HX.out.below hBq)
    by_cases hlt : k < k1
    · obtain ⟨b, off, rfl, hbs, hcc⟩ := HXq.out.at hlt
      obtain ⟨a2, n, c2, e0, e1, e2, e3, hb1⟩ := hcc k hlt
      have hkl : k < l.length := by rw [HK.out]; exact hlt
      obtain ⟨hgq, hdq⟩ := HI.out.q k hkl
      have HC := Lib.hid (fun w' (h : Bytes w' a2 n c2 (pks s log l k).da) => check_any (pks s log l k) a2 n c2 w' h)
      have HE := Lib.hid (show chkE (pks s log l k) = 0 from pk_chk HI.out.s HI.out.L hgq)
      have HN := Lib.hid (show n = (l.getD k (0, 0)).2 by rw [← hb1.1]; exact pk_len hgq)
      have hdp : d < (pks s log l k).pos := hdq
      have HPo := Lib.hid (show (pks s log l k).pos = (l.getD k (0, 0)).1 from rfl)
      have HBt := Lib.hid hb1
      have hse : (pks s log l k).se = s := rfl
      rw [HE.out] at HC
      rw [hse] at e0 HC
      clear hgq hdq hse hb1 HE
      generalize hp : (pks s log l k).pos = p at *
      generalize hda : (pks s log l k).da = da at *
      generalize hsu : (pks s log l k).su = su at *
      clear hp hda hsu
      have dp : decide ((p : Int) ≤ d) = false := decide_eq_false (by omega)
      have hdp2 : (d : Int) < p := by omega
      have hbx : Below wq.heap.size wq (wq.alloc (.cells #[.int .i64 s, .int .i64 p, .slice a2 n c2, .int .u64 (su.toNat : Int)] 35)) := (Below.refl _ _).alloc (Nat.le_refl _) _
      rcases Nat.eq_zero_or_pos k with hk0 | hk0
      · have dk : decide (0 < k) = false := decide_eq_false (by omega)
        clear hk0
        go_wp2_with fail
        generalize hWW : (wq.alloc (.cells #[.int .i64 s, .int .i64 p, .slice a2 n c2, .int .u64 (su.toNat : Int)] 35)) = wx at *
        have cP0 : wx.cell? ⟨wq.heap.size, 0, none⟩ = some (.int .i64 s) := by subst hWW; go_simp
        have cP1 : wx.cell? ⟨wq.heap.size, 1, none⟩ = some (.int .i64 p) := by subst hWW; go_simp
        have cP2 : wx.cell? ⟨wq.heap.size, 2, none⟩ = some (.slice a2 n c2) := by subst hWW; go_simp
        have cP3 : wx.cell? ⟨wq.heap.size, 3, none⟩ = some (.int .u64 (su.toNat : Int)) := by subst hWW; go_simp
        have ltP : wq.heap.size < wx.heap.size := by subst hWW; simp
        replace cI0 := bc hbx ltI cI0
        replace cI1 := bc hbx ltI cI1
        replace cI2 := bc hbx ltI cI2
        replace ltI := bl hbx ltI
        clear hWW
        refine (HC.out _ (HBt.out.below hbx)).mono ?_
        rintro e w2 ⟨rfl, hb⟩
        replace cP0 := bc hb ltP cP0
        replace cP1 := bc hb ltP cP1
        replace cP2 := bc hb ltP cP2
        replace cP3 := bc hb ltP cP3
        replace ltP := bl hb ltP
        replace cI0 := bc hb ltI cI0
        replace cI1 := bc hb ltI cI1
        replace cI2 := bc hb ltI cI2
        replace ltI := bl hb ltI
        have hB2 := hBq.trans ((hbx.trans (hb.mono hbx.size)).mono hBq.size)
        clear hb hbx cP2 cP3
        go_wp2_with fail
        refine wp_region_sched [(0, false), (1, false), (2, false), (3, false), (4, false), (5, false), (6, false), (7, false), (8, false), (9, false), (10, true), (11, false), (12, false)] (fun w' => ∃ W : Ext w2.heap.size w2, w' = W.1) (by kernel_rfl) (by kernel_rfl) ⟨⟨w2.drew, (Below.refl _ _).drew⟩, rfl⟩ ?_
        repeat (refine wpSched_calm rfl (fun K hK => ?_); go_simp; refine hK _ ?_; clear hK K)
        have hM : Below w2.heap.size w2 w2.drew := (Below.refl _ _).drew
        generalize w2.drew = w3 at *
        refine wpSched_skip rfl ?_ ⟨⟨w3, hM⟩, rfl⟩ ?_
        · go_simp
        go_simp
        repeat (refine wpSched_calm rfl (fun K hK => ?_); go_simp; refine hK _ ?_; clear hK K)
        refine wpSched_nil ?_
        go_wp2_with fail
        go_roundw
        case rel => exact ⟨k + 1, by omega, by go_num, hB2.trans (hM.mono hB2.size)⟩
        case measure => simp [intOf]; omega
      · have dk : decide (0 < k) = true := decide_eq_true (by omega)
        obtain ⟨j, hj⟩ : ∃ j, k = j + 1 := ⟨k - 1, by omega⟩
        have hjk : (k : Int) - 1 = j := by omega
        have hjl : j < k1 := by omega
        have hw : IntKind.i64.wrap (j : Int) = j := by rw [IntWalk.i64_in _ (by omega)]
        have HJ := Lib.hid hj
        clear hj
        obtain ⟨a3, n3, c3, i0, i1, i2, i3, hb3⟩ := hcc j hjl
        have HO := Lib.hid (show ordP (pks s log l j).pos n3 p n < 0 by
          have hl3 : (pks s log l j).da.length = (l.getD j (0, 0)).2 := pk_len (HI.out.q j (by omega)).1
          rw [ordP_lt, HPo.out, HN.out, ← hb3.1, hl3]
          exact srt_at HI.out.srt (by have := HJ.out; omega) hkl)
        generalize (pks s log l j).pos = p3 at *
        generalize (pks s log l j).su = su3 at *
        generalize (pks s log l j).se = s3 at *
        clear hb3
        go_wp2_with fail
        generalize hWW : (wq.alloc (.cells #[.int .i64 s, .int .i64 p, .slice a2 n c2, .int .u64 (su.toNat : Int)] 35)) = wx at *
        have cP0 : wx.cell? ⟨wq.heap.size, 0, none⟩ = some (.int .i64 s) := by subst hWW; go_simp
        have cP1 : wx.cell? ⟨wq.heap.size, 1, none⟩ = some (.int .i64 p) := by subst hWW; go_simp
        have cP2 : wx.cell? ⟨wq.heap.size, 2, none⟩ = some (.slice a2 n c2) := by subst hWW; go_simp
        have cP3 : wx.cell? ⟨wq.heap.size, 3, none⟩ = some (.int .u64 (su.toNat : Int)) := by subst hWW; go_simp
        have ltP : wq.heap.size < wx.heap.size := by subst hWW; simp
        replace cI0 := bc hbx ltI cI0
        replace cI1 := bc hbx ltI cI1
        replace cI2 := bc hbx ltI cI2
        replace ltI := bl hbx ltI
        clear hWW
        refine (HC.out _ (HBt.out.below hbx)).mono ?_
        rintro e w2 ⟨rfl, hb⟩
        replace cP0 := bc hb ltP cP0
        replace cP1 := bc hb ltP cP1
        replace cP2 := bc hb ltP cP2
        replace cP3 := bc hb ltP cP3
        replace ltP := bl hb ltP
        replace cI0 := bc hb ltI cI0
        replace cI1 := bc hb ltI cI1
        replace cI2 := bc hb ltI cI2
        replace ltI := bl hb ltI
        have hB2 := hBq.trans ((hbx.trans (hb.mono hbx.size)).mono hBq.size)
        have hbz := hbx.trans (hb.mono hbx.size)
        replace i0 := bc hbz hbs i0
        replace i1 := bc hbz hbs i1
        replace i2 := bc hbz hbs i2
        replace i3 := bc hbz hbs i3
        replace hbs := bl hbz hbs
        clear hb hbx hbz
        go_wp2_with fail
        have ecI2 := box_ext (B := w2.heap.size) cI2 ltI
        have ecP0 := box_ext (B := w2.heap.size) cP0 ltP
        have ecP1 := box_ext (B := w2.heap.size) cP1 ltP
        have ecP2 := box_ext (B := w2.heap.size) cP2 ltP
        have ecP3 := box_ext (B := w2.heap.size) cP3 ltP
        have ei0 := box_ext (B := w2.heap.size) i0 hbs
        have ei1 := box_ext (B := w2.heap.size) i1 hbs
        have ei2 := box_ext (B := w2.heap.size) i2 hbs
        have ei3 := box_ext (B := w2.heap.size) i3 hbs
        refine wp_region_sched [(0, false), (1, false), (2, false), (3, false), (4, false), (5, false), (6, false), (7, false), (8, false), (9, false), (10, true), (11, false), (12, false)] (fun w' => ∃ W : Ext w2.heap.size w2, w' = W.1) (by kernel_rfl) (by kernel_rfl) ⟨⟨w2.drew, (Below.refl _ _).drew⟩, rfl⟩ ?_
        repeat (refine wpSched_calm rfl (fun K hK => ?_); go_simp; refine hK _ ?_; clear hK K)
        clear ecI2 ecP0 ecP1 ecP2 ecP3 ei0 ei1 ei2 ei3
        have hM : Below w2.heap.size w2 w2.drew := (Below.refl _ _).drew
        refine wpSched_geff rfl ?_ (fun K hK => ?_)
        · go_simp
        go_simp
        refine (order_any ⟨s3, p3, [], su3⟩ ⟨s, p, [], su⟩ a3 a2 n3 c3 n c2 _).mono ?_
        rintro e w4 ⟨rfl, hb⟩
        replace hM := hM.trans (hb.mono hM.size)
        have ho : ordP p3 n3 p n < 0 := HO.out
        have hM' := hM
        clear HO
        generalize ordP p3 n3 p n = o at *
        refine hK _ _ ⟨⟨w4, hM⟩, rfl⟩ ?_
        clear hK K hb
        have d0 : decide (0 ≤ o) = false := decide_eq_false (by omega)
        repeat (refine wpSched_calm rfl (fun K hK => ?_); go_simp; refine hK _ ?_; clear hK K)
        refine wpSched_nil ?_
        go_wp2_with fail
        go_roundw
        case rel => exact ⟨k + 1, by omega, by go_num, hB2.trans (hM.mono hB2.size)⟩
        case measure => simp [intOf]; omega
    · obtain rfl : k = k1 := by omega
      have HX2 := Lib.hid (HX.out.below hBq)
      clear HXq
      go_wp2_with fail
      refine (agree_any log (pks s log l) a1 k c1 _ HI.out.L HX2.out (fun i hi => pk_of (HI.out.q i (by rw [HK.out]; exact hi)).1) (fun i hi => ?_) (by omega)).mono ?_
      · have := srt_at HI.out.srt (show i < i + 1 by omega) (by rw [HK.out]; exact hi)
        have h2 : (l.getD i (0, 0)).1 ≤ (l.getD (i + 1) (0, 0)).1 := by unfold ltP at this; omega
        exact h2
      rintro e w2 ⟨rfl, hb⟩
      go_wp2_with fail
      go_ret
      exact ⟨rfl, HB0.out.trans ((hBq.trans (hb.mono hBq.size)).mono HB0.out.size)⟩

end Go.Proofs.Ytpdodapdaeochaa
