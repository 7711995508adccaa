/- Uploads: what Receive returns, and what the laws' equal, samePacket, samePackets, same return for equal arguments. Condition: as stated (Inb). -/
import Derived.Test.YtpdodapdaeochaaUpM
namespace Go.Proofs.Ytpdodapdaeochaa
set_option maxRecDepth 100000
open Go.RowKit

theorem Inb.mem {s : Nat} {log : List UInt8} {d : Nat} {l : List PK} (h : Inb s log d l) : ∀ x ∈ l, GoodQ log x ∧ d < x.1 := fun x hx => by
  obtain ⟨i, hi, rfl⟩ := List.getElem_of_mem hx
  have := h.q i hi
  simpa [List.getD, hi] using this
theorem Inb.of {s : Nat} {log : List UInt8} {d : Nat} {l : List PK} (hs : OkS s) (hL : log.length ≤ 1048576) (hd : d ≤ log.length) (hq : ∀ x ∈ l, GoodQ log x ∧ d < x.1) (hr : Srt l) (hn : l.length ≤ 1000) : Inb s log d l :=
  ⟨hs, hL, hd, fun i hi => hq _ (by simp [List.getD, hi]), hr, hn⟩
theorem absorb_len (d : Nat) (l : List PK) : (absorb d l).2.length ≤ l.length := by
  induction l generalizing d with
  | nil => simp [absorb]
  | cons q qs ih =>
    simp only [absorb]
    split
    · simp; exact ih d
    · have := ih (max d (q.1 + q.2)); simp; omega
theorem ins_len (q : PK) (l : List PK) : (ins q l).length = l.length + 1 := by
  have := place_le q l
  unfold ins; simp; omega
theorem rx_inb {s : Nat} {log : List UInt8} {d : Nat} {l : List PK} {q : PK} (h : Inb s log d l) (hq : GoodQ log q) (hn : l.length + 1 ≤ 1000) : Inb s log (rxN d l q).1 (rxN d l q).2 ∧ (rxN d l q).2.length ≤ l.length + 1 ∧ d ≤ (rxN d l q).1 := by
  have hm := h.mem
  unfold rxN
  by_cases hd : d < q.1
  · rw [if_pos hd]
    by_cases hql : q ∈ l
    · rw [if_pos hql]
      exact ⟨h, by simp, Nat.le_refl _⟩
    · rw [if_neg hql]
      refine ⟨Inb.of h.s h.L h.dl (fun x hx => ?_) (ins_srt h.srt hql) (by show (ins q l).length ≤ 1000; rw [ins_len]; omega), by show (ins q l).length ≤ _; rw [ins_len]; exact Nat.le_refl _, Nat.le_refl _⟩
      rcases ins_mem.1 hx with rfl | hx
      · exact ⟨hq, hd⟩
      · exact hm x hx
  · rw [if_neg hd]
    have hge := absorb_ge (max d (q.1 + q.2)) l
    have hlen := absorb_len (max d (q.1 + q.2)) l
    obtain ⟨a, b, c⟩ := absorb_mem (d := max d (q.1 + q.2)) h.srt
    have hq3 := hq.2.2
    have hdl := h.dl
    have hle : (absorb (max d (q.1 + q.2)) l).1 ≤ log.length := by
      rcases Nat.lt_or_ge log.length (absorb (max d (q.1 + q.2)) l).1 with h9 | h9
      · obtain ⟨x, hx, h1, h2⟩ := c (((absorb (max d (q.1 + q.2)) l).1) - 1) (by omega) (by omega)
        have := (hm x hx).1.2.2
        omega
      · exact h9
    refine ⟨Inb.of h.s h.L hle (fun x hx => ?_) (absorb_srt h.srt) (by omega), by omega, by omega⟩
    exact ⟨(hm x (absorb_sub hx)).1, ((a x).1 hx).2⟩
/-- an inbox, by value -/
def InV (w : World) (v : Value) (s : Nat) (log : List UInt8) (d : Nat) (l : List PK) : Prop := ∃ a0 c0 a1 c1, v = .agg #[.int .i64 s, .slice a0 d c0, .slice a1 l.length c1] ∧ Bytes w a0 d c0 (log.take d) ∧ PksIn w a1 l.length c1 (pks s log l)
theorem InV.below {w w' : World} {v : Value} {s : Nat} {log : List UInt8} {d : Nat} {l : List PK} (h : InV w v s log d l) (hb : Below w.heap.size w w') : InV w' v s log d l := by
  obtain ⟨a0, c0, a1, c1, e, h0, h1⟩ := h
  exact ⟨a0, c0, a1, c1, e, h0.below hb, h1.below hb⟩
theorem InV.zero (w : World) (s : Nat) (log : List UInt8) : InV w (.agg #[.int .i64 s, .slice none 0 0, .slice none 0 0]) s log 0 [] :=
  ⟨none, 0, none, 0, rfl, bytes_nil w, PksIn.nil _ _⟩
/-- a packet of the log, by value -/
def QV (w : World) (v : Value) (s : Nat) (log : List UInt8) (q : PK) : Prop := ∃ a c, v = .agg #[.int .i64 s, .int .i64 q.1, .slice a q.2 c, .int .u64 ((pk s log q).su.toNat : Int)] ∧ Bytes w a q.2 c (seg log q)
theorem QV.below {w w' : World} {v : Value} {s : Nat} {log : List UInt8} {q : PK} (h : QV w v s log q) (hb : Below w.heap.size w w') : QV w' v s log q := by
  obtain ⟨a, c, e, h1⟩ := h
  exact ⟨a, c, e, h1.below hb⟩
/-- a slice of packets of the log -/
theorem PksIn.qat {w : World} {a : Option Addr} {len cap : Nat} {s : Nat} {log : List UInt8} {L : Nat → PK} (h : PksIn w a len cap (fun i => pk s log (L i))) {k : Nat} (hk : k < len) (hg : GoodQ log (L k)) :
    ∃ b off, a = some ⟨b, off, none⟩ ∧ b < w.heap.size ∧ ∃ a2 c2, w.cell? ⟨b, off + k * 4, none⟩ = some (.int .i64 s) ∧ w.cell? ⟨b, off + k * 4 + 1, none⟩ = some (.int .i64 (L k).1) ∧ w.cell? ⟨b, off + k * 4 + 2, none⟩ = some (.slice a2 (L k).2 c2) ∧ w.cell? ⟨b, off + k * 4 + 3, none⟩ = some (.int .u64 ((pk s log (L k)).su.toNat : Int)) ∧ Bytes w a2 (L k).2 c2 (seg log (L k)) := by
  obtain ⟨b, off, e, hlt, hc⟩ := h.at hk
  obtain ⟨a2, n, c2, e0, e1, e2, e3, e4⟩ := hc k hk
  have hn : (L k).2 = n := by rw [← e4.1]; exact (pk_len hg).symm
  subst hn
  exact ⟨b, off, e, hlt, a2, c2, e0, e1, e2, e3, e4⟩
theorem receive_any (s : Nat) (log : List UInt8) (d : Nat) (l : List PK) (q : PK) (v u : Value) (w : World) (hI : Inb s log d l) (hq : GoodQ log q) (hv : InV w v s log d l) (hu : QV w u s log q) :
    Calls Try.prog 11 #[v, u] w fun e w' => ∃ v', e = .returned (.tuple #[v', .int .i64 0]) ∧ InV w' v' s log (rxN d l q).1 (rxN d l q).2 ∧ Below w.heap.size w w' := by
  obtain ⟨a0, c0, a1, c1, rfl, h0, h1⟩ := hv
  obtain ⟨a2, c2, rfl, h2⟩ := hu
  have key : Calls Try.prog 11 #[.agg #[.int .i64 s, .slice a0 d c0, .slice a1 l.length c1], .agg #[.int .i64 s, .int .i64 q.1, .slice a2 q.2 c2, .int .u64 ((pk s log q).su.toNat : Int)]] w fun e w' => ∃ b0 e0 b1 e1 d' l', rxN d l q = (d', l') ∧ e = .returned (.tuple #[.agg #[.int .i64 s, .slice b0 d' e0, .slice b1 l'.length e1], .int .i64 0]) ∧ Bytes w' b0 d' e0 (log.take d') ∧ PksIn w' b1 l'.length e1 (pks s log l') ∧ d' ≤ log.length ∧ Below w.heap.size w w' := by
    by_cases hg : d < q.1
    · by_cases hm : q ∈ l
      · exact receive_f s log d l q _ a0 a1 a2 c0 _ c1 q.2 c2 q.1 w hI h0 h1 rfl hq rfl rfl rfl h2 hg hm
      · exact receive_i s log d l q _ a0 a1 a2 c0 _ c1 q.2 c2 q.1 w hI h0 h1 rfl hq rfl rfl rfl h2 hg hm
    · exact receive_n s log d l q _ a0 a1 a2 c0 _ c1 q.2 c2 q.1 w hI h0 h1 rfl hq rfl rfl rfl h2 hg
  refine key.mono ?_
  rintro e w' ⟨b0, e0, b1, e1, d', l', hr, rfl, g0, g1, -, hb⟩
  rw [hr]
  exact ⟨_, rfl, ⟨b0, e0, b1, e1, rfl, g0, g1⟩, hb⟩

set_option maxHeartbeats 400000 in
theorem leq_t (xs : List UInt8) (a a2 : Option Addr) (len c c2 : Nat) (w : World) (h1 : Bytes w a len c xs) (h2 : Bytes w a2 len c2 xs) :
    Calls Try.prog 13 #[.slice a len c, .slice a2 len c2] w fun e w' => e = .returned (.bool true) ∧ Below w.heap.size w w' := by
  have hm : len ≤ 9223372036854775807 := by have h3 := h1.2.1; have h4 := h1.2.2.1; unfold maxLen at h4; omega
  have H1 := Lib.hid h1
  have H2 := Lib.hid h2
  clear h1 h2
  go_enter Try.func13, Try.ntmps13
  go_wp2_with fail
  go_loopw [13] (fun i wr => ∃ k : Nat, k ≤ len ∧ i = .int .i64 k ∧ Below w.heap.size w wr) (fun i _ => len - (intOf i).toNat)
  case atStart => exact ⟨0, by omega, rfl, Below.refl _ _⟩
  case round =>
    obtain ⟨k, hk, rfl, hb⟩ := hrel
    by_cases hlt : k < len
    · obtain ⟨b, off, rfl, _, hcc⟩ := H1.out.2.at (k := k) hlt
      obtain ⟨b', off', rfl, _, hcc'⟩ := H2.out.2.at (k := k) hlt
      have c1 := hcc k hlt wr hb
      have c2 := hcc' k hlt wr hb
      clear hcc hcc'
      generalize xs.getD k 0 = x at *
      go_wp2_with fail
      go_quiet (fail)
      go_wp2_with fail
      go_roundw
      case rel => exact ⟨k + 1, by omega, by go_num, below_drewN hb _⟩
      case measure => simp [intOf]; omega
    · go_wp2_with fail
      go_ret
      exact ⟨rfl, hb⟩
set_option maxHeartbeats 1000000 in
theorem samepk_t (m : PkM) (a a2 : Option Addr) (n c c2 : Nat) (w : World) (h1 : Bytes w a n c m.da) (h2 : Bytes w a2 n c2 m.da) :
    Calls Try.prog 19 #[.agg #[.int .i64 m.se, .int .i64 m.pos, .slice a n c, .int .u64 (m.su.toNat : Int)], .agg #[.int .i64 m.se, .int .i64 m.pos, .slice a2 n c2, .int .u64 (m.su.toNat : Int)]] w fun e w' => e = .returned (.bool true) ∧ Below w.heap.size w w' := by
  have H1 := Lib.hid h1
  have H2 := Lib.hid h2
  clear h1 h2
  go_enter Try.func19, Try.ntmps19
  go_wp2_with fail
  have hbx : Below w.heap.size w ((w.alloc (.cells #[.int .i64 m.se, .int .i64 m.pos, .slice a n c, .int .u64 (m.su.toNat : Int)] 35)).alloc (.cells #[.int .i64 m.se, .int .i64 m.pos, .slice a2 n c2, .int .u64 (m.su.toNat : Int)] 35)) := (((Below.refl _ _).alloc (Nat.le_refl _) _).alloc (by simp) _)
  generalize hWW : ((w.alloc (.cells #[.int .i64 m.se, .int .i64 m.pos, .slice a n c, .int .u64 (m.su.toNat : Int)] 35)).alloc (.cells #[.int .i64 m.se, .int .i64 m.pos, .slice a2 n c2, .int .u64 (m.su.toNat : Int)] 35)) = w0 at *
  replace H1 := Lib.hid (H1.out.below hbx)
  replace H2 := Lib.hid (H2.out.below hbx)
  have cA0 : w0.cell? ⟨w.heap.size, 0, none⟩ = some (.int .i64 m.se) := by subst hWW; go_simp
  have cA1 : w0.cell? ⟨w.heap.size, 1, none⟩ = some (.int .i64 m.pos) := by subst hWW; go_simp
  have cA2 : w0.cell? ⟨w.heap.size, 2, none⟩ = some (.slice a n c) := by subst hWW; go_simp
  have cA3 : w0.cell? ⟨w.heap.size, 3, none⟩ = some (.int .u64 (m.su.toNat : Int)) := by subst hWW; go_simp
  have ltA : w.heap.size < w0.heap.size := by subst hWW; simp <;> omega
  have cB0 : w0.cell? ⟨w.heap.size + 1, 0, none⟩ = some (.int .i64 m.se) := by subst hWW; go_simp
  have cB1 : w0.cell? ⟨w.heap.size + 1, 1, none⟩ = some (.int .i64 m.pos) := by subst hWW; go_simp
  have cB2 : w0.cell? ⟨w.heap.size + 1, 2, none⟩ = some (.slice a2 n c2) := by subst hWW; go_simp
  have cB3 : w0.cell? ⟨w.heap.size + 1, 3, none⟩ = some (.int .u64 (m.su.toNat : Int)) := by subst hWW; go_simp
  have ltB : w.heap.size + 1 < w0.heap.size := by subst hWW; simp
  have hB := hbx
  clear hbx hWW
  refine (leq_t m.da a a2 n c c2 _ H1.out H2.out).mono ?_
  rintro e w1 ⟨rfl, hb⟩
  replace cA0 := bc hb ltA cA0
  replace cA1 := bc hb ltA cA1
  replace cA2 := bc hb ltA cA2
  replace cA3 := bc hb ltA cA3
  replace ltA := bl hb ltA
  replace cB0 := bc hb ltB cB0
  replace cB1 := bc hb ltB cB1
  replace cB2 := bc hb ltB cB2
  replace cB3 := bc hb ltB cB3
  replace ltB := bl hb ltB
  replace H1 := Lib.hid (H1.out.below hb)
  replace H2 := Lib.hid (H2.out.below hb)
  replace hB := hB.trans (hb.mono hB.size)
  clear hb
  go_wp2_with fail
  go_ret
  exact ⟨rfl, hB⟩

theorem PkAt.two {w : World} {b off b2 off2 : Nat} {m : PkM} (h : PkAt w b off m) (h2 : PkAt w b2 off2 m) : ∃ a n c a2 c2, w.cell? ⟨b, off, none⟩ = some (.int .i64 m.se) ∧ w.cell? ⟨b, off + 1, none⟩ = some (.int .i64 m.pos) ∧ w.cell? ⟨b, off + 2, none⟩ = some (.slice a n c) ∧ w.cell? ⟨b, off + 3, none⟩ = some (.int .u64 (m.su.toNat : Int)) ∧ Bytes w a n c m.da ∧
    w.cell? ⟨b2, off2, none⟩ = some (.int .i64 m.se) ∧ w.cell? ⟨b2, off2 + 1, none⟩ = some (.int .i64 m.pos) ∧ w.cell? ⟨b2, off2 + 2, none⟩ = some (.slice a2 n c2) ∧ w.cell? ⟨b2, off2 + 3, none⟩ = some (.int .u64 (m.su.toNat : Int)) ∧ Bytes w a2 n c2 m.da := by
  obtain ⟨a, n, c, e0, e1, e2, e3, e4⟩ := h
  obtain ⟨a2, n2, c2, f0, f1, f2, f3, f4⟩ := h2
  obtain rfl : n = n2 := by rw [← e4.1, f4.1]
  exact ⟨a, n, c, a2, c2, e0, e1, e2, e3, e4, f0, f1, f2, f3, f4⟩
set_option maxHeartbeats 2000000 in
theorem samepks_t (f : Nat → PkM) (a1 a2 : Option Addr) (n c1 c2 : Nat) (w : World) (h1 : PksIn w a1 n c1 f) (h2 : PksIn w a2 n c2 f) :
    Calls Try.prog 23 #[.slice a1 n c1, .slice a2 n c2] w fun e w' => e = .returned (.bool true) ∧ Below w.heap.size w w' := by
  have hlm : n ≤ 9223372036854775807 := by have h3 := h1.1; have h4 := h1.2.1; unfold maxLen at h4; omega
  have H1 := Lib.hid h1
  have H2 := Lib.hid h2
  clear h1 h2
  go_enter Try.func23, Try.ntmps23
  go_wp2_with fail
  go_loopw [13] (fun i wr => ∃ k : Nat, k ≤ n ∧ i = .int .i64 k ∧ Hid (Below w.heap.size w wr)) (fun i _ => n - (intOf i).toNat)
  case atStart => exact ⟨0, by omega, rfl, Lib.hid (Below.refl _ _)⟩
  case round =>
    obtain ⟨k, hk, rfl, HB⟩ := hrel
    by_cases hlt : k < n
    · obtain ⟨b1, o1, rfl, hb1, hc1⟩ := H1.out.at hlt
      obtain ⟨b2, o2, rfl, hb2, hc2⟩ := H2.out.at hlt
      obtain ⟨a3, n3, c3, a4, c4, e0, e1, e2, e3, hX, g0, g1, g2, g3, hY⟩ := PkAt.two ((hc1 k hlt).below hb1 HB.out) ((hc2 k hlt).below hb2 HB.out)
      have hs1 := Nat.lt_of_lt_of_le hb1 HB.out.size
      have hs2 := Nat.lt_of_lt_of_le hb2 HB.out.size
      have E0 := box_ext (B := wr.heap.size) e0 hs1
      have G0 := box_ext (B := wr.heap.size) g0 hs2
      have E1 := box_ext (B := wr.heap.size) e1 hs1
      have G1 := box_ext (B := wr.heap.size) g1 hs2
      have E2 := box_ext (B := wr.heap.size) e2 hs1
      have G2 := box_ext (B := wr.heap.size) g2 hs2
      have E3 := box_ext (B := wr.heap.size) e3 hs1
      have G3 := box_ext (B := wr.heap.size) g3 hs2
      have HX := Lib.hid hX
      have HY := Lib.hid hY
      generalize f k = m at *
      clear hc1 hc2 hX hY e0 e1 e2 e3 g0 g1 g2 g3 hb1 hb2
      go_wp2_with fail
      refine wp_region_sched [(0, false), (1, false), (2, false), (3, false), (4, false), (5, false), (6, false), (7, false), (8, true), (9, false)] (fun w' => ∃ W : Ext wr.heap.size wr, w' = W.1) (by kernel_rfl) (by kernel_rfl) ⟨⟨wr.drew, (Below.refl _ _).drew⟩, rfl⟩ ?_
      repeat (refine wpSched_calm rfl (fun K hK => ?_); go_simp; refine hK _ ?_; clear hK K)
      clear E0 E1 E2 E3 G0 G1 G2 G3
      have hbd : Below wr.heap.size wr wr.drew := (Below.refl _ _).drew
      refine wpSched_eff rfl rfl (fun K hK => ?_)
      go_simp
      refine (samepk_t m _ _ _ _ _ _ (HX.out.below hbd) (HY.out.below hbd)).mono ?_
      rintro e w2 ⟨rfl, hb⟩
      have hM := hbd.trans (hb.mono hbd.size)
      have HB2 := Lib.hid (HB.out.trans (hM.mono HB.out.size))
      refine hK _ _ ⟨⟨w2, hM⟩, rfl⟩ ?_
      clear hK K hb hbd
      repeat (refine wpSched_calm rfl (fun K hK => ?_); go_simp; refine hK _ ?_; clear hK K)
      refine wpSched_nil ?_
      go_wp2_with fail
      go_roundw
      case rel => exact ⟨k + 1, by omega, by go_num, HB2⟩
      case measure => simp [intOf]; omega
    · go_wp2_with fail
      go_ret
      exact ⟨rfl, HB.out⟩
set_option maxHeartbeats 1000000 in
theorem same_t (s : Int) (xs : List UInt8) (f : Nat → PkM) (a0 a1 a2 a3 : Option Addr) (d k c0 c1 c2 c3 : Nat) (w : World) (h0 : Bytes w a0 d c0 xs) (h1 : PksIn w a1 k c1 f) (h2 : Bytes w a2 d c2 xs) (h3 : PksIn w a3 k c3 f) :
    Calls Try.prog 16 #[.agg #[.int .i64 s, .slice a0 d c0, .slice a1 k c1], .agg #[.int .i64 s, .slice a2 d c2, .slice a3 k c3]] w fun e w' => e = .returned (.bool true) ∧ Below w.heap.size w w' := by
  have H0 := Lib.hid h0
  have H1 := Lib.hid h1
  have H2 := Lib.hid h2
  have H3 := Lib.hid h3
  clear h0 h1 h2 h3
  go_enter Try.func16, Try.ntmps16
  go_wp2_with fail
  have hbx : Below w.heap.size w ((w.alloc (.cells #[.int .i64 s, .slice a0 d c0, .slice a1 k c1] 28)).alloc (.cells #[.int .i64 s, .slice a2 d c2, .slice a3 k c3] 28)) := (((Below.refl _ _).alloc (Nat.le_refl _) _).alloc (by simp) _)
  generalize hWW : ((w.alloc (.cells #[.int .i64 s, .slice a0 d c0, .slice a1 k c1] 28)).alloc (.cells #[.int .i64 s, .slice a2 d c2, .slice a3 k c3] 28)) = w0 at *
  replace H0 := Lib.hid (H0.out.below hbx)
  replace H1 := Lib.hid (H1.out.below hbx)
  replace H2 := Lib.hid (H2.out.below hbx)
  replace H3 := Lib.hid (H3.out.below hbx)
  have cA0 : w0.cell? ⟨w.heap.size, 0, none⟩ = some (.int .i64 s) := by subst hWW; go_simp
  have cA1 : w0.cell? ⟨w.heap.size, 1, none⟩ = some (.slice a0 d c0) := by subst hWW; go_simp
  have cA2 : w0.cell? ⟨w.heap.size, 2, none⟩ = some (.slice a1 k c1) := by subst hWW; go_simp
  have ltA : w.heap.size < w0.heap.size := by subst hWW; simp <;> omega
  have cB0 : w0.cell? ⟨w.heap.size + 1, 0, none⟩ = some (.int .i64 s) := by subst hWW; go_simp
  have cB1 : w0.cell? ⟨w.heap.size + 1, 1, none⟩ = some (.slice a2 d c2) := by subst hWW; go_simp
  have cB2 : w0.cell? ⟨w.heap.size + 1, 2, none⟩ = some (.slice a3 k c3) := by subst hWW; go_simp
  have ltB : w.heap.size + 1 < w0.heap.size := by subst hWW; simp
  have hB := hbx
  clear hbx hWW
  refine (leq_t xs a0 a2 d c0 c2 _ H0.out H2.out).mono ?_
  rintro e w1 ⟨rfl, hb⟩
  replace cA0 := bc hb ltA cA0
  replace cA1 := bc hb ltA cA1
  replace cA2 := bc hb ltA cA2
  replace ltA := bl hb ltA
  replace cB0 := bc hb ltB cB0
  replace cB1 := bc hb ltB cB1
  replace cB2 := bc hb ltB cB2
  replace ltB := bl hb ltB
  replace H0 := Lib.hid (H0.out.below hb)
  replace H1 := Lib.hid (H1.out.below hb)
  replace H2 := Lib.hid (H2.out.below hb)
  replace H3 := Lib.hid (H3.out.below hb)
  replace hB := hB.trans (hb.mono hB.size)
  clear hb
  go_wp2_with fail
  refine (samepks_t f a1 a3 k c1 c3 _ H1.out H3.out).mono ?_
  rintro e w2 ⟨rfl, hb⟩
  replace cA0 := bc hb ltA cA0
  replace cA1 := bc hb ltA cA1
  replace cA2 := bc hb ltA cA2
  replace ltA := bl hb ltA
  replace cB0 := bc hb ltB cB0
  replace cB1 := bc hb ltB cB1
  replace cB2 := bc hb ltB cB2
  replace ltB := bl hb ltB
  replace H0 := Lib.hid (H0.out.below hb)
  replace H1 := Lib.hid (H1.out.below hb)
  replace H2 := Lib.hid (H2.out.below hb)
  replace H3 := Lib.hid (H3.out.below hb)
  replace hB := hB.trans (hb.mono hB.size)
  clear hb
  go_wp2_with fail
  go_ret
  exact ⟨rfl, hB⟩
theorem same_v (s : Nat) (log : List UInt8) (d : Nat) (l : List PK) (v u : Value) (w : World) (hv : InV w v s log d l) (hu : InV w u s log d l) :
    Calls Try.prog 16 #[v, u] w fun e w' => e = .returned (.bool true) ∧ Below w.heap.size w w' := by
  obtain ⟨a0, c0, a1, c1, rfl, h0, h1⟩ := hv
  obtain ⟨a2, c2, a3, c3, rfl, h2, h3⟩ := hu
  exact same_t s _ _ a0 a1 a2 a3 d _ c0 c1 c2 c3 w h0 h1 h2 h3

end Go.Proofs.Ytpdodapdaeochaa
