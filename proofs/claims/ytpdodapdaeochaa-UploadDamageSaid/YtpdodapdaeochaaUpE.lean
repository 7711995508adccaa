/- Uploads: what order, cmp.Compare, cmp.Or, differ, copyPacket, extend return. No condition but the reach. -/
import Derived.Test.YtpdodapdaeochaaUpD
namespace Go.Proofs.Ytpdodapdaeochaa
set_option maxRecDepth 100000
open Go.RowKit

def ordC (a b : Int) : Int := if a < b then -1 else if b < a then 1 else 0
theorem isnan_any (a : Int) (w : World) : Calls Try.prog 60 #[.int .i64 a] w fun e w' => e = .returned (.bool false) ∧ w = w' := by
  have d0 : (a != a) = false := by simp
  go_enter Try.func60, Try.ntmps60
  go_wp2_with fail
  go_ret
  exact ⟨rfl, rfl⟩
theorem compare_any (a b : Int) (w : World) : Calls Try.prog 51 #[.int .i64 a, .int .i64 b] w fun e w' => e = .returned (.int .i64 (ordC a b)) ∧ Below w.heap.size w w' := by
  by_cases h1 : a < b
  · have HF := Lib.hid (show ordC a b = -1 by unfold ordC; rw [if_pos h1])
    have d1 : decide (a < b) = true := decide_eq_true h1
    clear h1
    go_enter Try.func51, Try.ntmps51
    go_wp2_with fail
    refine (isnan_any a _).mono ?_
    rintro e w1 ⟨rfl, rfl⟩
    go_wp2_with fail
    refine (isnan_any b _).mono ?_
    rintro e w1 ⟨rfl, rfl⟩
    go_wp2_with fail
    go_ret
    exact ⟨by rw [HF.out]; rfl, Below.refl _ _⟩
  have d1 : decide (a < b) = false := decide_eq_false h1
  by_cases h2 : b < a
  · have HF := Lib.hid (show ordC a b = 1 by unfold ordC; rw [if_neg h1, if_pos h2])
    have d2 : decide (b < a) = true := decide_eq_true h2
    clear h1 h2
    go_enter Try.func51, Try.ntmps51
    go_wp2_with fail
    refine (isnan_any a _).mono ?_
    rintro e w1 ⟨rfl, rfl⟩
    go_wp2_with fail
    refine (isnan_any b _).mono ?_
    rintro e w1 ⟨rfl, rfl⟩
    go_wp2_with fail
    go_ret
    exact ⟨by rw [HF.out]; rfl, Below.refl _ _⟩
  · have HF := Lib.hid (show ordC a b = 0 by unfold ordC; rw [if_neg h1, if_neg h2])
    have d2 : decide (b < a) = false := decide_eq_false h2
    clear h1 h2
    go_enter Try.func51, Try.ntmps51
    go_wp2_with fail
    refine (isnan_any a _).mono ?_
    rintro e w1 ⟨rfl, rfl⟩
    go_wp2_with fail
    refine (isnan_any b _).mono ?_
    rintro e w1 ⟨rfl, rfl⟩
    go_wp2_with fail
    go_ret
    exact ⟨by rw [HF.out]; rfl, Below.refl _ _⟩
def orI (x y : Int) : Int := if x = 0 then y else x
theorem or_any (x y : Int) (g : Nat) (w : World) (c0 : w.cell? ⟨g, 0, none⟩ = some (.int .i64 x)) (c1 : w.cell? ⟨g, 1, none⟩ = some (.int .i64 y)) :
    Calls Try.prog 50 #[.slice (some ⟨g, 0, none⟩) 2 2] w fun e w' => e = .returned (.int .i64 (orI x y)) ∧ Below w.heap.size w w' := by
  have HF := Lib.hid (show orI x y = if x = 0 then y else x from rfl)
  go_enter Try.func50, Try.ntmps50
  go_wp2_with fail
  go_loop [8] (fun i => ∃ k : Nat, k ≤ 2 ∧ i = .int .i64 k ∧ (1 ≤ k → x = 0) ∧ (2 ≤ k → y = 0)) (fun i => 2 - (intOf i).toNat)
  case atStart => exact ⟨0, by omega, rfl, fun h => absurd h (by omega), fun h => absurd h (by omega)⟩
  case round =>
    obtain ⟨k, hk, rfl, hx, hy⟩ := hrel
    obtain rfl | rfl | rfl : k = 0 ∨ k = 1 ∨ k = 2 := by omega
    · by_cases h0 : x = 0
      · subst h0
        go_wp2_with fail
        go_round
        case rel => exact ⟨1, by omega, rfl, fun _ => by first | rfl | trivial, fun h => absurd h (by omega)⟩
        case measure => simp [intOf]
      · have d0 : (x != 0) = true := by simpa using h0
        have HG := Lib.hid (show orI x y = x by rw [HF.out, if_neg h0])
        clear h0
        go_wp2_with fail
        go_ret
        exact ⟨by rw [HG.out]; rfl, Below.refl _ _⟩
    · have hx0 := hx (by omega)
      have HG := Lib.hid (show orI x y = y by rw [HF.out, if_pos hx0])
      have HX0 := Lib.hid hx0
      clear hx0 hx
      by_cases h0 : y = 0
      · subst h0
        go_wp2_with fail
        go_round
        case rel => exact ⟨2, by omega, rfl, fun _ => HX0.out, fun _ => by first | rfl | trivial⟩
        case measure => simp [intOf]
      · have d0 : (y != 0) = true := by simpa using h0
        clear h0
        go_wp2_with fail
        go_ret
        exact ⟨by rw [HG.out]; rfl, Below.refl _ _⟩
    · have hx0 := hx (by omega)
      have hy0 := hy (by omega)
      have HG := Lib.hid (show orI x y = 0 by rw [HF.out, if_pos hx0]; exact hy0)
      clear hx0 hy0 hx hy
      go_wp2_with fail
      go_ret
      exact ⟨by rw [HG.out]; rfl, Below.refl _ _⟩
/-- the order of two packets -/
def ordP (p1 n1 p2 n2 : Nat) : Int := orI (ordC p1 p2) (ordC n1 n2)
set_option maxHeartbeats 2000000 in
theorem order_any (m1 m2 : PkM) (a1 a2 : Option Addr) (n1 c1 n2 c2 : Nat) (w : World) :
    Calls Try.prog 31 #[.agg #[.int .i64 m1.se, .int .i64 m1.pos, .slice a1 n1 c1, .int .u64 (m1.su.toNat : Int)], .agg #[.int .i64 m2.se, .int .i64 m2.pos, .slice a2 n2 c2, .int .u64 (m2.su.toNat : Int)]] w fun e w' => e = .returned (.int .i64 (ordP m1.pos n1 m2.pos n2)) ∧ Below w.heap.size w w' := by
  have HF := Lib.hid (show ordP m1.pos n1 m2.pos n2 = orI (ordC m1.pos m2.pos) (ordC n1 n2) from rfl)
  go_enter Try.func31, Try.ntmps31
  go_wp2_with fail
  have hbx : Below w.heap.size w ((w.alloc (.cells #[.int .i64 m1.se, .int .i64 m1.pos, .slice a1 n1 c1, .int .u64 (m1.su.toNat : Int)] 35)).alloc (.cells #[.int .i64 m2.se, .int .i64 m2.pos, .slice a2 n2 c2, .int .u64 (m2.su.toNat : Int)] 35)) := (((Below.refl _ _).alloc (Nat.le_refl _) _).alloc (by simp) _)
  generalize hWW : ((w.alloc (.cells #[.int .i64 m1.se, .int .i64 m1.pos, .slice a1 n1 c1, .int .u64 (m1.su.toNat : Int)] 35)).alloc (.cells #[.int .i64 m2.se, .int .i64 m2.pos, .slice a2 n2 c2, .int .u64 (m2.su.toNat : Int)] 35)) = w0 at *
  have cP0 : w0.cell? ⟨w.heap.size, 0, none⟩ = some (.int .i64 m1.se) := by subst hWW; go_simp
  have cP1 : w0.cell? ⟨w.heap.size, 1, none⟩ = some (.int .i64 m1.pos) := by subst hWW; go_simp
  have cP2 : w0.cell? ⟨w.heap.size, 2, none⟩ = some (.slice a1 n1 c1) := by subst hWW; go_simp
  have cP3 : w0.cell? ⟨w.heap.size, 3, none⟩ = some (.int .u64 (m1.su.toNat : Int)) := by subst hWW; go_simp
  have ltP : w.heap.size < w0.heap.size := by subst hWW; simp <;> omega
  have cQ0 : w0.cell? ⟨w.heap.size + 1, 0, none⟩ = some (.int .i64 m2.se) := by subst hWW; go_simp
  have cQ1 : w0.cell? ⟨w.heap.size + 1, 1, none⟩ = some (.int .i64 m2.pos) := by subst hWW; go_simp
  have cQ2 : w0.cell? ⟨w.heap.size + 1, 2, none⟩ = some (.slice a2 n2 c2) := by subst hWW; go_simp
  have cQ3 : w0.cell? ⟨w.heap.size + 1, 3, none⟩ = some (.int .u64 (m2.su.toNat : Int)) := by subst hWW; go_simp
  have ltQ : w.heap.size + 1 < w0.heap.size := by subst hWW; simp
  have hB := hbx
  clear hbx hWW
  have eP0 := box_ext (B := w0.heap.size) cP0 ltP
  have eP1 := box_ext (B := w0.heap.size) cP1 ltP
  have eP2 := box_ext (B := w0.heap.size) cP2 ltP
  have eP3 := box_ext (B := w0.heap.size) cP3 ltP
  have eQ0 := box_ext (B := w0.heap.size) cQ0 ltQ
  have eQ1 := box_ext (B := w0.heap.size) cQ1 ltQ
  have eQ2 := box_ext (B := w0.heap.size) cQ2 ltQ
  have eQ3 := box_ext (B := w0.heap.size) cQ3 ltQ
  refine wp_region_sched [(0, false), (1, false), (2, false), (3, false), (5, false), (6, false), (7, false), (8, false), (9, false), (10, false), (4, true), (11, true), (12, true), (13, true), (14, false)] (fun w' => ∃ W : Ext w0.heap.size w0, w' = W.1) (by kernel_rfl) (by kernel_rfl) ⟨⟨w0.drew, (Below.refl _ _).drew⟩, rfl⟩ ?_
  repeat (refine wpSched_calm rfl (fun K hK => ?_); go_simp; refine hK _ ?_; clear hK K)
  clear eP0 eP1 eP2 eP3 eQ0 eQ1 eQ2 eQ3
  have hbx : Below w0.heap.size w0 w0.drew := (Below.refl _ _).drew
  have hM := hbx
  replace cP0 := bc hbx ltP cP0
  replace cP1 := bc hbx ltP cP1
  replace cP2 := bc hbx ltP cP2
  replace cP3 := bc hbx ltP cP3
  replace ltP := bl hbx ltP
  replace cQ0 := bc hbx ltQ cQ0
  replace cQ1 := bc hbx ltQ cQ1
  replace cQ2 := bc hbx ltQ cQ2
  replace cQ3 := bc hbx ltQ cQ3
  replace ltQ := bl hbx ltQ
  replace hB := hB.trans (hbx.mono hB.size)
  clear hbx
  generalize w0.drew = ww0d at *
  refine wpSched_eff rfl rfl (fun K hK => ?_)
  go_simp
  refine (compare_any _ _ _).mono ?_
  rintro e w1 ⟨rfl, hb⟩
  replace cP0 := bc hb ltP cP0
  replace cP1 := bc hb ltP cP1
  replace cP2 := bc hb ltP cP2
  replace cP3 := bc hb ltP cP3
  replace ltP := bl hb ltP
  replace cQ0 := bc hb ltQ cQ0
  replace cQ1 := bc hb ltQ cQ1
  replace cQ2 := bc hb ltQ cQ2
  replace cQ3 := bc hb ltQ cQ3
  replace ltQ := bl hb ltQ
  replace hM := hM.trans (hb.mono hM.size)
  replace hB := hB.trans (hb.mono hB.size)
  clear hb
  refine hK _ _ ⟨⟨w1, hM⟩, rfl⟩ ?_
  clear hK K
  repeat (refine wpSched_calm rfl (fun K hK => ?_); go_simp; refine hK _ ?_; clear hK K)
  refine wpSched_eff rfl rfl (fun K hK => ?_)
  go_simp
  refine (compare_any _ _ _).mono ?_
  rintro e w2 ⟨rfl, hb⟩
  replace cP0 := bc hb ltP cP0
  replace cP1 := bc hb ltP cP1
  replace cP2 := bc hb ltP cP2
  replace cP3 := bc hb ltP cP3
  replace ltP := bl hb ltP
  replace cQ0 := bc hb ltQ cQ0
  replace cQ1 := bc hb ltQ cQ1
  replace cQ2 := bc hb ltQ cQ2
  replace cQ3 := bc hb ltQ cQ3
  replace ltQ := bl hb ltQ
  replace hM := hM.trans (hb.mono hM.size)
  replace hB := hB.trans (hb.mono hB.size)
  generalize ordC m1.pos m2.pos = x at *
  generalize ordC n1 n2 = y at *
  clear hb
  refine hK _ _ ⟨⟨w2, hM⟩, rfl⟩ ?_
  clear hK K
  repeat (refine wpSched_calm rfl (fun K hK => ?_); go_simp; refine hK _ ?_; clear hK K)
  refine wpSched_eff rfl rfl (fun K hK => ?_)
  go_simp
  refine hK _ _ ⟨⟨_, hM.alloc hM.size _⟩, rfl⟩ ?_
  clear hK K
  have hbx : Below w2.heap.size w2 (w2.alloc (.cells #[.int .i64 x, .int .i64 y] 3)) := (Below.refl _ _).alloc (Nat.le_refl _) _
  generalize hWW : (w2.alloc (.cells #[.int .i64 x, .int .i64 y] 3)) = w3 at *
  replace cP0 := bc hbx ltP cP0
  replace cP1 := bc hbx ltP cP1
  replace cP2 := bc hbx ltP cP2
  replace cP3 := bc hbx ltP cP3
  replace ltP := bl hbx ltP
  replace cQ0 := bc hbx ltQ cQ0
  replace cQ1 := bc hbx ltQ cQ1
  replace cQ2 := bc hbx ltQ cQ2
  replace cQ3 := bc hbx ltQ cQ3
  replace ltQ := bl hbx ltQ
  replace hM := hM.trans (hbx.mono hM.size)
  have cS0 : w3.cell? ⟨w2.heap.size, 0, none⟩ = some (.int .i64 x) := by subst hWW; go_simp
  have cS1 : w3.cell? ⟨w2.heap.size, 1, none⟩ = some (.int .i64 y) := by subst hWW; go_simp
  have ltS : w2.heap.size < w3.heap.size := by subst hWW; simp
  replace hB := hB.trans (hbx.mono hB.size)
  clear hbx hWW
  refine wpSched_eff rfl rfl (fun K hK => ?_)
  go_simp
  refine (or_any x y _ _ cS0 cS1).mono ?_
  rintro e w4 ⟨rfl, hb⟩
  replace cP0 := bc hb ltP cP0
  replace cP1 := bc hb ltP cP1
  replace cP2 := bc hb ltP cP2
  replace cP3 := bc hb ltP cP3
  replace ltP := bl hb ltP
  replace cQ0 := bc hb ltQ cQ0
  replace cQ1 := bc hb ltQ cQ1
  replace cQ2 := bc hb ltQ cQ2
  replace cQ3 := bc hb ltQ cQ3
  replace ltQ := bl hb ltQ
  replace cS0 := bc hb ltS cS0
  replace cS1 := bc hb ltS cS1
  replace ltS := bl hb ltS
  replace hM := hM.trans (hb.mono hM.size)
  replace hB := hB.trans (hb.mono hB.size)
  clear hb
  refine hK _ _ ⟨⟨w4, hM⟩, rfl⟩ ?_
  clear hK K
  repeat (refine wpSched_calm rfl (fun K hK => ?_); go_simp; refine hK _ ?_; clear hK K)
  refine wpSched_nil ?_
  go_wp2_with fail
  go_ret
  exact ⟨by rw [HF.out]; rfl, hB⟩

/-- the bytes q of a log -/
def seg (log : List UInt8) (q : PK) : List UInt8 := (log.drop q.1).take q.2
theorem seg_len {log : List UInt8} {q : PK} (h : q.1 + q.2 ≤ log.length) : (seg log q).length = q.2 := by
  unfold seg; rw [List.length_take, List.length_drop]; omega
theorem seg_sub {log : List UInt8} {p n k m : Nat} (h : k + m ≤ n) : ((seg log (p, n)).drop k).take m = seg log (p + k, m) := by
  unfold seg
  simp only [List.drop_take, List.take_take, List.drop_drop]
  rw [Nat.min_eq_left (by omega)]
theorem bequal_same (xs : List UInt8) (a a2 : Option Addr) (len cap len2 cap2 : Nat) (w : World) (hx : Bytes w a len cap xs) (hy : Bytes w a2 len2 cap2 xs) :
    Calls Try.prog 55 #[.slice a len cap, .slice a2 len2 cap2] w fun e w' => e = .returned (.bool true) ∧ w' = w :=
  (bequal_any xs xs a a2 len cap len2 cap2 w hx hy).mono fun _ _ ⟨h1, h2⟩ => ⟨by rw [h1]; simp, h2.symm⟩
set_option maxHeartbeats 1000000 in
theorem differ_0 (log : List UInt8) (a1 a2 : Option Addr) (p n c1 q m c2 : Nat) (w : World) (hx : Bytes w a1 n c1 (seg log (p, n))) (hy : Bytes w a2 m c2 (seg log (q, m))) (hp : p ≤ 1048576) (hq : q ≤ 1048576) (hn : n ≤ 1048576) (hm : m ≤ 1048576) (h1 : p < q) (h2 : p + n ≤ q + m) :
    Calls Try.prog 47 #[.int .i64 p, .slice a1 n c1, .int .i64 q, .slice a2 m c2] w fun e w' => e = .returned (.bool false) ∧ Below w.heap.size w w' := by
  have d1 : decide ((p : Int) < q) = true := decide_eq_true (by omega)
  obtain ⟨hi, hhi⟩ : ∃ hi : Nat, p + n = hi := ⟨_, rfl⟩
  have hhi2 : ((p : Int) + n : Int) = (hi : Int) := by omega
  by_cases h3 : q < hi
  · have d3 : decide ((q : Int) < hi) = true := decide_eq_true (by omega)
    obtain ⟨b1, o1, rfl, -, -⟩ := hx.2.at (k := 0) (by omega)
    obtain ⟨b2, o2, rfl, -, -⟩ := hy.2.at (k := 0) (by omega)
    have hc1 := hx.2.1
    have hc2 := hy.2.1
    have hcm1 := hx.2.2.1
    have hcm2 := hy.2.2.1
    unfold maxLen at hcm1 hcm2
    obtain ⟨L1, hL1⟩ : ∃ L1 : Nat, L1 = q - p := ⟨_, rfl⟩
    obtain ⟨H1, hH1⟩ : ∃ H1 : Nat, H1 = hi - p := ⟨_, rfl⟩
    obtain ⟨L2, hL2⟩ : ∃ L2 : Nat, L2 = q - q := ⟨_, rfl⟩
    obtain ⟨H2, hH2⟩ : ∃ H2 : Nat, H2 = hi - q := ⟨_, rfl⟩
    have hw0 : IntKind.i64.wrap 0 = 0 := rfl
    have e1 : IntKind.i64.wrap ((q : Int) - p) = L1 := by rw [IntWalk.i64_in _ (by omega)]; omega
    have e2 : IntKind.i64.wrap ((hi : Int) - p) = H1 := by rw [IntWalk.i64_in _ (by omega)]; omega
    have e3 : IntKind.i64.wrap ((q : Int) - q) = L2 := by rw [IntWalk.i64_in _ (by omega)]; omega
    have e4 : IntKind.i64.wrap ((hi : Int) - q) = H2 := by rw [IntWalk.i64_in _ (by omega)]; omega
    have g1 : L1 ≤ H1 := by omega
    have g2 : H1 ≤ c1 := by omega
    have g3 : L2 ≤ H2 := by omega
    have g4 : H2 ≤ c2 := by omega
    have g5 : ¬ c1 = L1 := by omega
    have g6 : ¬ c2 = L2 := by omega
    have m1 : max (H1 : Int) 0 = H1 := by omega
    have m2 : max (H2 : Int) 0 = H2 := by omega
    have d2 : decide ((hi : Int) ≤ q + m) = true := decide_eq_true (by omega)
    have hS : seg log (p + L1, H1 - L1) = seg log (q, H2) := by rw [show p + L1 = q by omega, show H1 - L1 = H2 by omega]
    have HX := Lib.hid (by have h := hx.sub L1 (H1 - L1) (by omega); rw [if_neg g5, seg_sub (by omega), hS] at h; simpa only [Option.map_some, addr_add] using h : Bytes w (some ⟨b1, o1 + L1, none⟩) (H1 - L1) (c1 - L1) (seg log (q, H2)))
    have HY := Lib.hid (by have h := hy.sub 0 H2 (by omega); rw [if_neg (by omega), seg_sub (by omega)] at h; simpa only [Option.map_some, addr_add, Nat.add_zero, Nat.sub_zero] using h : Bytes w (some ⟨b2, o2, none⟩) H2 c2 (seg log (q, H2)))
    have hle : hi ≤ q + m := by omega
    clear hx hy hL2 hL1 hH1 hH2 hhi
    go_enter Try.func47, Try.ntmps47
    go_wp2_with fail
    go_quiet (first | (go_at_call 55; exact Calls.quiet_of_same (bequal_same _ _ _ _ _ _ _ _ (HX.out.below (below_drewN (Below.refl _ _) _)) (HY.out.below (below_drewN (Below.refl _ _) _)))))
    go_wp2_with fail
    go_ret
    exact ⟨rfl, below_drewN (Below.refl _ _) _⟩
  · have d3 : decide ((q : Int) < hi) = false := decide_eq_false (by omega)
    have d2 : decide ((hi : Int) ≤ q + m) = true := decide_eq_true (by omega)
    have hle : hi ≤ q + m := by omega
    clear hx hy hhi
    go_enter Try.func47, Try.ntmps47
    go_wp2_with fail
    go_quiet (fail)
    go_wp2_with fail
    go_ret
    exact ⟨rfl, below_drewN (Below.refl _ _) _⟩
set_option maxHeartbeats 1000000 in
theorem differ_1 (log : List UInt8) (a1 a2 : Option Addr) (p n c1 q m c2 : Nat) (w : World) (hx : Bytes w a1 n c1 (seg log (p, n))) (hy : Bytes w a2 m c2 (seg log (q, m))) (hp : p ≤ 1048576) (hq : q ≤ 1048576) (hn : n ≤ 1048576) (hm : m ≤ 1048576) (h1 : p < q) (h2 : ¬ p + n ≤ q + m) :
    Calls Try.prog 47 #[.int .i64 p, .slice a1 n c1, .int .i64 q, .slice a2 m c2] w fun e w' => e = .returned (.bool false) ∧ Below w.heap.size w w' := by
  have d1 : decide ((p : Int) < q) = true := decide_eq_true (by omega)
  obtain ⟨hi, hhi⟩ : ∃ hi : Nat, q + m = hi := ⟨_, rfl⟩
  have hhi2 : ((q : Int) + m : Int) = (hi : Int) := by omega
  by_cases h3 : q < hi
  · have d3 : decide ((q : Int) < hi) = true := decide_eq_true (by omega)
    obtain ⟨b1, o1, rfl, -, -⟩ := hx.2.at (k := 0) (by omega)
    obtain ⟨b2, o2, rfl, -, -⟩ := hy.2.at (k := 0) (by omega)
    have hc1 := hx.2.1
    have hc2 := hy.2.1
    have hcm1 := hx.2.2.1
    have hcm2 := hy.2.2.1
    unfold maxLen at hcm1 hcm2
    obtain ⟨L1, hL1⟩ : ∃ L1 : Nat, L1 = q - p := ⟨_, rfl⟩
    obtain ⟨H1, hH1⟩ : ∃ H1 : Nat, H1 = hi - p := ⟨_, rfl⟩
    obtain ⟨L2, hL2⟩ : ∃ L2 : Nat, L2 = q - q := ⟨_, rfl⟩
    obtain ⟨H2, hH2⟩ : ∃ H2 : Nat, H2 = hi - q := ⟨_, rfl⟩
    have hw0 : IntKind.i64.wrap 0 = 0 := rfl
    have e1 : IntKind.i64.wrap ((q : Int) - p) = L1 := by rw [IntWalk.i64_in _ (by omega)]; omega
    have e2 : IntKind.i64.wrap ((hi : Int) - p) = H1 := by rw [IntWalk.i64_in _ (by omega)]; omega
    have e3 : IntKind.i64.wrap ((q : Int) - q) = L2 := by rw [IntWalk.i64_in _ (by omega)]; omega
    have e4 : IntKind.i64.wrap ((hi : Int) - q) = H2 := by rw [IntWalk.i64_in _ (by omega)]; omega
    have g1 : L1 ≤ H1 := by omega
    have g2 : H1 ≤ c1 := by omega
    have g3 : L2 ≤ H2 := by omega
    have g4 : H2 ≤ c2 := by omega
    have g5 : ¬ c1 = L1 := by omega
    have g6 : ¬ c2 = L2 := by omega
    have m1 : max (H1 : Int) 0 = H1 := by omega
    have m2 : max (H2 : Int) 0 = H2 := by omega
    have d2 : decide ((p : Int) + n ≤ hi) = false := decide_eq_false (by omega)
    have hS : seg log (p + L1, H1 - L1) = seg log (q, H2) := by rw [show p + L1 = q by omega, show H1 - L1 = H2 by omega]
    have HX := Lib.hid (by have h := hx.sub L1 (H1 - L1) (by omega); rw [if_neg g5, seg_sub (by omega), hS] at h; simpa only [Option.map_some, addr_add] using h : Bytes w (some ⟨b1, o1 + L1, none⟩) (H1 - L1) (c1 - L1) (seg log (q, H2)))
    have HY := Lib.hid (by have h := hy.sub 0 H2 (by omega); rw [if_neg (by omega), seg_sub (by omega)] at h; simpa only [Option.map_some, addr_add, Nat.add_zero, Nat.sub_zero] using h : Bytes w (some ⟨b2, o2, none⟩) H2 c2 (seg log (q, H2)))
    have hle : hi < p + n := by omega
    clear hx hy hL2 hL1 hH1 hH2 hhi
    go_enter Try.func47, Try.ntmps47
    go_wp2_with fail
    go_quiet (first | (go_at_call 55; exact Calls.quiet_of_same (bequal_same _ _ _ _ _ _ _ _ (HX.out.below (below_drewN (Below.refl _ _) _)) (HY.out.below (below_drewN (Below.refl _ _) _)))))
    go_wp2_with fail
    go_ret
    exact ⟨rfl, below_drewN (Below.refl _ _) _⟩
  · have d3 : decide ((q : Int) < hi) = false := decide_eq_false (by omega)
    have d2 : decide ((p : Int) + n ≤ hi) = false := decide_eq_false (by omega)
    have hle : hi < p + n := by omega
    clear hx hy hhi
    go_enter Try.func47, Try.ntmps47
    go_wp2_with fail
    go_quiet (fail)
    go_wp2_with fail
    go_ret
    exact ⟨rfl, below_drewN (Below.refl _ _) _⟩
set_option maxHeartbeats 1000000 in
theorem differ_2 (log : List UInt8) (a1 a2 : Option Addr) (p n c1 q m c2 : Nat) (w : World) (hx : Bytes w a1 n c1 (seg log (p, n))) (hy : Bytes w a2 m c2 (seg log (q, m))) (hp : p ≤ 1048576) (hq : q ≤ 1048576) (hn : n ≤ 1048576) (hm : m ≤ 1048576) (h1 : ¬ p < q) (h2 : p + n ≤ q + m) :
    Calls Try.prog 47 #[.int .i64 p, .slice a1 n c1, .int .i64 q, .slice a2 m c2] w fun e w' => e = .returned (.bool false) ∧ Below w.heap.size w w' := by
  have d1 : decide ((p : Int) < q) = false := decide_eq_false (by omega)
  obtain ⟨hi, hhi⟩ : ∃ hi : Nat, p + n = hi := ⟨_, rfl⟩
  have hhi2 : ((p : Int) + n : Int) = (hi : Int) := by omega
  by_cases h3 : p < hi
  · have d3 : decide ((p : Int) < hi) = true := decide_eq_true (by omega)
    obtain ⟨b1, o1, rfl, -, -⟩ := hx.2.at (k := 0) (by omega)
    obtain ⟨b2, o2, rfl, -, -⟩ := hy.2.at (k := 0) (by omega)
    have hc1 := hx.2.1
    have hc2 := hy.2.1
    have hcm1 := hx.2.2.1
    have hcm2 := hy.2.2.1
    unfold maxLen at hcm1 hcm2
    obtain ⟨L1, hL1⟩ : ∃ L1 : Nat, L1 = p - p := ⟨_, rfl⟩
    obtain ⟨H1, hH1⟩ : ∃ H1 : Nat, H1 = hi - p := ⟨_, rfl⟩
    obtain ⟨L2, hL2⟩ : ∃ L2 : Nat, L2 = p - q := ⟨_, rfl⟩
    obtain ⟨H2, hH2⟩ : ∃ H2 : Nat, H2 = hi - q := ⟨_, rfl⟩
    have hw0 : IntKind.i64.wrap 0 = 0 := rfl
    have e1 : IntKind.i64.wrap ((p : Int) - p) = L1 := by rw [IntWalk.i64_in _ (by omega)]; omega
    have e2 : IntKind.i64.wrap ((hi : Int) - p) = H1 := by rw [IntWalk.i64_in _ (by omega)]; omega
    have e3 : IntKind.i64.wrap ((p : Int) - q) = L2 := by rw [IntWalk.i64_in _ (by omega)]; omega
    have e4 : IntKind.i64.wrap ((hi : Int) - q) = H2 := by rw [IntWalk.i64_in _ (by omega)]; omega
    have g1 : L1 ≤ H1 := by omega
    have g2 : H1 ≤ c1 := by omega
    have g3 : L2 ≤ H2 := by omega
    have g4 : H2 ≤ c2 := by omega
    have g5 : ¬ c1 = L1 := by omega
    have g6 : ¬ c2 = L2 := by omega
    have m1 : max (H1 : Int) 0 = H1 := by omega
    have m2 : max (H2 : Int) 0 = H2 := by omega
    have d2 : decide ((hi : Int) ≤ q + m) = true := decide_eq_true (by omega)
    have hS : seg log (q + L2, H2 - L2) = seg log (p, H1) := by rw [show q + L2 = p by omega, show H2 - L2 = H1 by omega]
    have HX := Lib.hid (by have h := hx.sub 0 H1 (by omega); rw [if_neg (by omega), seg_sub (by omega)] at h; simpa only [Option.map_some, addr_add, Nat.add_zero, Nat.sub_zero] using h : Bytes w (some ⟨b1, o1, none⟩) H1 c1 (seg log (p, H1)))
    have HY := Lib.hid (by have h := hy.sub L2 (H2 - L2) (by omega); rw [if_neg g6, seg_sub (by omega), hS] at h; simpa only [Option.map_some, addr_add] using h : Bytes w (some ⟨b2, o2 + L2, none⟩) (H2 - L2) (c2 - L2) (seg log (p, H1)))
    have hle : hi ≤ q + m := by omega
    clear hx hy hL2 hL1 hH1 hH2 hhi
    go_enter Try.func47, Try.ntmps47
    go_wp2_with fail
    go_quiet (first | (go_at_call 55; exact Calls.quiet_of_same (bequal_same _ _ _ _ _ _ _ _ (HX.out.below (below_drewN (Below.refl _ _) _)) (HY.out.below (below_drewN (Below.refl _ _) _)))))
    go_wp2_with fail
    go_ret
    exact ⟨rfl, below_drewN (Below.refl _ _) _⟩
  · have d3 : decide ((p : Int) < hi) = false := decide_eq_false (by omega)
    have d2 : decide ((hi : Int) ≤ q + m) = true := decide_eq_true (by omega)
    have hle : hi ≤ q + m := by omega
    clear hx hy hhi
    go_enter Try.func47, Try.ntmps47
    go_wp2_with fail
    go_quiet (fail)
    go_wp2_with fail
    go_ret
    exact ⟨rfl, below_drewN (Below.refl _ _) _⟩
set_option maxHeartbeats 1000000 in
theorem differ_3 (log : List UInt8) (a1 a2 : Option Addr) (p n c1 q m c2 : Nat) (w : World) (hx : Bytes w a1 n c1 (seg log (p, n))) (hy : Bytes w a2 m c2 (seg log (q, m))) (hp : p ≤ 1048576) (hq : q ≤ 1048576) (hn : n ≤ 1048576) (hm : m ≤ 1048576) (h1 : ¬ p < q) (h2 : ¬ p + n ≤ q + m) :
    Calls Try.prog 47 #[.int .i64 p, .slice a1 n c1, .int .i64 q, .slice a2 m c2] w fun e w' => e = .returned (.bool false) ∧ Below w.heap.size w w' := by
  have d1 : decide ((p : Int) < q) = false := decide_eq_false (by omega)
  obtain ⟨hi, hhi⟩ : ∃ hi : Nat, q + m = hi := ⟨_, rfl⟩
  have hhi2 : ((q : Int) + m : Int) = (hi : Int) := by omega
  by_cases h3 : p < hi
  · have d3 : decide ((p : Int) < hi) = true := decide_eq_true (by omega)
    obtain ⟨b1, o1, rfl, -, -⟩ := hx.2.at (k := 0) (by omega)
    obtain ⟨b2, o2, rfl, -, -⟩ := hy.2.at (k := 0) (by omega)
    have hc1 := hx.2.1
    have hc2 := hy.2.1
    have hcm1 := hx.2.2.1
    have hcm2 := hy.2.2.1
    unfold maxLen at hcm1 hcm2
    obtain ⟨L1, hL1⟩ : ∃ L1 : Nat, L1 = p - p := ⟨_, rfl⟩
    obtain ⟨H1, hH1⟩ : ∃ H1 : Nat, H1 = hi - p := ⟨_, rfl⟩
    obtain ⟨L2, hL2⟩ : ∃ L2 : Nat, L2 = p - q := ⟨_, rfl⟩
    obtain ⟨H2, hH2⟩ : ∃ H2 : Nat, H2 = hi - q := ⟨_, rfl⟩
    have hw0 : IntKind.i64.wrap 0 = 0 := rfl
    have e1 : IntKind.i64.wrap ((p : Int) - p) = L1 := by rw [IntWalk.i64_in _ (by omega)]; omega
    have e2 : IntKind.i64.wrap ((hi : Int) - p) = H1 := by rw [IntWalk.i64_in _ (by omega)]; omega
    have e3 : IntKind.i64.wrap ((p : Int) - q) = L2 := by rw [IntWalk.i64_in _ (by omega)]; omega
    have e4 : IntKind.i64.wrap ((hi : Int) - q) = H2 := by rw [IntWalk.i64_in _ (by omega)]; omega
    have g1 : L1 ≤ H1 := by omega
    have g2 : H1 ≤ c1 := by omega
    have g3 : L2 ≤ H2 := by omega
    have g4 : H2 ≤ c2 := by omega
    have g5 : ¬ c1 = L1 := by omega
    have g6 : ¬ c2 = L2 := by omega
    have m1 : max (H1 : Int) 0 = H1 := by omega
    have m2 : max (H2 : Int) 0 = H2 := by omega
    have d2 : decide ((p : Int) + n ≤ hi) = false := decide_eq_false (by omega)
    have hS : seg log (q + L2, H2 - L2) = seg log (p, H1) := by rw [show q + L2 = p by omega, show H2 - L2 = H1 by omega]
    have HX := Lib.hid (by have h := hx.sub 0 H1 (by omega); rw [if_neg (by omega), seg_sub (by omega)] at h; simpa only [Option.map_some, addr_add, Nat.add_zero, Nat.sub_zero] using h : Bytes w (some ⟨b1, o1, none⟩) H1 c1 (seg log (p, H1)))
    have HY := Lib.hid (by have h := hy.sub L2 (H2 - L2) (by omega); rw [if_neg g6, seg_sub (by omega), hS] at h; simpa only [Option.map_some, addr_add] using h : Bytes w (some ⟨b2, o2 + L2, none⟩) (H2 - L2) (c2 - L2) (seg log (p, H1)))
    have hle : hi < p + n := by omega
    clear hx hy hL2 hL1 hH1 hH2 hhi
    go_enter Try.func47, Try.ntmps47
    go_wp2_with fail
    go_quiet (first | (go_at_call 55; exact Calls.quiet_of_same (bequal_same _ _ _ _ _ _ _ _ (HX.out.below (below_drewN (Below.refl _ _) _)) (HY.out.below (below_drewN (Below.refl _ _) _)))))
    go_wp2_with fail
    go_ret
    exact ⟨rfl, below_drewN (Below.refl _ _) _⟩
  · have d3 : decide ((p : Int) < hi) = false := decide_eq_false (by omega)
    have d2 : decide ((p : Int) + n ≤ hi) = false := decide_eq_false (by omega)
    have hle : hi < p + n := by omega
    clear hx hy hhi
    go_enter Try.func47, Try.ntmps47
    go_wp2_with fail
    go_quiet (fail)
    go_wp2_with fail
    go_ret
    exact ⟨rfl, below_drewN (Below.refl _ _) _⟩

end Go.Proofs.Ytpdodapdaeochaa
