/- Scales: what decimal.Integer, scaling.Valid, score and Score return. Condition: numbers of at most L limbs, (5 L) in 2^47 bytes. -/
import Derived.Test.YtmahokhgdkdhkaaRnd
import Derived.Test.YtmahokhgdkdhkaaRatE
namespace Go.Proofs.Ytmahokhgdkdhkaa
set_option maxRecDepth 100000
open Go.RowKit

/-- a scale as it came in -/
def LinV (w : World) (v : Value) (A B : Rat) (lo hi m : Int) (L : Nat) : Prop := ∃ na aa' la' ca' aa la ca nb ab' lb' cb' ab lb cb, v = .agg #[.bool na, .slice aa' la' ca', .slice aa la ca, .bool nb, .slice ab' lb' cb', .slice ab lb cb, .int .i64 lo, .int .i64 hi, .int .i64 m] ∧ RatV w (.agg #[.bool na, .slice aa' la' ca', .slice aa la ca]) A L ∧ RatV w (.agg #[.bool nb, .slice ab' lb' cb', .slice ab lb cb]) B L
theorem LinV.below {w w' : World} {v : Value} {A B : Rat} {lo hi m : Int} {L : Nat} (h : LinV w v A B lo hi m L) (hb : Below w.heap.size w w') : LinV w' v A B lo hi m L := by
  obtain ⟨na, aa', la', ca', aa, la, ca, nb, ab', lb', cb', ab, lb, cb, rfl, h1, h2⟩ := h
  exact ⟨na, aa', la', ca', aa, la, ca, nb, ab', lb', cb', ab, lb, cb, rfl, h1.below hb, h2.below hb⟩
def wiB (n : Int) : Bool := decide (-1000000 ≤ n) && decide (n ≤ 1000000)
theorem wi_yes {n : Int} (h : wiB n = true) : -1000000 ≤ n ∧ n ≤ 1000000 := by simpa [wiB] using h
/-- the first rule that a scale violates -/
def validE (A : Rat) (lo hi m : Int) : Int := if rsgI A ≤ 0 then 3 else if wiB lo = false then 3 else if wiB hi = false then 3 else if hi < lo then 23 else if m < 1 then 1 else if 7 < m then 1 else 0
theorem valid_ok {A : Rat} {lo hi m : Int} (h : validE A lo hi m = 0) : 0 < rsgI A ∧ wiB lo = true ∧ wiB hi = true ∧ lo ≤ hi ∧ 1 ≤ m ∧ m ≤ 7 := by
  unfold validE at h
  by_cases h1 : rsgI A ≤ 0
  · rw [if_pos h1] at h; omega
  rw [if_neg h1] at h
  cases h2 : wiB lo
  · rw [if_pos h2] at h; omega
  rw [if_neg (by rw [h2]; decide)] at h
  cases h3 : wiB hi
  · rw [if_pos h3] at h; omega
  rw [if_neg (by rw [h3]; decide)] at h
  by_cases h4 : hi < lo
  · rw [if_pos h4] at h; omega
  rw [if_neg h4] at h
  by_cases h5 : m < 1
  · rw [if_pos h5] at h; omega
  rw [if_neg h5] at h
  by_cases h6 : 7 < m
  · rw [if_pos h6] at h; omega
  exact ⟨by omega, rfl, rfl, by omega, by omega, by omega⟩
def clampI (lo hi n : Int) : Int := if n ≤ lo then lo else if hi ≤ n then hi else n
def scoreI (A B : Rat) (lo hi m : Int) (x : Rat) : Int := clampI lo hi (roundI m (A * x + B))
theorem clamp_bd {lo hi n : Int} (h : lo ≤ hi) : lo ≤ clampI lo hi n ∧ clampI lo hi n ≤ hi := by
  unfold clampI; split
  · omega
  · split <;> omega
theorem clamp_mono {lo hi n k : Int} (h : lo ≤ hi) (hnk : n ≤ k) : clampI lo hi n ≤ clampI lo hi k := by
  unfold clampI
  by_cases h1 : n ≤ lo <;> by_cases h2 : k ≤ lo <;> by_cases h3 : hi ≤ n <;> by_cases h4 : hi ≤ k <;> simp [h1, h2, h3, h4] <;> omega

set_option maxHeartbeats 1000000 in
theorem integer_any (v : Value) (r : Rat) (m : Int) (L : Nat) (w : World) (hv : RatV w v r L) (hL : 1 ≤ L) (hm : (L + 4) * 4 ≤ 140737488355328) (h1 : 1 ≤ m) (h2 : m ≤ 7) :
    Calls Try.prog 40 #[v, .int .i64 m] w fun e w' => ∃ v, e = .returned (.tuple #[v, .int .i64 0]) ∧ IntN w.heap.size w' v (roundI m r) ∧ Below w.heap.size w w' := by
  obtain ⟨p, q, hr, hpq⟩ := hv
  have HR := Lib.hid (show RatV w v r L from ⟨p, q, hr, hpq⟩)
  obtain ⟨neg, a', len', cap', xs, a, len, cap, ys, rfl, -, -, -, -, -, -⟩ := hr
  clear hpq
  go_enter Try.func40, Try.ntmps40
  go_wp2_with fail
  have hbx : Below w.heap.size w ((w.alloc (.cells #[.bool neg, .slice a' len' cap', .slice a len cap] 27)).alloc (.cells #[.bool false, .slice none 0 0] 25)) := (((Below.refl _ _).alloc (Nat.le_refl _) _).alloc (by simp) _)
  generalize hWW : ((w.alloc (.cells #[.bool neg, .slice a' len' cap', .slice a len cap] 27)).alloc (.cells #[.bool false, .slice none 0 0] 25)) = w0 at *
  replace HR := Lib.hid (HR.out.below hbx)
  have cA0 : w0.cell? ⟨w.heap.size, 0, none⟩ = some (.bool neg) := by subst hWW; go_simp
  have cA1 : w0.cell? ⟨w.heap.size, 1, none⟩ = some (.slice a' len' cap') := by subst hWW; go_simp
  have cA2 : w0.cell? ⟨w.heap.size, 2, none⟩ = some (.slice a len cap) := by subst hWW; go_simp
  have ltA : w.heap.size < w0.heap.size := by subst hWW; simp <;> omega
  have cR0 : w0.cell? ⟨w.heap.size + 1, 0, none⟩ = some (.bool false) := by subst hWW; go_simp
  have fR0 : w0.frozen? ⟨w.heap.size + 1, 0, none⟩ = false := by subst hWW; go_simp
  have cR1 : w0.cell? ⟨w.heap.size + 1, 1, none⟩ = some (.slice none 0 0) := by subst hWW; go_simp
  have fR1 : w0.frozen? ⟨w.heap.size + 1, 1, none⟩ = false := by subst hWW; go_simp
  have ltR : w.heap.size + 1 < w0.heap.size := by subst hWW; simp
  have hB := hbx
  clear hbx hWW
  have hs1 := ltR
  refine (round_any _ r m L _ HR.out hL hm h1 h2).mono ?_
  rintro e w1 ⟨vb, vs, rfl, hv1, hb⟩
  replace cA0 := bc hb ltA cA0
  replace cA1 := bc hb ltA cA1
  replace cA2 := bc hb ltA cA2
  replace ltA := bl hb ltA
  replace cR0 := bc hb ltR cR0
  replace fR0 := bf hb ltR fR0
  replace cR1 := bc hb ltR cR1
  replace fR1 := bf hb ltR fR1
  replace ltR := bl hb ltR
  replace HR := Lib.hid (HR.out.below hb)
  replace hB := hB.trans (hb.mono hB.size)
  obtain ⟨a1, n1, c1, e1, p1, p2⟩ := hv1
  cases e1
  have HFin := Lib.hid (int_store (B := w0.heap.size) (B' := w.heap.size) (g := w.heap.size + 1) (z := roundI m r) ⟨a1, n1, c1, rfl, p1, p2⟩ hs1 (by omega))
  clear p1 p2
  generalize decide (roundI m r < 0) = dn at *
  clear hb
  go_wp2_with fail
  exact bodyPost_ret (v := .tuple #[.agg #[.bool dn, .slice a1 n1 c1], .int .i64 0]) (by simp [results, Try.results40, go_sem, cR0, cR1, ltR]) rfl ⟨_, rfl, HFin.out.below ((Below.refl _ _).alloc (Nat.le_refl _) _), (((hB.setCell (p := ⟨w.heap.size + 1, 0, none⟩) (by simp) _).setCell (p := ⟨w.heap.size + 1, 1, none⟩) (by simp) _).alloc (by simpa using hB.size) _)⟩

theorem within_any (n : Int) (w : World) : Calls Try.prog 31 #[.int .i64 n] w fun e w' => e = .returned (.bool (wiB n)) ∧ w = w' := by
  have HW := Lib.hid (show (decide (-1000000 ≤ n) && decide (n ≤ 1000000)) = wiB n from rfl)
  by_cases h1 : -1000000 ≤ n
  · go_enter Try.func31, Try.ntmps31
    go_wp2_with fail
    go_ret
    exact ⟨by rw [← HW.out]; simp [h1], rfl⟩
  · go_enter Try.func31, Try.ntmps31
    go_wp2_with fail
    go_ret
    exact ⟨by rw [← HW.out]; simp; omega, rfl⟩

set_option maxHeartbeats 2000000 in
theorem svalid_any (v : Value) (A B : Rat) (lo hi m : Int) (L : Nat) (w : World) (hv : LinV w v A B lo hi m L) (hL : 1 ≤ L) :
    Calls Try.prog 12 #[v] w fun e w' => e = .returned (.int .i64 (validE A lo hi m)) ∧ Below w.heap.size w w' := by
  obtain ⟨na, aa', la', ca', aa, la, ca, nb, ab', lb', cb', ab, lb, cb, rfl, hA, -⟩ := hv
  have hb0 : Below w.heap.size w (w.alloc (.cells #[.bool na, .slice aa' la' ca', .slice aa la ca, .bool nb, .slice ab' lb' cb', .slice ab lb cb, .int .i64 lo, .int .i64 hi, .int .i64 m] 29)) := (Below.refl _ _).alloc (Nat.le_refl _) _
  have HA := Lib.hid (hA.below hb0)
  clear hA
  by_cases h1 : rsgI A ≤ 0
  · have HE := Lib.hid (show validE A lo hi m = 3 by unfold validE; rw [if_pos h1])
    go_enter Try.func12, Try.ntmps12
    go_wp2_with fail
    refine (qsign_any _ A L _ HA.out hL).mono ?_
    rintro e w1 ⟨rfl, hb1⟩
    have hb01 := hb0.trans (hb1.mono (by simp))
    generalize rsgI A = sg at *
    go_wp2_with fail
    go_ret
    exact ⟨by rw [HE.out]; rfl, hb01⟩
  cases h2 : wiB lo
  · have HE := Lib.hid (show validE A lo hi m = 3 by unfold validE; rw [if_neg h1, if_pos h2])
    have H2 := Lib.hid h2
    clear h2
    go_enter Try.func12, Try.ntmps12
    go_wp2_with fail
    refine (qsign_any _ A L _ HA.out hL).mono ?_
    rintro e w1 ⟨rfl, hb1⟩
    have hb01 := hb0.trans (hb1.mono (by simp))
    obtain ⟨hc1, hf1⟩ := bcell hb1 w.heap.size (by simp)
    generalize rsgI A = sg at *
    go_wp2_with fail
    refine (within_any lo _).mono ?_
    rintro e w2 ⟨rfl, rfl⟩
    rw [H2.out]
    go_wp2_with fail
    go_ret
    exact ⟨by rw [HE.out]; rfl, hb01⟩
  have h2n : ¬ wiB lo = false := by rw [h2]; decide
  have H2 := Lib.hid h2
  clear h2
  cases h3 : wiB hi
  · have HE := Lib.hid (show validE A lo hi m = 3 by unfold validE; rw [if_neg h1, if_neg h2n, if_pos h3])
    have H3 := Lib.hid h3
    clear h3 h2n
    go_enter Try.func12, Try.ntmps12
    go_wp2_with fail
    refine (qsign_any _ A L _ HA.out hL).mono ?_
    rintro e w1 ⟨rfl, hb1⟩
    have hb01 := hb0.trans (hb1.mono (by simp))
    obtain ⟨hc1, hf1⟩ := bcell hb1 w.heap.size (by simp)
    generalize rsgI A = sg at *
    go_wp2_with fail
    refine (within_any lo _).mono ?_
    rintro e w2 ⟨rfl, rfl⟩
    rw [H2.out]
    go_wp2_with fail
    refine (within_any hi _).mono ?_
    rintro e w2 ⟨rfl, rfl⟩
    rw [H3.out]
    go_wp2_with fail
    go_ret
    exact ⟨by rw [HE.out]; rfl, hb01⟩
  have h3n : ¬ wiB hi = false := by rw [h3]; decide
  have H3 := Lib.hid h3
  clear h3
  by_cases h4 : hi < lo
  case' pos =>
    have HE := Lib.hid (show validE A lo hi m = 23 by unfold validE; rw [if_neg h1, if_neg h2n, if_neg h3n, if_pos h4])
  case' neg =>
    by_cases h5 : m < 1
    case' pos => have HE := Lib.hid (show validE A lo hi m = 1 by unfold validE; rw [if_neg h1, if_neg h2n, if_neg h3n, if_neg h4, if_pos h5])
    case' neg =>
      by_cases h6 : 7 < m
      case' pos => have HE := Lib.hid (show validE A lo hi m = 1 by unfold validE; rw [if_neg h1, if_neg h2n, if_neg h3n, if_neg h4, if_neg h5, if_pos h6])
      case' neg => have HE := Lib.hid (show validE A lo hi m = 0 by unfold validE; rw [if_neg h1, if_neg h2n, if_neg h3n, if_neg h4, if_neg h5, if_neg h6])
  all_goals
    clear h2n h3n
    go_enter Try.func12, Try.ntmps12
    go_wp2_with fail
    refine (qsign_any _ A L _ HA.out hL).mono ?_
    rintro e w1 ⟨rfl, hb1⟩
    have hb01 := hb0.trans (hb1.mono (by simp))
    obtain ⟨hc1, hf1⟩ := bcell hb1 w.heap.size (by simp)
    generalize rsgI A = sg at *
    go_wp2_with fail
    refine (within_any lo _).mono ?_
    rintro e w2 ⟨rfl, rfl⟩
    rw [H2.out]
    go_wp2_with fail
    refine (within_any hi _).mono ?_
    rintro e w2 ⟨rfl, rfl⟩
    rw [H3.out]
    go_wp2_with fail
    go_ret
    exact ⟨by rw [HE.out]; rfl, hb01⟩

theorem sgn_le {a b : Int} : decide ((a - b).sign ≤ 0) = decide (a ≤ b) := by
  rcases Int.lt_trichotomy (a - b) 0 with h | h | h
  · rw [Int.sign_eq_neg_one_of_neg h, decide_eq_true (show a ≤ b by omega)]; rfl
  · rw [h, decide_eq_true (show a ≤ b by omega)]; rfl
  · rw [Int.sign_eq_one_of_pos h, decide_eq_false (show ¬ a ≤ b by omega)]; rfl
theorem sgn_ge0 {a b : Int} : decide (0 ≤ (a - b).sign) = decide (b ≤ a) := by
  rcases Int.lt_trichotomy (a - b) 0 with h | h | h
  · rw [Int.sign_eq_neg_one_of_neg h, decide_eq_false (show ¬ b ≤ a by omega)]; rfl
  · rw [h, decide_eq_true (show b ≤ a by omega)]; rfl
  · rw [Int.sign_eq_one_of_pos h, decide_eq_true (show b ≤ a by omega)]; rfl

set_option maxHeartbeats 2000000 in
theorem score_lo (v u : Value) (A B x : Rat) (lo hi m : Int) (L : Nat) (w : World) (hv : LinV w v A B lo hi m L) (hu : RatV w u x L) (hL : 1 ≤ L) (hm : (3 * L + 5) * 4 ≤ 140737488355328) (h1 : 1 ≤ m) (h2 : m ≤ 7) (hlo : wiB lo = true) (hhi : wiB hi = true) (hc1 : decide ((roundI m (A * x + B) - lo).sign ≤ 0) = true) :
    Calls Try.prog 23 #[v, u] w fun e w' => e = .returned (.tuple #[.int .i64 (lo), .int .i64 0]) ∧ Below w.heap.size w w' := by
  obtain ⟨na, aa', la', ca', aa, la, ca, nb, ab', lb', cb', ab, lb, cb, rfl, hA, hB0⟩ := hv
  obtain ⟨p, q, hr, hpq⟩ := hu
  have HX := Lib.hid (show RatV w u x L from ⟨p, q, hr, hpq⟩)
  obtain ⟨neg, a', len', cap', xs, a, len, cap, ys, rfl, -, -, -, -, -, -⟩ := hr
  have HA := Lib.hid hA
  have HBB := Lib.hid hB0
  have hw1 := wi_yes hlo
  have hw2 := wi_yes hhi
  clear hpq hA hB0 hlo hhi
  go_enter Try.func23, Try.ntmps23
  go_wp2_with fail
  have hbx : Below w.heap.size w ((w.alloc (.cells #[.bool na, .slice aa' la' ca', .slice aa la ca, .bool nb, .slice ab' lb' cb', .slice ab lb cb, .int .i64 lo, .int .i64 hi, .int .i64 m] 29)).alloc (.cells #[.bool neg, .slice a' len' cap', .slice a len cap] 27)) := (((Below.refl _ _).alloc (Nat.le_refl _) _).alloc (by simp) _)
  generalize hWW : ((w.alloc (.cells #[.bool na, .slice aa' la' ca', .slice aa la ca, .bool nb, .slice ab' lb' cb', .slice ab lb cb, .int .i64 lo, .int .i64 hi, .int .i64 m] 29)).alloc (.cells #[.bool neg, .slice a' len' cap', .slice a len cap] 27)) = w0 at *
  replace HX := Lib.hid (HX.out.below hbx)
  replace HA := Lib.hid (HA.out.below hbx)
  replace HBB := Lib.hid (HBB.out.below hbx)
  have cK0 : w0.cell? ⟨w.heap.size, 0, none⟩ = some (.bool na) := by subst hWW; go_simp
  have cK1 : w0.cell? ⟨w.heap.size, 1, none⟩ = some (.slice aa' la' ca') := by subst hWW; go_simp
  have cK2 : w0.cell? ⟨w.heap.size, 2, none⟩ = some (.slice aa la ca) := by subst hWW; go_simp
  have cK3 : w0.cell? ⟨w.heap.size, 3, none⟩ = some (.bool nb) := by subst hWW; go_simp
  have cK4 : w0.cell? ⟨w.heap.size, 4, none⟩ = some (.slice ab' lb' cb') := by subst hWW; go_simp
  have cK5 : w0.cell? ⟨w.heap.size, 5, none⟩ = some (.slice ab lb cb) := by subst hWW; go_simp
  have cK6 : w0.cell? ⟨w.heap.size, 6, none⟩ = some (.int .i64 lo) := by subst hWW; go_simp
  have cK7 : w0.cell? ⟨w.heap.size, 7, none⟩ = some (.int .i64 hi) := by subst hWW; go_simp
  have cK8 : w0.cell? ⟨w.heap.size, 8, none⟩ = some (.int .i64 m) := by subst hWW; go_simp
  have ltK : w.heap.size < w0.heap.size := by subst hWW; simp <;> omega
  have cX0 : w0.cell? ⟨w.heap.size + 1, 0, none⟩ = some (.bool neg) := by subst hWW; go_simp
  have cX1 : w0.cell? ⟨w.heap.size + 1, 1, none⟩ = some (.slice a' len' cap') := by subst hWW; go_simp
  have cX2 : w0.cell? ⟨w.heap.size + 1, 2, none⟩ = some (.slice a len cap) := by subst hWW; go_simp
  have ltX : w.heap.size + 1 < w0.heap.size := by subst hWW; simp
  have hB := hbx
  clear hbx hWW
  have SCK0 := Lib.hid cK0
  have SCK1 := Lib.hid cK1
  have SCK2 := Lib.hid cK2
  have SCK3 := Lib.hid cK3
  have SCK4 := Lib.hid cK4
  have SCK5 := Lib.hid cK5
  have SCK6 := Lib.hid cK6
  have SCK7 := Lib.hid cK7
  have SCK8 := Lib.hid cK8
  have SLK := Lib.hid ltK
  have SCX0 := Lib.hid cX0
  have SCX1 := Lib.hid cX1
  have SCX2 := Lib.hid cX2
  have SLX := Lib.hid ltX
  have SHX := Lib.hid HX.out
  have SHA := Lib.hid HA.out
  have SHBB := Lib.hid HBB.out
  have SB := Lib.hid hB
  have eK0 := box_ext (B := w0.heap.size) cK0 ltK
  have eK1 := box_ext (B := w0.heap.size) cK1 ltK
  have eK2 := box_ext (B := w0.heap.size) cK2 ltK
  have eK3 := box_ext (B := w0.heap.size) cK3 ltK
  have eK4 := box_ext (B := w0.heap.size) cK4 ltK
  have eK5 := box_ext (B := w0.heap.size) cK5 ltK
  have eK6 := box_ext (B := w0.heap.size) cK6 ltK
  have eK7 := box_ext (B := w0.heap.size) cK7 ltK
  have eK8 := box_ext (B := w0.heap.size) cK8 ltK
  have eX0 := box_ext (B := w0.heap.size) cX0 ltX
  have eX1 := box_ext (B := w0.heap.size) cX1 ltX
  have eX2 := box_ext (B := w0.heap.size) cX2 ltX
  refine wp_region_float 13 [(0, false), (1, false), (2, false), (4, false), (5, false), (7, false), (8, false), (3, true), (6, true), (9, true), (10, false), (11, false), (12, false)] [(14, true), (15, false)] (fun w' => ∃ W : Ext w0.heap.size w0, w' = W.1) _ 6 (.cells #[.bool false, .slice none 0 0] 25) w0.heap.size (by kernel_rfl) rfl rfl rfl (fun a w => by simp [execOp, go_sem]) (fun w ⟨W, e⟩ => e ▸ W.2.size) (fun w ⟨W, e⟩ => ⟨⟨_, (e ▸ W.2).alloc (e ▸ W.2.size) _⟩, rfl⟩) (by kernel_rfl) ⟨⟨w0.drew, (Below.refl _ _).drew⟩, rfl⟩ ?_
  repeat (refine wpFl_calm rfl (fun K hK => ?_); go_simp; refine hK _ ?_; clear hK K)
  clear eK0 eK1 eK2 eK3 eK4 eK5 eK6 eK7 eK8 eX0 eX1 eX2
  have hbx : Below w0.heap.size w0 w0.drew := (Below.refl _ _).drew
  have hM := hbx
  replace cK0 := bc hbx ltK cK0
  replace cK1 := bc hbx ltK cK1
  replace cK2 := bc hbx ltK cK2
  replace cK3 := bc hbx ltK cK3
  replace cK4 := bc hbx ltK cK4
  replace cK5 := bc hbx ltK cK5
  replace cK6 := bc hbx ltK cK6
  replace cK7 := bc hbx ltK cK7
  replace cK8 := bc hbx ltK cK8
  replace ltK := bl hbx ltK
  replace cX0 := bc hbx ltX cX0
  replace cX1 := bc hbx ltX cX1
  replace cX2 := bc hbx ltX cX2
  replace ltX := bl hbx ltX
  replace HX := Lib.hid (HX.out.below hbx)
  replace HA := Lib.hid (HA.out.below hbx)
  replace HBB := Lib.hid (HBB.out.below hbx)
  replace hB := hB.trans (hbx.mono hB.size)
  clear hbx
  generalize w0.drew = ww0d at *
  refine wpFl_eff rfl rfl (fun wy hC hg K hK => ?_)
  obtain ⟨⟨wz, hE⟩, hwe⟩ := hC
  change wy = wz at hwe
  subst hwe
  replace cK0 := bc hg ltK cK0
  replace cK1 := bc hg ltK cK1
  replace cK2 := bc hg ltK cK2
  replace cK3 := bc hg ltK cK3
  replace cK4 := bc hg ltK cK4
  replace cK5 := bc hg ltK cK5
  replace cK6 := bc hg ltK cK6
  replace cK7 := bc hg ltK cK7
  replace cK8 := bc hg ltK cK8
  replace ltK := bl hg ltK
  replace cX0 := bc hg ltX cX0
  replace cX1 := bc hg ltX cX1
  replace cX2 := bc hg ltX cX2
  replace ltX := bl hg ltX
  replace HX := Lib.hid (HX.out.below hg)
  replace HA := Lib.hid (HA.out.below hg)
  replace HBB := Lib.hid (HBB.out.below hg)
  replace hB := hB.trans (hg.mono hB.size)
  replace hM := hE
  clear hE hg
  go_simp
  refine (qmul_any _ _ A x L L _ HA.out HX.out hL hL (by omega)).mono ?_
  rintro e w1 ⟨v1, rfl, hv1, hsz, hb⟩
  replace cK0 := bc hb ltK cK0
  replace cK1 := bc hb ltK cK1
  replace cK2 := bc hb ltK cK2
  replace cK3 := bc hb ltK cK3
  replace cK4 := bc hb ltK cK4
  replace cK5 := bc hb ltK cK5
  replace cK6 := bc hb ltK cK6
  replace cK7 := bc hb ltK cK7
  replace cK8 := bc hb ltK cK8
  replace ltK := bl hb ltK
  replace cX0 := bc hb ltX cX0
  replace cX1 := bc hb ltX cX1
  replace cX2 := bc hb ltX cX2
  replace ltX := bl hb ltX
  replace HX := Lib.hid (HX.out.below hb)
  replace HA := Lib.hid (HA.out.below hb)
  replace HBB := Lib.hid (HBB.out.below hb)
  replace hM := hM.trans (hb.mono hM.size)
  replace hB := hB.trans (hb.mono hB.size)
  have HV1 := Lib.hid (hv1.raw hsz)
  clear hv1 hsz
  refine hK _ _ ⟨⟨w1, hM⟩, rfl⟩ hb ?_
  clear hK K hb
  refine wpFl_eff rfl rfl (fun wy hC hg K hK => ?_)
  obtain ⟨⟨wz, hE⟩, hwe⟩ := hC
  change wy = wz at hwe
  subst hwe
  replace cK0 := bc hg ltK cK0
  replace cK1 := bc hg ltK cK1
  replace cK2 := bc hg ltK cK2
  replace cK3 := bc hg ltK cK3
  replace cK4 := bc hg ltK cK4
  replace cK5 := bc hg ltK cK5
  replace cK6 := bc hg ltK cK6
  replace cK7 := bc hg ltK cK7
  replace cK8 := bc hg ltK cK8
  replace ltK := bl hg ltK
  replace cX0 := bc hg ltX cX0
  replace cX1 := bc hg ltX cX1
  replace cX2 := bc hg ltX cX2
  replace ltX := bl hg ltX
  replace HX := Lib.hid (HX.out.below hg)
  replace HA := Lib.hid (HA.out.below hg)
  replace HBB := Lib.hid (HBB.out.below hg)
  replace HV1 := Lib.hid (HV1.out.below hg)
  replace hB := hB.trans (hg.mono hB.size)
  replace hM := hE
  clear hE hg
  go_simp
  refine (qadd_any _ _ _ B (L + L) L _ HV1.out HBB.out (by omega) hL (by omega)).mono ?_
  rintro e w2 ⟨v2, rfl, hv2, hsz, hb⟩
  replace cK0 := bc hb ltK cK0
  replace cK1 := bc hb ltK cK1
  replace cK2 := bc hb ltK cK2
  replace cK3 := bc hb ltK cK3
  replace cK4 := bc hb ltK cK4
  replace cK5 := bc hb ltK cK5
  replace cK6 := bc hb ltK cK6
  replace cK7 := bc hb ltK cK7
  replace cK8 := bc hb ltK cK8
  replace ltK := bl hb ltK
  replace cX0 := bc hb ltX cX0
  replace cX1 := bc hb ltX cX1
  replace cX2 := bc hb ltX cX2
  replace ltX := bl hb ltX
  replace HX := Lib.hid (HX.out.below hb)
  replace HA := Lib.hid (HA.out.below hb)
  replace HBB := Lib.hid (HBB.out.below hb)
  replace HV1 := Lib.hid (HV1.out.below hb)
  replace hM := hM.trans (hb.mono hM.size)
  replace hB := hB.trans (hb.mono hB.size)
  have HV2 := Lib.hid (hv2.raw hsz)
  clear hv2 hsz
  refine hK _ _ ⟨⟨w2, hM⟩, rfl⟩ hb ?_
  clear hK K hb
  refine wpFl_eff rfl rfl (fun wy hC hg K hK => ?_)
  obtain ⟨⟨wz, hE⟩, hwe⟩ := hC
  change wy = wz at hwe
  subst hwe
  replace cK0 := bc hg ltK cK0
  replace cK1 := bc hg ltK cK1
  replace cK2 := bc hg ltK cK2
  replace cK3 := bc hg ltK cK3
  replace cK4 := bc hg ltK cK4
  replace cK5 := bc hg ltK cK5
  replace cK6 := bc hg ltK cK6
  replace cK7 := bc hg ltK cK7
  replace cK8 := bc hg ltK cK8
  replace ltK := bl hg ltK
  replace cX0 := bc hg ltX cX0
  replace cX1 := bc hg ltX cX1
  replace cX2 := bc hg ltX cX2
  replace ltX := bl hg ltX
  replace HX := Lib.hid (HX.out.below hg)
  replace HA := Lib.hid (HA.out.below hg)
  replace HBB := Lib.hid (HBB.out.below hg)
  replace HV1 := Lib.hid (HV1.out.below hg)
  replace HV2 := Lib.hid (HV2.out.below hg)
  replace hB := hB.trans (hg.mono hB.size)
  replace hM := hE
  clear hE hg
  go_simp
  refine (integer_any _ _ m (L + L + L + 1) _ HV2.out (by omega) (by omega) h1 h2).mono ?_
  rintro e w3 ⟨v3, rfl, hv3, hb⟩
  replace cK0 := bc hb ltK cK0
  replace cK1 := bc hb ltK cK1
  replace cK2 := bc hb ltK cK2
  replace cK3 := bc hb ltK cK3
  replace cK4 := bc hb ltK cK4
  replace cK5 := bc hb ltK cK5
  replace cK6 := bc hb ltK cK6
  replace cK7 := bc hb ltK cK7
  replace cK8 := bc hb ltK cK8
  replace ltK := bl hb ltK
  replace cX0 := bc hb ltX cX0
  replace cX1 := bc hb ltX cX1
  replace cX2 := bc hb ltX cX2
  replace ltX := bl hb ltX
  replace HX := Lib.hid (HX.out.below hb)
  replace HA := Lib.hid (HA.out.below hb)
  replace HBB := Lib.hid (HBB.out.below hb)
  replace HV1 := Lib.hid (HV1.out.below hb)
  replace HV2 := Lib.hid (HV2.out.below hb)
  replace hM := hM.trans (hb.mono hM.size)
  replace hB := hB.trans (hb.mono hB.size)
  have HV3 := Lib.hid (hv3.raw _ (Nat.le_refl _))
  obtain ⟨a3, n3, c3, rfl, -, -⟩ := hv3
  generalize decide (roundI m (A * x + B) < 0) = d3 at *
  refine hK _ _ ⟨⟨w3, hM⟩, rfl⟩ hb ?_
  clear hK K hb
  clear HV1 HV2
  repeat (refine wpFl_calm rfl (fun K hK => ?_); go_simp; refine hK _ ?_; clear hK K)
  refine wpFl_nil fun gN wy hC hg hBk hge => ?_
  obtain ⟨⟨wz, hE⟩, hwe⟩ := hC
  change wy = wz at hwe
  subst hwe
  replace cK0 := bc hg ltK cK0
  replace cK1 := bc hg ltK cK1
  replace cK2 := bc hg ltK cK2
  replace cK3 := bc hg ltK cK3
  replace cK4 := bc hg ltK cK4
  replace cK5 := bc hg ltK cK5
  replace cK6 := bc hg ltK cK6
  replace cK7 := bc hg ltK cK7
  replace cK8 := bc hg ltK cK8
  replace ltK := bl hg ltK
  replace cX0 := bc hg ltX cX0
  replace cX1 := bc hg ltX cX1
  replace cX2 := bc hg ltX cX2
  replace ltX := bl hg ltX
  replace HX := Lib.hid (HX.out.below hg)
  replace HA := Lib.hid (HA.out.below hg)
  replace HBB := Lib.hid (HBB.out.below hg)
  replace HV3 := Lib.hid (HV3.out.below hg)
  replace hB := hB.trans (hg.mono hB.size)
  replace hM := hE
  clear hE hg
  have z0 := blk_cell hBk 0
  have y0 := blk_free hBk 0
  have z1 := blk_cell hBk 1
  have y1 := blk_free hBk 1
  simp at z0 z1
  have hgl := blk_lt hBk
  refine wpSched_eff rfl rfl (fun K hK => ?_)
  go_simp
  refine hK _ _ ⟨⟨_, ((hM.setCell (p := ⟨gN, 0, none⟩) hge _).setCell (p := ⟨gN, 1, none⟩) hge _)⟩, rfl⟩ ?_
  clear hK K
  repeat (refine wpSched_calm rfl (fun K hK => ?_); go_simp; refine hK _ ?_; clear hK K)
  refine wpSched_nil ?_
  have hMn := ((hM.setCell (p := ⟨gN, 0, none⟩) hge (.bool d3)).setCell (p := ⟨gN, 1, none⟩) hge (.slice a3 n3 c3))
  replace HV3 := Lib.hid (HV3.out.off hBk zInt_no 0 (.bool d3) 1 (.slice a3 n3 c3))
  replace cK0 := bc hMn SLK.out SCK0.out
  replace cK1 := bc hMn SLK.out SCK1.out
  replace cK2 := bc hMn SLK.out SCK2.out
  replace cK3 := bc hMn SLK.out SCK3.out
  replace cK4 := bc hMn SLK.out SCK4.out
  replace cK5 := bc hMn SLK.out SCK5.out
  replace cK6 := bc hMn SLK.out SCK6.out
  replace cK7 := bc hMn SLK.out SCK7.out
  replace cK8 := bc hMn SLK.out SCK8.out
  replace ltK := bl hMn SLK.out
  replace cX0 := bc hMn SLX.out SCX0.out
  replace cX1 := bc hMn SLX.out SCX1.out
  replace cX2 := bc hMn SLX.out SCX2.out
  replace ltX := bl hMn SLX.out
  replace HX := Lib.hid (SHX.out.below hMn)
  replace HA := Lib.hid (SHA.out.below hMn)
  replace HBB := Lib.hid (SHBB.out.below hMn)
  replace hB := SB.out.trans (hMn.mono SB.out.size)
  have cN0 : ((wy.setCell ⟨gN, 0, none⟩ (.bool d3)).setCell ⟨gN, 1, none⟩ (.slice a3 n3 c3)).cell? ⟨gN, 0, none⟩ = some (.bool d3) := by go_simp
  have cN1 : ((wy.setCell ⟨gN, 0, none⟩ (.bool d3)).setCell ⟨gN, 1, none⟩ (.slice a3 n3 c3)).cell? ⟨gN, 1, none⟩ = some (.slice a3 n3 c3) := by go_simp
  have ltN : gN < ((wy.setCell ⟨gN, 0, none⟩ (.bool d3)).setCell ⟨gN, 1, none⟩ (.slice a3 n3 c3)).heap.size := by simpa using hgl
  have neNK : w.heap.size < gN := Nat.lt_of_lt_of_le SLK.out hge
  have neNX : w.heap.size + 1 < gN := Nat.lt_of_lt_of_le SLX.out hge
  clear SCK0 SCK1 SCK2 SCK3 SCK4 SCK5 SCK6 SCK7 SCK8 SLK SCX0 SCX1 SCX2 SLX SHX SHA SHBB SB
  clear hMn hM hBk hgl z0 y0 z1 y1
  go_wp2_with fail
  generalize ((wy.setCell ⟨gN, 0, none⟩ (.bool d3)).setCell ⟨gN, 1, none⟩ (.slice a3 n3 c3)) = w4 at *
  have eK0 := box_ext (B := w4.heap.size) cK0 ltK
  have eK1 := box_ext (B := w4.heap.size) cK1 ltK
  have eK2 := box_ext (B := w4.heap.size) cK2 ltK
  have eK3 := box_ext (B := w4.heap.size) cK3 ltK
  have eK4 := box_ext (B := w4.heap.size) cK4 ltK
  have eK5 := box_ext (B := w4.heap.size) cK5 ltK
  have eK6 := box_ext (B := w4.heap.size) cK6 ltK
  have eK7 := box_ext (B := w4.heap.size) cK7 ltK
  have eK8 := box_ext (B := w4.heap.size) cK8 ltK
  have eX0 := box_ext (B := w4.heap.size) cX0 ltX
  have eX1 := box_ext (B := w4.heap.size) cX1 ltX
  have eX2 := box_ext (B := w4.heap.size) cX2 ltX
  have eN0 := box_ext (B := w4.heap.size) cN0 ltN
  have eN1 := box_ext (B := w4.heap.size) cN1 ltN
  refine wp_region_sched [(0, false), (1, false), (2, false), (3, true), (4, true), (5, false)] (fun w' => ∃ W : Ext w4.heap.size w4, w' = W.1) (by kernel_rfl) (by kernel_rfl) ⟨⟨w4.drew, (Below.refl _ _).drew⟩, rfl⟩ ?_
  repeat (refine wpSched_calm rfl (fun K hK => ?_); go_simp; refine hK _ ?_; clear hK K)
  clear eK0 eK1 eK2 eK3 eK4 eK5 eK6 eK7 eK8 eX0 eX1 eX2 eN0 eN1
  have hbx : Below w4.heap.size w4 w4.drew := (Below.refl _ _).drew
  have hM := hbx
  replace cK0 := bc hbx ltK cK0
  replace cK1 := bc hbx ltK cK1
  replace cK2 := bc hbx ltK cK2
  replace cK3 := bc hbx ltK cK3
  replace cK4 := bc hbx ltK cK4
  replace cK5 := bc hbx ltK cK5
  replace cK6 := bc hbx ltK cK6
  replace cK7 := bc hbx ltK cK7
  replace cK8 := bc hbx ltK cK8
  replace ltK := bl hbx ltK
  replace cX0 := bc hbx ltX cX0
  replace cX1 := bc hbx ltX cX1
  replace cX2 := bc hbx ltX cX2
  replace ltX := bl hbx ltX
  replace cN0 := bc hbx ltN cN0
  replace cN1 := bc hbx ltN cN1
  replace ltN := bl hbx ltN
  replace HX := Lib.hid (HX.out.below hbx)
  replace HA := Lib.hid (HA.out.below hbx)
  replace HBB := Lib.hid (HBB.out.below hbx)
  replace HV3 := Lib.hid (HV3.out.below hbx)
  replace hB := hB.trans (hbx.mono hB.size)
  clear hbx
  generalize w4.drew = ww4d at *
  refine wpSched_eff rfl rfl (fun K hK => ?_)
  go_simp
  refine (iof_any lo _ (by omega) (by omega)).mono ?_
  rintro e w5 ⟨v5, rfl, hv5, hb⟩
  replace cK0 := bc hb ltK cK0
  replace cK1 := bc hb ltK cK1
  replace cK2 := bc hb ltK cK2
  replace cK3 := bc hb ltK cK3
  replace cK4 := bc hb ltK cK4
  replace cK5 := bc hb ltK cK5
  replace cK6 := bc hb ltK cK6
  replace cK7 := bc hb ltK cK7
  replace cK8 := bc hb ltK cK8
  replace ltK := bl hb ltK
  replace cX0 := bc hb ltX cX0
  replace cX1 := bc hb ltX cX1
  replace cX2 := bc hb ltX cX2
  replace ltX := bl hb ltX
  replace cN0 := bc hb ltN cN0
  replace cN1 := bc hb ltN cN1
  replace ltN := bl hb ltN
  replace HX := Lib.hid (HX.out.below hb)
  replace HA := Lib.hid (HA.out.below hb)
  replace HBB := Lib.hid (HBB.out.below hb)
  replace HV3 := Lib.hid (HV3.out.below hb)
  replace hM := hM.trans (hb.mono hM.size)
  replace hB := hB.trans (hb.mono hB.size)
  have HV5 := Lib.hid (hv5.raw 2 (digs_i64 (by omega) (by omega)))
  clear hv5
  clear hb
  refine hK _ _ ⟨⟨w5, hM⟩, rfl⟩ ?_
  clear hK K
  refine wpSched_eff rfl rfl (fun K hK => ?_)
  go_simp
  refine (icmp_any _ _ _ _ _ 2 _ HV3.out HV5.out).mono ?_
  rintro e w6 ⟨rfl, hb⟩
  replace cK0 := bc hb ltK cK0
  replace cK1 := bc hb ltK cK1
  replace cK2 := bc hb ltK cK2
  replace cK3 := bc hb ltK cK3
  replace cK4 := bc hb ltK cK4
  replace cK5 := bc hb ltK cK5
  replace cK6 := bc hb ltK cK6
  replace cK7 := bc hb ltK cK7
  replace cK8 := bc hb ltK cK8
  replace ltK := bl hb ltK
  replace cX0 := bc hb ltX cX0
  replace cX1 := bc hb ltX cX1
  replace cX2 := bc hb ltX cX2
  replace ltX := bl hb ltX
  replace cN0 := bc hb ltN cN0
  replace cN1 := bc hb ltN cN1
  replace ltN := bl hb ltN
  replace HX := Lib.hid (HX.out.below hb)
  replace HA := Lib.hid (HA.out.below hb)
  replace HBB := Lib.hid (HBB.out.below hb)
  replace HV3 := Lib.hid (HV3.out.below hb)
  replace HV5 := Lib.hid (HV5.out.below hb)
  replace hM := hM.trans (hb.mono hM.size)
  replace hB := hB.trans (hb.mono hB.size)
  have HC1 := Lib.hid (hc1)
  generalize (roundI m (A * x + B) - lo).sign = s1 at *
  clear hb
  refine hK _ _ ⟨⟨w6, hM⟩, rfl⟩ ?_
  clear hK K
  clear HV5
  repeat (refine wpSched_calm rfl (fun K hK => ?_); go_simp; refine hK _ ?_; clear hK K)
  refine wpSched_nil ?_
  go_wp2_with fail
  go_ret2
  exact ⟨rfl, hB⟩

set_option maxHeartbeats 2000000 in
theorem score_hi (v u : Value) (A B x : Rat) (lo hi m : Int) (L : Nat) (w : World) (hv : LinV w v A B lo hi m L) (hu : RatV w u x L) (hL : 1 ≤ L) (hm : (3 * L + 5) * 4 ≤ 140737488355328) (h1 : 1 ≤ m) (h2 : m ≤ 7) (hlo : wiB lo = true) (hhi : wiB hi = true) (hc1 : decide ((roundI m (A * x + B) - lo).sign ≤ 0) = false) (hc2 : decide (0 ≤ (roundI m (A * x + B) - hi).sign) = true) :
    Calls Try.prog 23 #[v, u] w fun e w' => e = .returned (.tuple #[.int .i64 (hi), .int .i64 0]) ∧ Below w.heap.size w w' := by
  obtain ⟨na, aa', la', ca', aa, la, ca, nb, ab', lb', cb', ab, lb, cb, rfl, hA, hB0⟩ := hv
  obtain ⟨p, q, hr, hpq⟩ := hu
  have HX := Lib.hid (show RatV w u x L from ⟨p, q, hr, hpq⟩)
  obtain ⟨neg, a', len', cap', xs, a, len, cap, ys, rfl, -, -, -, -, -, -⟩ := hr
  have HA := Lib.hid hA
  have HBB := Lib.hid hB0
  have hw1 := wi_yes hlo
  have hw2 := wi_yes hhi
  clear hpq hA hB0 hlo hhi
  go_enter Try.func23, Try.ntmps23
  go_wp2_with fail
  have hbx : Below w.heap.size w ((w.alloc (.cells #[.bool na, .slice aa' la' ca', .slice aa la ca, .bool nb, .slice ab' lb' cb', .slice ab lb cb, .int .i64 lo, .int .i64 hi, .int .i64 m] 29)).alloc (.cells #[.bool neg, .slice a' len' cap', .slice a len cap] 27)) := (((Below.refl _ _).alloc (Nat.le_refl _) _).alloc (by simp) _)
  generalize hWW : ((w.alloc (.cells #[.bool na, .slice aa' la' ca', .slice aa la ca, .bool nb, .slice ab' lb' cb', .slice ab lb cb, .int .i64 lo, .int .i64 hi, .int .i64 m] 29)).alloc (.cells #[.bool neg, .slice a' len' cap', .slice a len cap] 27)) = w0 at *
  replace HX := Lib.hid (HX.out.below hbx)
  replace HA := Lib.hid (HA.out.below hbx)
  replace HBB := Lib.hid (HBB.out.below hbx)
  have cK0 : w0.cell? ⟨w.heap.size, 0, none⟩ = some (.bool na) := by subst hWW; go_simp
  have cK1 : w0.cell? ⟨w.heap.size, 1, none⟩ = some (.slice aa' la' ca') := by subst hWW; go_simp
  have cK2 : w0.cell? ⟨w.heap.size, 2, none⟩ = some (.slice aa la ca) := by subst hWW; go_simp
  have cK3 : w0.cell? ⟨w.heap.size, 3, none⟩ = some (.bool nb) := by subst hWW; go_simp
  have cK4 : w0.cell? ⟨w.heap.size, 4, none⟩ = some (.slice ab' lb' cb') := by subst hWW; go_simp
  have cK5 : w0.cell? ⟨w.heap.size, 5, none⟩ = some (.slice ab lb cb) := by subst hWW; go_simp
  have cK6 : w0.cell? ⟨w.heap.size, 6, none⟩ = some (.int .i64 lo) := by subst hWW; go_simp
  have cK7 : w0.cell? ⟨w.heap.size, 7, none⟩ = some (.int .i64 hi) := by subst hWW; go_simp
  have cK8 : w0.cell? ⟨w.heap.size, 8, none⟩ = some (.int .i64 m) := by subst hWW; go_simp
  have ltK : w.heap.size < w0.heap.size := by subst hWW; simp <;> omega
  have cX0 : w0.cell? ⟨w.heap.size + 1, 0, none⟩ = some (.bool neg) := by subst hWW; go_simp
  have cX1 : w0.cell? ⟨w.heap.size + 1, 1, none⟩ = some (.slice a' len' cap') := by subst hWW; go_simp
  have cX2 : w0.cell? ⟨w.heap.size + 1, 2, none⟩ = some (.slice a len cap) := by subst hWW; go_simp
  have ltX : w.heap.size + 1 < w0.heap.size := by subst hWW; simp
  have hB := hbx
  clear hbx hWW
  have SCK0 := Lib.hid cK0
  have SCK1 := Lib.hid cK1
  have SCK2 := Lib.hid cK2
  have SCK3 := Lib.hid cK3
  have SCK4 := Lib.hid cK4
  have SCK5 := Lib.hid cK5
  have SCK6 := Lib.hid cK6
  have SCK7 := Lib.hid cK7
  have SCK8 := Lib.hid cK8
  have SLK := Lib.hid ltK
  have SCX0 := Lib.hid cX0
  have SCX1 := Lib.hid cX1
  have SCX2 := Lib.hid cX2
  have SLX := Lib.hid ltX
  have SHX := Lib.hid HX.out
  have SHA := Lib.hid HA.out
  have SHBB := Lib.hid HBB.out
  have SB := Lib.hid hB
  have eK0 := box_ext (B := w0.heap.size) cK0 ltK
  have eK1 := box_ext (B := w0.heap.size) cK1 ltK
  have eK2 := box_ext (B := w0.heap.size) cK2 ltK
  have eK3 := box_ext (B := w0.heap.size) cK3 ltK
  have eK4 := box_ext (B := w0.heap.size) cK4 ltK
  have eK5 := box_ext (B := w0.heap.size) cK5 ltK
  have eK6 := box_ext (B := w0.heap.size) cK6 ltK
  have eK7 := box_ext (B := w0.heap.size) cK7 ltK
  have eK8 := box_ext (B := w0.heap.size) cK8 ltK
  have eX0 := box_ext (B := w0.heap.size) cX0 ltX
  have eX1 := box_ext (B := w0.heap.size) cX1 ltX
  have eX2 := box_ext (B := w0.heap.size) cX2 ltX
  refine wp_region_float 13 [(0, false), (1, false), (2, false), (4, false), (5, false), (7, false), (8, false), (3, true), (6, true), (9, true), (10, false), (11, false), (12, false)] [(14, true), (15, false)] (fun w' => ∃ W : Ext w0.heap.size w0, w' = W.1) _ 6 (.cells #[.bool false, .slice none 0 0] 25) w0.heap.size (by kernel_rfl) rfl rfl rfl (fun a w => by simp [execOp, go_sem]) (fun w ⟨W, e⟩ => e ▸ W.2.size) (fun w ⟨W, e⟩ => ⟨⟨_, (e ▸ W.2).alloc (e ▸ W.2.size) _⟩, rfl⟩) (by kernel_rfl) ⟨⟨w0.drew, (Below.refl _ _).drew⟩, rfl⟩ ?_
  repeat (refine wpFl_calm rfl (fun K hK => ?_); go_simp; refine hK _ ?_; clear hK K)
  clear eK0 eK1 eK2 eK3 eK4 eK5 eK6 eK7 eK8 eX0 eX1 eX2
  have hbx : Below w0.heap.size w0 w0.drew := (Below.refl _ _).drew
  have hM := hbx
  replace cK0 := bc hbx ltK cK0
  replace cK1 := bc hbx ltK cK1
  replace cK2 := bc hbx ltK cK2
  replace cK3 := bc hbx ltK cK3
  replace cK4 := bc hbx ltK cK4
  replace cK5 := bc hbx ltK cK5
  replace cK6 := bc hbx ltK cK6
  replace cK7 := bc hbx ltK cK7
  replace cK8 := bc hbx ltK cK8
  replace ltK := bl hbx ltK
  replace cX0 := bc hbx ltX cX0
  replace cX1 := bc hbx ltX cX1
  replace cX2 := bc hbx ltX cX2
  replace ltX := bl hbx ltX
  replace HX := Lib.hid (HX.out.below hbx)
  replace HA := Lib.hid (HA.out.below hbx)
  replace HBB := Lib.hid (HBB.out.below hbx)
  replace hB := hB.trans (hbx.mono hB.size)
  clear hbx
  generalize w0.drew = ww0d at *
  refine wpFl_eff rfl rfl (fun wy hC hg K hK => ?_)
  obtain ⟨⟨wz, hE⟩, hwe⟩ := hC
  change wy = wz at hwe
  subst hwe
  replace cK0 := bc hg ltK cK0
  replace cK1 := bc hg ltK cK1
  replace cK2 := bc hg ltK cK2
  replace cK3 := bc hg ltK cK3
  replace cK4 := bc hg ltK cK4
  replace cK5 := bc hg ltK cK5
  replace cK6 := bc hg ltK cK6
  replace cK7 := bc hg ltK cK7
  replace cK8 := bc hg ltK cK8
  replace ltK := bl hg ltK
  replace cX0 := bc hg ltX cX0
  replace cX1 := bc hg ltX cX1
  replace cX2 := bc hg ltX cX2
  replace ltX := bl hg ltX
  replace HX := Lib.hid (HX.out.below hg)
  replace HA := Lib.hid (HA.out.below hg)
  replace HBB := Lib.hid (HBB.out.below hg)
  replace hB := hB.trans (hg.mono hB.size)
  replace hM := hE
  clear hE hg
  go_simp
  refine (qmul_any _ _ A x L L _ HA.out HX.out hL hL (by omega)).mono ?_
  rintro e w1 ⟨v1, rfl, hv1, hsz, hb⟩
  replace cK0 := bc hb ltK cK0
  replace cK1 := bc hb ltK cK1
  replace cK2 := bc hb ltK cK2
  replace cK3 := bc hb ltK cK3
  replace cK4 := bc hb ltK cK4
  replace cK5 := bc hb ltK cK5
  replace cK6 := bc hb ltK cK6
  replace cK7 := bc hb ltK cK7
  replace cK8 := bc hb ltK cK8
  replace ltK := bl hb ltK
  replace cX0 := bc hb ltX cX0
  replace cX1 := bc hb ltX cX1
  replace cX2 := bc hb ltX cX2
  replace ltX := bl hb ltX
  replace HX := Lib.hid (HX.out.below hb)
  replace HA := Lib.hid (HA.out.below hb)
  replace HBB := Lib.hid (HBB.out.below hb)
  replace hM := hM.trans (hb.mono hM.size)
  replace hB := hB.trans (hb.mono hB.size)
  have HV1 := Lib.hid (hv1.raw hsz)
  clear hv1 hsz
  refine hK _ _ ⟨⟨w1, hM⟩, rfl⟩ hb ?_
  clear hK K hb
  refine wpFl_eff rfl rfl (fun wy hC hg K hK => ?_)
  obtain ⟨⟨wz, hE⟩, hwe⟩ := hC
  change wy = wz at hwe
  subst hwe
  replace cK0 := bc hg ltK cK0
  replace cK1 := bc hg ltK cK1
  replace cK2 := bc hg ltK cK2
  replace cK3 := bc hg ltK cK3
  replace cK4 := bc hg ltK cK4
  replace cK5 := bc hg ltK cK5
  replace cK6 := bc hg ltK cK6
  replace cK7 := bc hg ltK cK7
  replace cK8 := bc hg ltK cK8
  replace ltK := bl hg ltK
  replace cX0 := bc hg ltX cX0
  replace cX1 := bc hg ltX cX1
  replace cX2 := bc hg ltX cX2
  replace ltX := bl hg ltX
  replace HX := Lib.hid (HX.out.below hg)
  replace HA := Lib.hid (HA.out.below hg)
  replace HBB := Lib.hid (HBB.out.below hg)
  replace HV1 := Lib.hid (HV1.out.below hg)
  replace hB := hB.trans (hg.mono hB.size)
  replace hM := hE
  clear hE hg
  go_simp
  refine (qadd_any _ _ _ B (L + L) L _ HV1.out HBB.out (by omega) hL (by omega)).mono ?_
  rintro e w2 ⟨v2, rfl, hv2, hsz, hb⟩
  replace cK0 := bc hb ltK cK0
  replace cK1 := bc hb ltK cK1
  replace cK2 := bc hb ltK cK2
  replace cK3 := bc hb ltK cK3
  replace cK4 := bc hb ltK cK4
  replace cK5 := bc hb ltK cK5
  replace cK6 := bc hb ltK cK6
  replace cK7 := bc hb ltK cK7
  replace cK8 := bc hb ltK cK8
  replace ltK := bl hb ltK
  replace cX0 := bc hb ltX cX0
  replace cX1 := bc hb ltX cX1
  replace cX2 := bc hb ltX cX2
  replace ltX := bl hb ltX
  replace HX := Lib.hid (HX.out.below hb)
  replace HA := Lib.hid (HA.out.below hb)
  replace HBB := Lib.hid (HBB.out.below hb)
  replace HV1 := Lib.hid (HV1.out.below hb)
  replace hM := hM.trans (hb.mono hM.size)
  replace hB := hB.trans (hb.mono hB.size)
  have HV2 := Lib.hid (hv2.raw hsz)
  clear hv2 hsz
  refine hK _ _ ⟨⟨w2, hM⟩, rfl⟩ hb ?_
  clear hK K hb
  refine wpFl_eff rfl rfl (fun wy hC hg K hK => ?_)
  obtain ⟨⟨wz, hE⟩, hwe⟩ := hC
  change wy = wz at hwe
  subst hwe
  replace cK0 := bc hg ltK cK0
  replace cK1 := bc hg ltK cK1
  replace cK2 := bc hg ltK cK2
  replace cK3 := bc hg ltK cK3
  replace cK4 := bc hg ltK cK4
  replace cK5 := bc hg ltK cK5
  replace cK6 := bc hg ltK cK6
  replace cK7 := bc hg ltK cK7
  replace cK8 := bc hg ltK cK8
  replace ltK := bl hg ltK
  replace cX0 := bc hg ltX cX0
  replace cX1 := bc hg ltX cX1
  replace cX2 := bc hg ltX cX2
  replace ltX := bl hg ltX
  replace HX := Lib.hid (HX.out.below hg)
  replace HA := Lib.hid (HA.out.below hg)
  replace HBB := Lib.hid (HBB.out.below hg)
  replace HV1 := Lib.hid (HV1.out.below hg)
  replace HV2 := Lib.hid (HV2.out.below hg)
  replace hB := hB.trans (hg.mono hB.size)
  replace hM := hE
  clear hE hg
  go_simp
  refine (integer_any _ _ m (L + L + L + 1) _ HV2.out (by omega) (by omega) h1 h2).mono ?_
  rintro e w3 ⟨v3, rfl, hv3, hb⟩
  replace cK0 := bc hb ltK cK0
  replace cK1 := bc hb ltK cK1
  replace cK2 := bc hb ltK cK2
  replace cK3 := bc hb ltK cK3
  replace cK4 := bc hb ltK cK4
  replace cK5 := bc hb ltK cK5
  replace cK6 := bc hb ltK cK6
  replace cK7 := bc hb ltK cK7
  replace cK8 := bc hb ltK cK8
  replace ltK := bl hb ltK
  replace cX0 := bc hb ltX cX0
  replace cX1 := bc hb ltX cX1
  replace cX2 := bc hb ltX cX2
  replace ltX := bl hb ltX
  replace HX := Lib.hid (HX.out.below hb)
  replace HA := Lib.hid (HA.out.below hb)
  replace HBB := Lib.hid (HBB.out.below hb)
  replace HV1 := Lib.hid (HV1.out.below hb)
  replace HV2 := Lib.hid (HV2.out.below hb)
  replace hM := hM.trans (hb.mono hM.size)
  replace hB := hB.trans (hb.mono hB.size)
  have HV3 := Lib.hid (hv3.raw _ (Nat.le_refl _))
  obtain ⟨a3, n3, c3, rfl, -, -⟩ := hv3
  generalize decide (roundI m (A * x + B) < 0) = d3 at *
  refine hK _ _ ⟨⟨w3, hM⟩, rfl⟩ hb ?_
  clear hK K hb
  clear HV1 HV2
  repeat (refine wpFl_calm rfl (fun K hK => ?_); go_simp; refine hK _ ?_; clear hK K)
  refine wpFl_nil fun gN wy hC hg hBk hge => ?_
  obtain ⟨⟨wz, hE⟩, hwe⟩ := hC
  change wy = wz at hwe
  subst hwe
  replace cK0 := bc hg ltK cK0
  replace cK1 := bc hg ltK cK1
  replace cK2 := bc hg ltK cK2
  replace cK3 := bc hg ltK cK3
  replace cK4 := bc hg ltK cK4
  replace cK5 := bc hg ltK cK5
  replace cK6 := bc hg ltK cK6
  replace cK7 := bc hg ltK cK7
  replace cK8 := bc hg ltK cK8
  replace ltK := bl hg ltK
  replace cX0 := bc hg ltX cX0
  replace cX1 := bc hg ltX cX1
  replace cX2 := bc hg ltX cX2
  replace ltX := bl hg ltX
  replace HX := Lib.hid (HX.out.below hg)
  replace HA := Lib.hid (HA.out.below hg)
  replace HBB := Lib.hid (HBB.out.below hg)
  replace HV3 := Lib.hid (HV3.out.below hg)
  replace hB := hB.trans (hg.mono hB.size)
  replace hM := hE
  clear hE hg
  have z0 := blk_cell hBk 0
  have y0 := blk_free hBk 0
  have z1 := blk_cell hBk 1
  have y1 := blk_free hBk 1
  simp at z0 z1
  have hgl := blk_lt hBk
  refine wpSched_eff rfl rfl (fun K hK => ?_)
  go_simp
  refine hK _ _ ⟨⟨_, ((hM.setCell (p := ⟨gN, 0, none⟩) hge _).setCell (p := ⟨gN, 1, none⟩) hge _)⟩, rfl⟩ ?_
  clear hK K
  repeat (refine wpSched_calm rfl (fun K hK => ?_); go_simp; refine hK _ ?_; clear hK K)
  refine wpSched_nil ?_
  have hMn := ((hM.setCell (p := ⟨gN, 0, none⟩) hge (.bool d3)).setCell (p := ⟨gN, 1, none⟩) hge (.slice a3 n3 c3))
  replace HV3 := Lib.hid (HV3.out.off hBk zInt_no 0 (.bool d3) 1 (.slice a3 n3 c3))
  replace cK0 := bc hMn SLK.out SCK0.out
  replace cK1 := bc hMn SLK.out SCK1.out
  replace cK2 := bc hMn SLK.out SCK2.out
  replace cK3 := bc hMn SLK.out SCK3.out
  replace cK4 := bc hMn SLK.out SCK4.out
  replace cK5 := bc hMn SLK.out SCK5.out
  replace cK6 := bc hMn SLK.out SCK6.out
  replace cK7 := bc hMn SLK.out SCK7.out
  replace cK8 := bc hMn SLK.out SCK8.out
  replace ltK := bl hMn SLK.out
  replace cX0 := bc hMn SLX.out SCX0.out
  replace cX1 := bc hMn SLX.out SCX1.out
  replace cX2 := bc hMn SLX.out SCX2.out
  replace ltX := bl hMn SLX.out
  replace HX := Lib.hid (SHX.out.below hMn)
  replace HA := Lib.hid (SHA.out.below hMn)
  replace HBB := Lib.hid (SHBB.out.below hMn)
  replace hB := SB.out.trans (hMn.mono SB.out.size)
  have cN0 : ((wy.setCell ⟨gN, 0, none⟩ (.bool d3)).setCell ⟨gN, 1, none⟩ (.slice a3 n3 c3)).cell? ⟨gN, 0, none⟩ = some (.bool d3) := by go_simp
  have cN1 : ((wy.setCell ⟨gN, 0, none⟩ (.bool d3)).setCell ⟨gN, 1, none⟩ (.slice a3 n3 c3)).cell? ⟨gN, 1, none⟩ = some (.slice a3 n3 c3) := by go_simp
  have ltN : gN < ((wy.setCell ⟨gN, 0, none⟩ (.bool d3)).setCell ⟨gN, 1, none⟩ (.slice a3 n3 c3)).heap.size := by simpa using hgl
  have neNK : w.heap.size < gN := Nat.lt_of_lt_of_le SLK.out hge
  have neNX : w.heap.size + 1 < gN := Nat.lt_of_lt_of_le SLX.out hge
  clear SCK0 SCK1 SCK2 SCK3 SCK4 SCK5 SCK6 SCK7 SCK8 SLK SCX0 SCX1 SCX2 SLX SHX SHA SHBB SB
  clear hMn hM hBk hgl z0 y0 z1 y1
  go_wp2_with fail
  generalize ((wy.setCell ⟨gN, 0, none⟩ (.bool d3)).setCell ⟨gN, 1, none⟩ (.slice a3 n3 c3)) = w4 at *
  have eK0 := box_ext (B := w4.heap.size) cK0 ltK
  have eK1 := box_ext (B := w4.heap.size) cK1 ltK
  have eK2 := box_ext (B := w4.heap.size) cK2 ltK
  have eK3 := box_ext (B := w4.heap.size) cK3 ltK
  have eK4 := box_ext (B := w4.heap.size) cK4 ltK
  have eK5 := box_ext (B := w4.heap.size) cK5 ltK
  have eK6 := box_ext (B := w4.heap.size) cK6 ltK
  have eK7 := box_ext (B := w4.heap.size) cK7 ltK
  have eK8 := box_ext (B := w4.heap.size) cK8 ltK
  have eX0 := box_ext (B := w4.heap.size) cX0 ltX
  have eX1 := box_ext (B := w4.heap.size) cX1 ltX
  have eX2 := box_ext (B := w4.heap.size) cX2 ltX
  have eN0 := box_ext (B := w4.heap.size) cN0 ltN
  have eN1 := box_ext (B := w4.heap.size) cN1 ltN
  refine wp_region_sched [(0, false), (1, false), (2, false), (3, true), (4, true), (5, false)] (fun w' => ∃ W : Ext w4.heap.size w4, w' = W.1) (by kernel_rfl) (by kernel_rfl) ⟨⟨w4.drew, (Below.refl _ _).drew⟩, rfl⟩ ?_
  repeat (refine wpSched_calm rfl (fun K hK => ?_); go_simp; refine hK _ ?_; clear hK K)
  clear eK0 eK1 eK2 eK3 eK4 eK5 eK6 eK7 eK8 eX0 eX1 eX2 eN0 eN1
  have hbx : Below w4.heap.size w4 w4.drew := (Below.refl _ _).drew
  have hM := hbx
  replace cK0 := bc hbx ltK cK0
  replace cK1 := bc hbx ltK cK1
  replace cK2 := bc hbx ltK cK2
  replace cK3 := bc hbx ltK cK3
  replace cK4 := bc hbx ltK cK4
  replace cK5 := bc hbx ltK cK5
  replace cK6 := bc hbx ltK cK6
  replace cK7 := bc hbx ltK cK7
  replace cK8 := bc hbx ltK cK8
  replace ltK := bl hbx ltK
  replace cX0 := bc hbx ltX cX0
  replace cX1 := bc hbx ltX cX1
  replace cX2 := bc hbx ltX cX2
  replace ltX := bl hbx ltX
  replace cN0 := bc hbx ltN cN0
  replace cN1 := bc hbx ltN cN1
  replace ltN := bl hbx ltN
  replace HX := Lib.hid (HX.out.below hbx)
  replace HA := Lib.hid (HA.out.below hbx)
  replace HBB := Lib.hid (HBB.out.below hbx)
  replace HV3 := Lib.hid (HV3.out.below hbx)
  replace hB := hB.trans (hbx.mono hB.size)
  clear hbx
  generalize w4.drew = ww4d at *
  refine wpSched_eff rfl rfl (fun K hK => ?_)
  go_simp
  refine (iof_any lo _ (by omega) (by omega)).mono ?_
  rintro e w5 ⟨v5, rfl, hv5, hb⟩
  replace cK0 := bc hb ltK cK0
  replace cK1 := bc hb ltK cK1
  replace cK2 := bc hb ltK cK2
  replace cK3 := bc hb ltK cK3
  replace cK4 := bc hb ltK cK4
  replace cK5 := bc hb ltK cK5
  replace cK6 := bc hb ltK cK6
  replace cK7 := bc hb ltK cK7
  replace cK8 := bc hb ltK cK8
  replace ltK := bl hb ltK
  replace cX0 := bc hb ltX cX0
  replace cX1 := bc hb ltX cX1
  replace cX2 := bc hb ltX cX2
  replace ltX := bl hb ltX
  replace cN0 := bc hb ltN cN0
  replace cN1 := bc hb ltN cN1
  replace ltN := bl hb ltN
  replace HX := Lib.hid (HX.out.below hb)
  replace HA := Lib.hid (HA.out.below hb)
  replace HBB := Lib.hid (HBB.out.below hb)
  replace HV3 := Lib.hid (HV3.out.below hb)
  replace hM := hM.trans (hb.mono hM.size)
  replace hB := hB.trans (hb.mono hB.size)
  have HV5 := Lib.hid (hv5.raw 2 (digs_i64 (by omega) (by omega)))
  clear hv5
  clear hb
  refine hK _ _ ⟨⟨w5, hM⟩, rfl⟩ ?_
  clear hK K
  refine wpSched_eff rfl rfl (fun K hK => ?_)
  go_simp
  refine (icmp_any _ _ _ _ _ 2 _ HV3.out HV5.out).mono ?_
  rintro e w6 ⟨rfl, hb⟩
  replace cK0 := bc hb ltK cK0
  replace cK1 := bc hb ltK cK1
  replace cK2 := bc hb ltK cK2
  replace cK3 := bc hb ltK cK3
  replace cK4 := bc hb ltK cK4
  replace cK5 := bc hb ltK cK5
  replace cK6 := bc hb ltK cK6
  replace cK7 := bc hb ltK cK7
  replace cK8 := bc hb ltK cK8
  replace ltK := bl hb ltK
  replace cX0 := bc hb ltX cX0
  replace cX1 := bc hb ltX cX1
  replace cX2 := bc hb ltX cX2
  replace ltX := bl hb ltX
  replace cN0 := bc hb ltN cN0
  replace cN1 := bc hb ltN cN1
  replace ltN := bl hb ltN
  replace HX := Lib.hid (HX.out.below hb)
  replace HA := Lib.hid (HA.out.below hb)
  replace HBB := Lib.hid (HBB.out.below hb)
  replace HV3 := Lib.hid (HV3.out.below hb)
  replace HV5 := Lib.hid (HV5.out.below hb)
  replace hM := hM.trans (hb.mono hM.size)
  replace hB := hB.trans (hb.mono hB.size)
  have HC1 := Lib.hid (hc1)
  generalize (roundI m (A * x + B) - lo).sign = s1 at *
  clear hb
  refine hK _ _ ⟨⟨w6, hM⟩, rfl⟩ ?_
  clear hK K
  clear HV5
  repeat (refine wpSched_calm rfl (fun K hK => ?_); go_simp; refine hK _ ?_; clear hK K)
  refine wpSched_nil ?_
  go_wp2_with fail
  have eK0 := box_ext (B := w6.heap.size) cK0 ltK
  have eK1 := box_ext (B := w6.heap.size) cK1 ltK
  have eK2 := box_ext (B := w6.heap.size) cK2 ltK
  have eK3 := box_ext (B := w6.heap.size) cK3 ltK
  have eK4 := box_ext (B := w6.heap.size) cK4 ltK
  have eK5 := box_ext (B := w6.heap.size) cK5 ltK
  have eK6 := box_ext (B := w6.heap.size) cK6 ltK
  have eK7 := box_ext (B := w6.heap.size) cK7 ltK
  have eK8 := box_ext (B := w6.heap.size) cK8 ltK
  have eX0 := box_ext (B := w6.heap.size) cX0 ltX
  have eX1 := box_ext (B := w6.heap.size) cX1 ltX
  have eX2 := box_ext (B := w6.heap.size) cX2 ltX
  have eN0 := box_ext (B := w6.heap.size) cN0 ltN
  have eN1 := box_ext (B := w6.heap.size) cN1 ltN
  refine wp_region_sched [(0, false), (1, false), (2, false), (3, true), (4, true), (5, false)] (fun w' => ∃ W : Ext w6.heap.size w6, w' = W.1) (by kernel_rfl) (by kernel_rfl) ⟨⟨w6.drew, (Below.refl _ _).drew⟩, rfl⟩ ?_
  repeat (refine wpSched_calm rfl (fun K hK => ?_); go_simp; refine hK _ ?_; clear hK K)
  clear eK0 eK1 eK2 eK3 eK4 eK5 eK6 eK7 eK8 eX0 eX1 eX2 eN0 eN1
  have hbx : Below w6.heap.size w6 w6.drew := (Below.refl _ _).drew
  have hM := hbx
  replace cK0 := bc hbx ltK cK0
  replace cK1 := bc hbx ltK cK1
  replace cK2 := bc hbx ltK cK2
  replace cK3 := bc hbx ltK cK3
  replace cK4 := bc hbx ltK cK4
  replace cK5 := bc hbx ltK cK5
  replace cK6 := bc hbx ltK cK6
  replace cK7 := bc hbx ltK cK7
  replace cK8 := bc hbx ltK cK8
  replace ltK := bl hbx ltK
  replace cX0 := bc hbx ltX cX0
  replace cX1 := bc hbx ltX cX1
  replace cX2 := bc hbx ltX cX2
  replace ltX := bl hbx ltX
  replace cN0 := bc hbx ltN cN0
  replace cN1 := bc hbx ltN cN1
  replace ltN := bl hbx ltN
  replace HX := Lib.hid (HX.out.below hbx)
  replace HA := Lib.hid (HA.out.below hbx)
  replace HBB := Lib.hid (HBB.out.below hbx)
  replace HV3 := Lib.hid (HV3.out.below hbx)
  replace hB := hB.trans (hbx.mono hB.size)
  clear hbx
  generalize w6.drew = ww6d at *
  refine wpSched_eff rfl rfl (fun K hK => ?_)
  go_simp
  refine (iof_any hi _ (by omega) (by omega)).mono ?_
  rintro e w7 ⟨v7, rfl, hv7, hb⟩
  replace cK0 := bc hb ltK cK0
  replace cK1 := bc hb ltK cK1
  replace cK2 := bc hb ltK cK2
  replace cK3 := bc hb ltK cK3
  replace cK4 := bc hb ltK cK4
  replace cK5 := bc hb ltK cK5
  replace cK6 := bc hb ltK cK6
  replace cK7 := bc hb ltK cK7
  replace cK8 := bc hb ltK cK8
  replace ltK := bl hb ltK
  replace cX0 := bc hb ltX cX0
  replace cX1 := bc hb ltX cX1
  replace cX2 := bc hb ltX cX2
  replace ltX := bl hb ltX
  replace cN0 := bc hb ltN cN0
  replace cN1 := bc hb ltN cN1
  replace ltN := bl hb ltN
  replace HX := Lib.hid (HX.out.below hb)
  replace HA := Lib.hid (HA.out.below hb)
  replace HBB := Lib.hid (HBB.out.below hb)
  replace HV3 := Lib.hid (HV3.out.below hb)
  replace hM := hM.trans (hb.mono hM.size)
  replace hB := hB.trans (hb.mono hB.size)
  have HV7 := Lib.hid (hv7.raw 2 (digs_i64 (by omega) (by omega)))
  clear hv7
  clear hb
  refine hK _ _ ⟨⟨w7, hM⟩, rfl⟩ ?_
  clear hK K
  refine wpSched_eff rfl rfl (fun K hK => ?_)
  go_simp
  refine (icmp_any _ _ _ _ _ 2 _ HV3.out HV7.out).mono ?_
  rintro e w8 ⟨rfl, hb⟩
  replace cK0 := bc hb ltK cK0
  replace cK1 := bc hb ltK cK1
  replace cK2 := bc hb ltK cK2
  replace cK3 := bc hb ltK cK3
  replace cK4 := bc hb ltK cK4
  replace cK5 := bc hb ltK cK5
  replace cK6 := bc hb ltK cK6
  replace cK7 := bc hb ltK cK7
  replace cK8 := bc hb ltK cK8
  replace ltK := bl hb ltK
  replace cX0 := bc hb ltX cX0
  replace cX1 := bc hb ltX cX1
  replace cX2 := bc hb ltX cX2
  replace ltX := bl hb ltX
  replace cN0 := bc hb ltN cN0
  replace cN1 := bc hb ltN cN1
  replace ltN := bl hb ltN
  replace HX := Lib.hid (HX.out.below hb)
  replace HA := Lib.hid (HA.out.below hb)
  replace HBB := Lib.hid (HBB.out.below hb)
  replace HV3 := Lib.hid (HV3.out.below hb)
  replace HV7 := Lib.hid (HV7.out.below hb)
  replace hM := hM.trans (hb.mono hM.size)
  replace hB := hB.trans (hb.mono hB.size)
  have HC2 := Lib.hid (hc2)
  generalize (roundI m (A * x + B) - hi).sign = s2 at *
  clear hb
  refine hK _ _ ⟨⟨w8, hM⟩, rfl⟩ ?_
  clear hK K
  clear HV7
  repeat (refine wpSched_calm rfl (fun K hK => ?_); go_simp; refine hK _ ?_; clear hK K)
  refine wpSched_nil ?_
  go_wp2_with fail
  go_ret2
  exact ⟨rfl, hB⟩

set_option maxHeartbeats 2000000 in
theorem score_mid (v u : Value) (A B x : Rat) (lo hi m : Int) (L : Nat) (w : World) (hv : LinV w v A B lo hi m L) (hu : RatV w u x L) (hL : 1 ≤ L) (hm : (3 * L + 5) * 4 ≤ 140737488355328) (h1 : 1 ≤ m) (h2 : m ≤ 7) (hlo : wiB lo = true) (hhi : wiB hi = true) (hc1 : decide ((roundI m (A * x + B) - lo).sign ≤ 0) = false) (hc2 : decide (0 ≤ (roundI m (A * x + B) - hi).sign) = false) (hb1 : lo < roundI m (A * x + B)) (hb2 : roundI m (A * x + B) < hi) :
    Calls Try.prog 23 #[v, u] w fun e w' => e = .returned (.tuple #[.int .i64 (roundI m (A * x + B)), .int .i64 0]) ∧ Below w.heap.size w w' := by
  obtain ⟨na, aa', la', ca', aa, la, ca, nb, ab', lb', cb', ab, lb, cb, rfl, hA, hB0⟩ := hv
  obtain ⟨p, q, hr, hpq⟩ := hu
  have HX := Lib.hid (show RatV w u x L from ⟨p, q, hr, hpq⟩)
  obtain ⟨neg, a', len', cap', xs, a, len, cap, ys, rfl, -, -, -, -, -, -⟩ := hr
  have HA := Lib.hid hA
  have HBB := Lib.hid hB0
  have hw1 := wi_yes hlo
  have hw2 := wi_yes hhi
  clear hpq hA hB0 hlo hhi
  go_enter Try.func23, Try.ntmps23
  go_wp2_with fail
  have hbx : Below w.heap.size w ((w.alloc (.cells #[.bool na, .slice aa' la' ca', .slice aa la ca, .bool nb, .slice ab' lb' cb', .slice ab lb cb, .int .i64 lo, .int .i64 hi, .int .i64 m] 29)).alloc (.cells #[.bool neg, .slice a' len' cap', .slice a len cap] 27)) := (((Below.refl _ _).alloc (Nat.le_refl _) _).alloc (by simp) _)
  generalize hWW : ((w.alloc (.cells #[.bool na, .slice aa' la' ca', .slice aa la ca, .bool nb, .slice ab' lb' cb', .slice ab lb cb, .int .i64 lo, .int .i64 hi, .int .i64 m] 29)).alloc (.cells #[.bool neg, .slice a' len' cap', .slice a len cap] 27)) = w0 at *
  replace HX := Lib.hid (HX.out.below hbx)
  replace HA := Lib.hid (HA.out.below hbx)
  replace HBB := Lib.hid (HBB.out.below hbx)
  have cK0 : w0.cell? ⟨w.heap.size, 0, none⟩ = some (.bool na) := by subst hWW; go_simp
  have cK1 : w0.cell? ⟨w.heap.size, 1, none⟩ = some (.slice aa' la' ca') := by subst hWW; go_simp
  have cK2 : w0.cell? ⟨w.heap.size, 2, none⟩ = some (.slice aa la ca) := by subst hWW; go_simp
  have cK3 : w0.cell? ⟨w.heap.size, 3, none⟩ = some (.bool nb) := by subst hWW; go_simp
  have cK4 : w0.cell? ⟨w.heap.size, 4, none⟩ = some (.slice ab' lb' cb') := by subst hWW; go_simp
  have cK5 : w0.cell? ⟨w.heap.size, 5, none⟩ = some (.slice ab lb cb) := by subst hWW; go_simp
  have cK6 : w0.cell? ⟨w.heap.size, 6, none⟩ = some (.int .i64 lo) := by subst hWW; go_simp
  have cK7 : w0.cell? ⟨w.heap.size, 7, none⟩ = some (.int .i64 hi) := by subst hWW; go_simp
  have cK8 : w0.cell? ⟨w.heap.size, 8, none⟩ = some (.int .i64 m) := by subst hWW; go_simp
  have ltK : w.heap.size < w0.heap.size := by subst hWW; simp <;> omega
  have cX0 : w0.cell? ⟨w.heap.size + 1, 0, none⟩ = some (.bool neg) := by subst hWW; go_simp
  have cX1 : w0.cell? ⟨w.heap.size + 1, 1, none⟩ = some (.slice a' len' cap') := by subst hWW; go_simp
  have cX2 : w0.cell? ⟨w.heap.size + 1, 2, none⟩ = some (.slice a len cap) := by subst hWW; go_simp
  have ltX : w.heap.size + 1 < w0.heap.size := by subst hWW; simp
  have hB := hbx
  clear hbx hWW
  have SCK0 := Lib.hid cK0
  have SCK1 := Lib.hid cK1
  have SCK2 := Lib.hid cK2
  have SCK3 := Lib.hid cK3
  have SCK4 := Lib.hid cK4
  have SCK5 := Lib.hid cK5
  have SCK6 := Lib.hid cK6
  have SCK7 := Lib.hid cK7
  have SCK8 := Lib.hid cK8
  have SLK := Lib.hid ltK
  have SCX0 := Lib.hid cX0
  have SCX1 := Lib.hid cX1
  have SCX2 := Lib.hid cX2
  have SLX := Lib.hid ltX
  have SHX := Lib.hid HX.out
  have SHA := Lib.hid HA.out
  have SHBB := Lib.hid HBB.out
  have SB := Lib.hid hB
  have eK0 := box_ext (B := w0.heap.size) cK0 ltK
  have eK1 := box_ext (B := w0.heap.size) cK1 ltK
  have eK2 := box_ext (B := w0.heap.size) cK2 ltK
  have eK3 := box_ext (B := w0.heap.size) cK3 ltK
  have eK4 := box_ext (B := w0.heap.size) cK4 ltK
  have eK5 := box_ext (B := w0.heap.size) cK5 ltK
  have eK6 := box_ext (B := w0.heap.size) cK6 ltK
  have eK7 := box_ext (B := w0.heap.size) cK7 ltK
  have eK8 := box_ext (B := w0.heap.size) cK8 ltK
  have eX0 := box_ext (B := w0.heap.size) cX0 ltX
  have eX1 := box_ext (B := w0.heap.size) cX1 ltX
  have eX2 := box_ext (B := w0.heap.size) cX2 ltX
  refine wp_region_float 13 [(0, false), (1, false), (2, false), (4, false), (5, false), (7, false), (8, false), (3, true), (6, true), (9, true), (10, false), (11, false), (12, false)] [(14, true), (15, false)] (fun w' => ∃ W : Ext w0.heap.size w0, w' = W.1) _ 6 (.cells #[.bool false, .slice none 0 0] 25) w0.heap.size (by kernel_rfl) rfl rfl rfl (fun a w => by simp [execOp, go_sem]) (fun w ⟨W, e⟩ => e ▸ W.2.size) (fun w ⟨W, e⟩ => ⟨⟨_, (e ▸ W.2).alloc (e ▸ W.2.size) _⟩, rfl⟩) (by kernel_rfl) ⟨⟨w0.drew, (Below.refl _ _).drew⟩, rfl⟩ ?_
  repeat (refine wpFl_calm rfl (fun K hK => ?_); go_simp; refine hK _ ?_; clear hK K)
  clear eK0 eK1 eK2 eK3 eK4 eK5 eK6 eK7 eK8 eX0 eX1 eX2
  have hbx : Below w0.heap.size w0 w0.drew := (Below.refl _ _).drew
  have hM := hbx
  replace cK0 := bc hbx ltK cK0
  replace cK1 := bc hbx ltK cK1
  replace cK2 := bc hbx ltK cK2
  replace cK3 := bc hbx ltK cK3
  replace cK4 := bc hbx ltK cK4
  replace cK5 := bc hbx ltK cK5
  replace cK6 := bc hbx ltK cK6
  replace cK7 := bc hbx ltK cK7
  replace cK8 := bc hbx ltK cK8
  replace ltK := bl hbx ltK
  replace cX0 := bc hbx ltX cX0
  replace cX1 := bc hbx ltX cX1
  replace cX2 := bc hbx ltX cX2
  replace ltX := bl hbx ltX
  replace HX := Lib.hid (HX.out.below hbx)
  replace HA := Lib.hid (HA.out.below hbx)
  replace HBB := Lib.hid (HBB.out.below hbx)
  replace hB := hB.trans (hbx.mono hB.size)
  clear hbx
  generalize w0.drew = ww0d at *
  refine wpFl_eff rfl rfl (fun wy hC hg K hK => ?_)
  obtain ⟨⟨wz, hE⟩, hwe⟩ := hC
  change wy = wz at hwe
  subst hwe
  replace cK0 := bc hg ltK cK0
  replace cK1 := bc hg ltK cK1
  replace cK2 := bc hg ltK cK2
  replace cK3 := bc hg ltK cK3
  replace cK4 := bc hg ltK cK4
  replace cK5 := bc hg ltK cK5
  replace cK6 := bc hg ltK cK6
  replace cK7 := bc hg ltK cK7
  replace cK8 := bc hg ltK cK8
  replace ltK := bl hg ltK
  replace cX0 := bc hg ltX cX0
  replace cX1 := bc hg ltX cX1
  replace cX2 := bc hg ltX cX2
  replace ltX := bl hg ltX
  replace HX := Lib.hid (HX.out.below hg)
  replace HA := Lib.hid (HA.out.below hg)
  replace HBB := Lib.hid (HBB.out.below hg)
  replace hB := hB.trans (hg.mono hB.size)
  replace hM := hE
  clear hE hg
  go_simp
  refine (qmul_any _ _ A x L L _ HA.out HX.out hL hL (by omega)).mono ?_
  rintro e w1 ⟨v1, rfl, hv1, hsz, hb⟩
  replace cK0 := bc hb ltK cK0
  replace cK1 := bc hb ltK cK1
  replace cK2 := bc hb ltK cK2
  replace cK3 := bc hb ltK cK3
  replace cK4 := bc hb ltK cK4
  replace cK5 := bc hb ltK cK5
  replace cK6 := bc hb ltK cK6
  replace cK7 := bc hb ltK cK7
  replace cK8 := bc hb ltK cK8
  replace ltK := bl hb ltK
  replace cX0 := bc hb ltX cX0
  replace cX1 := bc hb ltX cX1
  replace cX2 := bc hb ltX cX2
  replace ltX := bl hb ltX
  replace HX := Lib.hid (HX.out.below hb)
  replace HA := Lib.hid (HA.out.below hb)
  replace HBB := Lib.hid (HBB.out.below hb)
  replace hM := hM.trans (hb.mono hM.size)
  replace hB := hB.trans (hb.mono hB.size)
  have HV1 := Lib.hid (hv1.raw hsz)
  clear hv1 hsz
  refine hK _ _ ⟨⟨w1, hM⟩, rfl⟩ hb ?_
  clear hK K hb
  refine wpFl_eff rfl rfl (fun wy hC hg K hK => ?_)
  obtain ⟨⟨wz, hE⟩, hwe⟩ := hC
  change wy = wz at hwe
  subst hwe
  replace cK0 := bc hg ltK cK0
  replace cK1 := bc hg ltK cK1
  replace cK2 := bc hg ltK cK2
  replace cK3 := bc hg ltK cK3
  replace cK4 := bc hg ltK cK4
  replace cK5 := bc hg ltK cK5
  replace cK6 := bc hg ltK cK6
  replace cK7 := bc hg ltK cK7
  replace cK8 := bc hg ltK cK8
  replace ltK := bl hg ltK
  replace cX0 := bc hg ltX cX0
  replace cX1 := bc hg ltX cX1
  replace cX2 := bc hg ltX cX2
  replace ltX := bl hg ltX
  replace HX := Lib.hid (HX.out.below hg)
  replace HA := Lib.hid (HA.out.below hg)
  replace HBB := Lib.hid (HBB.out.below hg)
  replace HV1 := Lib.hid (HV1.out.below hg)
  replace hB := hB.trans (hg.mono hB.size)
  replace hM := hE
  clear hE hg
  go_simp
  refine (qadd_any _ _ _ B (L + L) L _ HV1.out HBB.out (by omega) hL (by omega)).mono ?_
  rintro e w2 ⟨v2, rfl, hv2, hsz, hb⟩
  replace cK0 := bc hb ltK cK0
  replace cK1 := bc hb ltK cK1
  replace cK2 := bc hb ltK cK2
  replace cK3 := bc hb ltK cK3
  replace cK4 := bc hb ltK cK4
  replace cK5 := bc hb ltK cK5
  replace cK6 := bc hb ltK cK6
  replace cK7 := bc hb ltK cK7
  replace cK8 := bc hb ltK cK8
  replace ltK := bl hb ltK
  replace cX0 := bc hb ltX cX0
  replace cX1 := bc hb ltX cX1
  replace cX2 := bc hb ltX cX2
  replace ltX := bl hb ltX
  replace HX := Lib.hid (HX.out.below hb)
  replace HA := Lib.hid (HA.out.below hb)
  replace HBB := Lib.hid (HBB.out.below hb)
  replace HV1 := Lib.hid (HV1.out.below hb)
  replace hM := hM.trans (hb.mono hM.size)
  replace hB := hB.trans (hb.mono hB.size)
  have HV2 := Lib.hid (hv2.raw hsz)
  clear hv2 hsz
  refine hK _ _ ⟨⟨w2, hM⟩, rfl⟩ hb ?_
  clear hK K hb
  refine wpFl_eff rfl rfl (fun wy hC hg K hK => ?_)
  obtain ⟨⟨wz, hE⟩, hwe⟩ := hC
  change wy = wz at hwe
  subst hwe
  replace cK0 := bc hg ltK cK0
  replace cK1 := bc hg ltK cK1
  replace cK2 := bc hg ltK cK2
  replace cK3 := bc hg ltK cK3
  replace cK4 := bc hg ltK cK4
  replace cK5 := bc hg ltK cK5
  replace cK6 := bc hg ltK cK6
  replace cK7 := bc hg ltK cK7
  replace cK8 := bc hg ltK cK8
  replace ltK := bl hg ltK
  replace cX0 := bc hg ltX cX0
  replace cX1 := bc hg ltX cX1
  replace cX2 := bc hg ltX cX2
  replace ltX := bl hg ltX
  replace HX := Lib.hid (HX.out.below hg)
  replace HA := Lib.hid (HA.out.below hg)
  replace HBB := Lib.hid (HBB.out.below hg)
  replace HV1 := Lib.hid (HV1.out.below hg)
  replace HV2 := Lib.hid (HV2.out.below hg)
  replace hB := hB.trans (hg.mono hB.size)
  replace hM := hE
  clear hE hg
  go_simp
  refine (integer_any _ _ m (L + L + L + 1) _ HV2.out (by omega) (by omega) h1 h2).mono ?_
  rintro e w3 ⟨v3, rfl, hv3, hb⟩
  replace cK0 := bc hb ltK cK0
  replace cK1 := bc hb ltK cK1
  replace cK2 := bc hb ltK cK2
  replace cK3 := bc hb ltK cK3
  replace cK4 := bc hb ltK cK4
  replace cK5 := bc hb ltK cK5
  replace cK6 := bc hb ltK cK6
  replace cK7 := bc hb ltK cK7
  replace cK8 := bc hb ltK cK8
  replace ltK := bl hb ltK
  replace cX0 := bc hb ltX cX0
  replace cX1 := bc hb ltX cX1
  replace cX2 := bc hb ltX cX2
  replace ltX := bl hb ltX
  replace HX := Lib.hid (HX.out.below hb)
  replace HA := Lib.hid (HA.out.below hb)
  replace HBB := Lib.hid (HBB.out.below hb)
  replace HV1 := Lib.hid (HV1.out.below hb)
  replace HV2 := Lib.hid (HV2.out.below hb)
  replace hM := hM.trans (hb.mono hM.size)
  replace hB := hB.trans (hb.mono hB.size)
  have HV3 := Lib.hid (hv3.raw _ (Nat.le_refl _))
  obtain ⟨a3, n3, c3, rfl, -, -⟩ := hv3
  generalize decide (roundI m (A * x + B) < 0) = d3 at *
  refine hK _ _ ⟨⟨w3, hM⟩, rfl⟩ hb ?_
  clear hK K hb
  clear HV1 HV2
  repeat (refine wpFl_calm rfl (fun K hK => ?_); go_simp; refine hK _ ?_; clear hK K)
  refine wpFl_nil fun gN wy hC hg hBk hge => ?_
  obtain ⟨⟨wz, hE⟩, hwe⟩ := hC
  change wy = wz at hwe
  subst hwe
  replace cK0 := bc hg ltK cK0
  replace cK1 := bc hg ltK cK1
  replace cK2 := bc hg ltK cK2
  replace cK3 := bc hg ltK cK3
  replace cK4 := bc hg ltK cK4
  replace cK5 := bc hg ltK cK5
  replace cK6 := bc hg ltK cK6
  replace cK7 := bc hg ltK cK7
  replace cK8 := bc hg ltK cK8
  replace ltK := bl hg ltK
  replace cX0 := bc hg ltX cX0
  replace cX1 := bc hg ltX cX1
  replace cX2 := bc hg ltX cX2
  replace ltX := bl hg ltX
  replace HX := Lib.hid (HX.out.below hg)
  replace HA := Lib.hid (HA.out.below hg)
  replace HBB := Lib.hid (HBB.out.below hg)
  replace HV3 := Lib.hid (HV3.out.below hg)
  replace hB := hB.trans (hg.mono hB.size)
  replace hM := hE
  clear hE hg
  have z0 := blk_cell hBk 0
  have y0 := blk_free hBk 0
  have z1 := blk_cell hBk 1
  have y1 := blk_free hBk 1
  simp at z0 z1
  have hgl := blk_lt hBk
  refine wpSched_eff rfl rfl (fun K hK => ?_)
  go_simp
  refine hK _ _ ⟨⟨_, ((hM.setCell (p := ⟨gN, 0, none⟩) hge _).setCell (p := ⟨gN, 1, none⟩) hge _)⟩, rfl⟩ ?_
  clear hK K
  repeat (refine wpSched_calm rfl (fun K hK => ?_); go_simp; refine hK _ ?_; clear hK K)
  refine wpSched_nil ?_
  have hMn := ((hM.setCell (p := ⟨gN, 0, none⟩) hge (.bool d3)).setCell (p := ⟨gN, 1, none⟩) hge (.slice a3 n3 c3))
  replace HV3 := Lib.hid (HV3.out.off hBk zInt_no 0 (.bool d3) 1 (.slice a3 n3 c3))
  replace cK0 := bc hMn SLK.out SCK0.out
  replace cK1 := bc hMn SLK.out SCK1.out
  replace cK2 := bc hMn SLK.out SCK2.out
  replace cK3 := bc hMn SLK.out SCK3.out
  replace cK4 := bc hMn SLK.out SCK4.out
  replace cK5 := bc hMn SLK.out SCK5.out
  replace cK6 := bc hMn SLK.out SCK6.out
  replace cK7 := bc hMn SLK.out SCK7.out
  replace cK8 := bc hMn SLK.out SCK8.out
  replace ltK := bl hMn SLK.out
  replace cX0 := bc hMn SLX.out SCX0.out
  replace cX1 := bc hMn SLX.out SCX1.out
  replace cX2 := bc hMn SLX.out SCX2.out
  replace ltX := bl hMn SLX.out
  replace HX := Lib.hid (SHX.out.below hMn)
  replace HA := Lib.hid (SHA.out.below hMn)
  replace HBB := Lib.hid (SHBB.out.below hMn)
  replace hB := SB.out.trans (hMn.mono SB.out.size)
  have cN0 : ((wy.setCell ⟨gN, 0, none⟩ (.bool d3)).setCell ⟨gN, 1, none⟩ (.slice a3 n3 c3)).cell? ⟨gN, 0, none⟩ = some (.bool d3) := by go_simp
  have cN1 : ((wy.setCell ⟨gN, 0, none⟩ (.bool d3)).setCell ⟨gN, 1, none⟩ (.slice a3 n3 c3)).cell? ⟨gN, 1, none⟩ = some (.slice a3 n3 c3) := by go_simp
  have ltN : gN < ((wy.setCell ⟨gN, 0, none⟩ (.bool d3)).setCell ⟨gN, 1, none⟩ (.slice a3 n3 c3)).heap.size := by simpa using hgl
  have neNK : w.heap.size < gN := Nat.lt_of_lt_of_le SLK.out hge
  have neNX : w.heap.size + 1 < gN := Nat.lt_of_lt_of_le SLX.out hge
  clear SCK0 SCK1 SCK2 SCK3 SCK4 SCK5 SCK6 SCK7 SCK8 SLK SCX0 SCX1 SCX2 SLX SHX SHA SHBB SB
  clear hMn hM hBk hgl z0 y0 z1 y1
  go_wp2_with fail
  generalize ((wy.setCell ⟨gN, 0, none⟩ (.bool d3)).setCell ⟨gN, 1, none⟩ (.slice a3 n3 c3)) = w4 at *
  have eK0 := box_ext (B := w4.heap.size) cK0 ltK
  have eK1 := box_ext (B := w4.heap.size) cK1 ltK
  have eK2 := box_ext (B := w4.heap.size) cK2 ltK
  have eK3 := box_ext (B := w4.heap.size) cK3 ltK
  have eK4 := box_ext (B := w4.heap.size) cK4 ltK
  have eK5 := box_ext (B := w4.heap.size) cK5 ltK
  have eK6 := box_ext (B := w4.heap.size) cK6 ltK
  have eK7 := box_ext (B := w4.heap.size) cK7 ltK
  have eK8 := box_ext (B := w4.heap.size) cK8 ltK
  have eX0 := box_ext (B := w4.heap.size) cX0 ltX
  have eX1 := box_ext (B := w4.heap.size) cX1 ltX
  have eX2 := box_ext (B := w4.heap.size) cX2 ltX
  have eN0 := box_ext (B := w4.heap.size) cN0 ltN
  have eN1 := box_ext (B := w4.heap.size) cN1 ltN
  refine wp_region_sched [(0, false), (1, false), (2, false), (3, true), (4, true), (5, false)] (fun w' => ∃ W : Ext w4.heap.size w4, w' = W.1) (by kernel_rfl) (by kernel_rfl) ⟨⟨w4.drew, (Below.refl _ _).drew⟩, rfl⟩ ?_
  repeat (refine wpSched_calm rfl (fun K hK => ?_); go_simp; refine hK _ ?_; clear hK K)
  clear eK0 eK1 eK2 eK3 eK4 eK5 eK6 eK7 eK8 eX0 eX1 eX2 eN0 eN1
  have hbx : Below w4.heap.size w4 w4.drew := (Below.refl _ _).drew
  have hM := hbx
  replace cK0 := bc hbx ltK cK0
  replace cK1 := bc hbx ltK cK1
  replace cK2 := bc hbx ltK cK2
  replace cK3 := bc hbx ltK cK3
  replace cK4 := bc hbx ltK cK4
  replace cK5 := bc hbx ltK cK5
  replace cK6 := bc hbx ltK cK6
  replace cK7 := bc hbx ltK cK7
  replace cK8 := bc hbx ltK cK8
  replace ltK := bl hbx ltK
  replace cX0 := bc hbx ltX cX0
  replace cX1 := bc hbx ltX cX1
  replace cX2 := bc hbx ltX cX2
  replace ltX := bl hbx ltX
  replace cN0 := bc hbx ltN cN0
  replace cN1 := bc hbx ltN cN1
  replace ltN := bl hbx ltN
  replace HX := Lib.hid (HX.out.below hbx)
  replace HA := Lib.hid (HA.out.below hbx)
  replace HBB := Lib.hid (HBB.out.below hbx)
  replace HV3 := Lib.hid (HV3.out.below hbx)
  replace hB := hB.trans (hbx.mono hB.size)
  clear hbx
  generalize w4.drew = ww4d at *
  refine wpSched_eff rfl rfl (fun K hK => ?_)
  go_simp
  refine (iof_any lo _ (by omega) (by omega)).mono ?_
  rintro e w5 ⟨v5, rfl, hv5, hb⟩
  replace cK0 := bc hb ltK cK0
  replace cK1 := bc hb ltK cK1
  replace cK2 := bc hb ltK cK2
  replace cK3 := bc hb ltK cK3
  replace cK4 := bc hb ltK cK4
  replace cK5 := bc hb ltK cK5
  replace cK6 := bc hb ltK cK6
  replace cK7 := bc hb ltK cK7
  replace cK8 := bc hb ltK cK8
  replace ltK := bl hb ltK
  replace cX0 := bc hb ltX cX0
  replace cX1 := bc hb ltX cX1
  replace cX2 := bc hb ltX cX2
  replace ltX := bl hb ltX
  replace cN0 := bc hb ltN cN0
  replace cN1 := bc hb ltN cN1
  replace ltN := bl hb ltN
  replace HX := Lib.hid (HX.out.below hb)
  replace HA := Lib.hid (HA.out.below hb)
  replace HBB := Lib.hid (HBB.out.below hb)
  replace HV3 := Lib.hid (HV3.out.below hb)
  replace hM := hM.trans (hb.mono hM.size)
  replace hB := hB.trans (hb.mono hB.size)
  have HV5 := Lib.hid (hv5.raw 2 (digs_i64 (by omega) (by omega)))
  clear hv5
  clear hb
  refine hK _ _ ⟨⟨w5, hM⟩, rfl⟩ ?_
  clear hK K
  refine wpSched_eff rfl rfl (fun K hK => ?_)
  go_simp
  refine (icmp_any _ _ _ _ _ 2 _ HV3.out HV5.out).mono ?_
  rintro e w6 ⟨rfl, hb⟩
  replace cK0 := bc hb ltK cK0
  replace cK1 := bc hb ltK cK1
  replace cK2 := bc hb ltK cK2
  replace cK3 := bc hb ltK cK3
  replace cK4 := bc hb ltK cK4
  replace cK5 := bc hb ltK cK5
  replace cK6 := bc hb ltK cK6
  replace cK7 := bc hb ltK cK7
  replace cK8 := bc hb ltK cK8
  replace ltK := bl hb ltK
  replace cX0 := bc hb ltX cX0
  replace cX1 := bc hb ltX cX1
  replace cX2 := bc hb ltX cX2
  replace ltX := bl hb ltX
  replace cN0 := bc hb ltN cN0
  replace cN1 := bc hb ltN cN1
  replace ltN := bl hb ltN
  replace HX := Lib.hid (HX.out.below hb)
  replace HA := Lib.hid (HA.out.below hb)
  replace HBB := Lib.hid (HBB.out.below hb)
  replace HV3 := Lib.hid (HV3.out.below hb)
  replace HV5 := Lib.hid (HV5.out.below hb)
  replace hM := hM.trans (hb.mono hM.size)
  replace hB := hB.trans (hb.mono hB.size)
  have HC1 := Lib.hid (hc1)
  generalize (roundI m (A * x + B) - lo).sign = s1 at *
  clear hb
  refine hK _ _ ⟨⟨w6, hM⟩, rfl⟩ ?_
  clear hK K
  clear HV5
  repeat (refine wpSched_calm rfl (fun K hK => ?_); go_simp; refine hK _ ?_; clear hK K)
  refine wpSched_nil ?_
  go_wp2_with fail
  have eK0 := box_ext (B := w6.heap.size) cK0 ltK
  have eK1 := box_ext (B := w6.heap.size) cK1 ltK
  have eK2 := box_ext (B := w6.heap.size) cK2 ltK
  have eK3 := box_ext (B := w6.heap.size) cK3 ltK
  have eK4 := box_ext (B := w6.heap.size) cK4 ltK
  have eK5 := box_ext (B := w6.heap.size) cK5 ltK
  have eK6 := box_ext (B := w6.heap.size) cK6 ltK
  have eK7 := box_ext (B := w6.heap.size) cK7 ltK
  have eK8 := box_ext (B := w6.heap.size) cK8 ltK
  have eX0 := box_ext (B := w6.heap.size) cX0 ltX
  have eX1 := box_ext (B := w6.heap.size) cX1 ltX
  have eX2 := box_ext (B := w6.heap.size) cX2 ltX
  have eN0 := box_ext (B := w6.heap.size) cN0 ltN
  have eN1 := box_ext (B := w6.heap.size) cN1 ltN
  refine wp_region_sched [(0, false), (1, false), (2, false), (3, true), (4, true), (5, false)] (fun w' => ∃ W : Ext w6.heap.size w6, w' = W.1) (by kernel_rfl) (by kernel_rfl) ⟨⟨w6.drew, (Below.refl _ _).drew⟩, rfl⟩ ?_
  repeat (refine wpSched_calm rfl (fun K hK => ?_); go_simp; refine hK _ ?_; clear hK K)
  clear eK0 eK1 eK2 eK3 eK4 eK5 eK6 eK7 eK8 eX0 eX1 eX2 eN0 eN1
  have hbx : Below w6.heap.size w6 w6.drew := (Below.refl _ _).drew
  have hM := hbx
  replace cK0 := bc hbx ltK cK0
  replace cK1 := bc hbx ltK cK1
  replace cK2 := bc hbx ltK cK2
  replace cK3 := bc hbx ltK cK3
  replace cK4 := bc hbx ltK cK4
  replace cK5 := bc hbx ltK cK5
  replace cK6 := bc hbx ltK cK6
  replace cK7 := bc hbx ltK cK7
  replace cK8 := bc hbx ltK cK8
  replace ltK := bl hbx ltK
  replace cX0 := bc hbx ltX cX0
  replace cX1 := bc hbx ltX cX1
  replace cX2 := bc hbx ltX cX2
  replace ltX := bl hbx ltX
  replace cN0 := bc hbx ltN cN0
  replace cN1 := bc hbx ltN cN1
  replace ltN := bl hbx ltN
  replace HX := Lib.hid (HX.out.below hbx)
  replace HA := Lib.hid (HA.out.below hbx)
  replace HBB := Lib.hid (HBB.out.below hbx)
  replace HV3 := Lib.hid (HV3.out.below hbx)
  replace hB := hB.trans (hbx.mono hB.size)
  clear hbx
  generalize w6.drew = ww6d at *
  refine wpSched_eff rfl rfl (fun K hK => ?_)
  go_simp
  refine (iof_any hi _ (by omega) (by omega)).mono ?_
  rintro e w7 ⟨v7, rfl, hv7, hb⟩
  replace cK0 := bc hb ltK cK0
  replace cK1 := bc hb ltK cK1
  replace cK2 := bc hb ltK cK2
  replace cK3 := bc hb ltK cK3
  replace cK4 := bc hb ltK cK4
  replace cK5 := bc hb ltK cK5
  replace cK6 := bc hb ltK cK6
  replace cK7 := bc hb ltK cK7
  replace cK8 := bc hb ltK cK8
  replace ltK := bl hb ltK
  replace cX0 := bc hb ltX cX0
  replace cX1 := bc hb ltX cX1
  replace cX2 := bc hb ltX cX2
  replace ltX := bl hb ltX
  replace cN0 := bc hb ltN cN0
  replace cN1 := bc hb ltN cN1
  replace ltN := bl hb ltN
  replace HX := Lib.hid (HX.out.below hb)
  replace HA := Lib.hid (HA.out.below hb)
  replace HBB := Lib.hid (HBB.out.below hb)
  replace HV3 := Lib.hid (HV3.out.below hb)
  replace hM := hM.trans (hb.mono hM.size)
  replace hB := hB.trans (hb.mono hB.size)
  have HV7 := Lib.hid (hv7.raw 2 (digs_i64 (by omega) (by omega)))
  clear hv7
  clear hb
  refine hK _ _ ⟨⟨w7, hM⟩, rfl⟩ ?_
  clear hK K
  refine wpSched_eff rfl rfl (fun K hK => ?_)
  go_simp
  refine (icmp_any _ _ _ _ _ 2 _ HV3.out HV7.out).mono ?_
  rintro e w8 ⟨rfl, hb⟩
  replace cK0 := bc hb ltK cK0
  replace cK1 := bc hb ltK cK1
  replace cK2 := bc hb ltK cK2
  replace cK3 := bc hb ltK cK3
  replace cK4 := bc hb ltK cK4
  replace cK5 := bc hb ltK cK5
  replace cK6 := bc hb ltK cK6
  replace cK7 := bc hb ltK cK7
  replace cK8 := bc hb ltK cK8
  replace ltK := bl hb ltK
  replace cX0 := bc hb ltX cX0
  replace cX1 := bc hb ltX cX1
  replace cX2 := bc hb ltX cX2
  replace ltX := bl hb ltX
  replace cN0 := bc hb ltN cN0
  replace cN1 := bc hb ltN cN1
  replace ltN := bl hb ltN
  replace HX := Lib.hid (HX.out.below hb)
  replace HA := Lib.hid (HA.out.below hb)
  replace HBB := Lib.hid (HBB.out.below hb)
  replace HV3 := Lib.hid (HV3.out.below hb)
  replace HV7 := Lib.hid (HV7.out.below hb)
  replace hM := hM.trans (hb.mono hM.size)
  replace hB := hB.trans (hb.mono hB.size)
  have HC2 := Lib.hid (hc2)
  generalize (roundI m (A * x + B) - hi).sign = s2 at *
  clear hb
  refine hK _ _ ⟨⟨w8, hM⟩, rfl⟩ ?_
  clear hK K
  clear HV7
  repeat (refine wpSched_calm rfl (fun K hK => ?_); go_simp; refine hK _ ?_; clear hK K)
  refine wpSched_nil ?_
  go_wp2_with fail
  refine (iint64_small _ _ _ _ HV3.out (by omega) (by omega)).mono ?_
  rintro e w9 ⟨rfl, hb⟩
  replace cK0 := bc hb ltK cK0
  replace cK1 := bc hb ltK cK1
  replace cK2 := bc hb ltK cK2
  replace cK3 := bc hb ltK cK3
  replace cK4 := bc hb ltK cK4
  replace cK5 := bc hb ltK cK5
  replace cK6 := bc hb ltK cK6
  replace cK7 := bc hb ltK cK7
  replace cK8 := bc hb ltK cK8
  replace ltK := bl hb ltK
  replace cX0 := bc hb ltX cX0
  replace cX1 := bc hb ltX cX1
  replace cX2 := bc hb ltX cX2
  replace ltX := bl hb ltX
  replace cN0 := bc hb ltN cN0
  replace cN1 := bc hb ltN cN1
  replace ltN := bl hb ltN
  replace HX := Lib.hid (HX.out.below hb)
  replace HA := Lib.hid (HA.out.below hb)
  replace HBB := Lib.hid (HBB.out.below hb)
  replace HV3 := Lib.hid (HV3.out.below hb)
  replace hB := hB.trans (hb.mono hB.size)
  clear hb
  go_wp2_with fail
  go_ret2
  exact ⟨rfl, hB⟩

theorem score_any (v u : Value) (A B x : Rat) (lo hi m : Int) (L : Nat) (w : World) (hv : LinV w v A B lo hi m L) (hu : RatV w u x L) (hL : 1 ≤ L) (hm : (3 * L + 5) * 4 ≤ 140737488355328) (h1 : 1 ≤ m) (h2 : m ≤ 7) (hlo : wiB lo = true) (hhi : wiB hi = true) :
    Calls Try.prog 23 #[v, u] w fun e w' => e = .returned (.tuple #[.int .i64 (scoreI A B lo hi m x), .int .i64 0]) ∧ Below w.heap.size w w' := by
  by_cases c1 : roundI m (A * x + B) ≤ lo
  · have e : scoreI A B lo hi m x = lo := by unfold scoreI clampI; rw [if_pos c1]
    rw [e]
    exact score_lo v u A B x lo hi m L w hv hu hL hm h1 h2 hlo hhi (by rw [sgn_le]; simpa using c1)
  by_cases c2 : hi ≤ roundI m (A * x + B)
  · have e : scoreI A B lo hi m x = hi := by unfold scoreI clampI; rw [if_neg c1, if_pos c2]
    rw [e]
    exact score_hi v u A B x lo hi m L w hv hu hL hm h1 h2 hlo hhi (by rw [sgn_le]; simpa using c1) (by rw [sgn_ge0]; simpa using c2)
  · have e : scoreI A B lo hi m x = roundI m (A * x + B) := by unfold scoreI clampI; rw [if_neg c1, if_neg c2]
    rw [e]
    exact score_mid v u A B x lo hi m L w hv hu hL hm h1 h2 hlo hhi (by rw [sgn_le]; simpa using c1) (by rw [sgn_ge0]; simpa using c2) (by omega) (by omega)

set_option maxHeartbeats 2000000 in
theorem Score_any (v u : Value) (A B x : Rat) (lo hi m : Int) (L : Nat) (w : World) (hv : LinV w v A B lo hi m L) (hu : RatV w u x L) (hL : 1 ≤ L) (hm : (3 * L + 5) * 4 ≤ 140737488355328) (ho : validE A lo hi m = 0) :
    Calls Try.prog 10 #[v, u] w fun e w' => e = .returned (.tuple #[.int .i64 (scoreI A B lo hi m x), .int .i64 0]) ∧ Below w.heap.size w w' := by
  have HV := Lib.hid hv
  have HU := Lib.hid hu
  have HO := Lib.hid ho
  obtain ⟨-, k1, k2, k3, k4, k5⟩ := valid_ok ho
  obtain ⟨na, aa', la', ca', aa, la, ca, nb, ab', lb', cb', ab, lb, cb, rfl, -, -⟩ := hv
  obtain ⟨p, q, ⟨neg, a', len', cap', xs, a, len, cap, ys, rfl, -, -, -, -, -, -⟩, -⟩ := hu
  have hb0 : Below w.heap.size w ((w.alloc (.cells #[.bool na, .slice aa' la' ca', .slice aa la ca, .bool nb, .slice ab' lb' cb', .slice ab lb cb, .int .i64 lo, .int .i64 hi, .int .i64 m] 29)).alloc (.cells #[.bool neg, .slice a' len' cap', .slice a len cap] 27)) := ((Below.refl _ _).alloc (Nat.le_refl _) _).alloc (by simp) _
  clear ho
  go_enter Try.func10, Try.ntmps10
  go_wp2_with fail
  refine (svalid_any _ A B lo hi m L _ (HV.out.below hb0) hL).mono ?_
  rintro e w1 ⟨rfl, hb1⟩
  rw [HO.out]
  have hb01 := hb0.trans (hb1.mono (by simp; omega))
  obtain ⟨hc1, hf1⟩ := bcell hb1 w.heap.size (by simp; omega)
  obtain ⟨hc2, hf2⟩ := bcell hb1 (w.heap.size + 1) (by simp)
  clear hb1
  go_wp2_with fail
  refine (score_any _ _ A B x lo hi m L _ (HV.out.below hb01) (HU.out.below hb01) hL hm k4 k5 k1 k2).mono ?_
  rintro e w2 ⟨rfl, hb2⟩
  go_wp2_with fail
  go_ret2
  exact ⟨rfl, hb01.trans (hb2.mono hb01.size)⟩

set_option maxHeartbeats 2000000 in
theorem Score_no (v u : Value) (A B x : Rat) (lo hi m : Int) (L : Nat) (w : World) (hv : LinV w v A B lo hi m L) (hu : RatV w u x L) (hL : 1 ≤ L) (ho : validE A lo hi m ≠ 0) :
    Calls Try.prog 10 #[v, u] w fun e w' => e = .returned (.tuple #[.int .i64 0, .int .i64 (validE A lo hi m)]) ∧ Below w.heap.size w w' := by
  have HV := Lib.hid hv
  have hz : (validE A lo hi m == 0) = false := by simpa using ho
  obtain ⟨na, aa', la', ca', aa, la, ca, nb, ab', lb', cb', ab, lb, cb, rfl, -, -⟩ := hv
  obtain ⟨p, q, ⟨neg, a', len', cap', xs, a, len, cap, ys, rfl, -, -, -, -, -, -⟩, -⟩ := hu
  have hb0 : Below w.heap.size w ((w.alloc (.cells #[.bool na, .slice aa' la' ca', .slice aa la ca, .bool nb, .slice ab' lb' cb', .slice ab lb cb, .int .i64 lo, .int .i64 hi, .int .i64 m] 29)).alloc (.cells #[.bool neg, .slice a' len' cap', .slice a len cap] 27)) := ((Below.refl _ _).alloc (Nat.le_refl _) _).alloc (by simp) _
  clear ho
  go_enter Try.func10, Try.ntmps10
  go_wp2_with fail
  refine (svalid_any _ A B lo hi m L _ (HV.out.below hb0) hL).mono ?_
  rintro e w1 ⟨rfl, hb1⟩
  have hb01 := hb0.trans (hb1.mono (by simp; omega))
  generalize hev : validE A lo hi m = ev at *
  have HEv := Lib.hid hev
  clear hev
  go_wp2_with fail
  go_ret2
  exact ⟨by rw [HEv.out]; rfl, hb01⟩

end Go.Proofs.Ytmahokhgdkdhkaa
