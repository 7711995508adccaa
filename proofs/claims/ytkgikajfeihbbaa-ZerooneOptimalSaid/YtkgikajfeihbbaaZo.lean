/- 0-1 programs: how one lies in memory; what the checks of zeroone and of the reference return. No condition beyond 'the program can be read'. -/
import Derived.Test.YtkgikajfeihbbaaBase
import Derived.Test.YtkgikajfeihbbaaProg
namespace Go.Proofs.Ytkgikajfeihbbaa
set_option maxRecDepth 100000
open Go.RowKit

/-! ### Plain -/
structure RowM where
  coef : List Int
  mn : Int
  mx : Int
  deriving Inhabited
structure ProbM where
  val : List Int
  rows : List RowM
  fix : List Int
  deriving Inhabited
def near (n lim : Int) : Bool := decide (-lim ≤ n) && decide (n ≤ lim)
def rowFar (r : RowM) : Bool := r.coef.any (fun c => !near c 1000000) || !near r.mn 24000000 || !near r.mx 24000000
def fixFar (f : Int) : Bool := !near f 1
def validOf (p : ProbM) : Int :=
  if 24 < p.val.length ∨ 60 < p.rows.length then 5
  else if p.fix.length ≠ p.val.length then 1
  else if p.rows.any (fun r => decide (r.coef.length ≠ p.val.length)) then 1
  else if p.val.any (fun c => !near c 1000000) then 3
  else if p.rows.any rowFar then 3
  else if p.fix.any fixFar then 3
  else 0

/-! ### In memory -/
/-- a slice of rows, only read -/
def RowsIn (w : World) (a : Option Addr) (len cap : Nat) (rs : List RowM) : Prop :=
  rs.length = len ∧ len ≤ cap ∧ cap ≤ maxLen ∧ (a = none → cap = 0) ∧ (len = 0 ∨ ∃ b off, a = some ⟨b, off, none⟩ ∧ b < w.heap.size ∧ ∀ i, i < len → ∃ ai li ci, Row .i64 w ai li ci (rs.getD i default).coef ∧
    w.cell? ⟨b, off + i * 3, none⟩ = some (.slice ai li ci) ∧ w.cell? ⟨b, off + i * 3 + 1, none⟩ = some (.int .i64 (rs.getD i default).mn) ∧ w.cell? ⟨b, off + i * 3 + 2, none⟩ = some (.int .i64 (rs.getD i default).mx))
theorem RowsIn.below {w w' : World} {a : Option Addr} {len cap : Nat} {rs : List RowM} (h : RowsIn w a len cap rs) (hb : Below w.heap.size w w') : RowsIn w' a len cap rs := by
  obtain ⟨h1, h2, h3, h4, h5⟩ := h
  refine ⟨h1, h2, h3, h4, ?_⟩
  rcases h5 with h5 | ⟨b, off, rfl, hlt, hc⟩
  · exact .inl h5
  · refine .inr ⟨b, off, rfl, Nat.lt_of_lt_of_le hlt hb.size, fun i hi => ?_⟩
    obtain ⟨ai, li, ci, hr, c0, c1, c2⟩ := hc i hi
    exact ⟨ai, li, ci, hr.below hb, by rw [hb.cell hlt]; exact c0, by rw [hb.cell hlt]; exact c1, by rw [hb.cell hlt]; exact c2⟩
theorem RowsIn.at {w : World} {a : Option Addr} {len cap : Nat} {rs : List RowM} (h : RowsIn w a len cap rs) {k : Nat} (hk : k < len) :
    ∃ b off, a = some ⟨b, off, none⟩ ∧ b < w.heap.size ∧ ∃ ai li ci, Row .i64 w ai li ci (rs.getD k default).coef ∧ ∀ w', Below w.heap.size w w' →
      w'.cell? ⟨b, off + k * 3, none⟩ = some (.slice ai li ci) ∧ w'.cell? ⟨b, off + k * 3 + 1, none⟩ = some (.int .i64 (rs.getD k default).mn) ∧ w'.cell? ⟨b, off + k * 3 + 2, none⟩ = some (.int .i64 (rs.getD k default).mx) := by
  obtain ⟨h1, h2, h3, h4, h5⟩ := h
  rcases h5 with h5 | ⟨b, off, rfl, hlt, hc⟩
  · omega
  · obtain ⟨ai, li, ci, hr, c0, c1, c2⟩ := hc k hk
    exact ⟨b, off, rfl, hlt, ai, li, ci, hr, fun w' hb => ⟨by rw [hb.cell hlt]; exact c0, by rw [hb.cell hlt]; exact c1, by rw [hb.cell hlt]; exact c2⟩⟩
/-- a program's value -/
def ProbIn (w : World) (v : Value) (p : ProbM) : Prop :=
  ∃ a0 l0 c0 a1 l1 c1 a2 l2 c2, v = .agg #[.slice a0 l0 c0, .slice a1 l1 c1, .slice a2 l2 c2] ∧ Row .i64 w a0 l0 c0 p.val ∧ RowsIn w a1 l1 c1 p.rows ∧ Row .i64 w a2 l2 c2 p.fix
theorem ProbIn.below {w w' : World} {v : Value} {p : ProbM} (h : ProbIn w v p) (hb : Below w.heap.size w w') : ProbIn w' v p := by
  obtain ⟨a0, l0, c0, a1, l1, c1, a2, l2, c2, e, h0, h1, h2⟩ := h
  exact ⟨a0, l0, c0, a1, l1, c1, a2, l2, c2, e, h0.below hb, h1.below hb, h2.below hb⟩

/-- a struct of three cells that was just laid -/
theorem box3 (w : World) (t : TypeId) (v0 v1 v2 : Value) (w' : World) (hb : Below (w.alloc (.cells #[v0, v1, v2] t)).heap.size (w.alloc (.cells #[v0, v1, v2] t)) w') :
    w'.cell? ⟨w.heap.size, 0, none⟩ = some v0 ∧ w'.cell? ⟨w.heap.size, 1, none⟩ = some v1 ∧ w'.cell? ⟨w.heap.size, 2, none⟩ = some v2 := by
  obtain ⟨b, off, e, _, hcc⟩ := (cells_lit w t [v0, v1, v2] (by simp [maxLen])).at (k := 0) (by simp)
  cases e
  have h0 := hcc 0 (by simp) w' hb
  have h1 := hcc 1 (by simp) w' hb
  have h2 := hcc 2 (by simp) w' hb
  exact ⟨by simpa using h0, by simpa using h1, by simpa using h2⟩
/-- what a boxed program gives -/
theorem probBox {w : World} {a0 a1 a2 : Option Addr} {l0 c0 l1 c1 l2 c2 : Nat} {p : ProbM} (h0 : Row .i64 w a0 l0 c0 p.val) (h1 : RowsIn w a1 l1 c1 p.rows) (h2 : Row .i64 w a2 l2 c2 p.fix) :
    ∀ w0, w0 = w.alloc (.cells #[.slice a0 l0 c0, .slice a1 l1 c1, .slice a2 l2 c2] 25) →
      Below w.heap.size w w0 ∧ Row .i64 w0 a0 l0 c0 p.val ∧ RowsIn w0 a1 l1 c1 p.rows ∧ Row .i64 w0 a2 l2 c2 p.fix ∧
      ∀ w', Below w0.heap.size w0 w' → w'.cell? ⟨w.heap.size, 0, none⟩ = some (.slice a0 l0 c0) ∧ w'.cell? ⟨w.heap.size, 1, none⟩ = some (.slice a1 l1 c1) ∧ w'.cell? ⟨w.heap.size, 2, none⟩ = some (.slice a2 l2 c2) := by
  rintro w0 rfl
  have hb : Below w.heap.size w (w.alloc (.cells #[.slice a0 l0 c0, .slice a1 l1 c1, .slice a2 l2 c2] 25)) := (Below.refl _ _).alloc (Nat.le_refl _) _
  exact ⟨hb, h0.below hb, h1.below hb, h2.below hb, fun w' h => box3 _ _ _ _ _ _ h⟩

/-! ### The program -/
theorem within_any (n lim : Int) (hl : 0 ≤ lim) (hl' : lim ≤ 1000000000) (w : World) :
    Calls Try.prog 27 #[.int .i64 n, .int .i64 lim] w fun e w' => e = .returned (.bool (near n lim)) ∧ w = w' := by
  have hw : wrap64 (-lim) = -lim := by simp only [wrap64]; omega
  by_cases h1 : -lim ≤ n
  · by_cases h2 : n ≤ lim
    · have HF := Lib.hid (show near n lim = true by simp [near, h1, h2])
      go_enter Try.func27, Try.ntmps27
      go_wp2
      go_ret
      exact ⟨by rw [HF.out]; rfl, rfl⟩
    · have HF := Lib.hid (show near n lim = false by simp [near, h2])
      go_enter Try.func27, Try.ntmps27
      go_wp2
      go_ret
      exact ⟨by rw [HF.out]; rfl, rfl⟩
  · have HF := Lib.hid (show near n lim = false by simp [near, h1])
    go_enter Try.func27, Try.ntmps27
    go_wp2
    go_ret
    exact ⟨by rw [HF.out]; rfl, rfl⟩

theorem far_any (n : Int) (w : World) :
    Calls Try.prog 26 #[.int .i64 n] w fun e w' => e = .returned (.bool (!near n 1000000)) ∧ w = w' := by
  go_enter Try.func26, Try.ntmps26
  go_wp2_with fail
  refine (within_any n 1000000 (by omega) (by omega) _).mono ?_
  rintro e w1 ⟨rfl, rfl⟩
  go_wp2_with fail
  go_ret
  exact ⟨rfl, rfl⟩

theorem any_drop {α : Type} (q : α → Bool) (xs : List α) (k : Nat) (d : α) (hk : k < xs.length) : (xs.drop k).any q = (q (xs.getD k d) || (xs.drop (k + 1)).any q) := by
  rw [drop_cons xs k d hk]; rfl

set_option maxHeartbeats 1000000 in
theorem indexFar_any (q : Int → Bool) (hf : ∀ n w, Calls Try.prog 26 #[.int .i64 n] w fun e w' => e = .returned (.bool (q n)) ∧ w = w') (xs : List Int) (a : Option Addr) (len cap : Nat) (w : World) (hx : Row .i64 w a len cap xs) :
    Calls Try.prog 42 #[.slice a len cap, .func (.func 26) #[] #[]] w fun e w' => (∃ n : Int, e = .returned (.int .i64 n) ∧ decide (0 ≤ n) = xs.any q) ∧ w = w' := by
  have hm : len ≤ 9223372036854775807 := by have h1 := hx.2.2.1; have h2 := hx.2.2.2.1; unfold maxLen at h2; omega
  have HL := Lib.hid hx.1
  have HC := Lib.hid hx.2.2
  have HF := Lib.hid hf
  clear hx hf
  go_enter Try.func42, Try.ntmps42
  go_wp2_with fail
  go_loop [8] (fun i => ∃ (k : Nat), k ≤ len ∧ i = .int .i64 k ∧ Hid (xs.any q = (xs.drop k).any q)) (fun i => len - (intOf i).toNat)
  case atStart => exact ⟨0, by omega, rfl, by simp [Hid]⟩
  case round =>
    obtain ⟨k, hk, rfl, HD⟩ := hrel
    by_cases hlt : k < len
    · obtain ⟨b, off, rfl, _, hcc⟩ := HC.out.at hlt
      have c1 := hcc k hlt w (Below.refl _ _)
      have HS := Lib.hid (any_drop q xs k 0 (by rw [HL.out]; omega))
      clear hcc
      generalize xs.getD k 0 = x at *
      go_wp2_with fail
      refine (HF.out x _).mono ?_
      rintro e w1 ⟨rfl, rfl⟩
      cases hq : q x with
      | true =>
        go_wp2_with fail
        go_ret
        exact ⟨⟨_, rfl, by rw [HD.out, HS.out, hq]; simp⟩, rfl⟩
      | false =>
        go_wp2_with fail
        go_round
        case rel => exact ⟨k + 1, by omega, by go_num, by unfold Hid; rw [HD.out, HS.out, hq]; simp⟩
        case measure => simp [intOf]; omega
    · have HE := Lib.hid (show xs.any q = false by rw [HD.out, List.drop_of_length_le (by rw [HL.out]; omega)]; rfl)
      go_wp2_with fail
      go_ret
      exact ⟨⟨_, rfl, by rw [HE.out]; simp⟩, rfl⟩

theorem containsFar_any (q : Int → Bool) (hf : ∀ n w, Calls Try.prog 26 #[.int .i64 n] w fun e w' => e = .returned (.bool (q n)) ∧ w = w') (xs : List Int) (a : Option Addr) (len cap : Nat) (w : World) (hx : Row .i64 w a len cap xs) :
    Calls Try.prog 28 #[.slice a len cap, .func (.func 26) #[] #[]] w fun e w' => e = .returned (.bool (xs.any q)) ∧ w = w' := by
  have HX := Lib.hid hx
  have HF := Lib.hid hf
  clear hx hf
  go_enter Try.func28, Try.ntmps28
  go_wp2_with fail
  refine (indexFar_any q HF.out xs _ _ _ _ HX.out).mono ?_
  rintro e w1 ⟨⟨n, rfl, hn⟩, rfl⟩
  have HN := Lib.hid hn
  clear hn
  go_wp2_with fail
  go_ret
  exact ⟨by rw [← HN.out]; rfl, rfl⟩

theorem other_any (n : Int) (w : World) :
    Calls Try.prog 43 #[.int .i64 n] w fun e w' => e = .returned (.bool (n != 0 && n != 1)) ∧ w = w' := by
  go_enter Try.func43, Try.ntmps43
  by_cases h0 : n = 0
  · subst h0
    go_wp2
    go_ret
    exact ⟨rfl, rfl⟩
  · go_wp2
    go_ret
    exact ⟨rfl, rfl⟩

set_option maxHeartbeats 1000000 in
theorem indexOther_any (q : Int → Bool) (hf : ∀ n w, Calls Try.prog 43 #[.int .i64 n] w fun e w' => e = .returned (.bool (q n)) ∧ w = w') (xs : List Int) (a : Option Addr) (len cap : Nat) (w : World) (hx : Row .i64 w a len cap xs) :
    Calls Try.prog 42 #[.slice a len cap, .func (.func 43) #[] #[]] w fun e w' => (∃ n : Int, e = .returned (.int .i64 n) ∧ decide (0 ≤ n) = xs.any q) ∧ w = w' := by
  have hm : len ≤ 9223372036854775807 := by have h1 := hx.2.2.1; have h2 := hx.2.2.2.1; unfold maxLen at h2; omega
  have HL := Lib.hid hx.1
  have HC := Lib.hid hx.2.2
  have HF := Lib.hid hf
  clear hx hf
  go_enter Try.func42, Try.ntmps42
  go_wp2_with fail
  go_loop [8] (fun i => ∃ (k : Nat), k ≤ len ∧ i = .int .i64 k ∧ Hid (xs.any q = (xs.drop k).any q)) (fun i => len - (intOf i).toNat)
  case atStart => exact ⟨0, by omega, rfl, by simp [Hid]⟩
  case round =>
    obtain ⟨k, hk, rfl, HD⟩ := hrel
    by_cases hlt : k < len
    · obtain ⟨b, off, rfl, _, hcc⟩ := HC.out.at hlt
      have c1 := hcc k hlt w (Below.refl _ _)
      have HS := Lib.hid (any_drop q xs k 0 (by rw [HL.out]; omega))
      clear hcc
      generalize xs.getD k 0 = x at *
      go_wp2_with fail
      refine (HF.out x _).mono ?_
      rintro e w1 ⟨rfl, rfl⟩
      cases hq : q x with
      | true =>
        go_wp2_with fail
        go_ret
        exact ⟨⟨_, rfl, by rw [HD.out, HS.out, hq]; simp⟩, rfl⟩
      | false =>
        go_wp2_with fail
        go_round
        case rel => exact ⟨k + 1, by omega, by go_num, by unfold Hid; rw [HD.out, HS.out, hq]; simp⟩
        case measure => simp [intOf]; omega
    · have HE := Lib.hid (show xs.any q = false by rw [HD.out, List.drop_of_length_le (by rw [HL.out]; omega)]; rfl)
      go_wp2_with fail
      go_ret
      exact ⟨⟨_, rfl, by rw [HE.out]; simp⟩, rfl⟩

theorem containsOther_any (q : Int → Bool) (hf : ∀ n w, Calls Try.prog 43 #[.int .i64 n] w fun e w' => e = .returned (.bool (q n)) ∧ w = w') (xs : List Int) (a : Option Addr) (len cap : Nat) (w : World) (hx : Row .i64 w a len cap xs) :
    Calls Try.prog 28 #[.slice a len cap, .func (.func 43) #[] #[]] w fun e w' => e = .returned (.bool (xs.any q)) ∧ w = w' := by
  have HX := Lib.hid hx
  have HF := Lib.hid hf
  clear hx hf
  go_enter Try.func28, Try.ntmps28
  go_wp2_with fail
  refine (indexOther_any q HF.out xs _ _ _ _ HX.out).mono ?_
  rintro e w1 ⟨⟨n, rfl, hn⟩, rfl⟩
  have HN := Lib.hid hn
  clear hn
  go_wp2_with fail
  go_ret
  exact ⟨by rw [← HN.out]; rfl, rfl⟩

set_option maxHeartbeats 2000000 in
theorem valid_any (v : Value) (p : ProbM) (w : World) (hp : ProbIn w v p) :
    Calls Try.prog 12 #[v] w fun e w' => e = .returned (.int .i64 (validOf p)) ∧ Below w.heap.size w w' := by
  obtain ⟨a0, l0, c0, a1, l1, c1, a2, l2, c2, rfl, h0, h1, h2⟩ := hp
  have HV := Lib.hid h0
  have HR := Lib.hid h1
  have HF := Lib.hid h2
  have e0 := Lib.hid h0.1
  have e1 := Lib.hid h1.1
  have e2 := Lib.hid h2.1
  clear h0 h1 h2
  have HB := Lib.hid (probBox HV.out HR.out HF.out)
  by_cases g1 : 24 < l0 ∨ 60 < l1
  · have HE := Lib.hid (show validOf p = 5 by unfold validOf; rw [e0.out, e1.out, if_pos g1])
    by_cases g0 : 24 < l0
    · have d0 : decide (24 < (l0 : Int)) = true := by simp; omega
      clear g1 g0
      go_enter Try.func12, Try.ntmps12
      go_wp2_with fail
      go_ret
      exact ⟨ret_int HE.out.symm, (HB.out _ rfl).1⟩
    · have d0 : decide (24 < (l0 : Int)) = false := by simp; omega
      have d1 : decide (60 < (l1 : Int)) = true := by simp; omega
      clear g1 g0
      go_enter Try.func12, Try.ntmps12
      go_wp2_with fail
      go_ret
      exact ⟨ret_int HE.out.symm, (HB.out _ rfl).1⟩
  have d0 : decide (24 < (l0 : Int)) = false := by simp; omega
  have d1 : decide (60 < (l1 : Int)) = false := by simp; omega
  by_cases g2 : l2 = l0
  rotate_left
  · have HE := Lib.hid (show validOf p = 1 by unfold validOf; rw [e0.out, e1.out, e2.out, if_neg g1, if_pos g2])
    have d2 : ((l2 : Int) == (l0 : Int)) = false := by simp; omega
    clear g2
    go_enter Try.func12, Try.ntmps12
    go_wp2_with fail
    go_ret
    exact ⟨ret_int HE.out.symm, (HB.out _ rfl).1⟩
  have HE1 := Lib.hid (show validOf p = if p.rows.any (fun r => decide (r.coef.length ≠ p.val.length)) then 1 else if p.val.any (fun c => !near c 1000000) then 3 else if p.rows.any rowFar then 3 else if p.fix.any fixFar then 3 else 0 by
    unfold validOf; rw [e0.out, e1.out, e2.out, if_neg g1, if_neg (by simpa using g2)])
  subst g2
  clear g1
  have hl1 : l1 ≤ 60 := by simp at d1; omega
  have hl2 : l2 ≤ 24 := by simp at d0; omega
  go_enter Try.func12, Try.ntmps12
  go_wp2_with fail
  obtain ⟨hb0, hv0, hr0, hf0, hbox⟩ := HB.out _ rfl
  clear HB HV HR HF
  generalize w.alloc (.cells #[.slice a0 l2 c0, .slice a1 l1 c1, .slice a2 l2 c2] 25) = w0 at *
  have HV := Lib.hid hv0
  have HR := Lib.hid hr0
  have HF := Lib.hid hf0
  have HB := Lib.hid hbox
  clear hv0 hr0 hf0 hbox
  go_loopw [30] (fun i wr => ∃ (k : Nat), k ≤ l1 ∧ i = .int .i64 k ∧ Below w0.heap.size w0 wr ∧ Hid (p.rows.any (fun r => decide (r.coef.length ≠ p.val.length)) = (p.rows.drop k).any (fun r => decide (r.coef.length ≠ p.val.length)))) (fun i _ => l1 - (intOf i).toNat)
  case atStart => exact ⟨0, by omega, rfl, Below.refl _ _, by simp [Hid]⟩
  case round =>
    obtain ⟨k, hk, rfl, hb, HD⟩ := hrel
    obtain ⟨x0, x1, x2⟩ := HB.out _ hb
    by_cases hlt : k < l1
    · obtain ⟨b, off, rfl, _, ai, li, ci, hrow, hcc⟩ := HR.out.at hlt
      obtain ⟨y0, y1, y2⟩ := hcc _ hb
      have HS := Lib.hid (any_drop (fun r => decide (r.coef.length ≠ p.val.length)) p.rows k default (by rw [e1.out]; omega))
      have el := Lib.hid hrow.1
      clear hcc hrow
      generalize p.rows.getD k default = r at *
      by_cases hlen : li = l2
      · have d3 : ((li : Int) == (l2 : Int)) = true := by simp [hlen]
        go_wp2_with fail
        go_round
        case rel => exact ⟨k + 1, by omega, by go_num, hb.alloc hb.size _, by unfold Hid; rw [HD.out, HS.out, el.out, e0.out, hlen]; simp⟩
        case measure => simp [intOf]; omega
      · have d3 : ((li : Int) == (l2 : Int)) = false := by simp; omega
        go_wp2_with fail
        go_ret
        have HE := Lib.hid (show validOf p = 1 by rw [HE1.out, HD.out, HS.out, el.out, e0.out]; simp [hlen])
        exact ⟨ret_int HE.out.symm, hb0.trans ((hb.alloc hb.size _).mono hb0.size)⟩
    · have HE2 := Lib.hid (show validOf p = if p.val.any (fun c => !near c 1000000) then 3 else if p.rows.any rowFar then 3 else if p.fix.any fixFar then 3 else 0 by
        rw [HE1.out, HD.out, List.drop_of_length_le (by rw [e1.out]; omega)]; rfl)
      have hk' : k = l1 := by omega
      clear HE1 HD hlt hk
      subst hk'
      go_wp2_with fail
      refine (containsFar_any (fun c => !near c 1000000) (fun n w => far_any n w) p.val _ _ _ _ (HV.out.below hb)).mono ?_
      rintro e w1 ⟨rfl, rfl⟩
      cases hvb : p.val.any (fun c => !near c 1000000) with
      | true =>
        go_wp2_with fail
        go_ret
        have HE := Lib.hid (show validOf p = 3 by rw [HE2.out, hvb]; rfl)
        exact ⟨ret_int HE.out.symm, hb0.trans (hb.mono hb0.size)⟩
      | false =>
      have HE3 := Lib.hid (show validOf p = if p.rows.any rowFar then 3 else if p.fix.any fixFar then 3 else 0 by rw [HE2.out, hvb]; rfl)
      clear HE2 hvb
      go_wp2_with fail
      go_loopw [47] (fun i wr' => ∃ (j : Nat), j ≤ k ∧ i = .int .i64 j ∧ Below w0.heap.size w0 wr' ∧ Hid (p.rows.any rowFar = (p.rows.drop j).any rowFar)) (fun i _ => k - (intOf i).toNat)
      case atStart => exact ⟨0, by omega, rfl, hb, by simp [Hid]⟩
      case round =>
        clear hb x0 x1 x2
        obtain ⟨j, hj, rfl, hb, HD⟩ := hrel
        obtain ⟨x0, x1, x2⟩ := HB.out _ hb
        by_cases hlt : j < k
        · obtain ⟨b, off, rfl, _, ai, li, ci, hrow, hcc⟩ := HR.out.at hlt
          obtain ⟨y0, y1, y2⟩ := hcc _ hb
          have HS := Lib.hid (any_drop rowFar p.rows j default (by rw [e1.out]; omega))
          have HRow := Lib.hid hrow
          clear hcc hrow
          generalize p.rows.getD j default = r at *
          have hb2 := hb0.trans (((hb.alloc hb.size (.cells #[.slice ai li ci, .int .i64 r.mn, .int .i64 r.mx] 44))).mono hb0.size)
          have hb3 := hb.alloc hb.size (.cells #[.slice ai li ci, .int .i64 r.mn, .int .i64 r.mx] 44)
          go_wp2_with fail
          refine (containsFar_any (fun c => !near c 1000000) (fun n w => far_any n w) r.coef _ _ _ _ (HRow.out.below hb3)).mono ?_
          rintro e w1 ⟨rfl, rfl⟩
          cases hq : r.coef.any (fun c => !near c 1000000) with
          | true =>
            have HE := Lib.hid (show validOf p = 3 by rw [HE3.out, HD.out, HS.out, show rowFar r = true by unfold rowFar; rw [hq]; rfl]; rfl)
            go_wp2_with fail
            go_ret
            exact ⟨ret_int HE.out.symm, hb2⟩
          | false =>
          go_wp2_with fail
          refine (within_any r.mn 24000000 (by omega) (by omega) _).mono ?_
          rintro e w1 ⟨rfl, rfl⟩
          cases hq1 : near r.mn 24000000 with
          | false =>
            have HE := Lib.hid (show validOf p = 3 by rw [HE3.out, HD.out, HS.out, show rowFar r = true by unfold rowFar; rw [hq1]; simp]; rfl)
            go_wp2_with fail
            go_ret
            exact ⟨ret_int HE.out.symm, hb2⟩
          | true =>
          go_wp2_with fail
          refine (within_any r.mx 24000000 (by omega) (by omega) _).mono ?_
          rintro e w1 ⟨rfl, rfl⟩
          cases hq2 : near r.mx 24000000 with
          | false =>
            have HE := Lib.hid (show validOf p = 3 by rw [HE3.out, HD.out, HS.out, show rowFar r = true by unfold rowFar; rw [hq2]; simp]; rfl)
            go_wp2_with fail
            go_ret
            exact ⟨ret_int HE.out.symm, hb2⟩
          | true =>
          have HN := Lib.hid (show rowFar r = false by unfold rowFar; rw [hq, hq1, hq2]; rfl)
          clear hq hq1 hq2
          go_wp2_with fail
          go_round
          case rel => exact ⟨j + 1, by omega, by go_num, hb3, by unfold Hid; rw [HD.out, HS.out, HN.out]; simp⟩
          case measure => simp [intOf]; omega
        · have HE4 := Lib.hid (show validOf p = if p.fix.any fixFar then 3 else 0 by
            rw [HE3.out, HD.out, List.drop_of_length_le (by rw [e1.out]; omega)]; rfl)
          clear HE3 HD
          have hd : (j : Int) < (k : Int) ↔ False := by simp; omega
          go_wp2_with fail
          go_loopw [71] (fun i wr'' => ∃ (m : Nat), m ≤ l2 ∧ i = .int .i64 m ∧ Below w0.heap.size w0 wr'' ∧ Hid (p.fix.any fixFar = (p.fix.drop m).any fixFar)) (fun i _ => l2 - (intOf i).toNat)
          case atStart => exact ⟨0, by omega, rfl, hb, by simp [Hid]⟩
          case round =>
            clear hb x0 x1 x2
            obtain ⟨m, hm, rfl, hb, HD⟩ := hrel
            by_cases hlt : m < l2
            · obtain ⟨b, off, rfl, _, hcc⟩ := HF.out.2.2.at hlt
              have f1 := hcc m hlt _ hb
              have HS := Lib.hid (any_drop fixFar p.fix m 0 (by rw [e2.out]; omega))
              clear hcc
              generalize p.fix.getD m 0 = x at *
              by_cases hx1 : x < -1
              · have d3 : decide (x < -1) = true := by simp [hx1]
                have HE := Lib.hid (show validOf p = 3 by rw [HE4.out, HD.out, HS.out, show fixFar x = true by simp [fixFar, near]; omega]; rfl)
                go_wp2_with fail
                go_ret
                exact ⟨ret_int HE.out.symm, hb0.trans (hb.mono hb0.size)⟩
              · have d3 : decide (x < -1) = false := by simp; omega
                by_cases hx2 : 1 < x
                · have d4 : decide (1 < x) = true := by simp [hx2]
                  have HE := Lib.hid (show validOf p = 3 by rw [HE4.out, HD.out, HS.out, show fixFar x = true by simp [fixFar, near]; omega]; rfl)
                  go_wp2_with fail
                  go_ret
                  exact ⟨ret_int HE.out.symm, hb0.trans (hb.mono hb0.size)⟩
                · have d4 : decide (1 < x) = false := by simp; omega
                  have HN := Lib.hid (show fixFar x = false by simp [fixFar, near]; omega)
                  go_wp2_with fail
                  go_round
                  case rel => exact ⟨m + 1, by omega, by go_num, hb, by unfold Hid; rw [HD.out, HS.out, HN.out]; simp⟩
                  case measure => simp [intOf]; omega
            · have HE := Lib.hid (show validOf p = 0 by rw [HE4.out, HD.out, List.drop_of_length_le (by rw [e2.out]; omega)]; rfl)
              go_wp2_with fail
              go_ret
              exact ⟨ret_int HE.out.symm, hb0.trans (hb.mono hb0.size)⟩

end Go.Proofs.Ytkgikajfeihbbaa
