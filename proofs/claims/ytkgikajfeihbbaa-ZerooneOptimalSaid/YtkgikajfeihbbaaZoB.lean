/- 0-1 programs: the bound of zeroone and of the reference; what a valid program is. No condition beyond 'the program can be read'. -/
import Derived.Test.YtkgikajfeihbbaaZoR
namespace Go.Proofs.Ytkgikajfeihbbaa
set_option maxRecDepth 100000
open Go.RowKit

/-! ### Plain -/
def hiT (c f : Int) : Int := if f = 1 ∨ f = -1 ∧ 0 < c then c else 0
def loT (c f : Int) : Int := if f = 1 ∨ f = -1 ∧ c < 0 then c else 0
def hiOf : List Int → List Int → Int
  | c :: cs, f :: fs => hiT c f + hiOf cs fs
  | _, _ => 0
def loOf : List Int → List Int → Int
  | c :: cs, f :: fs => loT c f + loOf cs fs
  | _, _ => 0
theorem hiOf_drop (cs fs : List Int) (k : Nat) (h1 : k < cs.length) (h2 : k < fs.length) : hiOf (cs.drop k) (fs.drop k) = hiT (cs.getD k 0) (fs.getD k 0) + hiOf (cs.drop (k + 1)) (fs.drop (k + 1)) := by
  rw [drop_cons cs k 0 h1, drop_cons fs k 0 h2]; rfl
theorem loOf_drop (cs fs : List Int) (k : Nat) (h1 : k < cs.length) (h2 : k < fs.length) : loOf (cs.drop k) (fs.drop k) = loT (cs.getD k 0) (fs.getD k 0) + loOf (cs.drop (k + 1)) (fs.drop (k + 1)) := by
  rw [drop_cons cs k 0 h1, drop_cons fs k 0 h2]; rfl
theorem hiOf_end (cs fs : List Int) (k : Nat) (h1 : cs.length ≤ k) : hiOf (cs.drop k) (fs.drop k) = 0 := by
  rw [List.drop_of_length_le h1]; rfl
theorem loOf_end (cs fs : List Int) (k : Nat) (h1 : cs.length ≤ k) : loOf (cs.drop k) (fs.drop k) = 0 := by
  rw [List.drop_of_length_le h1]; rfl

/-- every coefficient is small -/
def Small (cs : List Int) : Prop := ∀ k, -1000000 ≤ cs.getD k 0 ∧ cs.getD k 0 ≤ 1000000
theorem small_of {cs : List Int} (h : cs.any (fun c => !near c 1000000) = false) : Small cs := by
  intro k
  by_cases hk : k < cs.length
  · rw [List.any_eq_false] at h
    have := h (cs.getD k 0) (by simp [List.getD, hk])
    simp [near] at this
    exact this
  · simp [List.getD, List.getElem?_eq_none (by omega : cs.length ≤ k)]
structure ValidM (p : ProbM) : Prop where
  n : p.val.length ≤ 24
  m : p.rows.length ≤ 60
  fixn : p.fix.length = p.val.length
  val : Small p.val
  coefn : ∀ i, i < p.rows.length → (p.rows.getD i default).coef.length = p.val.length
  coef : ∀ i, i < p.rows.length → Small (p.rows.getD i default).coef
  mn : ∀ i, i < p.rows.length → -24000000 ≤ (p.rows.getD i default).mn ∧ (p.rows.getD i default).mn ≤ 24000000
  mx : ∀ i, i < p.rows.length → -24000000 ≤ (p.rows.getD i default).mx ∧ (p.rows.getD i default).mx ≤ 24000000
  fix : ∀ i, i < p.fix.length → p.fix.getD i 0 = -1 ∨ p.fix.getD i 0 = 0 ∨ p.fix.getD i 0 = 1
theorem validM {p : ProbM} (h : validOf p = 0) : ValidM p := by
  unfold validOf at h
  split at h; · cases h
  split at h; · cases h
  split at h; · cases h
  split at h; · cases h
  split at h; · cases h
  split at h; · cases h
  rename_i h1 h2 h3 h4 h5 h6
  have h3' := Bool.eq_false_iff.2 h3
  have h4' := Bool.eq_false_iff.2 h4
  have h5' := Bool.eq_false_iff.2 h5
  have h6' := Bool.eq_false_iff.2 h6
  have key : ∀ i, i < p.rows.length → (p.rows.getD i default).coef.any (fun c => !near c 1000000) = false ∧ near (p.rows.getD i default).mn 24000000 = true ∧ near (p.rows.getD i default).mx 24000000 = true := by
    intro i hi
    rw [List.any_eq_false] at h5'
    have := h5' (p.rows.getD i default) (by simp [List.getD, hi])
    unfold rowFar at this
    rw [Bool.not_eq_true] at this
    simp only [Bool.or_eq_false_iff, Bool.not_eq_false'] at this
    exact ⟨this.1.1, this.1.2, this.2⟩
  refine ⟨by omega, by omega, by omega, small_of h4', fun i hi => rows_len h3' i hi, fun i hi => small_of (key i hi).1, fun i hi => ?_, fun i hi => ?_, fun i hi => ?_⟩
  · have := (key i hi).2.1; simp [near] at this; exact this
  · have := (key i hi).2.2; simp [near] at this; exact this
  · rw [List.any_eq_false] at h6'
    have := h6' (p.fix.getD i 0) (by simp [List.getD, hi])
    generalize p.fix.getD i 0 = f at *
    simp [fixFar, near] at this
    omega

def boundVal (p : ProbM) : Int := if validOf p = 0 then hiOf p.val p.fix else 0

/-! ### The program -/
set_option maxHeartbeats 2000000 in
theorem bound_any (v : Value) (p : ProbM) (w : World) (hp : ProbIn w v p) :
    Calls Try.prog 10 #[v] w fun e w' => e = .returned (.tuple #[.int .i64 (boundVal p), .int .i64 (validOf p)]) ∧ Below w.heap.size w w' := by
  obtain ⟨a0, l0, c0, a1, l1, c1, a2, l2, c2, rfl, h0, h1, h2⟩ := hp
  have HP := Lib.hid (show ∀ w0, w0 = w.alloc (.cells #[.slice a0 l0 c0, .slice a1 l1 c1, .slice a2 l2 c2] 25) → ProbIn w0 (.agg #[.slice a0 l0 c0, .slice a1 l1 c1, .slice a2 l2 c2]) p from
    fun w0 h => ⟨_, _, _, _, _, _, _, _, _, rfl, (probBox h0 h1 h2 w0 h).2.1, (probBox h0 h1 h2 w0 h).2.2.1, (probBox h0 h1 h2 w0 h).2.2.2.1⟩)
  have HV := Lib.hid h0
  have HR := Lib.hid h1
  have HF := Lib.hid h2
  have e0 := Lib.hid h0.1
  have e2 := Lib.hid h2.1
  clear h0 h1 h2
  have HB := Lib.hid (probBox HV.out HR.out HF.out)
  go_enter Try.func10, Try.ntmps10
  go_wp2_with fail
  refine (valid_any _ p _ (HP.out _ rfl)).mono ?_
  rintro e w1 ⟨rfl, hb1⟩
  obtain ⟨hb0, hv0, hr0, hf0, hbox⟩ := HB.out _ rfl
  clear HB HV HR HF HP
  generalize w.alloc (.cells #[.slice a0 l0 c0, .slice a1 l1 c1, .slice a2 l2 c2] 25) = w0 at *
  have HV := Lib.hid (hv0.below hb1)
  have HF := Lib.hid (hf0.below hb1)
  obtain ⟨x0, x1, x2⟩ := hbox w1 hb1
  have hb := hb0.trans (hb1.mono hb0.size)
  clear hv0 hr0 hf0 hbox hb0 hb1
  by_cases g : validOf p = 0
  rotate_left
  · have d0 : ((validOf p : Int) == 0) = false := by simp [g]
    have HZ := Lib.hid (show boundVal p = 0 by unfold boundVal; rw [if_neg g])
    go_wp2_with fail
    go_ret2
    exact ⟨by rw [HZ.out]; rfl, hb⟩
  have V := Lib.hid (validM g)
  have HG := Lib.hid g
  have HZ := Lib.hid (show boundVal p = hiOf p.val p.fix by unfold boundVal; rw [if_pos g])
  rw [g]
  clear g
  have hn : l0 ≤ 24 := by rw [← e0.out]; exact V.out.n
  have hl : l2 = l0 := by rw [← e2.out, ← e0.out]; exact V.out.fixn
  subst hl
  go_wp2_with fail
  go_loop [5, 16] (fun s i => ∃ (k : Nat) (n : Int), k ≤ l2 ∧ i = .int .i64 k ∧ s = .int .i64 n ∧ -1000000 * (k : Int) ≤ n ∧ n ≤ 1000000 * (k : Int) ∧ Hid (hiOf p.val p.fix = n + hiOf (p.val.drop k) (p.fix.drop k))) (fun _ i => l2 - (intOf i).toNat)
  case atStart => exact ⟨0, 0, by omega, rfl, rfl, by omega, by omega, by simp [Hid]⟩
  case round =>
    obtain ⟨k, n, hk, rfl, rfl, hn1, hn2, HD⟩ := hrel
    by_cases hlt : k < l2
    · obtain ⟨b, off, rfl, _, hcc⟩ := HV.out.2.2.at hlt
      have y0 := hcc k hlt _ (Below.refl _ _)
      obtain ⟨b', off', rfl, _, hcc'⟩ := HF.out.2.2.at hlt
      have y1 := hcc' k hlt _ (Below.refl _ _)
      have HS := Lib.hid (hiOf_drop p.val p.fix k (by rw [e0.out]; omega) (by rw [e2.out]; omega))
      have hs := V.out.val k
      clear hcc hcc'
      generalize p.val.getD k 0 = x at *
      generalize p.fix.getD k 0 = f at *
      by_cases f1 : f = 1
      · have HX := Lib.hid (show hiT x f = x by simp [hiT, f1])
        subst f1
        go_wp2_with fail
        go_round
        case rel => exact ⟨k + 1, n + x, by omega, by go_num, by go_num, by omega, by omega, by unfold Hid; rw [HD.out, HS.out, HX.out]; omega⟩
        case measure => simp [intOf]; omega
      have d1 : (f == 1) = false := by simp [f1]
      by_cases f2 : f = -1
      · by_cases f3 : 0 < x
        · have HX := Lib.hid (show hiT x f = x by simp [hiT, f2, f3])
          have d3 : decide (0 < x) = true := by simp [f3]
          subst f2
          go_wp2_with fail
          go_round
          case rel => exact ⟨k + 1, n + x, by omega, by go_num, by go_num, by omega, by omega, by unfold Hid; rw [HD.out, HS.out, HX.out]; omega⟩
          case measure => simp [intOf]; omega
        · have HX := Lib.hid (show hiT x f = 0 by simp [hiT, f1, f3])
          have d3 : decide (0 < x) = false := by simp [f3]
          subst f2
          go_wp2_with fail
          go_round
          case rel => exact ⟨k + 1, n, by omega, by go_num, rfl, by omega, by omega, by unfold Hid; rw [HD.out, HS.out, HX.out]; omega⟩
          case measure => simp [intOf]; omega
      · have HX := Lib.hid (show hiT x f = 0 by simp [hiT, f1, f2])
        have d2 : (f == -1) = false := by simp [f2]
        go_wp2_with fail
        go_round
        case rel => exact ⟨k + 1, n, by omega, by go_num, rfl, by omega, by omega, by unfold Hid; rw [HD.out, HS.out, HX.out]; omega⟩
        case measure => simp [intOf]; omega
    · have HE := Lib.hid (show hiOf p.val p.fix = n by rw [HD.out, hiOf_end _ _ _ (by rw [e0.out]; omega)]; omega)
      go_wp2_with fail
      go_ret2
      exact ⟨by rw [HZ.out, HG.out, HE.out]; rfl, hb⟩

set_option maxHeartbeats 4000000 in
theorem span_any (cs fs : List Int) (a a' : Option Addr) (l c c' : Nat) (w : World) (hc : Row .i64 w a l c cs) (hf : Row .i64 w a' l c' fs) (hl : l ≤ 24) (hs : Small cs) :
    Calls Try.prog 25 #[.slice a l c, .slice a' l c'] w fun e w' => e = .returned (.tuple #[.int .i64 (loOf cs fs), .int .i64 (hiOf cs fs)]) ∧ w = w' := by
  have HV := Lib.hid hc
  have HF := Lib.hid hf
  have e0 := Lib.hid hc.1
  have e2 := Lib.hid hf.1
  have HSm := Lib.hid hs
  clear hc hf hs
  go_enter Try.func25, Try.ntmps25
  go_wp2_with fail
  go_loop [6, 7, 8] (fun s t i => ∃ (k : Nat) (lo hi : Int), k ≤ l ∧ i = .int .i64 k ∧ s = .int .i64 lo ∧ t = .int .i64 hi ∧ -1000000 * (k : Int) ≤ lo ∧ lo ≤ 1000000 * (k : Int) ∧ -1000000 * (k : Int) ≤ hi ∧ hi ≤ 1000000 * (k : Int) ∧ Hid (loOf cs fs = lo + loOf (cs.drop k) (fs.drop k) ∧ hiOf cs fs = hi + hiOf (cs.drop k) (fs.drop k))) (fun _ _ i => l - (intOf i).toNat)
  case atStart => exact ⟨0, 0, 0, by omega, rfl, rfl, rfl, by omega, by omega, by omega, by omega, by simp [Hid]⟩
  case round =>
    obtain ⟨k, lo, hi, hk, rfl, rfl, rfl, hn1, hn2, hn3, hn4, HD⟩ := hrel
    by_cases hlt : k < l
    · obtain ⟨b, off, rfl, _, hcc⟩ := HV.out.2.2.at hlt
      have y0 := hcc k hlt _ (Below.refl _ _)
      obtain ⟨b', off', rfl, _, hcc'⟩ := HF.out.2.2.at hlt
      have y1 := hcc' k hlt _ (Below.refl _ _)
      have HS := Lib.hid (loOf_drop cs fs k (by rw [e0.out]; omega) (by rw [e2.out]; omega))
      have HT := Lib.hid (hiOf_drop cs fs k (by rw [e0.out]; omega) (by rw [e2.out]; omega))
      have hs := HSm.out k
      clear hcc hcc'
      generalize cs.getD k 0 = x at *
      generalize fs.getD k 0 = f at *
      by_cases f1 : f = 1
      · have HX := Lib.hid (show loT x f = x ∧ hiT x f = x by simp [hiT, loT, f1])
        subst f1
        go_wp2_with fail
        go_round
        case rel => exact ⟨k + 1, lo + x, hi + x, by omega, by go_num, by go_num, by go_num, by omega, by omega, by omega, by omega, by unfold Hid; rw [HD.out.1, HD.out.2, HS.out, HT.out, HX.out.1, HX.out.2]; omega⟩
        case measure => simp [intOf]; omega
      have d1 : (f == 1) = false := by simp [f1]
      by_cases f2 : f = -1
      · by_cases f3 : 0 < x
        · have HX := Lib.hid (show loT x f = 0 ∧ hiT x f = x by simp [hiT, loT, f2, f3]; omega)
          have d3 : decide (0 < x) = true := by simp [f3]
          have d4 : decide (x < 0) = false := by simp; omega
          subst f2
          go_wp2_with fail
          go_round
          case rel => exact ⟨k + 1, lo, hi + x, by omega, by go_num, rfl, by go_num, by omega, by omega, by omega, by omega, by unfold Hid; rw [HD.out.1, HD.out.2, HS.out, HT.out, HX.out.1, HX.out.2]; omega⟩
          case measure => simp [intOf]; omega
        · by_cases f4 : x < 0
          · have HX := Lib.hid (show loT x f = x ∧ hiT x f = 0 by simp [hiT, loT, f2, f3, f4])
            have d3 : decide (0 < x) = false := by simp [f3]
            have d4 : decide (x < 0) = true := by simp [f4]
            subst f2
            go_wp2_with fail
            go_round
            case rel => exact ⟨k + 1, lo + x, hi, by omega, by go_num, by go_num, rfl, by omega, by omega, by omega, by omega, by unfold Hid; rw [HD.out.1, HD.out.2, HS.out, HT.out, HX.out.1, HX.out.2]; omega⟩
            case measure => simp [intOf]; omega
          · have HX := Lib.hid (show loT x f = 0 ∧ hiT x f = 0 by simp [hiT, loT, f2, f3, f4])
            have d3 : decide (0 < x) = false := by simp [f3]
            have d4 : decide (x < 0) = false := by simp [f4]
            subst f2
            go_wp2_with fail
            go_round
            case rel => exact ⟨k + 1, lo, hi, by omega, by go_num, rfl, rfl, by omega, by omega, by omega, by omega, by unfold Hid; rw [HD.out.1, HD.out.2, HS.out, HT.out, HX.out.1, HX.out.2]; omega⟩
            case measure => simp [intOf]; omega
      · have HX := Lib.hid (show loT x f = 0 ∧ hiT x f = 0 by simp [hiT, loT, f1, f2])
        have d2 : (f == -1) = false := by simp [f2]
        go_wp2_with fail
        go_round
        case rel => exact ⟨k + 1, lo, hi, by omega, by go_num, rfl, rfl, by omega, by omega, by omega, by omega, by unfold Hid; rw [HD.out.1, HD.out.2, HS.out, HT.out, HX.out.1, HX.out.2]; omega⟩
        case measure => simp [intOf]; omega
    · have HE := Lib.hid (show loOf cs fs = lo ∧ hiOf cs fs = hi by rw [HD.out.1, HD.out.2, hiOf_end _ _ _ (by rw [e0.out]; omega), loOf_end _ _ _ (by rw [e0.out]; omega)]; omega)
      go_wp2_with fail
      go_ret2
      exact ⟨by rw [HE.out.1, HE.out.2]; rfl, rfl⟩

set_option maxHeartbeats 2000000 in
theorem ref_bound_any (v : Value) (p : ProbM) (w : World) (hp : ProbIn w v p) :
    Calls Try.prog 11 #[v] w fun e w' => e = .returned (.tuple #[.int .i64 (boundVal p), .int .i64 (validOf p)]) ∧ Below w.heap.size w w' := by
  obtain ⟨a0, l0, c0, a1, l1, c1, a2, l2, c2, rfl, h0, h1, h2⟩ := hp
  have HP := Lib.hid (show ∀ w0, w0 = w.alloc (.cells #[.slice a0 l0 c0, .slice a1 l1 c1, .slice a2 l2 c2] 25) → ProbIn w0 (.agg #[.slice a0 l0 c0, .slice a1 l1 c1, .slice a2 l2 c2]) p from
    fun w0 h => ⟨_, _, _, _, _, _, _, _, _, rfl, (probBox h0 h1 h2 w0 h).2.1, (probBox h0 h1 h2 w0 h).2.2.1, (probBox h0 h1 h2 w0 h).2.2.2.1⟩)
  have HV := Lib.hid h0
  have HR := Lib.hid h1
  have HF := Lib.hid h2
  have e0 := Lib.hid h0.1
  have e2 := Lib.hid h2.1
  clear h0 h1 h2
  have HB := Lib.hid (probBox HV.out HR.out HF.out)
  go_enter Try.func11, Try.ntmps11
  go_wp2_with fail
  refine (ref_valid_any _ p _ (HP.out _ rfl)).mono ?_
  rintro e w1 ⟨rfl, hb1⟩
  obtain ⟨hb0, hv0, hr0, hf0, hbox⟩ := HB.out _ rfl
  clear HB HV HR HF HP
  generalize w.alloc (.cells #[.slice a0 l0 c0, .slice a1 l1 c1, .slice a2 l2 c2] 25) = w0 at *
  have HV := Lib.hid (hv0.below hb1)
  have HF := Lib.hid (hf0.below hb1)
  obtain ⟨x0, x1, x2⟩ := hbox w1 hb1
  have hb := hb0.trans (hb1.mono hb0.size)
  clear hv0 hr0 hf0 hbox hb0 hb1
  by_cases g : validOf p = 0
  rotate_left
  · have d0 : ((validOf p : Int) == 0) = false := by simp [g]
    have HZ := Lib.hid (show boundVal p = 0 by unfold boundVal; rw [if_neg g])
    go_wp2_with fail
    go_ret2
    exact ⟨by rw [HZ.out]; rfl, hb⟩
  have V := Lib.hid (validM g)
  have HG := Lib.hid g
  have HZ := Lib.hid (show boundVal p = hiOf p.val p.fix by unfold boundVal; rw [if_pos g])
  rw [g]
  clear g
  have hn : l0 ≤ 24 := by rw [← e0.out]; exact V.out.n
  have hl : l2 = l0 := by rw [← e2.out, ← e0.out]; exact V.out.fixn
  subst hl
  go_wp2_with fail
  refine (span_any p.val p.fix _ _ _ _ _ _ HV.out HF.out hn V.out.val).mono ?_
  rintro e w2 ⟨rfl, rfl⟩
  go_wp2_with fail
  go_ret2
  exact ⟨by rw [HZ.out, HG.out]; rfl, hb⟩

end Go.Proofs.Ytkgikajfeihbbaa
