/- 0-1 programs: slices of ints that a call owns; what slices.Clone, zeroone.open, satisfiable and the reference's can and ints return. -/
import Derived.Test.YtkgikajfeihbbaaTgP
import Derived.Test.YtkgikajfeihbbaaInts
import Derived.Test.YtkgikajfeihbbaaWide
namespace Go.Proofs.Ytkgikajfeihbbaa
set_option maxRecDepth 100000
open Go.RowKit

/-- a slice of ints that the call owns -/
def OwnI (w : World) (B : Nat) (v : Value) (xs : List Int) : Prop := Owns w B 3 v (ivs xs)
theorem OwnI.below {w w' : World} {B : Nat} {v : Value} {xs : List Int} (h : OwnI w B v xs) (hb : Below w.heap.size w w') : OwnI w' B v xs := Owns.later h hb
theorem OwnI.by {w w' : World} {B : Nat} {v : Value} {xs : List Int} {g : Option Nat} (h : OwnI w B v xs) (hg : w.grownBy w' g) (hne : v.ownBlock = none ∨ v.ownBlock ≠ g) : OwnI w' B v xs := World.ownsRow.kept h hg hne
theorem OwnI.mono {w : World} {B B' : Nat} {v : Value} {xs : List Int} (h : OwnI w B v xs) (hB : B' ≤ B) : OwnI w B' v xs := Owns.mono h hB
def Wf64 (xs : List Int) : Prop := ∀ n ∈ xs, (Lit.int .i64 n).wf = true
theorem OwnI.row {w : World} {B : Nat} {v : Value} {xs : List Int} (h : OwnI w B v xs) (hf : Wf64 xs) : ∃ a cap, v = .slice a xs.length cap ∧ Row .i64 w a xs.length cap xs := by
  obtain ⟨a, n, cap, rfl, hi⟩ := Owns.ints h
  have := hi.1; subst this
  exact ⟨a, cap, rfl, rfl, hf, hi.2⟩
theorem wf_trits {f : List Int} (h : Trits f) : Wf64 f := fun n hn => by
  obtain ⟨i, hi, rfl⟩ := List.getElem_of_mem hn
  have := h i hi
  simp [List.getD, List.getElem?_eq_getElem hi] at this
  rcases this with e | e | e <;> rw [e] <;> rfl
theorem Row.vals {w : World} {a : Option Addr} {len cap : Nat} {xs : List Int} (h : Row .i64 w a len cap xs) : Cells w a len cap (fun i => (ivs xs).getD i .nilFunc) :=
  h.2.2.congr fun i hi => by
    have hl := h.1
    simp [ivs, iv, List.getD, List.getElem?_eq_getElem (show i < xs.length by omega)]
theorem ivs_cells (xs : List Int) : ∀ u ∈ ivs xs, u.oneCell' = true := by intro u hu; simp [ivs] at hu; obtain ⟨x, _, rfl⟩ := hu; rfl
theorem ivs_len (xs : List Int) : (ivs xs).length = xs.length := by simp [ivs]

theorem eql_nil {P : Program} (w : World) {t e : TypeId} (a : Option Addr) (n c : Nat) (h : P.underlying t = some (.slice e)) : (binOp .eql t (.slice a n c) (.slice none 0 0)).run P w = .ok (.bool a.isNone) w := by
  have h0 : ∀ d : Nat, (Op.equalIn (d + 1) t (.slice a n c) (.slice none 0 0)).run P w = .ok a.isNone w := fun d => by
    cases a <;> simp [Op.equalIn, run_underlying h]
  have h1 : (Op.equal t (.slice a n c) (.slice none 0 0)).run P w = .ok a.isNone w := h0 9999
  simp [binOp, h1]

set_option maxHeartbeats 1000000 in
theorem clone_ints (xs : List Int) (a : Option Addr) (len cap : Nat) (w : World) (hx : Row .i64 w a len cap xs) (hm : len ≤ 1000) :
    Calls Try.prog 44 #[.slice a len cap] w fun e w' => ∃ v, e = .returned v ∧ OwnI w' w.heap.size v xs ∧ Below w.heap.size w w' := by
  have HX := Lib.hid hx
  have HL := Lib.hid hx.1
  cases a with
  | none =>
    have hc : cap = 0 := hx.2.2.2.2.1 rfl
    have hl : len = 0 := by have := hx.2.2.1; omega
    subst hc; subst hl
    have HE := Lib.hid (show xs = [] from List.eq_nil_of_length_eq_zero HL.out)
    clear hx
    have hq := eql_nil (P := Try.prog) w none 0 0 Try.underlying22
    simp only [Option.isNone_none] at hq
    go_enter Try.func44, Try.ntmps44
    go_wp2_with fail
    go_ret
    exact ⟨_, rfl, by rw [HE.out]; exact Owns.nil _ _ _, Below.refl _ _⟩
  | some ad =>
    clear hx
    have hbx : Below w.heap.size w (w.alloc (.cells #[] 3)) := (Below.refl _ _).alloc (Nat.le_refl _) _
    have HX1 := Lib.hid (HX.out.below hbx)
    have hq := eql_nil (P := Try.prog) w (some ad) len cap Try.underlying22
    simp only [Option.isNone_some] at hq
    have HO := Lib.hid (owns_lit w w.heap.size 3 [] (by simp) (Nat.le_refl _))
    go_enter Try.func44, Try.ntmps44
    go_wp2_with (at_builtin; go_must (refine wpList_app rfl _ _ 22 rfl w.heap.size 3 (.int .i64 0) 8 Try.underlying22 infoInt rfl (.slice (some ⟨w.heap.size, 0, none⟩) 0 0) [] rfl HO.out (some ad) len cap (ivs xs) rfl (by rw [ivs_len]; exact HL.out) HX1.out.vals (ivs_cells _) (by simp only [List.length_nil]; omega) (by simp only [maxLen, List.length_nil]; omega) (by simp) fun v1 w1 h1 h2 => ?_))
    have hb1 := hbx.trans ((h2.below (B := w.heap.size) (by simp) (by simp [Value.ownBlock])))
    have H1 := Lib.hid h1
    clear h1 h2
    go_wp2_with fail
    go_ret
    exact ⟨_, rfl, by simpa [OwnI] using H1.out, hb1⟩

/-- a row, by value -/
def RowV (w : World) (v : Value) (r : RowM) : Prop := ∃ a l c, v = .agg #[.slice a l c, .int .i64 r.mn, .int .i64 r.mx] ∧ Row .i64 w a l c r.coef
theorem RowV.below {w w' : World} {v : Value} {r : RowM} (h : RowV w v r) (hb : Below w.heap.size w w') : RowV w' v r := by
  obtain ⟨a, l, c, e, h⟩ := h; exact ⟨a, l, c, e, h.below hb⟩

set_option maxHeartbeats 4000000 in
theorem open_any (v : Value) (r : RowM) (fs : List Int) (a' : Option Addr) (l c' : Nat) (w : World) (hv : RowV w v r) (hf : Row .i64 w a' l c' fs) (hn : r.coef.length = l) (hl : l ≤ 24) (hs : Small r.coef) :
    Calls Try.prog 45 #[v, .slice a' l c'] w fun e w' => e = .returned (.bool (canB r fs)) ∧ Below w.heap.size w w' := by
  obtain ⟨a, l', c, rfl, hc⟩ := hv
  obtain rfl : l' = l := by rw [← hn]; exact hc.1.symm
  obtain ⟨cs, mn, mx⟩ := r
  simp only at hc hs hn ⊢
  have hb0 : Below w.heap.size w (w.alloc (.cells #[.slice a l' c, .int .i64 mn, .int .i64 mx] 44)) := (Below.refl _ _).alloc (Nat.le_refl _) _
  have HV := Lib.hid (hc.below hb0)
  have HF := Lib.hid (hf.below hb0)
  have e0 := Lib.hid hc.1
  have e2 := Lib.hid hf.1
  have HSm := Lib.hid hs
  have HC := Lib.hid (show canB ⟨cs, mn, mx⟩ fs = (decide (loOf cs fs ≤ mx) && decide (mn ≤ hiOf cs fs) && decide (mn ≤ mx)) from rfl)
  generalize canB ⟨cs, mn, mx⟩ fs = cb at *
  clear hc hf hs hn
  go_enter Try.func45, Try.ntmps45
  go_wp2_with fail
  go_loop [5, 6, 12] (fun s t i => ∃ (k : Nat) (lo hi : Int), k ≤ l' ∧ i = .int .i64 k ∧ s = .int .i64 lo ∧ t = .int .i64 hi ∧ -1000000 * (k : Int) ≤ lo ∧ lo ≤ 1000000 * (k : Int) ∧ -1000000 * (k : Int) ≤ hi ∧ hi ≤ 1000000 * (k : Int) ∧ Hid (loOf cs fs = lo + loOf (cs.drop k) (fs.drop k) ∧ hiOf cs fs = hi + hiOf (cs.drop k) (fs.drop k))) (fun _ _ i => l' - (intOf i).toNat)
  case atStart => exact ⟨0, 0, 0, by omega, rfl, rfl, rfl, by omega, by omega, by omega, by omega, by simp [Hid]⟩
  case round =>
    obtain ⟨k, lo, hi, hk, rfl, rfl, rfl, hn1, hn2, hn3, hn4, HD⟩ := hrel
    by_cases hlt : k < l'
    · obtain ⟨b, off, rfl, _, hcc⟩ := HV.out.2.2.at hlt
      have y0 := hcc k hlt _ (Below.refl _ _)
      obtain ⟨b', off', rfl, _, hcc'⟩ := HF.out.2.2.at hlt
      have y1 := hcc' k hlt _ (Below.refl _ _)
      have HS := Lib.hid (loOf_drop cs fs k (by rw [e0.out]; omega) (by rw [e2.out]; omega))
      have HT := Lib.hid (hiOf_drop cs fs k (by rw [e0.out]; omega) (by rw [e2.out]; omega))
      have hs := HSm.out k
      clear hcc hcc'
      generalize cs.getD k 0 = x at *
      generalize fs.getD k 0 = f at *
      by_cases f1 : f = 1
      · have HX := Lib.hid (show loT x f = x ∧ hiT x f = x by simp [hiT, loT, f1])
        subst f1
        go_wp2_with fail
        go_round
        case rel => exact ⟨k + 1, lo + x, hi + x, by omega, by go_num, by go_num, by go_num, by omega, by omega, by omega, by omega, by unfold Hid; rw [HD.out.1, HD.out.2, HS.out, HT.out, HX.out.1, HX.out.2]; omega⟩
        case measure => simp [intOf]; omega
      have d1 : (f == 1) = false := by simp [f1]
      by_cases f2 : f = -1
      · have HX := Lib.hid (show loT x f = min x 0 ∧ hiT x f = max x 0 by subst f2; unfold loT hiT; simp; omega)
        subst f2
        by_cases f3 : x < 0
        · have hmin : min x 0 = x := by omega
          have hmax : max x 0 = 0 := by omega
          rw [hmin, hmax] at HX
          clear hmin hmax
          go_wp2_with fail
          go_round
          case rel => exact ⟨k + 1, lo + x, hi, by omega, by go_num, by go_num, by go_num, by omega, by omega, by omega, by omega, by unfold Hid; rw [HD.out.1, HD.out.2, HS.out, HT.out, HX.out.1, HX.out.2]; omega⟩
          case measure => simp [intOf]; omega
        · have hmin : min x 0 = 0 := by omega
          have hmax : max x 0 = x := by omega
          rw [hmin, hmax] at HX
          clear hmin hmax
          go_wp2_with fail
          go_round
          case rel => exact ⟨k + 1, lo, hi + x, by omega, by go_num, by go_num, by go_num, by omega, by omega, by omega, by omega, by unfold Hid; rw [HD.out.1, HD.out.2, HS.out, HT.out, HX.out.1, HX.out.2]; omega⟩
          case measure => simp [intOf]; omega
      · have HX := Lib.hid (show loT x f = 0 ∧ hiT x f = 0 by simp [hiT, loT, f1, f2])
        have d2 : (f == -1) = false := by simp [f2]
        go_wp2_with fail
        go_round
        case rel => exact ⟨k + 1, lo, hi, by omega, by go_num, rfl, rfl, by omega, by omega, by omega, by omega, by unfold Hid; rw [HD.out.1, HD.out.2, HS.out, HT.out, HX.out.1, HX.out.2]; omega⟩
        case measure => simp [intOf]; omega
    · have HE := Lib.hid (show loOf cs fs = lo ∧ hiOf cs fs = hi by rw [HD.out.1, HD.out.2, hiOf_end _ _ _ (by rw [e0.out]; omega), loOf_end _ _ _ (by rw [e0.out]; omega)]; omega)
      rw [HE.out.1, HE.out.2] at HC
      cases g1 : decide (lo ≤ mx)
      · go_wp2_with fail
        go_ret
        exact ⟨by rw [HC.out]; simp [g1], hb0⟩
      cases g2 : decide (mn ≤ hi)
      · go_wp2_with fail
        go_ret
        exact ⟨by rw [HC.out]; simp [g2], hb0⟩
      go_wp2_with fail
      go_ret
      exact ⟨by rw [HC.out, g1, g2]; simp, hb0⟩

set_option maxHeartbeats 4000000 in
theorem can_any (v : Value) (r : RowM) (fs : List Int) (a' : Option Addr) (l c' : Nat) (w : World) (hv : RowV w v r) (hf : Row .i64 w a' l c' fs) (hn : r.coef.length = l) (hl : l ≤ 24) (hs : Small r.coef) :
    Calls Try.prog 46 #[v, .slice a' l c'] w fun e w' => e = .returned (.bool (canB r fs)) ∧ Below w.heap.size w w' := by
  obtain ⟨a, l', c, rfl, hc⟩ := hv
  obtain rfl : l' = l := by rw [← hn]; exact hc.1.symm
  obtain ⟨cs, mn, mx⟩ := r
  simp only at hc hs hn ⊢
  have hb0 : Below w.heap.size w (w.alloc (.cells #[.slice a l' c, .int .i64 mn, .int .i64 mx] 44)) := (Below.refl _ _).alloc (Nat.le_refl _) _
  have HV := Lib.hid (hc.below hb0)
  have HF := Lib.hid (hf.below hb0)
  have HC := Lib.hid (show canB ⟨cs, mn, mx⟩ fs = (decide (loOf cs fs ≤ mx) && decide (mn ≤ hiOf cs fs) && decide (mn ≤ mx)) from rfl)
  generalize canB ⟨cs, mn, mx⟩ fs = cb at *
  clear hc hf hn
  go_enter Try.func46, Try.ntmps46
  go_wp2_with fail
  refine (span_any cs fs _ _ _ _ _ _ HV.out HF.out hl hs).mono ?_
  rintro e w1 ⟨rfl, rfl⟩
  generalize loOf cs fs = lo at *
  generalize hiOf cs fs = hi at *
  clear hs
  cases g3 : decide (mn ≤ mx)
  · go_wp2_with fail
    go_ret
    exact ⟨by rw [HC.out]; simp [g3], hb0⟩
  cases g1 : decide (lo ≤ mx)
  · go_wp2_with fail
    go_ret
    exact ⟨by rw [HC.out]; simp [g1], hb0⟩
  go_wp2_with fail
  go_ret
  exact ⟨by rw [HC.out, g1, g3]; simp, hb0⟩

end Go.Proofs.Ytkgikajfeihbbaa
