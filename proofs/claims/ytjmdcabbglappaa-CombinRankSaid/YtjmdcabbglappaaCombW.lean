/- The next subset: what combin.Next and the reference's Next return, for all arguments. -/
import Derived.Test.YtjmdcabbglappaaCombV
namespace Go.Proofs.Ytjmdcabbglappaa
open Go.RowKit

theorem infoInt : (Try.prog.info? 3).map (fun i => (i.zero, i.size, i.bytes)) = some (some (.int .i64 0), 1, 8) := by kernel_rfl
def nv (x : Nat) : Value := .int .i64 (x : Int)
def nvs (L : List Nat) : List Value := L.map nv
theorem nvs_length (xs : List Nat) : (nvs xs).length = xs.length := by simp [nvs]
theorem nvs_append (xs ys : List Nat) : nvs (xs ++ ys) = nvs xs ++ nvs ys := by simp [nvs]
theorem nvs_at (xs : List Nat) (j : Nat) (h : j < xs.length) : (nvs xs).getD j .nilFunc = nv (xs.getD j 0) := by simp [nvs, List.getD, h]
theorem nvs_one (xs : List Nat) : ∀ u ∈ nvs xs, u.oneCell' = true := by intro u hu; simp [nvs] at hu; obtain ⟨x, _, rfl⟩ := hu; rfl
theorem Owns.nrow {w : World} {B : Nat} {e : TypeId} {v : Value} {L : List Nat} (h : Owns w B e v (nvs L)) (hw : ∀ x ∈ L, x < 9223372036854775808) : ∃ a n cap, v = .slice a n cap ∧ Row .i64 w a n cap (nl L) := by
  obtain ⟨a, cap, rfl, hc⟩ := h.form
  rw [nvs_length] at hc ⊢
  refine ⟨a, L.length, cap, rfl, by rw [nl_length], fun n hn => ?_, hc.congr fun i hi => ?_⟩
  · simp only [nl, List.mem_map] at hn
    obtain ⟨x, hx, rfl⟩ := hn
    have := hw x hx
    simp [Lit.wf, IntKind.min, IntKind.max, IntKind.signed, IntKind.bits]
    omega
  · rw [nvs_at L i hi, nl_at]; rfl
theorem Row.nvals {w : World} {a : Option Addr} {len cap : Nat} {L : List Nat} (h : Row .i64 w a len cap (nl L)) : Cells w a len cap (fun i => (nvs L).getD i .nilFunc) :=
  h.2.2.congr fun i hi => by rw [nvs_at L i (by rw [← nl_length, h.1]; exact hi), nl_at]; rfl
theorem row_nil (w : World) : Row .i64 w none 0 0 [] := ⟨rfl, by simp, by omega, by simp [maxLen], by simp, .inl rfl⟩

/-! ### Plain -/
def pivot (N : Nat) (L : List Nat) : Nat → Option Nat
  | 0 => none
  | i + 1 => if L.getD i 0 < N - L.length + i then some i else pivot N L i
def nextAt (L : List Nat) (i : Nat) : List Nat := L.take i ++ run (L.getD i 0 + 1) (L.length - i)
theorem asc_at {N : Nat} : ∀ (lo : Nat) (L : List Nat), asc N lo L → lo ≤ N → ∀ i, i < L.length → L.getD i 0 + (L.length - i) ≤ N
  | lo, x :: xs, ha, hlo, 0, _ => by
    have := asc_length (x + 1) xs ha.2.2 (by have := ha.2.1; omega)
    simp; omega
  | lo, x :: xs, ha, hlo, i + 1, h => by
    have := asc_at (x + 1) xs ha.2.2 (by have := ha.2.1; omega) i (by simpa using h)
    simp only [List.getD_cons_succ, List.length_cons]; omega
/-- the list from i on is the last one -/
theorem pivot_tail {N : Nat} {L : List Nat} (ha : asc N 0 L) : ∀ (i : Nat), i ≤ L.length → pivot N L L.length = pivot N L i → (∀ j, i ≤ j → j < L.length → L.getD j 0 = N - L.length + j) →
    (pivot N L L.length = none → ∀ j, j < L.length → L.getD j 0 = N - L.length + j) ∧ (∀ p, pivot N L L.length = some p → p < L.length ∧ L.getD p 0 < N - L.length + p ∧ ∀ j, p < j → j < L.length → L.getD j 0 = N - L.length + j)
  | 0, _, he, ht => ⟨fun _ j hj => ht j (by omega) hj, fun p hp => by rw [he] at hp; cases hp⟩
  | i + 1, hi, he, ht => by
    by_cases h : L.getD i 0 < N - L.length + i
    · rw [pivot, if_pos h] at he
      exact ⟨fun hn => (by rw [he] at hn; cases hn), fun p hp => by rw [he] at hp; cases hp; exact ⟨by omega, h, fun j h1 h2 => ht j (by omega) h2⟩⟩
    · rw [pivot, if_neg h] at he
      have h1 := asc_at 0 L ha (by omega) i (by omega)
      refine pivot_tail ha i (by omega) he fun j h2 h3 => ?_
      rcases Nat.lt_or_ge i j with h4 | h4
      · exact ht j (by omega) h3
      · obtain rfl : j = i := by omega
        omega
theorem pivot_ok {N : Nat} {L : List Nat} (ha : asc N 0 L) :
    (pivot N L L.length = none → ∀ j, j < L.length → L.getD j 0 = N - L.length + j) ∧ (∀ p, pivot N L L.length = some p → p < L.length ∧ L.getD p 0 < N - L.length + p ∧ ∀ j, p < j → j < L.length → L.getD j 0 = N - L.length + j) := pivot_tail ha L.length (Nat.le_refl _) rfl (fun j h1 h2 => by omega)
theorem eq_run {N : Nat} : ∀ (L : List Nat) (b : Nat), (∀ j, j < L.length → L.getD j 0 = b + j) → L = run b L.length
  | [], _, _ => rfl
  | x :: xs, b, h => by
    have h0 := h 0 (by simp)
    simp at h0
    subst h0
    simp only [List.length_cons, run]
    congr 1
    exact eq_run (N := N) xs (x + 1) (fun j hj => by have := h (j + 1) (by simpa using hj); simp only [List.getD_cons_succ] at this; rw [this]; omega)
theorem nextAt_facts {N : Nat} {L : List Nat} (ha : asc N 0 L) {p : Nat} (hp : pivot N L L.length = some p) : asc N 0 (nextAt L p) ∧ (nextAt L p).length = L.length ∧ rankL N 0 (nextAt L p) = rankL N 0 L + 1 := by
  obtain ⟨h1, h2, h3⟩ := (pivot_ok ha).2 p hp
  have hlen := asc_length 0 L ha (by omega)
  have e1 : L = L.take p ++ L.getD p 0 :: run (N - (L.length - p - 1)) (L.length - p - 1) := by
    have e2 : L.drop (p + 1) = run (N - (L.length - p - 1)) (L.length - p - 1) := by
      have := eq_run (N := N) (L.drop (p + 1)) (N - (L.length - p - 1)) (fun j hj => by
        rw [List.length_drop] at hj
        have := h3 (p + 1 + j) (by omega) (by omega)
        simp only [List.getD, List.getElem?_drop] at this ⊢
        rw [this]; omega)
      rw [List.length_drop, show L.length - (p + 1) = L.length - p - 1 by omega] at this
      exact this
    rw [← e2, ← drop_cons L p 0 h1, List.take_append_drop]
  have hN : nextAt L p = L.take p ++ run (L.getD p 0 + 1) ((L.length - p - 1) + 1) := by
    unfold nextAt; rw [show L.length - p - 1 + 1 = L.length - p by omega]
  have hx : L.getD p 0 + (L.length - p - 1) + 1 < N := by omega
  have ha' := ha
  rw [e1] at ha'
  refine ⟨by rw [hN]; exact asc_next 0 _ ha' hx, by rw [hN, List.length_append, run_length, List.length_take]; omega, ?_⟩
  have := rank_next 0 (L.take p) ha' (by omega) hx
  rw [hN, this, ← e1]
theorem nextNone {N : Nat} {L : List Nat} (ha : asc N 0 L) (hp : pivot N L L.length = none) : rankL N 0 L + 1 = ch N L.length := by
  have h1 := (pivot_ok ha).1 hp
  have hlen := asc_length 0 L ha (by omega)
  have e := eq_run (N := N) L (N - L.length) h1
  rw [e]
  have := top_rank (n := N) (s := L.length) (lo := 0) (by omega)
  rw [run_length]
  simpa using this

/-! ### The program -/
theorem Next_no (n : Int) (l : List Int) (a : Option Addr) (len cap : Nat) (w : World) (hx : Row .i64 w a len cap l) (h : ¬ (0 ≤ n ∧ n ≤ 200) ∨ subB n (-1) l = false) :
    Calls Try.prog 29 #[.int .i64 n, .slice a len cap] w fun e w' => e = .returned (.tuple #[.slice none 0 0, .bool false]) ∧ w = w' := by
  have HX := Lib.hid hx
  have HH := Lib.hid h
  clear hx h
  by_cases hr : 0 ≤ n ∧ n ≤ 200
  · have HS := Lib.hid (HH.out.resolve_left (fun h => h hr))
    go_enter Try.func29, Try.ntmps29
    go_wp2_with fail
    refine (inRange_any n _ true (by simp [hr])).mono ?_
    rintro e w1 ⟨rfl, rfl⟩
    go_wp2_with fail
    refine (isSubset_any n l _ _ _ _ HX.out false (by rw [HS.out])).mono ?_
    rintro e w1 ⟨rfl, rfl⟩
    go_wp2_with fail
    go_ret2
    exact ⟨rfl, rfl⟩
  · have HR := Lib.hid hr
    clear hr
    go_enter Try.func29, Try.ntmps29
    go_wp2_with fail
    refine (inRange_any n _ false (by simp only [HR.out, decide_false])).mono ?_
    rintro e w1 ⟨rfl, rfl⟩
    go_wp2_with fail
    go_ret2
    exact ⟨rfl, rfl⟩

/-- what Next hands back -/
def NextPost (N : Nat) (L : List Nat) (w : World) (e : Ending) (w' : World) : Prop :=
  (pivot N L L.length = none ∧ e = .returned (.tuple #[.slice none 0 0, .bool false]) ∨ ∃ p a n cap, pivot N L L.length = some p ∧ e = .returned (.tuple #[.slice a n cap, .bool true]) ∧ Row .i64 w' a n cap (nl (nextAt L p))) ∧ Below w.heap.size w w'

theorem asc_lt {N : Nat} : ∀ (lo : Nat) (L : List Nat), asc N lo L → ∀ x ∈ L, x < N
  | _, [], _ => by simp
  | _, y :: ys, ha => fun x hx => by
    rcases List.mem_cons.1 hx with rfl | hx
    · exact ha.2.1
    · exact asc_lt _ ys ha.2.2 x hx

set_option maxHeartbeats 1000000 in
theorem Next_any (N : Nat) (L : List Nat) (a : Option Addr) (len cap : Nat) (w : World) (hx : Row .i64 w a len cap (nl L)) (hN : N ≤ 200) (hA : asc N 0 L) :
    Calls Try.prog 29 #[.int .i64 (N : Int), .slice a len cap] w (NextPost N L w) := by
  have HX := Lib.hid hx
  have HL := Lib.hid (show L.length = len by rw [← nl_length]; exact hx.1)
  have hlen : len ≤ N := by have := asc_length 0 L hA (by omega); have := HL.out; omega
  have HA := Lib.hid hA
  have HSub := Lib.hid (show true = subB N (-1) (nl L) by have := asc_subB 0 L hA; simpa using this.symm)
  clear hx hA
  go_enter Try.func29, Try.ntmps29
  go_wp2_with fail
  refine (inRange_any N _ true (by simp; omega)).mono ?_
  rintro e w1 ⟨rfl, rfl⟩
  go_wp2_with fail
  refine (isSubset_any N _ _ _ _ _ HX.out true HSub.out).mono ?_
  rintro e w1 ⟨rfl, rfl⟩
  go_wp2_with fail
  go_loop [7] (fun i => ∃ j : Nat, j ≤ len ∧ i = .int .i64 ((j : Int) - 1) ∧ Hid (pivot N L L.length = pivot N L j)) (fun i => (1 + intOf i).toNat)
  case atStart => exact ⟨len, by omega, rfl, by unfold Hid; rw [HL.out]⟩
  case round =>
    obtain ⟨j, hj, rfl, HP⟩ := hrel
    cases j with
    | zero =>
      go_wp2_with fail
      go_ret2
      exact ⟨.inl ⟨HP.out, rfl⟩, Below.refl _ _⟩
    | succ j =>
      rw [show (((j + 1 : Nat) : Int) - 1) = (j : Int) by omega]
      have HCell := HX.out.2.2.at (k := j) (by omega)
      obtain ⟨bb, off, rfl, _, hcc⟩ := HCell
      have HC1 := Lib.hid (hcc j (by omega))
      rw [nl_at] at HC1
      have c1 := HC1.out w (Below.refl _ _)
      clear hcc
      generalize hX1 : L.getD j 0 = x at *
      by_cases hlt : x < N - len + j
      · have HPs := Lib.hid (show pivot N L L.length = some j by rw [HP.out, pivot, HL.out, hX1, if_pos hlt])
        have HXx := Lib.hid hX1
        have HF := Lib.hid (nextAt_facts HA.out HPs.out)
        have HLt := Lib.hid (asc_lt 0 _ HF.out.1)
        have HTk := Lib.hid (show Row .i64 w (some ⟨bb, off, none⟩) j cap (nl (L.take j)) from ⟨by rw [nl_length, List.length_take, HL.out]; omega, fun n hn => HX.out.2.1 n (by simp only [nl, List.map_take] at hn; exact List.mem_of_mem_take hn), (HX.out.2.2.pre j (by omega)).congr fun i hi => by rw [nl_at, nl_at]; simp [List.getD, hi]⟩)
        have HTl := Lib.hid (show (nvs (L.take j)).length = j by rw [nvs_length, List.length_take, HL.out]; omega)
        have d1 : decide ((x : Int) < (N : Int) - len + j) = true := decide_eq_true (by omega)
        have hjc : j ≤ cap := by have := HX.out.2.2.1; omega
        have hcm := HX.out.2.2.2.1
        unfold maxLen at hcm
        clear hX1
        go_wp2_with (at_builtin; go_must (refine wpList_app rfl _ _ 22 rfl w.heap.size 3 (.int .i64 0) 8 Try.underlying22 infoInt rfl (.slice none 0 0) [] rfl (Owns.nil _ _ _) (some ⟨bb, off, none⟩) j cap (nvs (L.take j)) rfl HTl.out HTk.out.nvals (nvs_one _) (by simp only [List.length_nil]; omega) (by simp only [List.length_nil, maxLen]; omega) (Nat.le_refl _) fun v1 w1 h1 h2 => ?_); have hb1 := h2.below (Nat.le_refl _) (by simp [Value.ownBlock]); have HO := Lib.hid h1; have c2 := HC1.out w1 hb1; clear h1 h2)
        go_wp2_with fail
        go_loopw [8, 9] (fun v t wr => ∃ c : Nat, c ≤ len - j ∧ t = .int .i64 ((x + 1 + c : Nat) : Int) ∧ Hid (Owns wr w.heap.size 3 v (nvs (L.take j ++ run (x + 1) c))) ∧ Below w.heap.size w wr) (fun _ t _ => x + 1 + (len - j) - (intOf t).toNat)
        case atStart => exact ⟨0, by omega, by go_num, by have := HO.out; simpa [Hid, run] using this, hb1⟩
        case round =>
          obtain ⟨c, hc, rfl, HOc, hb⟩ := hrel
          have hsz := hb.size
          have hNl : (nvs (L.take j ++ run (x + 1) c)).length = j + c := by rw [nvs_length, List.length_append, run_length, List.length_take, HL.out]; omega
          by_cases hcl : c < len - j
          · have HN := Lib.hid (show ((nvs (L.take j ++ run (x + 1) c)).length + 1) * 8 ≤ 140737488355328 ∧ (nvs (L.take j ++ run (x + 1) c)).length + 1 ≤ maxLen by
              rw [hNl]; simp only [maxLen]; omega)
            obtain ⟨ac, cc, ev, hcells⟩ := HOc.out.form
            rw [hNl] at ev
            subst ev
            have HR := Lib.hid (show nvs (L.take j ++ run (x + 1) (c + 1)) = nvs (L.take j ++ run (x + 1) c) ++ [.int .i64 ((x + 1 + c : Nat) : Int)] by rw [run_snoc, ← List.append_assoc, nvs_append]; rfl)
            have hlt2 : j + c < len := by omega
            clear hNl hcells
            generalize nvs (L.take j ++ run (x + 1) c) = cur at *
            go_wp2_with (at_builtin; go_must (refine wpList_app1 rfl _ _ 22 rfl w.heap.size 3 (.int .i64 0) 8 Try.underlying22 infoInt rfl (.slice ac (j + c) cc) cur rfl (.int .i64 ((x + 1 + c : Nat) : Int)) rfl HOc.out rfl HN.out.1 HN.out.2 hsz fun v' w' h1 h2 => ?_))
            have hbn := hb.trans (h2.below hsz HOc.out.lt)
            have HO1 := Lib.hid (show Owns w' w.heap.size 3 v' (nvs (L.take j ++ run (x + 1) (c + 1))) by rw [HR.out]; exact h1)
            clear h1 h2
            go_wp2_with fail
            go_roundw
            case rel => exact ⟨c + 1, by omega, by go_num, HO1, hbn⟩
            case measure => simp [intOf]; omega
          · obtain rfl : c = len - j := by omega
            obtain ⟨ac, nc, cc, rfl, hrow⟩ := Owns.nrow HOc.out (by
              have e : L.take j ++ run (x + 1) (len - j) = nextAt L j := by unfold nextAt; rw [HXx.out, HL.out]
              rw [e]
              exact fun y hy => by have := HLt.out y hy; omega)
            have hnc : nc = len := by rw [← hrow.1, nl_length, List.length_append, run_length, List.length_take, HL.out]; omega
            have HRow := Lib.hid (show Row .i64 wr ac nc cc (nl (nextAt L j)) by unfold nextAt; rw [HXx.out, HL.out]; exact hrow)
            have hnl : ¬ nc < len := by omega
            clear hrow hnc hNl HOc
            go_wp2_with fail
            go_ret2
            exact ⟨.inr ⟨j, ac, nc, cc, HPs.out, rfl, HRow.out⟩, hb⟩
      · have HPs := Lib.hid (show pivot N L L.length = pivot N L j by rw [HP.out, pivot, HL.out, hX1, if_neg hlt])
        have d1 : decide ((x : Int) < (N : Int) - len + j) = false := decide_eq_false (by omega)
        clear hX1
        go_wp2_with fail
        go_round
        case rel => exact ⟨j, by omega, rfl, HPs⟩
        case measure => simp [intOf]; omega

theorem rNext_no (n : Int) (l : List Int) (a : Option Addr) (len cap : Nat) (w : World) (hx : Row .i64 w a len cap l) (h : ¬ (0 ≤ n ∧ n ≤ 200) ∨ subB n (-1) l = false) :
    Calls Try.prog 30 #[.int .i64 n, .slice a len cap] w fun e w' => e = .returned (.tuple #[.slice none 0 0, .bool false]) ∧ Below w.heap.size w w' := by
  have HX := Lib.hid hx
  have HH := Lib.hid h
  clear hx h
  by_cases hr : 0 ≤ n ∧ n ≤ 200
  · have HS := Lib.hid (HH.out.resolve_left (fun h => h hr))
    go_enter Try.func30, Try.ntmps30
    go_wp2_with fail
    refine (rsubset_any n l _ _ _ _ HX.out hr.1 hr.2 false (by rw [HS.out])).mono ?_
    rintro e w1 ⟨rfl, hb1⟩
    go_wp2_with fail
    go_ret2
    exact ⟨rfl, hb1⟩
  · have HR := Lib.hid hr
    clear hr
    go_enter Try.func30, Try.ntmps30
    go_wp2_with fail
    refine (rsubset_no n _ _ _ _ HR.out).mono ?_
    rintro e w1 ⟨rfl, rfl⟩
    go_wp2_with fail
    go_ret2
    exact ⟨rfl, Below.refl _ _⟩

theorem nextAt_lo {L : List Nat} {p i : Nat} (hi : i < p) (hp : p ≤ L.length) : (nextAt L p).getD i 0 = L.getD i 0 := by
  unfold nextAt
  simp only [List.getD]
  rw [List.getElem?_append_left (by rw [List.length_take]; omega), List.getElem?_take_of_lt hi]
theorem nextAt_hi {L : List Nat} {p i : Nat} (hi : p ≤ i) (hl : i < L.length) : (nextAt L p).getD i 0 = L.getD p 0 + 1 + (i - p) := by
  have h := run_at (L.length - p) (L.getD p 0 + 1) (i - p) (by omega)
  unfold nextAt
  simp only [List.getD] at h ⊢
  rw [List.getElem?_append_right (by rw [List.length_take]; omega), List.length_take, Nat.min_eq_left (by omega)]
  exact h

set_option maxHeartbeats 1000000 in
theorem rNext_any (N : Nat) (L : List Nat) (a : Option Addr) (len cap : Nat) (w : World) (hx : Row .i64 w a len cap (nl L)) (hN : N ≤ 200) (hA : asc N 0 L) :
    Calls Try.prog 30 #[.int .i64 (N : Int), .slice a len cap] w (NextPost N L w) := by
  have HX := Lib.hid hx
  have HL := Lib.hid (show L.length = len by rw [← nl_length]; exact hx.1)
  have hlen : len ≤ N := by have := asc_length 0 L hA (by omega); have := HL.out; omega
  have HA := Lib.hid hA
  have HSub := Lib.hid (show true = subB N (-1) (nl L) by have := asc_subB 0 L hA; simpa using this.symm)
  clear hx hA
  go_enter Try.func30, Try.ntmps30
  go_wp2_with fail
  refine (rsubset_any N _ _ _ _ _ HX.out (by omega) (by omega) true HSub.out).mono ?_
  rintro e w1 ⟨rfl, hb1⟩
  go_wp2_with fail
  go_loop [7] (fun i => ∃ j : Nat, j ≤ len ∧ i = .int .i64 ((j : Int) - 1) ∧ Hid (pivot N L L.length = pivot N L j)) (fun i => (1 + intOf i).toNat)
  case atStart => exact ⟨len, by omega, rfl, by unfold Hid; rw [HL.out]⟩
  case round =>
    obtain ⟨j, hj, rfl, HP⟩ := hrel
    cases j with
    | zero =>
      go_wp2_with fail
      go_ret2
      exact ⟨.inl ⟨HP.out, rfl⟩, hb1⟩
    | succ j =>
      rw [show (((j + 1 : Nat) : Int) - 1) = (j : Int) by omega]
      obtain ⟨bb, off, rfl, _, hcc⟩ := HX.out.2.2.at (k := j) (by omega)
      have HC1 := Lib.hid (hcc j (by omega))
      rw [nl_at] at HC1
      have c1 := HC1.out w1 hb1
      have HCC := Lib.hid hcc
      clear hcc
      have hbd := asc_at 0 L HA.out (by omega) j (by rw [HL.out]; omega)
      rw [HL.out] at hbd
      have dj : decide (0 ≤ (j : Int)) = true := decide_eq_true (by omega)
      generalize hX1 : L.getD j 0 = x at *
      by_cases hlt : x < N - len + j
      · have HPs := Lib.hid (show pivot N L L.length = some j by rw [HP.out, pivot, HL.out, hX1, if_pos hlt])
        have HF := Lib.hid (nextAt_facts HA.out HPs.out)
        have HLt := Lib.hid (asc_lt 0 _ HF.out.1)
        have HNl := Lib.hid (show (nextAt L j).length = len by rw [HF.out.2.1]; exact HL.out)
        have HLo := Lib.hid (fun i (hi : i < j) => nextAt_lo (L := L) hi (by rw [HL.out]; omega))
        have HHi := Lib.hid (fun i (h1 : j ≤ i) (h2 : i < len) => show (nextAt L j).getD i 0 = x + 1 + (i - j) by rw [nextAt_hi h1 (by rw [HL.out]; exact h2), hX1])
        have d1 : ((x : Int) == (N : Int) - len + j) = false := by
          have : ¬ (x : Int) = (N : Int) - len + j := by omega
          simpa using this
        have dn : decide ((j : Int) < 0) = false := decide_eq_false (by omega)
        clear hX1
        generalize hM : nextAt L j = M at *
        have HM := Lib.hid hM
        clear hM
        go_wp2_with fail
        go_loopw [8, 9] (fun v t wr => ∃ c : Nat, c ≤ len ∧ t = .int .i64 (c : Int) ∧ Hid (Owns wr w1.heap.size 3 v (nvs (M.take c))) ∧ Below w1.heap.size w1 wr) (fun _ t _ => len - (intOf t).toNat)
        case atStart => exact ⟨0, by omega, rfl, Owns.nil _ _ _, Below.refl _ _⟩
        case round =>
          obtain ⟨c, hc, rfl, HOc, hb⟩ := hrel
          have hsz := hb.size
          have hb0 := hb1.trans (hb.mono hb1.size)
          have hNl : (nvs (M.take c)).length = c := by rw [nvs_length, List.length_take, HNl.out]; omega
          by_cases hcl : c < len
          · have HN := Lib.hid (show ((nvs (M.take c)).length + 1) * 8 ≤ 140737488355328 ∧ (nvs (M.take c)).length + 1 ≤ maxLen by
              rw [hNl]; simp only [maxLen]; omega)
            have HR := Lib.hid (show nvs (M.take (c + 1)) = nvs (M.take c) ++ [.int .i64 ((M.getD c 0 : Nat) : Int)] by rw [take_snoc M c 0 (by rw [HNl.out]; exact hcl), nvs_append]; rfl)
            clear hNl
            generalize nvs (M.take c) = cur at *
            by_cases hcj : c < j
            · have c2 := HCC.out c (by omega) wr hb0
              rw [nl_at, ← HLo.out c hcj] at c2
              generalize M.getD c 0 = y at *
              go_wp2_with (at_builtin; go_must (refine wpList_app1 rfl _ _ 22 rfl w1.heap.size 3 (.int .i64 0) 8 Try.underlying22 infoInt rfl u8 cur rfl (.int .i64 (y : Int)) rfl HOc.out rfl HN.out.1 HN.out.2 hsz fun v' w' h1 h2 => ?_))
              have hbn := hb.trans (h2.below hsz HOc.out.lt)
              have HO1 := Lib.hid (show Owns w' w1.heap.size 3 v' (nvs (M.take (c + 1))) by rw [HR.out]; exact h1)
              clear h1 h2
              go_wp2_with fail
              go_roundw
              case rel => exact ⟨c + 1, by omega, by go_num, HO1, hbn⟩
              case measure => simp [intOf]; omega
            · have c2 := HC1.out wr hb0
              have HMc := Lib.hid (show ((M.getD c 0 : Nat) : Int) = (x : Int) + 1 + c - j by rw [HHi.out c (by omega) hcl]; omega)
              rw [HMc.out] at HR
              go_wp2_with (at_builtin; go_must (refine wpList_app1 rfl _ _ 22 rfl w1.heap.size 3 (.int .i64 0) 8 Try.underlying22 infoInt rfl u8 cur rfl (.int .i64 ((x : Int) + 1 + c - j)) rfl HOc.out rfl HN.out.1 HN.out.2 hsz fun v' w' h1 h2 => ?_))
              have hbn := hb.trans (h2.below hsz HOc.out.lt)
              have HO1 := Lib.hid (show Owns w' w1.heap.size 3 v' (nvs (M.take (c + 1))) by rw [HR.out]; exact h1)
              clear h1 h2
              go_wp2_with fail
              go_roundw
              case rel => exact ⟨c + 1, by omega, by go_num, HO1, hbn⟩
              case measure => simp [intOf]; omega
          · have HOM := HOc.out
            rw [List.take_of_length_le (by rw [HNl.out]; omega)] at HOM
            obtain ⟨ac, nc, cc, rfl, hrow⟩ := Owns.nrow HOM (fun y hy => by have := HLt.out y hy; omega)
            have HRow := Lib.hid hrow
            clear hrow HOM HOc hNl
            go_wp2_with fail
            go_ret2
            exact ⟨.inr ⟨j, ac, nc, cc, HPs.out, rfl, by rw [HM.out]; exact HRow.out⟩, hb0⟩
      · have HPs := Lib.hid (show pivot N L L.length = pivot N L j by rw [HP.out, pivot, HL.out, hX1, if_neg hlt])
        have d1 : ((x : Int) == (N : Int) - len + j) = true := by
          have : (x : Int) = (N : Int) - len + j := by omega
          simpa using this
        clear hX1
        go_wp2_with fail
        go_round
        case rel => exact ⟨j, by omega, rfl, HPs⟩
        case measure => simp [intOf]; omega

end Go.Proofs.Ytjmdcabbglappaa
