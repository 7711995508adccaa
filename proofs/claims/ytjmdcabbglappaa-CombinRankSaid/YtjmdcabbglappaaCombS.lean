/- Ranking subsets, plain. No program here. -/
import Derived.Test.YtjmdcabbglappaaCombP
namespace Go.Proofs.Ytjmdcabbglappaa
open Go.RowKit

/-- the list rises strictly, from above last, below n -/
def subB (n : Int) : Int → List Int → Bool
  | _, [] => true
  | last, x :: xs => decide (last < x ∧ x < n) && subB n x xs
def asc (n : Nat) : Nat → List Nat → Prop
  | _, [] => True
  | lo, x :: xs => lo ≤ x ∧ x < n ∧ asc n (x + 1) xs
def nl (L : List Nat) : List Int := L.map (fun x : Nat => (x : Int))
theorem nl_length (L : List Nat) : (nl L).length = L.length := by simp [nl]
theorem nl_at (L : List Nat) (k : Nat) : (nl L).getD k 0 = ((L.getD k 0 : Nat) : Int) := by
  simp only [nl, List.getD, List.getElem?_map]
  cases L[k]? <;> simp
theorem nl_drop (L : List Nat) (k : Nat) : (nl L).drop k = nl (L.drop k) := by simp [nl]
theorem subB_asc {n : Nat} : ∀ (lo : Nat) (l : List Int), subB n ((lo : Int) - 1) l = true → ∃ L, l = nl L ∧ asc n lo L
  | _, [], _ => ⟨[], rfl, trivial⟩
  | lo, x :: xs, h => by
    simp only [subB, Bool.and_eq_true, decide_eq_true_eq] at h
    obtain ⟨⟨h1, h2⟩, h3⟩ := h
    have h4 := h3
    rw [show x = ((x.toNat + 1 : Nat) : Int) - 1 by omega] at h4
    obtain ⟨L, rfl, hL⟩ := subB_asc (x.toNat + 1) xs h4
    refine ⟨x.toNat :: L, ?_, by omega, by omega, hL⟩
    simp only [nl, List.map_cons]
    congr 1
    omega
theorem asc_subB {n : Nat} : ∀ (lo : Nat) (L : List Nat), asc n lo L → subB n ((lo : Int) - 1) (nl L) = true
  | _, [], _ => rfl
  | lo, x :: xs, ⟨h1, h2, h3⟩ => by
    have ih := asc_subB (x + 1) xs h3
    rw [show (((x + 1 : Nat) : Int) - 1) = (x : Int) by omega] at ih
    show (decide ((lo : Int) - 1 < (x : Int) ∧ (x : Int) < (n : Int)) && subB n (x : Int) (nl xs)) = true
    rw [ih, Bool.and_true]
    exact decide_eq_true (by omega)
theorem asc_length {n : Nat} : ∀ (lo : Nat) (L : List Nat), asc n lo L → lo ≤ n → lo + L.length ≤ n
  | lo, [], _, h => by simpa using h
  | lo, x :: xs, ⟨h1, h2, h3⟩, _ => by
    have := asc_length (x + 1) xs h3 (by omega)
    simp only [List.length_cons]; omega
theorem asc_mono {n : Nat} : ∀ {lo lo' : Nat} {L : List Nat}, asc n lo L → lo' ≤ lo → asc n lo' L
  | _, _, [], _, _ => trivial
  | _, _, _ :: _, ⟨h1, h2, h3⟩, h => ⟨by omega, h2, h3⟩

/-- the coefficients that are passed over: v = from, from + 1, .., c of them -/
def skipS (n j : Nat) : Nat → Nat → Nat
  | _, 0 => 0
  | v, c + 1 => ch (n - 1 - v) j + skipS n j (v + 1) c
def rankL (n : Nat) : Nat → List Nat → Nat
  | _, [] => 0
  | lo, x :: xs => skipS n xs.length lo (x - lo) + rankL n (x + 1) xs
theorem skipS_add (n j : Nat) : ∀ (v c d : Nat), skipS n j v (c + d) = skipS n j v c + skipS n j (v + c) d
  | v, 0, d => by simp [skipS]
  | v, c + 1, d => by
    rw [show c + 1 + d = (c + d) + 1 by omega, skipS, skipS_add n j (v + 1) c d, skipS, show v + 1 + c = v + (c + 1) by omega]; omega
theorem skipS_hockey (n j : Nat) : ∀ (v c : Nat), v + c ≤ n → skipS n j v c + ch (n - v - c) (j + 1) = ch (n - v) (j + 1)
  | v, 0, _ => by simp [skipS]
  | v, c + 1, h => by
    have ih := skipS_hockey n j (v + 1) c (by omega)
    rw [skipS, show n - v - (c + 1) = n - (v + 1) - c by omega, Nat.add_assoc, ih]
    rw [show n - v = (n - 1 - v) + 1 by omega, show n - (v + 1) = n - 1 - v by omega]
    rfl
/-- the rank is below the number of subsets -/
theorem rankL_lt {n : Nat} : ∀ (lo : Nat) (L : List Nat), asc n lo L → lo ≤ n → rankL n lo L < ch (n - lo) L.length
  | lo, [], _, _ => by simp [rankL, ch_zero]
  | lo, x :: xs, ⟨h1, h2, h3⟩, _ => by
    have ih := rankL_lt (x + 1) xs h3 (by omega)
    have h4 := skipS_hockey n xs.length lo (x - lo + 1) (by omega)
    rw [skipS_add] at h4
    simp only [skipS, Nat.add_zero] at h4
    rw [show lo + (x - lo) = x by omega, show n - 1 - x = n - (x + 1) by omega] at h4
    simp only [rankL, List.length_cons]
    omega
theorem skipS_mono {n j v c d : Nat} (h : c ≤ d) : skipS n j v c ≤ skipS n j v d := by
  obtain ⟨e, rfl⟩ : ∃ e, d = c + e := ⟨d - c, by omega⟩
  rw [skipS_add]; omega
/-- the order of ranks is that of the first difference -/
theorem rankL_less {n lo x y : Nat} {xs ys : List Nat} (hx : asc n lo (x :: xs)) (hl : xs.length = ys.length) (h : x < y) : rankL n lo (x :: xs) < rankL n lo (y :: ys) := by
  have h1 := rankL_lt (x + 1) xs hx.2.2 (by have := hx.2.1; omega)
  have h2 : skipS n xs.length lo (x - lo + 1) ≤ skipS n xs.length lo (y - lo) := skipS_mono (by have := hx.1; omega)
  rw [skipS_add] at h2
  simp only [skipS, Nat.add_zero] at h2
  rw [show lo + (x - lo) = x by have := hx.1; omega, show n - 1 - x = n - (x + 1) by omega] at h2
  simp only [rankL]
  rw [← hl]
  omega

/-! ### The next subset -/
def run (x : Nat) : Nat → List Nat
  | 0 => []
  | c + 1 => x :: run (x + 1) c
theorem run_length (x c : Nat) : (run x c).length = c := by
  induction c generalizing x with
  | zero => rfl
  | succ c ih => simp [run, ih]
theorem run_at : ∀ (c x i : Nat), i < c → (run x c).getD i 0 = x + i
  | c + 1, x, 0, _ => by simp [run]
  | c + 1, x, i + 1, h => by
    simp only [run, List.getD_cons_succ]
    rw [run_at c (x + 1) i (by omega)]; omega
theorem run_snoc : ∀ (c x : Nat), run x (c + 1) = run x c ++ [x + c]
  | 0, x => by simp [run]
  | c + 1, x => by
    show x :: run (x + 1) (c + 1) = x :: run (x + 1) c ++ [x + (c + 1)]
    rw [run_snoc c (x + 1)]
    simp only [List.cons_append]
    congr 3
    omega
theorem run_asc {n : Nat} : ∀ (c x : Nat), x + c ≤ n → asc n x (run x c)
  | 0, _, _ => trivial
  | c + 1, x, h => ⟨Nat.le_refl _, by omega, run_asc c (x + 1) (by omega)⟩
theorem run_rank {n : Nat} : ∀ (c x : Nat), rankL n x (run x c) = 0
  | 0, _ => rfl
  | c + 1, x => by simp only [run, rankL, Nat.sub_self, skipS, Nat.zero_add]; exact run_rank c (x + 1)
/-- the rank of the last subset -/
theorem top_rank {n s lo : Nat} (h : lo + s ≤ n) : rankL n lo (run (n - s) s) + 1 = ch (n - lo) s := by
  cases s with
  | zero => simp [run, rankL, ch_zero]
  | succ s =>
    simp only [run, rankL]
    rw [run_length, run_rank]
    have h4 := skipS_hockey n s lo (n - (s + 1) - lo) (by omega)
    rw [show n - lo - (n - (s + 1) - lo) = s + 1 by omega, ch_self] at h4
    omega
theorem rank_next {n x s : Nat} : ∀ (lo : Nat) (pre : List Nat), asc n lo (pre ++ x :: run (n - s) s) → lo ≤ n → x + s + 1 < n →
    rankL n lo (pre ++ run (x + 1) (s + 1)) = rankL n lo (pre ++ x :: run (n - s) s) + 1
  | lo, [], ha, hlo, hx => by
    simp only [List.nil_append, run, rankL]
    rw [run_length, run_length, run_rank]
    have h1 := top_rank (n := n) (s := s) (lo := x + 1) (by omega)
    have h2 : skipS n s lo (x + 1 - lo) = skipS n s lo (x - lo) + ch (n - (x + 1)) s := by
      rw [show x + 1 - lo = (x - lo) + 1 by have := ha.1; omega, skipS_add]
      simp only [skipS, Nat.add_zero]
      rw [show lo + (x - lo) = x by have := ha.1; omega, show n - 1 - x = n - (x + 1) by omega]
    omega
  | lo, y :: pre, ha, hlo, hx => by
    have ih := rank_next (y + 1) pre ha.2.2 (by have := ha.2.1; omega) hx
    simp only [List.cons_append, rankL]
    rw [ih]
    simp only [List.length_append, run_length, List.length_cons]
    omega
theorem asc_next {n x s : Nat} : ∀ (lo : Nat) (pre : List Nat), asc n lo (pre ++ x :: run (n - s) s) → x + s + 1 < n → asc n lo (pre ++ run (x + 1) (s + 1))
  | _, [], ha, hx => asc_mono (run_asc (s + 1) (x + 1) (by omega)) (by have := ha.1; omega)
  | _, y :: pre, ha, hx => ⟨ha.1, ha.2.1, asc_next (y + 1) pre ha.2.2 hx⟩

end Go.Proofs.Ytjmdcabbglappaa
