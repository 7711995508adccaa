/- Slices of ints, as values. Plain lemmas, no condition. -/
import Derived.Test.YthbfmioikbphgaaDoorBase
import Derived.Test.YthbfmioikbphgaaDoorProg
namespace Go.Proofs.YthbfmioikbphgaaDoor
set_option maxRecDepth 100000
open Go.RowKit

theorem infoInt : (Tryd.prog.info? 3).map (fun i => (i.zero, i.size, i.bytes)) = some (some (.int .i64 0), 1, 8) := by kernel_rfl
def iv (x : Int) : Value := .int .i64 x
def ivs (xs : List Int) : List Value := xs.map iv
theorem ivs_length (xs : List Int) : (ivs xs).length = xs.length := by simp [ivs]
theorem ivs_append (xs ys : List Int) : ivs (xs ++ ys) = ivs xs ++ ivs ys := by simp [ivs]
theorem ivs_one (xs : List Int) : ∀ u ∈ ivs xs, u.oneCell' = true := by intro u hu; simp [ivs] at hu; obtain ⟨x, _, rfl⟩ := hu; rfl
theorem ivs_set (xs : List Int) (j : Nat) (y : Int) : (ivs xs).set j (iv y) = ivs (xs.set j y) := by simp [ivs, List.map_set]
theorem ivs_at (xs : List Int) (j : Nat) (h : j < xs.length) : (ivs xs).getD j .nilFunc = iv (xs.getD j 0) := by simp [ivs, List.getD, h]
/-- a slice of ints that is only read -/
def Ints (w : World) (a : Option Addr) (len cap : Nat) (xs : List Int) : Prop := xs.length = len ∧ Cells w a len cap (fun i => .int .i64 (xs.getD i 0))
theorem Ints.below {w w' : World} {a : Option Addr} {len cap : Nat} {xs : List Int} (h : Ints w a len cap xs) (hb : Below w.heap.size w w') : Ints w' a len cap xs := ⟨h.1, h.2.below hb⟩
theorem Row.ints {w : World} {a : Option Addr} {len cap : Nat} {xs : List Int} (h : Row .i64 w a len cap xs) : Ints w a len cap xs := ⟨h.1, h.2.2⟩
theorem ints_nil (w : World) : Ints w none 0 0 [] := ⟨rfl, by omega, by simp [maxLen], by simp, .inl rfl⟩
theorem Owns.ints {w : World} {B : Nat} {e : TypeId} {v : Value} {xs : List Int} (h : Owns w B e v (ivs xs)) : ∃ a n cap, v = .slice a n cap ∧ Ints w a n cap xs := by
  obtain ⟨a, cap, rfl, hc⟩ := h.form
  rw [ivs_length] at hc ⊢
  refine ⟨a, xs.length, cap, rfl, rfl, hc.congr fun i hi => ?_⟩
  rw [ivs_at xs i hi]; rfl
theorem Owns.ints' {w : World} {B : Nat} {e : TypeId} {a : Option Addr} {n cap : Nat} {xs : List Int} (h : Owns w B e (.slice a n cap) (ivs xs)) : Ints w a n cap xs := by
  obtain ⟨a', n', cap', hv, hi⟩ := h.ints
  cases hv; exact hi
theorem ints_lit (w : World) (e : TypeId) (xs : List Int) (hl : xs.length ≤ maxLen) : Ints (w.alloc (.cells (ivs xs).toArray e)) (some ⟨w.heap.size, 0, none⟩) xs.length xs.length xs := by
  have h := cells_lit w e (ivs xs) (by rw [ivs_length]; exact hl)
  rw [ivs_length] at h
  exact ⟨rfl, h.congr fun i hi => by rw [ivs_at xs i hi]; rfl⟩
theorem iset_fill (l : List Int) (m : Nat) (y : Int) : (l ++ List.replicate (m + 1) 0).set l.length y = (l ++ [y]) ++ List.replicate m 0 := by
  rw [List.set_append_right _ _ (Nat.le_refl _)]; simp [List.replicate_succ]
theorem ivs_replicate (n : Nat) : List.replicate n (Value.int .i64 0) = ivs (List.replicate n 0) := by simp [ivs, iv]

end Go.Proofs.YthbfmioikbphgaaDoor
