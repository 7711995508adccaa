/- Natural numbers in normal form, small enough: the contracts of nat and of its reference in one form. -/
import Derived.Test.YtjmdcabbglappaaNatU
import Derived.Test.YtjmdcabbglappaaCombP
namespace Go.Proofs.Ytjmdcabbglappaa
open Go.RowKit

section
variable {w : World} {v u : Value} {m n : Nat}
theorem Num.sm {a : Option Addr} {len cap : Nat} (h : Limbs w a len cap (digs n)) (hs : Sm n) : len ≤ 1000 := by rw [← h.1]; exact hs
theorem mul_num (hv : Num w v m) (hu : Num w u n) (hm : Sm m) (hn : Sm n) :
    Calls Try.prog 19 #[v, u] w fun e w' => ∃ r, e = .returned r ∧ Num w' r (m * n) ∧ Below w.heap.size w w' := by
  obtain ⟨a, len, cap, rfl, hv⟩ := hv
  obtain ⟨a', len', cap', rfl, hu⟩ := hu
  have h1 := Num.sm hv hm
  have h2 := Num.sm hu hn
  have := mul_any _ _ _ _ _ _ _ _ w hv hu (by omega)
  rwa [natOf_digs, natOf_digs] at this
theorem add_num (hv : Num w v m) (hu : Num w u n) (hm : Sm m) (hn : Sm n) :
    Calls Try.prog 24 #[v, u] w fun e w' => ∃ r, e = .returned r ∧ Num w' r (m + n) ∧ Below w.heap.size w w' := by
  obtain ⟨a, len, cap, rfl, hv⟩ := hv
  obtain ⟨a', len', cap', rfl, hu⟩ := hu
  have h1 := Num.sm hv hm
  have h2 := Num.sm hu hn
  have := add_any _ _ _ _ _ _ _ _ w hv hu (by omega) (by omega)
  rwa [natOf_digs, natOf_digs] at this
theorem cmp_num (hv : Num w v m) (hu : Num w u n) :
    Calls Try.prog 27 #[v, u] w fun e w' => e = .returned (.int .i64 (cmpI m n)) ∧ Below w.heap.size w w' := by
  obtain ⟨a, len, cap, rfl, hv⟩ := hv
  obtain ⟨a', len', cap', rfl, hu⟩ := hu
  have := cmp_any _ _ _ _ _ _ _ _ w hv hu
  rwa [natOf_digs, natOf_digs] at this
theorem sub_num (hv : Num w v m) (hu : Num w u n) (hm : Sm m) (h : n ≤ m) :
    Calls Try.prog 38 #[v, u] w fun e w' => ∃ r, e = .returned (.tuple #[r, .bool true]) ∧ Num w' r (m - n) ∧ Below w.heap.size w w' := by
  obtain ⟨a, len, cap, rfl, hv⟩ := hv
  obtain ⟨a', len', cap', rfl, hu⟩ := hu
  have h1 := Num.sm hv hm
  have := sub_any _ _ _ _ _ _ _ _ w hv hu (by omega) (by rw [natOf_digs, natOf_digs]; exact h)
  rwa [natOf_digs, natOf_digs] at this
theorem subless_num (hv : Num w v m) (hu : Num w u n) (h : m < n) :
    Calls Try.prog 38 #[v, u] w fun e w' => e = .returned (.tuple #[.slice none 0 0, .bool false]) ∧ Below w.heap.size w w' := by
  obtain ⟨a, len, cap, rfl, hv⟩ := hv
  obtain ⟨a', len', cap', rfl, hu⟩ := hu
  exact sub_less _ _ _ _ _ _ _ _ w hv hu (by rw [natOf_digs, natOf_digs]; exact h)
/-- division by a small number -/
theorem div_num (hv : Num w v m) (hu : Num w u n) (hm : Sm m) (h0 : n ≠ 0) (hn : m < n ∨ n < 4294967296) :
    Calls Try.prog 45 #[v, u] w fun e w' => ∃ q r, e = .returned (.tuple #[q, r, .bool true]) ∧ Num w' q (m / n) ∧ Num w' r (m % n) ∧ Below w.heap.size w w' := by
  obtain ⟨a, len, cap, rfl, hv⟩ := hv
  obtain ⟨a', len', cap', rfl, hu⟩ := hu
  have h1 := Num.sm hv hm
  have := divmod_cond _ _ _ _ _ _ _ _ w hv hu (by omega) (by rw [natOf_digs]; exact h0) (by rw [natOf_digs, natOf_digs]; exact hn)
  rwa [natOf_digs, natOf_digs] at this
theorem rmul_num (hv : Num w v m) (hu : Num w u n) (hm : Sm m) (hn : Sm n) :
    Calls Try.prog 47 #[v, u] w fun e w' => ∃ r, e = .returned r ∧ Num w' r (m * n) ∧ Below w.heap.size w w' := by
  obtain ⟨a, len, cap, rfl, hv⟩ := hv
  obtain ⟨a', len', cap', rfl, hu⟩ := hu
  have h1 := Num.sm hv hm
  have h2 := Num.sm hu hn
  have := rmul_any _ _ _ _ _ _ _ _ w hv hu (by omega)
  rwa [natOf_digs, natOf_digs] at this
theorem radd_num (hv : Num w v m) (hu : Num w u n) (hm : Sm m) (hn : Sm n) :
    Calls Try.prog 44 #[v, u] w fun e w' => ∃ r, e = .returned r ∧ Num w' r (m + n) ∧ Below w.heap.size w w' := by
  obtain ⟨a, len, cap, rfl, hv⟩ := hv
  obtain ⟨a', len', cap', rfl, hu⟩ := hu
  have h1 := Num.sm hv hm
  have h2 := Num.sm hu hn
  have := radd_any _ _ _ _ _ _ _ _ w hv hu (by omega) (by omega)
  rwa [natOf_digs, natOf_digs] at this
theorem rcmp_num (hv : Num w v m) (hu : Num w u n) :
    Calls Try.prog 39 #[v, u] w fun e w' => e = .returned (.int .i64 (cmpI m n)) ∧ w = w' := by
  obtain ⟨a, len, cap, rfl, hv⟩ := hv
  obtain ⟨a', len', cap', rfl, hu⟩ := hu
  have := rcmp_any _ _ _ _ _ _ _ _ w hv hu
  rwa [natOf_digs, natOf_digs] at this
theorem rsub_num (hv : Num w v m) (hu : Num w u n) (hm : Sm m) (h : n ≤ m) :
    Calls Try.prog 41 #[v, u] w fun e w' => ∃ r, e = .returned (.tuple #[r, .bool true]) ∧ Num w' r (m - n) ∧ Below w.heap.size w w' := by
  obtain ⟨a, len, cap, rfl, hv⟩ := hv
  obtain ⟨a', len', cap', rfl, hu⟩ := hu
  have h1 := Num.sm hv hm
  have := rsub_any _ _ _ _ _ _ _ _ w hv hu (by omega) (by rw [natOf_digs, natOf_digs]; exact h)
  rwa [natOf_digs, natOf_digs] at this
theorem rdiv_num (hv : Num w v m) (hu : Num w u n) (hm : Sm m) (hn : Sm n) (h0 : n ≠ 0) :
    Calls Try.prog 34 #[v, u] w fun e w' => ∃ q r, e = .returned (.tuple #[q, r, .bool true]) ∧ Num w' q (m / n) ∧ Num w' r (m % n) ∧ Below w.heap.size w w' := by
  obtain ⟨a, len, cap, rfl, hv⟩ := hv
  obtain ⟨a', len', cap', rfl, hu⟩ := hu
  have h1 := Num.sm hv hm
  have h2 := Num.sm hu hn
  have := rdivmod_any _ _ _ _ _ _ _ _ w hv hu (by rw [natOf_digs]; exact h0) (by omega) (by omega)
  rwa [natOf_digs, natOf_digs] at this
end

end Go.Proofs.Ytjmdcabbglappaa
