/- What the walks share: a slice that is only read (Row), bytes and 64-bit numbers in Lean's own types, small laws on 'Below'. Plain lemmas, no condition. -/
import Derived.WalkKit
import Derived.WalkSpells
import Derived.WalkLawsBesides
import Derived.Deep.QuietTactic
import Derived.BigQuiet
import Derived.Lib.Hide
namespace Go.Proofs.Ytfedalipoknilaa
open Go.RowKit

/-! ### Slices that are only read -/

/-- a slice of cells that is only read: cell i holds f i -/
def Cells (w : World) (a : Option Addr) (len cap : Nat) (f : Nat → Value) : Prop :=
  len ≤ cap ∧ cap ≤ maxLen ∧ (len = 0 ∨ ∃ b off, a = some ⟨b, off, none⟩ ∧ b < w.heap.size ∧ ∀ i, i < len → w.cell? ⟨b, off + i, none⟩ = some (f i))

theorem Cells.below {w w' : World} {a : Option Addr} {len cap : Nat} {f : Nat → Value} (h : Cells w a len cap f) (hb : Below w.heap.size w w') : Cells w' a len cap f := by
  obtain ⟨h1, h2, h3⟩ := h
  refine ⟨h1, h2, ?_⟩
  rcases h3 with h3 | ⟨b, off, rfl, hlt, hc⟩
  · exact .inl h3
  · refine .inr ⟨b, off, rfl, Nat.lt_of_lt_of_le hlt hb.size, fun i hi => ?_⟩
    rw [hb.cell (p := ⟨b, off + i, none⟩) hlt]; exact hc i hi

theorem Cells.at {w : World} {a : Option Addr} {len cap : Nat} {f : Nat → Value} (h : Cells w a len cap f) {k : Nat} (hk : k < len) :
    ∃ b off, a = some ⟨b, off, none⟩ ∧ b < w.heap.size ∧ ∀ i, i < len → ∀ w', Below w.heap.size w w' → w'.cell? ⟨b, off + i, none⟩ = some (f i) := by
  obtain ⟨_, _, h3⟩ := h
  rcases h3 with h3 | ⟨b, off, rfl, hlt, hc⟩
  · omega
  · exact ⟨b, off, rfl, hlt, fun i hi w' hb => by rw [hb.cell (p := ⟨b, off + i, none⟩) hlt]; exact hc i hi⟩

theorem Cells.congr {w : World} {a : Option Addr} {len cap : Nat} {f g : Nat → Value} (h : Cells w a len cap f) (e : ∀ i, i < len → f i = g i) : Cells w a len cap g := by
  obtain ⟨h1, h2, h3⟩ := h
  refine ⟨h1, h2, ?_⟩
  rcases h3 with h3 | ⟨b, off, rfl, hlt, hc⟩
  · exact .inl h3
  · exact .inr ⟨b, off, rfl, hlt, fun i hi => by rw [hc i hi, e i hi]⟩

/-- a slice of integers of kind k -/
def Row (k : IntKind) (w : World) (a : Option Addr) (len cap : Nat) (xs : List Int) : Prop :=
  xs.length = len ∧ (∀ n ∈ xs, (Lit.int k n).wf = true) ∧ Cells w a len cap (fun i => .int k (xs.getD i 0))

/-- a slice of bytes -/
def Bytes (w : World) (a : Option Addr) (len cap : Nat) (xs : List UInt8) : Prop :=
  xs.length = len ∧ Cells w a len cap (fun i => .int .u8 ((xs.getD i 0).toNat : Int))

/-- a slice of 64-bit numbers -/
def Words (w : World) (a : Option Addr) (len cap : Nat) (xs : List UInt64) : Prop :=
  xs.length = len ∧ Cells w a len cap (fun i => .int .u64 ((xs.getD i 0).toNat : Int))

theorem Row.below {k : IntKind} {w w' : World} {a : Option Addr} {len cap : Nat} {xs : List Int} (h : Row k w a len cap xs) (hb : Below w.heap.size w w') : Row k w' a len cap xs := ⟨h.1, h.2.1, h.2.2.below hb⟩
theorem Bytes.below {w w' : World} {a : Option Addr} {len cap : Nat} {xs : List UInt8} (h : Bytes w a len cap xs) (hb : Below w.heap.size w w') : Bytes w' a len cap xs := ⟨h.1, h.2.below hb⟩
theorem Words.below {w w' : World} {a : Option Addr} {len cap : Nat} {xs : List UInt64} (h : Words w a len cap xs) (hb : Below w.heap.size w w') : Words w' a len cap xs := ⟨h.1, h.2.below hb⟩

/-! ### Lists -/
theorem drop_cons {α : Type} (xs : List α) (k : Nat) (d : α) (h : k < xs.length) : xs.drop k = xs.getD k d :: xs.drop (k + 1) := by
  rw [List.drop_eq_getElem_cons h]; simp [List.getD, h]
theorem take_snoc {α : Type} (xs : List α) (k : Nat) (d : α) (h : k < xs.length) : xs.take (k + 1) = xs.take k ++ [xs.getD k d] := by
  rw [List.take_succ_eq_append_getElem h]; simp [List.getD, h]

theorem ret_int {k : IntKind} {a b : Int} (h : a = b) : Ending.returned (.int k a) = .returned (.int k b) := by rw [h]
theorem ret_two {v v' u u' : Value} (h : v = v') (h' : u = u') : Ending.returned (.tuple #[v, u]) = .returned (.tuple #[v', u']) := by rw [h, h']
theorem ret_pair {k k' : IntKind} {x y : Int} {p : Int × Int} (h : p = (x, y)) : Ending.returned (.tuple #[.int k x, .int k' y]) = .returned (.tuple #[.int k p.1, .int k' p.2]) := by rw [h]
theorem int_eq {k : IntKind} {a b : Int} (h : a = b) : Value.int k a = .int k b := by rw [h]

/-! ### Bytes and 64-bit numbers -/
theorem wrap_u64_u8 (x : UInt8) : IntKind.u64.wrap (x.toNat : Int) = (x.toUInt64.toNat : Int) := by
  rw [IntKind.wrap_u64]; have := x.toNat_lt; simp; omega
theorem xor_u64 (a b : UInt64) : bits .xor .u64 (a.toNat : Int) (b.toNat : Int) = ((a ^^^ b).toNat : Int) := by
  rw [bits_xor_u64_nat _ _ a.toNat_lt b.toNat_lt, UInt64.toNat_xor]
theorem wrap_mul_u64 (a b : UInt64) : IntKind.u64.wrap ((a.toNat : Int) * (b.toNat : Int)) = ((a * b).toNat : Int) := by
  rw [IntKind.wrap_u64, UInt64.toNat_mul]; simp
theorem wrap_add_u64 (a b : UInt64) : IntKind.u64.wrap ((a.toNat : Int) + (b.toNat : Int)) = ((a + b).toNat : Int) := by
  rw [IntKind.wrap_u64, UInt64.toNat_add]; simp
theorem u64_of (n : Int) (h : (Lit.int .u64 n).wf = true) : ∃ u : UInt64, n = (u.toNat : Int) := by
  have hx : 0 ≤ n ∧ n ≤ 18446744073709551615 := by simpa [Lit.wf, IntKind.min, IntKind.max, IntKind.signed, IntKind.bits] using h
  refine ⟨UInt64.ofNat n.toNat, ?_⟩
  rw [UInt64.toNat_ofNat']; omega
theorem u8_of (n : Int) (h : (Lit.int .u8 n).wf = true) : ∃ u : UInt8, n = (u.toNat : Int) := by
  have hx : 0 ≤ n ∧ n ≤ 255 := by simpa [Lit.wf, IntKind.min, IntKind.max, IntKind.signed, IntKind.bits] using h
  refine ⟨UInt8.ofNat n.toNat, ?_⟩
  rw [UInt8.toNat_ofNat']; omega

end Go.Proofs.Ytfedalipoknilaa
