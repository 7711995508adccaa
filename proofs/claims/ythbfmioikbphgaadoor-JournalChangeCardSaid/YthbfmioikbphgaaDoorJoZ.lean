/- Journals: prefixes of a list of trees in memory; numbers among the arguments. -/
import Derived.Test.YthbfmioikbphgaaDoorCo
namespace Go.Proofs.YthbfmioikbphgaaDoor
set_option maxRecDepth 100000
open Go.RowKit
theorem KidsIn.take {w : World} (b : Nat) : ∀ (ts : List NodeT) (off k : Nat), KidsIn w b off ts → KidsIn w b off (ts.take k)
  | [], _, _, _ => by simp [KidsIn]
  | t :: ts, off, 0, _ => by simp [KidsIn]
  | t :: ts, off, k + 1, h => by
    simp only [KidsIn, List.take_succ_cons] at h ⊢
    exact ⟨h.1, KidsIn.take b ts (off + 5) k h.2⟩
theorem Kids.pre {w : World} {a : Option Addr} {len cap : Nat} {ts : List NodeT} (h : Kids w a len cap ts) (k : Nat) (hk : k ≤ len) : Kids w a k cap (ts.take k) := by
  obtain ⟨h1, h2, h3, h4, h5⟩ := h
  refine ⟨by rw [List.length_take]; omega, by omega, h3, h4, ?_⟩
  rcases h5 with h5 | ⟨b, off, rfl, hlt, hk'⟩
  · exact .inl (by omega)
  · exact .inr ⟨b, off, rfl, hlt, KidsIn.take b ts off k hk'⟩
theorem nat_of_u16 (n : Int) (h : (Lit.int .u16 n).wf = true) : ∃ x : Nat, n = (x : Int) ∧ x < 65536 := by
  have h2 : 0 ≤ n ∧ n ≤ 65535 := by simpa [Lit.wf, IntKind.min, IntKind.max, IntKind.signed, IntKind.bits] using h
  exact ⟨n.toNat, by omega, by omega⟩
end Go.Proofs.YthbfmioikbphgaaDoor
