/- The codec: what Int, String, List (of two leaves) and Find (of a leaf) return. -/
import Derived.Test.YthbfmioikbphgaaDoorCoJ
namespace Go.Proofs.YthbfmioikbphgaaDoor
set_option maxRecDepth 100000
open Go.RowKit

theorem leaf_in (w : World) (tag kind n : Int) (s : List UInt8) (hs : s.length ≤ maxLen) : NodeIn w (.mk tag kind n s []) (.agg #[.int .i64 tag, .int .i64 kind, .int .i64 n, .string ⟨s.toArray⟩, .slice none 0 0]) :=
  nodeIn_mk.2 ⟨none, 0, 0, rfl, hs, rfl, Nat.le_refl _, by simp [maxLen], fun _ => rfl, .inl rfl⟩
/-- 'make([]T, n)' of elements of k cells, in a walk -/
theorem wpList_mknK {P : Program} {w : World} {ops : Array Oper} {rest : List Oper} {o : Oper} {a : Act} {Q : Exit → Act → World → Prop} (hgd : o.guard = none) (l c : Operand) (t : TypeId) (hop : o.op = Op.makeSlice t l c)
    (e : TypeId) (z : Value) (k bytes : Nat) (ht : P.underlying t = some (.slice e)) (hi : (P.info? e).map (fun i => (i.zero, i.size, i.bytes)) = some (some z, k, bytes))
    (kl kc : IntKind) (L C : Int) (n : Nat) (hl : a.eval l = .int kl L) (hc : a.eval c = .int kc C) (hL : L = (n : Int)) (hC : C = (n : Int)) (hb : bytes * n ≤ 281474976710656) (hn : n ≤ maxLen)
    (hK : ∀ w', OwnsK w' w.heap.size e k (.slice (some ⟨w.heap.size, 0, none⟩) n n) n (madeCells z.cells (n * k)).toList → Below w.heap.size w w' → wpList P ops Q rest (a.put o.dst (.slice (some ⟨w.heap.size, 0, none⟩) n n)) w') : wpList P ops Q (o :: rest) a w := by
  obtain ⟨i, hi', hz, hsize, hby⟩ := info_parts hi
  exact wpList_make_full w hgd l c t hop w.heap.size e i z k ht hi' hz hsize kl kc L C n hl hc hL hC (by rw [hby]; exact hb) hn (Nat.le_refl _) fun w' h1 h2 => hK w' h1 ((Below.refl _ _).grown h2 (Nat.le_refl _) (by simp))

/-- the cells of a leaf -/
def lfc (tag kind n : Int) (s : List UInt8) : List Value := [.int .i64 tag, .int .i64 kind, .int .i64 n, .string ⟨s.toArray⟩, .slice none 0 0]
theorem kids_two {w : World} {g o cap : Nat} {t1 k1 n1 t2 k2 n2 : Int} {s1 s2 : List UInt8} (hs1 : s1.length ≤ maxLen) (hs2 : s2.length ≤ maxLen) (hc : 2 ≤ cap) (hm : cap ≤ maxLen) (hlt : g < w.heap.size) (h : ∀ j, j < 10 → w.cell? ⟨g, o + j, none⟩ = some ((lfc t1 k1 n1 s1 ++ lfc t2 k2 n2 s2).getD j .nilFunc)) :
    Kids w (some ⟨g, o, none⟩) 2 cap [.mk t1 k1 n1 s1 [], .mk t2 k2 n2 s2 []] := by
  refine ⟨rfl, hc, hm, by simp, .inr ⟨g, o, rfl, hlt, ?_⟩⟩
  simp only [KidsIn]
  refine ⟨⟨_, _, _, _, _, h 0 (by omega), h 1 (by omega), h 2 (by omega), h 3 (by omega), h 4 (by omega), leaf_in w t1 k1 n1 s1 hs1⟩, ⟨_, _, _, _, _, h 5 (by omega), h 6 (by omega), h 7 (by omega), h 8 (by omega), h 9 (by omega), leaf_in w t2 k2 n2 s2 hs2⟩, trivial⟩
def cps (t1 k1 n1 t2 k2 n2 : Int) (s1 s2 : List UInt8) : Nat → Array Value
  | 0 => #[.int .i64 0, .int .i64 0, .int .i64 0, .string ⟨#[]⟩, .slice none 0 0] ++ #[.int .i64 0, .int .i64 0, .int .i64 0, .string ⟨#[]⟩, .slice none 0 0]
  | 1 => (lfc t1 k1 n1 s1).toArray ++ #[.int .i64 0, .int .i64 0, .int .i64 0, .string ⟨#[]⟩, .slice none 0 0]
  | _ => (lfc t1 k1 n1 s1 ++ lfc t2 k2 n2 s2).toArray
def find2 (t2 k2 n2 : Int) (s2 : List UInt8) (x : Int) : Value := if t2 = x then .tuple #[.agg #[.int .i64 t2, .int .i64 k2, .int .i64 n2, .string ⟨s2.toArray⟩, .slice none 0 0], .bool true] else .tuple #[.agg #[.int .i64 0, .int .i64 0, .int .i64 0, .string ⟨#[]⟩, .slice none 0 0], .bool false]
end Go.Proofs.YthbfmioikbphgaaDoor
