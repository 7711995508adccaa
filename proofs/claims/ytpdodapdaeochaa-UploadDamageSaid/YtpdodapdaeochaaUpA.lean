/- Uploads: packets in memory, read or in a slice that grows. Plain lemmas, no condition. -/
import Derived.Test.YtpdodapdaeochaaWide
import Derived.Test.YtpdodapdaeochaaWalkB
import Derived.Test.YtpdodapdaeochaaDigR
import Derived.Test.YtpdodapdaeochaaUpP
import Derived.Lib.BufferRead
namespace Go.Proofs.Ytpdodapdaeochaa
set_option maxRecDepth 100000
open Go.RowKit

/-! ### Bytes beside a block that grows -/
/-- the bytes do not lie in block g -/
def OffB (g : Nat) (a : Option Addr) (n : Nat) : Prop := n = 0 ∨ ∀ x, a = some x → x.block ≠ g
/-- the slice is empty or lies from block B on -/
def Under' (B : Nat) (a : Option Addr) (len : Nat) : Prop := len = 0 ∨ ∀ x, a = some x → B ≤ x.block
theorem Under'.off {B g : Nat} {a : Option Addr} {len : Nat} (h : Under' B a len) (hg : g < B) : OffB g a len := h.imp id fun h x hx => by have := h x hx; omega
theorem Bytes.gby {w w' : World} {g : Option Nat} {a : Option Addr} {len cap : Nat} {xs : List UInt8} (h : Bytes w a len cap xs) (hg : w.grownBy w' g) (hne : ∀ j, g = some j → OffB j a len) : Bytes w' a len cap xs := by
  obtain ⟨h1, h2, h3, h4, h5⟩ := h
  refine ⟨h1, h2, h3, h4, ?_⟩
  rcases h5 with h5 | ⟨b, off, rfl, hlt, hc⟩
  · exact .inl h5
  refine .inr ⟨b, off, rfl, Nat.lt_of_lt_of_le hlt hg.size, fun i hi => ?_⟩
  rw [← hc i hi]
  have := hg.block b hlt (fun e => by
    rcases hne b e.symm with h | h
    · omega
    · exact h _ rfl rfl)
  simp only [World.cell?, this]
theorem gby_set (w : World) (g o : Nat) (v : Value) : w.grownBy (w.setCell ⟨g, o, none⟩ v) (some g) :=
  ⟨rfl, rfl, rfl, by simp, fun k _ hk => heap_setCell_other w ⟨g, o, none⟩ k v (fun e => hk (by simp [e]))⟩
theorem Bytes.set {w : World} {a : Option Addr} {len cap : Nat} {xs : List UInt8} (h : Bytes w a len cap xs) {g : Nat} (ho : OffB g a len) (o : Nat) (v : Value) : Bytes (w.setCell ⟨g, o, none⟩ v) a len cap xs :=
  h.gby (gby_set w g o v) fun j e => by cases e; exact ho
theorem Bytes.offNew {w : World} {g : Nat} {a : Option Addr} {len cap : Nat} {xs : List UInt8} (h : Bytes w a len cap xs) (hg : w.heap.size ≤ g) : OffB g a len := by
  rcases h.under with h | h
  · exact .inl h
  · exact .inr fun x hx => by have := h x hx; omega
theorem Bytes.sub {w : World} {a : Option Addr} {len cap : Nat} {bs : List UInt8} (h : Bytes w a len cap bs) (pos n : Nat) (hn : pos + n ≤ len) : Bytes w (if cap = pos then a else Option.map (fun x => x.add pos) a) n (cap - pos) ((bs.drop pos).take n) := by
  have hc := h.2
  by_cases hp : cap = pos
  · rw [if_pos hp]
    have hlc := hc.1
    obtain rfl : n = 0 := by omega
    exact ⟨by simp, by omega, by have := hc.2.1; omega, fun _ => by omega, .inl rfl⟩
  · rw [if_neg hp]
    rcases hc.2.2.2 with h0 | ⟨b, off, rfl, hlt, hcc⟩
    · have hlc := hc.1
      obtain rfl : n = 0 := by omega
      refine ⟨by simp, by omega, by have := hc.2.1; omega, fun hnone => ?_, .inl rfl⟩
      cases a with
      | none => have := hc.2.2.1 rfl; omega
      | some x => simp at hnone
    · have h1 := h.suf pos (by omega)
      have h2 := h1.pre n (by omega)
      simpa [addr_add] using h2
/-- bytes as a string -/
theorem str_of {w : World} {a : Option Addr} {n c : Nat} {l : List UInt8} (h : Bytes w a n c l) : (convert 22 9 (.slice a n c)).run Try.prog w = .ok (.string ⟨l.toArray⟩) w := by
  obtain ⟨hl, h1, h2, h3, h4⟩ := h
  subst hl
  cases a with
  | none =>
    have hc := h3 rfl
    obtain rfl : l = [] := List.eq_nil_of_length_eq_zero (by omega)
    exact Lib.run_convert_nil_bytes w _ _ _ c Try.underlying22 Try.underlying5 Try.underlying9
  | some x =>
    refine run_convert_bytes_back w _ _ _ x c l Try.underlying22 Try.underlying5 Try.underlying9 fun j hj => ?_
    rcases h4 with h0 | ⟨b, off, hbo, hlt, hc⟩
    · omega
    · cases hbo
      rw [addr_add, hc j hj]
      simp [List.getD, hj]

theorem eql_nil {P : Program} (w : World) {t e : TypeId} (a : Option Addr) (n c : Nat) (h : P.underlying t = some (.slice e)) : (binOp .eql t (.slice a n c) (.slice none 0 0)).run P w = .ok (.bool a.isNone) w := by
  have h0 : ∀ d : Nat, (Op.equalIn (d + 1) t (.slice a n c) (.slice none 0 0)).run P w = .ok a.isNone w := fun d => by
    cases a <;> simp [Op.equalIn, run_underlying h]
  have h1 : (Op.equal t (.slice a n c) (.slice none 0 0)).run P w = .ok a.isNone w := h0 9999
  simp [binOp, h1]

/-! ### Packets -/
structure PkM where
  se : Nat
  pos : Nat
  da : List UInt8
  su : UInt64
def PkM.zero : PkM := ⟨0, 0, [], 0⟩
instance : Inhabited PkM := ⟨PkM.zero⟩
/-- a packet, by value -/
def PkV (w : World) (v : Value) (m : PkM) : Prop := ∃ a n c, v = .agg #[.int .i64 m.se, .int .i64 m.pos, .slice a n c, .int .u64 (m.su.toNat : Int)] ∧ Bytes w a n c m.da
theorem PkV.below {w w' : World} {v : Value} {m : PkM} (h : PkV w v m) (hb : Below w.heap.size w w') : PkV w' v m := by
  obtain ⟨a, n, c, e, h⟩ := h
  exact ⟨a, n, c, e, h.below hb⟩
/-- a packet in memory -/
def PkAt (w : World) (b off : Nat) (m : PkM) : Prop := ∃ a n c, w.cell? ⟨b, off, none⟩ = some (.int .i64 m.se) ∧ w.cell? ⟨b, off + 1, none⟩ = some (.int .i64 m.pos) ∧ w.cell? ⟨b, off + 2, none⟩ = some (.slice a n c) ∧ w.cell? ⟨b, off + 3, none⟩ = some (.int .u64 (m.su.toNat : Int)) ∧ Bytes w a n c m.da
theorem PkAt.below {w w' : World} {b off : Nat} {m : PkM} (h : PkAt w b off m) (hlt : b < w.heap.size) (hb : Below w.heap.size w w') : PkAt w' b off m := by
  obtain ⟨a, n, c, h0, h1, h2, h3, h4⟩ := h
  exact ⟨a, n, c, bc hb hlt h0, bc hb hlt h1, bc hb hlt h2, bc hb hlt h3, h4.below hb⟩
/-- a slice of packets: number i is f i -/
def PksIn (w : World) (a : Option Addr) (len cap : Nat) (f : Nat → PkM) : Prop :=
  len ≤ cap ∧ cap ≤ maxLen ∧ (a = none → cap = 0) ∧ (len = 0 ∨ ∃ b off, a = some ⟨b, off, none⟩ ∧ b < w.heap.size ∧ ∀ i, i < len → PkAt w b (off + i * 4) (f i))
theorem PksIn.below {w w' : World} {a : Option Addr} {len cap : Nat} {f : Nat → PkM} (h : PksIn w a len cap f) (hb : Below w.heap.size w w') : PksIn w' a len cap f := by
  obtain ⟨h1, h2, h3, h4⟩ := h
  refine ⟨h1, h2, h3, ?_⟩
  rcases h4 with h4 | ⟨b, off, rfl, hlt, hc⟩
  · exact .inl h4
  · exact .inr ⟨b, off, rfl, Nat.lt_of_lt_of_le hlt hb.size, fun i hi => (hc i hi).below hlt hb⟩
theorem PksIn.at {w : World} {a : Option Addr} {len cap : Nat} {f : Nat → PkM} (h : PksIn w a len cap f) {k : Nat} (hk : k < len) :
    ∃ b off, a = some ⟨b, off, none⟩ ∧ b < w.heap.size ∧ ∀ i, i < len → PkAt w b (off + i * 4) (f i) := by
  rcases h.2.2.2 with h | ⟨b, off, rfl, hlt, hc⟩
  · omega
  · exact ⟨b, off, rfl, hlt, hc⟩
theorem PksIn.congr {w : World} {a : Option Addr} {len cap : Nat} {f g : Nat → PkM} (h : PksIn w a len cap f) (e : ∀ i, i < len → f i = g i) : PksIn w a len cap g := by
  obtain ⟨h1, h2, h3, h4⟩ := h
  refine ⟨h1, h2, h3, ?_⟩
  rcases h4 with h4 | ⟨b, off, rfl, hlt, hc⟩
  · exact .inl h4
  · exact .inr ⟨b, off, rfl, hlt, fun i hi => by rw [← e i hi]; exact hc i hi⟩
theorem PksIn.nil (w : World) (f : Nat → PkM) : PksIn w none 0 0 f := ⟨Nat.le_refl _, by simp [maxLen], fun _ => rfl, .inl rfl⟩

theorem infoPacket : (Try.prog.info? 35).map (fun i => (i.zero, i.size, i.bytes)) = some (some (.agg #[.int .i64 0, .int .i64 0, .slice none 0 0, .int .u64 0]), 4, 48) := by kernel_rfl

/-- one of the packets of a slice that grows: its bytes are not in the slice's own block -/
def PUi (w : World) (v : Value) (cs : List Value) (i : Nat) (m : PkM) : Prop := ∃ a n c, cs.getD (i * 4) .nilFunc = .int .i64 m.se ∧ cs.getD (i * 4 + 1) .nilFunc = .int .i64 m.pos ∧ cs.getD (i * 4 + 2) .nilFunc = .slice a n c ∧ cs.getD (i * 4 + 3) .nilFunc = .int .u64 (m.su.toNat : Int) ∧
  Bytes w a n c m.da ∧ ∀ g, v.ownBlock = some g → OffB g a n
/-- a slice of k packets that grows -/
def PU (w : World) (B : Nat) (v : Value) (k : Nat) (f : Nat → PkM) : Prop := ∃ cs : List Value, OwnsK w B 35 4 v k cs ∧ ∀ i, i < k → PUi w v cs i (f i)
theorem PU.nil (w : World) (B : Nat) (f : Nat → PkM) : PU w B (.slice none 0 0) 0 f := ⟨[], OwnsK.nil _ _ _ _, fun i hi => by omega⟩
theorem PUi.by {w w' : World} {v : Value} {cs : List Value} {i : Nat} {m : PkM} {g : Option Nat} (h : PUi w v cs i m) (hg : w.grownBy w' g) (hne : ∀ j a n, g = some j → (∀ g, v.ownBlock = some g → OffB g a n) → (n = 0 ∨ ∀ x, a = some x → x.block < w.heap.size) → OffB j a n) : PUi w' v cs i m := by
  obtain ⟨a, n, c, h0, h1, h2, h3, h4, h5⟩ := h
  exact ⟨a, n, c, h0, h1, h2, h3, h4.gby hg fun j hj => hne j a n hj h5 h4.under, h5⟩
theorem PUi.later {w w' : World} {v : Value} {cs : List Value} {i : Nat} {m : PkM} (h : PUi w v cs i m) (hb : Below w.heap.size w w') : PUi w' v cs i m := by
  obtain ⟨a, n, c, e0, e1, e2, e3, e4, e5⟩ := h
  exact ⟨a, n, c, e0, e1, e2, e3, e4.below hb, e5⟩
theorem PU.later {w w' : World} {B k : Nat} {v : Value} {f : Nat → PkM} (h : PU w B v k f) (hb : Below w.heap.size w w') : PU w' B v k f := by
  obtain ⟨cs, h1, h2⟩ := h
  refine ⟨cs, h1.later hb, fun i hi => ?_⟩
  obtain ⟨a, n, c, e0, e1, e2, e3, e4, e5⟩ := h2 i hi
  exact ⟨a, n, c, e0, e1, e2, e3, e4.below hb, e5⟩
theorem PU.mono {w : World} {B B' k : Nat} {v : Value} {f : Nat → PkM} (h : PU w B v k f) (hB : B' ≤ B) : PU w B' v k f := by
  obtain ⟨cs, h1, h2⟩ := h
  exact ⟨cs, h1.mono hB, h2⟩
theorem PU.congr {w : World} {B k : Nat} {v : Value} {f g : Nat → PkM} (h : PU w B v k f) (e : ∀ i, i < k → f i = g i) : PU w B v k g := by
  obtain ⟨cs, h1, h2⟩ := h
  exact ⟨cs, h1, fun i hi => by rw [← e i hi]; exact h2 i hi⟩
theorem OffB.grew {w w' : World} {v v' : Value} {a : Option Addr} {n c : Nat} {xs : List UInt8} (h : Bytes w a n c xs) (hg : Grew w w' v v') (ho : ∀ g, v.ownBlock = some g → OffB g a n) : Bytes w' a n c xs ∧ ∀ g, v'.ownBlock = some g → OffB g a n := by
  refine ⟨h.gby hg.1 ho, fun g hv => ?_⟩
  rcases hg.2 with h5 | h5
  · exact ho g (by rw [← h5]; exact hv)
  · exact h.offNew (h5 g hv)
theorem PU.step {w w' : World} {B k : Nat} {v v' : Value} {f : Nat → PkM} {cs : List Value} {m : PkM} {a : Option Addr} {n c : Nat} (hl : OwnsK w B 35 4 v k cs) (h3 : ∀ i, i < k → PUi w v cs i (f i))
    (hg : Grew w w' v v') (hO : OwnsK w' B 35 4 v' (k + 1) (cs ++ [.int .i64 m.se, .int .i64 m.pos, .slice a n c, .int .u64 (m.su.toNat : Int)])) (hX : Bytes w a n c m.da) (ho : ∀ g, v.ownBlock = some g → OffB g a n) (hf : f k = m) : PU w' B v' (k + 1) f := by
  refine ⟨_, hO, fun i hi => ?_⟩
  have hl : cs.length = k * 4 := hl.1
  have hget : ∀ j, j < k * 4 → (cs ++ [Value.int .i64 m.se, .int .i64 m.pos, .slice a n c, .int .u64 (m.su.toNat : Int)]).getD j .nilFunc = cs.getD j .nilFunc := fun j hj => by
    simp [List.getD, List.getElem?_append_left (by omega : j < cs.length)]
  have hget2 : ∀ j, (cs ++ [Value.int .i64 m.se, .int .i64 m.pos, .slice a n c, .int .u64 (m.su.toNat : Int)]).getD (k * 4 + j) .nilFunc = ([.int .i64 m.se, .int .i64 m.pos, .slice a n c, .int .u64 (m.su.toNat : Int)] : List Value).getD j .nilFunc := fun j => by
    simp only [List.getD]
    rw [List.getElem?_append_right (by omega), show k * 4 + j - cs.length = j by omega]
  by_cases hik : i < k
  · obtain ⟨a0, n0, c0, e0, e1, e2, e3, e4, e5⟩ := h3 i hik
    obtain ⟨p1, p2⟩ := OffB.grew e4 hg e5
    exact ⟨a0, n0, c0, by rw [hget _ (by omega)]; exact e0, by rw [hget _ (by omega)]; exact e1, by rw [hget _ (by omega)]; exact e2, by rw [hget _ (by omega)]; exact e3, p1, p2⟩
  · obtain rfl : i = k := by omega
    obtain ⟨p1, p2⟩ := OffB.grew hX hg ho
    subst hf
    exact ⟨a, n, c, hget2 0, hget2 1, hget2 2, hget2 3, p1, p2⟩
theorem PU.in {w : World} {B n : Nat} {v : Value} {f : Nat → PkM} (h : PU w B v n f) : ∃ a c, v = .slice a n c ∧ PksIn w a n c f := by
  obtain ⟨cs, h1, h3⟩ := h
  rcases h1.form with ⟨rfl, rfl, -⟩ | ⟨g, cap, rfl, hnc, hcm, -, hlt, hc, -⟩
  · exact ⟨none, 0, rfl, Nat.le_refl _, by simp [maxLen], fun _ => rfl, .inl rfl⟩
  · refine ⟨_, _, rfl, hnc, hcm, by simp, .inr ⟨g, 0, rfl, hlt, fun i hi => ?_⟩⟩
    obtain ⟨a, n0, c0, e0, e1, e2, e3, e4, -⟩ := h3 i hi
    rw [Nat.zero_add]
    exact ⟨a, n0, c0, by rw [hc _ (by omega), e0], by rw [hc _ (by omega), e1], by rw [hc _ (by omega), e2], by rw [hc _ (by omega), e3], e4⟩

/-- the checksum of a packet -/
def sumU (se pos : Nat) (da : List UInt8) : UInt64 := digChain (digNum (digNum (digOf []) (UInt64.ofNat se)) (UInt64.ofNat pos)) da

end Go.Proofs.Ytpdodapdaeochaa
