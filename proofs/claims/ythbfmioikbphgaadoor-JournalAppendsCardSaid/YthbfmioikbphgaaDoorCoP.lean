/- Encodings of trees, plain: what is encoded is read back, what is read is an encoding, a beginning of an encoding ends too early. -/
import Derived.Test.YthbfmioikbphgaaDoorBase
namespace Go.Proofs.YthbfmioikbphgaaDoor
set_option maxRecDepth 100000
open Go.RowKit

/-- a tree -/
inductive NodeT where
  | mk (tag kind n : Int) (s : List UInt8) (kids : List NodeT)

def vEnc (n : Nat) : List UInt8 := if n < 128 then [UInt8.ofNat n] else UInt8.ofNat (n % 128 + 128) :: vEnc (n / 128)
  termination_by n

theorem vEnc_small {n : Nat} (h : n < 128) : vEnc n = [UInt8.ofNat n] := by rw [vEnc, if_pos h]
theorem vEnc_big {n : Nat} (h : ¬ n < 128) : vEnc n = UInt8.ofNat (n % 128 + 128) :: vEnc (n / 128) := by rw [vEnc, if_neg h]
theorem ofNat_toNat {n : Nat} (h : n < 256) : (UInt8.ofNat n).toNat = n := by simp [UInt8.toNat_ofNat']; omega
theorem toNat_ofNat (c : UInt8) : UInt8.ofNat c.toNat = c := by simp

/-- reading a varint: e is the error behind the end -/
def vDec (e : Int) : Nat → Nat → List UInt8 → Except Int (Nat × List UInt8)
  | _, _, [] => .error e
  | i, acc, c :: l =>
    if i = 9 ∧ 1 < c.toNat ∨ 0 < i ∧ c.toNat = 0 then .error 2
    else if c.toNat < 128 then .ok (acc + c.toNat % 128 * 128 ^ i, l)
    else vDec e (i + 1) (acc + c.toNat % 128 * 128 ^ i) l

theorem pow_bound {i m : Nat} (hi : i ≤ 9) (h : m * 128 ^ i < 18446744073709551616) : i = 9 → m ≤ 1 := by
  rintro rfl
  simp at h; omega

theorem vDec_enc (e : Int) (rest : List UInt8) : ∀ (m i acc : Nat), i ≤ 9 → (0 < i → 0 < m) → m * 128 ^ i < 18446744073709551616 → vDec e i acc (vEnc m ++ rest) = .ok (acc + m * 128 ^ i, rest) := by
  intro m
  induction m using Nat.strongRecOn with
  | ind m ih =>
    intro i acc hi h0 hb
    have h9 := pow_bound hi hb
    by_cases hm : m < 128
    · rw [vEnc_small hm]
      simp only [List.cons_append, List.nil_append, vDec]
      rw [ofNat_toNat (by omega), if_neg (by omega), if_pos hm, Nat.mod_eq_of_lt hm]
    · rw [vEnc_big hm]
      simp only [List.cons_append, vDec]
      have hmod : m % 128 < 128 := Nat.mod_lt _ (by omega)
      rw [ofNat_toNat (by omega), if_neg (by omega), if_neg (by omega)]
      have hd : m = m / 128 * 128 + m % 128 := by omega
      have hp : m * 128 ^ i = m / 128 * 128 ^ (i + 1) + m % 128 * 128 ^ i := by
        conv => lhs; rw [hd]
        rw [Nat.add_mul, Nat.pow_succ, Nat.mul_assoc, Nat.mul_comm 128 (128 ^ i)]
      rw [ih (m / 128) (by omega) (i + 1) _ (by omega) (by omega) (by omega)]
      have : (m % 128 + 128) % 128 = m % 128 := by omega
      rw [this]
      congr 2
      omega

theorem vDec_ok (e : Int) : ∀ (l : List UInt8) (i acc x : Nat) (rest : List UInt8), i ≤ 9 → vDec e i acc l = .ok (x, rest) →
    ∃ m, l = vEnc m ++ rest ∧ x = acc + m * 128 ^ i ∧ (0 < i → 0 < m) ∧ m * 128 ^ i < 18446744073709551616 := by
  intro l
  induction l with
  | nil => intro i acc x rest _ h; simp [vDec] at h
  | cons c l ih =>
    intro i acc x rest hi h
    have hc : c.toNat < 256 := c.toNat_lt
    simp only [vDec] at h
    split at h
    · cases h
    rename_i hg
    split at h
    · rename_i hlt
      cases h
      rw [Nat.mod_eq_of_lt hlt]
      refine ⟨c.toNat, ?_, rfl, by omega, ?_⟩
      · rw [vEnc_small hlt, toNat_ofNat]; rfl
      · by_cases h9 : i = 9
        · subst h9
          have : c.toNat ≤ 1 := by omega
          calc c.toNat * 128 ^ 9 ≤ 1 * 128 ^ 9 := Nat.mul_le_mul_right _ this
            _ < _ := by decide
        · have : 128 ^ i ≤ 128 ^ 8 := Nat.pow_le_pow_right (by omega) (by omega)
          calc c.toNat * 128 ^ i ≤ 128 * 128 ^ 8 := Nat.mul_le_mul (by omega) this
            _ < _ := by decide
    · rename_i hge
      have hi8 : i ≤ 8 := by omega
      obtain ⟨m', h1, h2, h3, h4⟩ := ih (i + 1) _ x rest (by omega) h
      have hm' : 0 < m' := h3 (by omega)
      have hmod : c.toNat % 128 = c.toNat - 128 := by omega
      have hlow : c.toNat % 128 < 128 := Nat.mod_lt _ (by omega)
      refine ⟨c.toNat % 128 + 128 * m', ?_, ?_, by omega, ?_⟩
      · rw [vEnc_big (by omega)]
        have e1 : (c.toNat % 128 + 128 * m') % 128 + 128 = c.toNat := by omega
        have e2 : (c.toNat % 128 + 128 * m') / 128 = m' := by omega
        rw [e1, e2, toNat_ofNat, h1]; rfl
      · rw [h2, Nat.add_mul, Nat.pow_succ, Nat.mul_comm 128 m', Nat.mul_assoc m', Nat.mul_comm 128 (128 ^ i)]; omega
      · obtain ⟨q, hq⟩ : ∃ q, 18446744073709551616 = q * 128 ^ (i + 1) := by
          match i, hi8 with
          | 0, _ => exact ⟨144115188075855872, by decide⟩
          | 1, _ => exact ⟨1125899906842624, by decide⟩
          | 2, _ => exact ⟨8796093022208, by decide⟩
          | 3, _ => exact ⟨68719476736, by decide⟩
          | 4, _ => exact ⟨536870912, by decide⟩
          | 5, _ => exact ⟨4194304, by decide⟩
          | 6, _ => exact ⟨32768, by decide⟩
          | 7, _ => exact ⟨256, by decide⟩
          | 8, _ => exact ⟨2, by decide⟩
        rw [hq] at h4 ⊢
        have hpos : 0 < 128 ^ (i + 1) := Nat.pow_pos (by omega)
        have hmq : m' < q := Nat.lt_of_mul_lt_mul_right h4
        have e3 : (c.toNat % 128 + 128 * m') * 128 ^ i = c.toNat % 128 * 128 ^ i + m' * 128 ^ (i + 1) := by
          rw [Nat.add_mul, Nat.pow_succ, Nat.mul_comm 128 m', Nat.mul_assoc m', Nat.mul_comm 128 (128 ^ i)]
        have e4 : c.toNat % 128 * 128 ^ i < 128 ^ (i + 1) := by
          rw [Nat.pow_succ, Nat.mul_comm (128 ^ i)]
          exact Nat.mul_lt_mul_of_pos_right hlow (Nat.pow_pos (by omega))
        have e5 : (m' + 1) * 128 ^ (i + 1) ≤ q * 128 ^ (i + 1) := Nat.mul_le_mul_right _ hmq
        rw [Nat.add_mul, Nat.one_mul] at e5
        omega

theorem vDec_cut (e : Int) : ∀ (m i acc : Nat) (p q : List UInt8), i ≤ 9 → (0 < i → 0 < m) → m * 128 ^ i < 18446744073709551616 → vEnc m = p ++ q → q ≠ [] → vDec e i acc p = .error e := by
  intro m
  induction m using Nat.strongRecOn with
  | ind m ih =>
    intro i acc p q hi h0 hb he hq
    have h9 := pow_bound hi hb
    cases p with
    | nil => rfl
    | cons c p =>
      by_cases hm : m < 128
      · rw [vEnc_small hm] at he
        simp at he
        exact absurd he.2.2 hq
      · rw [vEnc_big hm] at he
        simp only [List.cons_append, List.cons.injEq] at he
        obtain ⟨rfl, he⟩ := he
        have hmod : m % 128 < 128 := Nat.mod_lt _ (by omega)
        have hd : m = m / 128 * 128 + m % 128 := by omega
        have hp : m * 128 ^ i = m / 128 * 128 ^ (i + 1) + m % 128 * 128 ^ i := by
          conv => lhs; rw [hd]
          rw [Nat.add_mul, Nat.pow_succ, Nat.mul_assoc, Nat.mul_comm 128 (128 ^ i)]
        simp only [vDec]
        rw [ofNat_toNat (by omega), if_neg (by omega), if_neg (by omega)]
        exact ih (m / 128) (by omega) (i + 1) _ p q (by omega) (by omega) (by omega) he hq
/-- the natural number that stands for an integer, and back -/
def foldN (n : Int) : Nat := if 0 ≤ n then (2 * n).toNat else (-2 * n - 1).toNat
def unfoldN (x : Nat) : Int := if x % 2 = 0 then ((x / 2 : Nat) : Int) else -((x / 2 : Nat) : Int) - 1
theorem unfold_fold (n : Int) : unfoldN (foldN n) = n := by unfold unfoldN foldN; split <;> split <;> omega
theorem fold_unfold (x : Nat) : foldN (unfoldN x) = x := by unfold unfoldN foldN; split <;> split <;> omega
def I64 (n : Int) : Prop := -9223372036854775808 ≤ n ∧ n ≤ 9223372036854775807
theorem fold_lt {n : Int} (h : I64 n) : foldN n < 18446744073709551616 := by unfold I64 at h; unfold foldN; split <;> omega
theorem unfold_i64 {x : Nat} (h : x < 18446744073709551616) : I64 (unfoldN x) := by unfold I64 unfoldN; split <;> omega

mutual
/-- the encoding of a tree -/
def encT : NodeT → List UInt8
  | .mk tag kind n s kids => vEnc tag.toNat ++ (UInt8.ofNat kind.toNat :: (if kind = 1 then vEnc (foldN n) else if kind = 2 then vEnc s.length ++ s else vEnc kids.length ++ encL kids))
def encL : List NodeT → List UInt8
  | [] => []
  | t :: ts => encT t ++ encL ts
end
mutual
/-- whether a tree is valid at a level, but for the length of the whole encoding -/
def fitT (lv : Nat) : NodeT → Bool
  | .mk tag kind n s kids => decide (lv ≤ 8) && decide (0 ≤ tag) && decide (tag ≤ 9999999) && decide (s.length ≤ 2000) && decide (kids.length ≤ 1024) && (kind == 1 || n == 0) && (kind == 2 || s.length == 0) && (kind == 3 || kids.length == 0) && decide (1 ≤ kind) && decide (kind ≤ 3) && fitL (lv + 1) kids
def fitL (lv : Nat) : List NodeT → Bool
  | [] => true
  | t :: ts => fitT lv t && fitL lv ts
end
mutual
/-- the integers of a tree are 64-bit ones -/
def i64T : NodeT → Prop
  | .mk tag kind n _ kids => I64 tag ∧ I64 kind ∧ I64 n ∧ i64L kids
def i64L : List NodeT → Prop
  | [] => True
  | t :: ts => i64T t ∧ i64L ts
end
/-- reading several trees -/
def repD (g : List UInt8 → Except Int (NodeT × List UInt8)) : Nat → List UInt8 → Except Int (List NodeT × List UInt8)
  | 0, l => .ok ([], l)
  | k + 1, l => match g l with
    | .error e => .error e
    | .ok (t, l) => match repD g k l with
      | .error e => .error e
      | .ok (ts, l) => .ok (t :: ts, l)
/-- reading what is behind the kind -/
def bodyD (e : Int) (g : List UInt8 → Except Int (NodeT × List UInt8)) (tag k x : Nat) (l : List UInt8) : Except Int (NodeT × List UInt8) :=
  if k = 1 then .ok (.mk tag 1 (unfoldN x) [] [], l)
  else if k = 2 then (if 2000 < x then .error 5 else if l.length < x then .error e else .ok (.mk tag 2 0 (l.take x) [], l.drop x))
  else if 1024 < x then .error 5
  else match repD g x l with
    | .error e => .error e
    | .ok (ts, l) => .ok (.mk tag 3 0 [] ts, l)
/-- reading a tree: f is one more than the number of levels that may be opened -/
def nodeD (e : Int) : Nat → List UInt8 → Except Int (NodeT × List UInt8)
  | 0, _ => .error 5
  | f + 1, l => match vDec e 0 0 l with
    | .error x => .error x
    | .ok (tag, l) => if 9999999 < tag then .error 3 else match l with
      | [] => .error e
      | k :: l => if k.toNat < 1 ∨ 3 < k.toNat then .error 2 else match vDec e 0 0 l with
        | .error x => .error x
        | .ok (x, l) => bodyD e (nodeD e f) tag k.toNat x l

theorem fitT_iff {lv : Nat} {tag kind n : Int} {s : List UInt8} {kids : List NodeT} : fitT lv (.mk tag kind n s kids) = true ↔
    lv ≤ 8 ∧ 0 ≤ tag ∧ tag ≤ 9999999 ∧ s.length ≤ 2000 ∧ kids.length ≤ 1024 ∧ (kind = 1 ∨ n = 0) ∧ (kind = 2 ∨ s = []) ∧ (kind = 3 ∨ kids = []) ∧ 1 ≤ kind ∧ kind ≤ 3 ∧ fitL (lv + 1) kids = true := by
  simp only [fitT, Bool.and_eq_true, decide_eq_true_eq, Bool.or_eq_true, beq_iff_eq, List.length_eq_zero_iff, and_assoc]

/-- what is encoded is read back, whatever follows -/
theorem node_read (e : Int) : ∀ (f : Nat) (t : NodeT) (rest : List UInt8), f ≤ 8 → fitT (9 - f) t = true → i64T t → nodeD e f (encT t ++ rest) = .ok (t, rest) := by
  intro f
  induction f with
  | zero => intro t rest _ h _; obtain ⟨tag, kind, n, s, kids⟩ := t; rw [fitT_iff] at h; omega
  | succ f ih =>
    intro t rest hf h hi
    obtain ⟨tag, kind, n, s, kids⟩ := t
    rw [fitT_iff] at h
    obtain ⟨h1, h2, h3, h4, h5, h6, h7, h8, h9, h10, h11⟩ := h
    have hrep : ∀ (ts : List NodeT) (rest : List UInt8), fitL (9 - (f + 1) + 1) ts = true → i64L ts → repD (nodeD e f) ts.length (encL ts ++ rest) = .ok (ts, rest) := by
      intro ts
      induction ts with
      | nil => intro rest _ _; rfl
      | cons t ts iht =>
        intro rest hfl hil
        simp only [fitL, Bool.and_eq_true] at hfl
        simp only [i64L] at hil
        have e1 : 9 - (f + 1) + 1 = 9 - f := by omega
        rw [e1] at hfl
        simp only [List.length_cons, repD, encL, List.append_assoc]
        rw [ih t (encL ts ++ rest) (by omega) hfl.1 hil.1]
        simp only
        rw [iht rest (by rw [e1]; exact hfl.2) hil.2]
    simp only [i64T] at hi
    have hk : (UInt8.ofNat kind.toNat).toNat = kind.toNat := ofNat_toNat (by omega)
    unfold nodeD encT
    simp only [List.append_assoc, List.cons_append]
    rw [vDec_enc e _ tag.toNat 0 0 (by omega) (by omega) (by simp; omega)]
    simp only [Nat.pow_zero, Nat.mul_one, Nat.zero_add]
    rw [if_neg (by omega), hk, if_neg (by omega)]
    by_cases k1 : kind = 1
    · subst k1
      rw [if_pos rfl, vDec_enc e _ (foldN n) 0 0 (by omega) (by omega) (by simpa using fold_lt hi.2.2.1)]
      have hs : s = [] := by simpa using h7
      have hkk : kids = [] := by simpa using h8
      subst hs; subst hkk
      simp [bodyD, unfold_fold]; omega
    · rw [if_neg k1]
      have hn : n = 0 := by simpa [k1] using h6
      subst hn
      by_cases k2 : kind = 2
      · subst k2
        rw [if_pos rfl, List.append_assoc, vDec_enc e _ s.length 0 0 (by omega) (by omega) (by simp; omega)]
        have hkk : kids = [] := by simpa using h8
        subst hkk
        have e1 : ¬ (2000 < s.length) := by omega
        have e2 : ((tag.toNat : Nat) : Int) = tag := by omega
        simp [bodyD, e1, -Int.ofNat_toNat, e2]
      · obtain rfl : kind = 3 := by omega
        rw [if_neg k2, List.append_assoc, vDec_enc e _ kids.length 0 0 (by omega) (by omega) (by simp; omega)]
        have hs : s = [] := by simpa using h7
        subst hs
        simp only [bodyD, Nat.pow_zero, Nat.mul_one, Nat.zero_add]
        rw [if_neg (by decide), if_neg (by decide), if_neg (by omega), hrep kids rest h11 hi.2.2.2]
        simp; omega

theorem node_made (e : Int) : ∀ (f : Nat) (l : List UInt8) (t : NodeT) (rest : List UInt8), f ≤ 8 → nodeD e f l = .ok (t, rest) → fitT (9 - f) t = true ∧ i64T t ∧ l = encT t ++ rest := by
  intro f
  induction f with
  | zero => intro l t rest _ h; simp [nodeD] at h
  | succ f ih =>
    intro l t rest hf h
    have hrep : ∀ (k : Nat) (l : List UInt8) (ts : List NodeT) (rest : List UInt8), repD (nodeD e f) k l = .ok (ts, rest) → ts.length = k ∧ fitL (9 - (f + 1) + 1) ts = true ∧ i64L ts ∧ l = encL ts ++ rest := by
      intro k
      induction k with
      | zero => intro l ts rest h; simp [repD] at h; obtain ⟨rfl, rfl⟩ := h; simp [fitL, i64L, encL]
      | succ k ihk =>
        intro l ts rest h
        simp only [repD] at h
        split at h
        · cases h
        rename_i t l1 h1
        split at h
        · cases h
        rename_i ts' l2 h2
        cases h
        obtain ⟨a1, a2, a3⟩ := ih _ _ _ (by omega) h1
        obtain ⟨b1, b2, b3, b4⟩ := ihk _ _ _ h2
        have e1 : 9 - (f + 1) + 1 = 9 - f := by omega
        rw [e1] at b2 ⊢
        refine ⟨by simp [b1], by simp [fitL, a1, b2], ⟨a2, b3⟩, ?_⟩
        rw [a3, b4]; simp [encL]
    unfold nodeD at h
    split at h
    · cases h
    rename_i tag l1 h1
    split at h
    · cases h
    rename_i htag
    split at h
    · cases h
    rename_i k l2
    split at h
    · cases h
    rename_i hk
    split at h
    · cases h
    rename_i x l3 h3
    obtain ⟨m, e1, e2, -, e4⟩ := vDec_ok e _ 0 0 tag _ (by omega) h1
    obtain ⟨m', e1', e2', -, e4'⟩ := vDec_ok e _ 0 0 x _ (by omega) h3
    simp at e2 e4 e2' e4'
    subst e2; subst e2'
    have hkb : UInt8.ofNat k.toNat = k := toNat_ofNat k
    unfold bodyD at h
    split at h
    · rename_i k1
      cases h
      refine ⟨?_, ?_, ?_⟩
      · rw [fitT_iff]; simp [fitL]; omega
      · simp only [i64T, i64L]; exact ⟨by unfold I64; omega, by unfold I64; omega, unfold_i64 e4', trivial⟩
      · rw [e1, e1', ← hkb, k1]; simp [encT, fold_unfold]
    · rename_i k1
      split at h
      · rename_i k2
        split at h
        · cases h
        split at h
        · cases h
        rename_i hx1 hx2
        cases h
        refine ⟨?_, ?_, ?_⟩
        · rw [fitT_iff]; simp [fitL]; omega
        · simp only [i64T, i64L]; exact ⟨by unfold I64; omega, by unfold I64; omega, by unfold I64; omega, trivial⟩
        · rw [e1, e1', ← hkb, k2]; simp [encT]
          rw [Nat.min_eq_left (by omega)]
      · rename_i k2
        split at h
        · cases h
        rename_i hx1
        split at h
        · cases h
        rename_i ts l4 h4
        cases h
        obtain ⟨b1, b2, b3, b4⟩ := hrep _ _ _ _ h4
        have k3 : k.toNat = 3 := by omega
        refine ⟨?_, ?_, ?_⟩
        · rw [fitT_iff]; refine ⟨by omega, by omega, by omega, by simp, by omega, by simp, by simp, by simp, by omega, by omega, b2⟩
        · simp only [i64T]; exact ⟨by unfold I64; omega, by unfold I64; omega, by unfold I64; omega, b3⟩
        · rw [e1, e1', ← hkb, k3]; simp [encT, b1, b4]
theorem append_split {α : Type} {a b p q : List α} (h : a ++ b = p ++ q) (_hq : q ≠ []) : (∃ r, r ≠ [] ∧ a = p ++ r) ∨ ∃ p', p = a ++ p' ∧ b = p' ++ q := by
  rcases List.append_eq_append_iff.1 h with ⟨a', h1, h2⟩ | ⟨c', h1, h2⟩
  · exact .inr ⟨a', h1, h2⟩
  · by_cases hc : c' = []
    · subst hc
      simp at h1 h2
      exact .inr ⟨[], by simp [h1], by simp [h2]⟩
    · exact .inl ⟨c', hc, h1⟩

/-- a proper beginning of an encoding ends too early -/
theorem node_cut (e : Int) : ∀ (f : Nat) (t : NodeT) (p q : List UInt8), f ≤ 8 → fitT (9 - f) t = true → i64T t → encT t = p ++ q → q ≠ [] → nodeD e f p = .error e := by
  intro f
  induction f with
  | zero => intro t p q _ h _ _ _; obtain ⟨tag, kind, n, s, kids⟩ := t; rw [fitT_iff] at h; omega
  | succ f ih =>
    intro t p q hf h hi he hq
    obtain ⟨tag, kind, n, s, kids⟩ := t
    rw [fitT_iff] at h
    obtain ⟨h1, h2, h3, h4, h5, h6, h7, h8, h9, h10, h11⟩ := h
    have hrep : ∀ (ts : List NodeT) (p : List UInt8), fitL (9 - (f + 1) + 1) ts = true → i64L ts → encL ts = p ++ q → repD (nodeD e f) ts.length p = .error e := by
      intro ts
      induction ts with
      | nil => intro p _ _ h; simp [encL] at h; exact absurd h.2 hq
      | cons t ts iht =>
        intro p hfl hil hel
        simp only [fitL, Bool.and_eq_true] at hfl
        simp only [i64L] at hil
        have e1 : 9 - (f + 1) + 1 = 9 - f := by omega
        rw [e1] at hfl
        simp only [encL] at hel
        simp only [List.length_cons, repD]
        rcases append_split hel hq with ⟨r, hr, hp⟩ | ⟨p', rfl, hp⟩
        · rw [ih t p r (by omega) hfl.1 hil.1 hp hr]
        · rw [node_read e f t p' (by omega) hfl.1 hil.1]
          simp only
          rw [iht p' (by rw [e1]; exact hfl.2) hil.2 hp]
    simp only [i64T] at hi
    have hk : (UInt8.ofNat kind.toNat).toNat = kind.toNat := ofNat_toNat (by omega)
    unfold nodeD
    simp only [encT] at he
    rcases append_split he hq with ⟨r, hr, hp⟩ | ⟨p', rfl, hp⟩
    · rw [vDec_cut e tag.toNat 0 0 p r (by omega) (by omega) (by simp; omega) hp hr]
    · rw [vDec_enc e _ tag.toNat 0 0 (by omega) (by omega) (by simp; omega)]
      simp only [Nat.pow_zero, Nat.mul_one, Nat.zero_add]
      rw [if_neg (by omega)]
      cases p' with
      | nil => rfl
      | cons k p' =>
        simp only [List.cons_append, List.cons.injEq] at hp
        obtain ⟨rfl, hp⟩ := hp
        simp only
        rw [hk, if_neg (by omega)]
        by_cases k1 : kind = 1
        · subst k1
          rw [if_pos rfl] at hp
          rw [vDec_cut e (foldN n) 0 0 p' q (by omega) (by omega) (by simpa using fold_lt hi.2.2.1) hp hq]
        · rw [if_neg k1] at hp
          by_cases k2 : kind = 2
          · subst k2
            rw [if_pos rfl] at hp
            rcases append_split hp hq with ⟨r, hr, hp3⟩ | ⟨p2, rfl, hp3⟩
            · rw [vDec_cut e s.length 0 0 p' r (by omega) (by omega) (by simp; omega) hp3 hr]
            · rw [vDec_enc e _ s.length 0 0 (by omega) (by omega) (by simp; omega)]
              have hl : p2.length < s.length := by
                have hh := congrArg List.length hp3
                rw [List.length_append] at hh
                have : 0 < q.length := List.length_pos_iff.2 hq
                omega
              have e1 : ¬ (2000 < s.length) := by omega
              simp [bodyD, e1, hl]
          · rw [if_neg k2] at hp
            obtain rfl : kind = 3 := by omega
            rcases append_split hp hq with ⟨r, hr, hp3⟩ | ⟨p2, rfl, hp3⟩
            · rw [vDec_cut e kids.length 0 0 p' r (by omega) (by omega) (by simp; omega) hp3 hr]
            · rw [vDec_enc e _ kids.length 0 0 (by omega) (by omega) (by simp; omega)]
              simp only [bodyD, Nat.pow_zero, Nat.mul_one, Nat.zero_add]
              rw [if_neg (by decide), if_neg (by decide), if_neg (by omega), hrep kids p2 h11 hi.2.2.2 hp3]

theorem enc_inj {t u : NodeT} (ht : fitT 1 t = true) (hu : fitT 1 u = true) (hti : i64T t) (hui : i64T u) (h : encT t = encT u) : t = u := by
  have a := node_read 0 8 t [] (by omega) ht hti
  have b := node_read 0 8 u [] (by omega) hu hui
  rw [h] at a
  rw [a] at b
  cases b; rfl

mutual
def eqT : NodeT → NodeT → Bool
  | .mk tag kind n s kids, .mk tag' kind' n' s' kids' => tag == tag' && kind == kind' && n == n' && s == s' && eqL kids kids'
def eqL : List NodeT → List NodeT → Bool
  | [], [] => true
  | t :: ts, u :: us => eqT t u && eqL ts us
  | _, _ => false
end
mutual
theorem eqT_iff : ∀ (t u : NodeT), eqT t u = true ↔ t = u
  | .mk tag kind n s kids, .mk tag' kind' n' s' kids' => by
    simp only [eqT, Bool.and_eq_true, beq_iff_eq, eqL_iff kids kids', NodeT.mk.injEq, and_assoc]
theorem eqL_iff : ∀ (ts us : List NodeT), eqL ts us = true ↔ ts = us
  | [], [] => by simp [eqL]
  | [], _ :: _ => by simp [eqL]
  | _ :: _, [] => by simp [eqL]
  | t :: ts, u :: us => by simp only [eqL, Bool.and_eq_true, eqT_iff t u, eqL_iff ts us, List.cons.injEq]
end
mutual
/-- how deep a tree is -/
def depT : NodeT → Nat
  | .mk _ _ _ _ kids => depL kids + 1
def depL : List NodeT → Nat
  | [] => 0
  | t :: ts => max (depT t) (depL ts)
end
theorem depL_mem {ts : List NodeT} {i : Nat} (h : i < ts.length) : depT ts[i] ≤ depL ts := by
  induction ts generalizing i with
  | nil => simp at h
  | cons t ts ih =>
    cases i with
    | zero => simp [depL]; omega
    | succ i => have := ih (i := i) (by simpa using h); simp [depL]; omega

end Go.Proofs.YthbfmioikbphgaaDoor
