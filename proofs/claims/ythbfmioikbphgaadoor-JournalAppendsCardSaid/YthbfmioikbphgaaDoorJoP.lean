/- Journals, plain: numbers of some bytes, one entry, the longest intact prefix. -/
import Derived.Test.YthbfmioikbphgaaDoorCoH
import Derived.Test.YthbfmioikbphgaaDoorDigP
namespace Go.Proofs.YthbfmioikbphgaaDoor
set_option maxRecDepth 100000

/-- the number of some bytes, the most significant one first -/
def beN (xs : List UInt8) : Nat := xs.foldl (fun v c => v * 256 + c.toNat) 0
theorem beN_snoc (xs : List UInt8) (c : UInt8) : beN (xs ++ [c]) = beN xs * 256 + c.toNat := by simp [beN]
theorem beN_lt : ∀ (n : Nat) (xs : List UInt8), xs.length = n → beN xs < 256 ^ n
  | 0, xs, h => by have : xs = [] := List.eq_nil_of_length_eq_zero h; subst this; simp [beN]
  | n + 1, xs, h => by
    obtain ⟨ys, c, rfl⟩ : ∃ ys c, xs = ys ++ [c] := ⟨xs.dropLast, xs.getLast (by intro e; subst e; simp at h), (List.dropLast_concat_getLast _).symm⟩
    have ih := beN_lt n ys (by simpa using h)
    rw [beN_snoc, Nat.pow_succ]
    have := c.toNat_lt
    omega
theorem beN_fold : ∀ (ys : List UInt8) (a : Nat), ys.foldl (fun v c => v * 256 + c.toNat) a = a * 256 ^ ys.length + beN ys
  | [], a => by simp [beN]
  | c :: ys, a => by
    have h1 := beN_fold ys (a * 256 + c.toNat)
    have h2 := beN_fold ys (0 * 256 + c.toNat)
    show ys.foldl _ (a * 256 + c.toNat) = _
    have h3 : beN (c :: ys) = ys.foldl (fun v c => v * 256 + c.toNat) (0 * 256 + c.toNat) := rfl
    rw [h1, h3, h2, List.length_cons, Nat.pow_succ, Nat.zero_mul, Nat.zero_add, Nat.add_mul, Nat.mul_assoc, Nat.mul_comm 256]
    omega
theorem beN_app (xs ys : List UInt8) : beN (xs ++ ys) = beN xs * 256 ^ ys.length + beN ys := by
  have : beN (xs ++ ys) = ys.foldl (fun v c => v * 256 + c.toNat) (beN xs) := by simp [beN]
  rw [this, beN_fold]
theorem beN_inj : ∀ (n : Nat) (xs ys : List UInt8), xs.length = n → ys.length = n → beN xs = beN ys → xs = ys
  | 0, xs, ys, h, h', _ => by rw [List.eq_nil_of_length_eq_zero h, List.eq_nil_of_length_eq_zero h']
  | n + 1, xs, ys, h, h', e => by
    obtain ⟨xs, c, rfl⟩ : ∃ zs c, xs = zs ++ [c] := ⟨xs.dropLast, xs.getLast (by intro e; subst e; simp at h), (List.dropLast_concat_getLast _).symm⟩
    obtain ⟨ys, d, rfl⟩ : ∃ zs c, ys = zs ++ [c] := ⟨ys.dropLast, ys.getLast (by intro e; subst e; simp at h'), (List.dropLast_concat_getLast _).symm⟩
    rw [beN_snoc, beN_snoc] at e
    have h1 := c.toNat_lt
    have h2 := d.toNat_lt
    have e1 : beN xs = beN ys := by omega
    have e2 : c = d := UInt8.toNat_inj.1 (by omega)
    rw [beN_inj n xs ys (by simpa using h) (by simpa using h') e1, e2]
theorem beList_len (v : UInt64) : ∀ n, (beList v n).length = n
  | 0 => rfl
  | n + 1 => by simp [beList, beList_len v n]
theorem beN_list (v : UInt64) : ∀ n, beN (beList v n) = v.toNat % 256 ^ n
  | 0 => by simp [beList, beN, Nat.mod_one]
  | n + 1 => by
    have e : beList v (n + 1) = [byteAt v n] ++ beList v n := rfl
    rw [e, beN_app, beN_list v n, beList_len]
    have h1 : beN [byteAt v n] = v.toNat / 256 ^ n % 256 := by
      have hp : (2 : Nat) ^ (8 * n) = 256 ^ n := by rw [Nat.pow_mul]
      simp [beN, byteAt, hp]
    rw [h1, Nat.pow_succ, Nat.mod_mul]
    rw [Nat.add_comm, Nat.mul_comm]
theorem beN_be8 (v : UInt64) : beN (be8 v) = v.toNat := by
  unfold be8
  rw [beN_list, Nat.mod_eq_of_lt]
  exact v.toNat_lt
theorem be8_of {xs : List UInt8} (h : xs.length = 8) {v : UInt64} (e : beN xs = v.toNat) : xs = be8 v := beN_inj 8 _ _ h (beList_len v 8) (by rw [e, beN_be8])

/-! ### Decode never fails with 0 -/
theorem vDec_ne {e x : Int} (he : e ≠ 0) : ∀ (l : List UInt8) (i acc : Nat), vDec e i acc l = .error x → x ≠ 0
  | [], i, acc, h => by
    simp only [vDec, Except.error.injEq] at h
    rw [← h]; exact he
  | c :: l, i, acc, h => by
    simp only [vDec] at h
    split at h
    · simp only [Except.error.injEq] at h; rw [← h]; decide
    · split at h
      · cases h
      · exact vDec_ne he l _ _ h
theorem repD_ne {x : Int} {g : List UInt8 → Except Int (NodeT × List UInt8)} (hg : ∀ l, g l = .error x → x ≠ 0) : ∀ (k : Nat) (l : List UInt8), repD g k l = .error x → x ≠ 0
  | 0, l, h => by simp [repD] at h
  | k + 1, l, h => by
    simp only [repD] at h
    split at h
    · rename_i e' he'
      simp only [Except.error.injEq] at h
      subst h
      exact hg l he'
    · split at h
      · rename_i he2
        simp only [Except.error.injEq] at h
        subst h
        exact repD_ne hg k _ he2
      · cases h
theorem nodeD_ne {e x : Int} (he : e ≠ 0) : ∀ (f : Nat) (l : List UInt8), nodeD e f l = .error x → x ≠ 0
  | 0, l, h => by simp only [nodeD, Except.error.injEq] at h; rw [← h]; decide
  | f + 1, l, h => by
    simp only [nodeD] at h
    split at h
    · rename_i he1
      simp only [Except.error.injEq] at h
      subst h
      exact vDec_ne he _ _ _ he1
    · split at h
      · simp only [Except.error.injEq] at h; rw [← h]; decide
      · split at h
        · simp only [Except.error.injEq] at h; rw [← h]; exact he
        · split at h
          · simp only [Except.error.injEq] at h; rw [← h]; decide
          · split at h
            · rename_i he2
              simp only [Except.error.injEq] at h
              subst h
              exact vDec_ne he _ _ _ he2
            · unfold bodyD at h
              split at h
              · cases h
              · split at h
                · split at h
                  · simp only [Except.error.injEq] at h; rw [← h]; decide
                  · split at h
                    · simp only [Except.error.injEq] at h; rw [← h]; exact he
                    · cases h
                · split at h
                  · simp only [Except.error.injEq] at h; rw [← h]; decide
                  · split at h
                    · rename_i he3
                      simp only [Except.error.injEq] at h
                      subst h
                      exact repD_ne (fun l h => nodeD_ne he f l h) _ _ he3
                    · cases h
theorem decR_ne {bs : List UInt8} {x : Int} (h : decR bs = .error x) : x ≠ 0 := by
  unfold decR at h
  split at h
  · exact nodeD_ne (by decide) _ _ h
  · exact nodeD_ne (by decide) _ _ h
theorem decR_len {bs l : List UInt8} {t : NodeT} (h : decR bs = .ok (t, l)) (hb : bs.length ≤ 2000) : bs = encT t ++ l ∧ i64T t := by
  unfold decR at h
  rw [List.take_of_length_le (by omega)] at h
  obtain ⟨-, h2, h3⟩ := node_made _ 8 _ _ _ (Nat.le_refl _) h
  exact ⟨h3, h2⟩

/-! ### One entry -/
def bodyJ (rest : List UInt8) : List UInt8 := rest.take (beN (rest.take 4) + 4)
def decJ (k : Nat) (s : UInt64) : Except Int (NodeT × List UInt8) → Except Int (NodeT × Nat × UInt64)
  | .ok (t, []) => .ok (t, k, s)
  | _ => .error 2
theorem decJ_inv {k k' : Nat} {s s' : UInt64} {t : NodeT} {r : Except Int (NodeT × List UInt8)} (h : decJ k s r = .ok (t, k', s')) : r = .ok (t, []) ∧ k' = k ∧ s' = s := by
  cases r with
  | error e => cases h
  | ok r =>
    obtain ⟨t', l⟩ := r
    cases l with
    | nil =>
      simp only [decJ, Except.ok.injEq, Prod.mk.injEq] at h
      obtain ⟨rfl, rfl, rfl⟩ := h
      exact ⟨rfl, rfl, rfl⟩
    | cons => cases h
theorem decJ_err {k : Nat} {s : UInt64} {e : Int} {r : Except Int (NodeT × List UInt8)} (h : decJ k s r = .error e) : e = 2 := by
  cases r with
  | error e => cases h; rfl
  | ok r =>
    obtain ⟨t', l⟩ := r
    cases l with
    | nil => cases h
    | cons => cases h; rfl
def entJ (rest : List UInt8) (d : UInt64) (c : Nat) : Except Int (NodeT × Nat × UInt64) :=
  if 300 ≤ c then .error 5
  else if rest.length < 4 then .error 4
  else if 2000 < beN (rest.take 4) then .error 5
  else if rest.length < beN (rest.take 4) + 12 then .error 4
  else if beN ((rest.drop (beN (rest.take 4) + 4)).take 8) ≠ (digChain d (bodyJ rest)).toNat then .error 12
  else decJ (beN (rest.take 4) + 12) (digChain d (bodyJ rest)) (decR ((rest.drop 4).take (beN (rest.take 4))))
/-- what is read: the trees, the bytes, the last digest, what is wrong behind -/
structure RdR where
  l : List NodeT
  n : Nat
  d : UInt64
  e : Int
def readJ : Nat → List UInt8 → UInt64 → Nat → RdR
  | 0, _, d, _ => ⟨[], 0, d, 0⟩
  | f + 1, rest, d, c => if rest = [] then ⟨[], 0, d, 0⟩ else match entJ rest d c with
    | .error e => ⟨[], 0, d, e⟩
    | .ok (t, k, s) => ⟨t :: (readJ f (rest.drop k) s (c + 1)).l, k + (readJ f (rest.drop k) s (c + 1)).n, (readJ f (rest.drop k) s (c + 1)).d, (readJ f (rest.drop k) s (c + 1)).e⟩
/-- from here on, after c entries -/
def frJ (rest : List UInt8) (d : UInt64) (c : Nat) : RdR := readJ rest.length rest d c
def rdJ (log : List UInt8) : RdR := frJ log (digOf []) 0

theorem ent_ok {rest : List UInt8} {d s : UInt64} {c k : Nat} {t : NodeT} (h : entJ rest d c = .ok (t, k, s)) :
    c < 300 ∧ 4 ≤ rest.length ∧ beN (rest.take 4) ≤ 2000 ∧ beN (rest.take 4) + 12 ≤ rest.length ∧ k = beN (rest.take 4) + 12 ∧ s = digChain d (bodyJ rest) ∧ (rest.drop (beN (rest.take 4) + 4)).take 8 = be8 s ∧ decR ((rest.drop 4).take (beN (rest.take 4))) = .ok (t, []) := by
  unfold entJ at h
  split at h; · cases h
  split at h; · cases h
  split at h; · cases h
  split at h; · cases h
  split at h; · cases h
  rename_i h1 h2 h3 h4 h5
  obtain ⟨heq, rfl, rfl⟩ := decJ_inv h
  refine ⟨by omega, by omega, by omega, by omega, rfl, rfl, be8_of ?_ (by simpa using h5), heq⟩
  rw [List.length_take, List.length_drop]; omega
theorem ent_mk {rest : List UInt8} {d : UInt64} {c : Nat} {t : NodeT} (h1 : c < 300) (h2 : 4 ≤ rest.length) (h3 : beN (rest.take 4) ≤ 2000) (h4 : beN (rest.take 4) + 12 ≤ rest.length) (h5 : (rest.drop (beN (rest.take 4) + 4)).take 8 = be8 (digChain d (bodyJ rest))) (h6 : decR ((rest.drop 4).take (beN (rest.take 4))) = .ok (t, [])) :
    entJ rest d c = .ok (t, beN (rest.take 4) + 12, digChain d (bodyJ rest)) := by
  unfold entJ
  rw [if_neg (by omega), if_neg (by omega), if_neg (by omega), if_neg (by omega), if_neg (by rw [h5, beN_be8]; simp), h6]
  rfl
theorem ent_len {rest : List UInt8} {d s : UInt64} {c k : Nat} {t : NodeT} (h : entJ rest d c = .ok (t, k, s)) : 12 ≤ k ∧ k ≤ rest.length := by
  obtain ⟨-, -, -, h4, rfl, -⟩ := ent_ok h
  omega
theorem readJ_fuel : ∀ (f : Nat) (rest : List UInt8) (d : UInt64) (c : Nat), rest.length ≤ f → readJ f rest d c = frJ rest d c := by
  have key : ∀ (f g : Nat) (rest : List UInt8) (d : UInt64) (c : Nat), rest.length ≤ f → rest.length ≤ g → readJ f rest d c = readJ g rest d c := by
    intro f
    induction f with
    | zero =>
      intro g rest d c h1 h2
      have : rest = [] := List.eq_nil_of_length_eq_zero (by omega)
      subst this
      cases g <;> simp [readJ]
    | succ f ih =>
      intro g rest d c h1 h2
      cases g with
      | zero =>
        have : rest = [] := List.eq_nil_of_length_eq_zero (by omega)
        subst this
        simp [readJ]
      | succ g =>
        simp only [readJ]
        by_cases hr : rest = []
        · rw [if_pos hr, if_pos hr]
        · rw [if_neg hr, if_neg hr]
          cases he : entJ rest d c with
          | error e => rfl
          | ok r =>
            obtain ⟨t, k, s⟩ := r
            have := ent_len he
            simp only
            rw [ih g (rest.drop k) s (c + 1) (by rw [List.length_drop]; omega) (by rw [List.length_drop]; omega)]
  exact fun f rest d c h => key f rest.length rest d c h (Nat.le_refl _)
theorem frJ_nil (d : UInt64) (c : Nat) : frJ [] d c = ⟨[], 0, d, 0⟩ := rfl
theorem frJ_err {rest : List UInt8} {d : UInt64} {c : Nat} {e : Int} (hr : rest ≠ []) (h : entJ rest d c = .error e) : frJ rest d c = ⟨[], 0, d, e⟩ := by
  unfold frJ
  cases hl : rest.length with
  | zero => exact absurd (List.eq_nil_of_length_eq_zero hl) hr
  | succ f => simp only [readJ]; rw [if_neg hr, h]
theorem frJ_ok {rest : List UInt8} {d s : UInt64} {c k : Nat} {t : NodeT} (h : entJ rest d c = .ok (t, k, s)) : frJ rest d c = ⟨t :: (frJ (rest.drop k) s (c + 1)).l, k + (frJ (rest.drop k) s (c + 1)).n, (frJ (rest.drop k) s (c + 1)).d, (frJ (rest.drop k) s (c + 1)).e⟩ := by
  have hk := ent_len h
  have hr : rest ≠ [] := by intro e; subst e; simp at hk; omega
  have : frJ rest d c = readJ (rest.length - 1 + 1) rest d c := by unfold frJ; rw [show rest.length - 1 + 1 = rest.length by omega]
  rw [this]
  simp only [readJ]
  rw [if_neg hr, h]
  simp only
  rw [readJ_fuel _ _ _ _ (by rw [List.length_drop]; omega)]
theorem ent_err_ne {rest : List UInt8} {d : UInt64} {c : Nat} {e : Int} (h : entJ rest d c = .error e) : e ≠ 0 ∧ 1 ≤ e ∧ e ≤ 12 := by
  unfold entJ at h
  split at h; · cases h; decide
  split at h; · cases h; decide
  split at h; · cases h; decide
  split at h; · cases h; decide
  split at h; · cases h; decide
  rw [decJ_err h]; decide
/-- what is read lies within the bytes -/
theorem fr_le : ∀ (m : Nat) (rest : List UInt8) (d : UInt64) (c : Nat), rest.length ≤ m → (frJ rest d c).n ≤ rest.length ∧ ((frJ rest d c).e = 0 ↔ (frJ rest d c).n = rest.length) ∧ (c ≤ 300 → c + (frJ rest d c).l.length ≤ 300)
  | 0, rest, d, c, h => by
    have : rest = [] := List.eq_nil_of_length_eq_zero (by omega)
    subst this
    rw [frJ_nil]; simp
  | m + 1, rest, d, c, h => by
    by_cases hr : rest = []
    · subst hr; rw [frJ_nil]; simp
    cases he : entJ rest d c with
    | error e =>
      rw [frJ_err hr he]
      have := ent_err_ne he
      have hl : rest.length ≠ 0 := fun e => hr (List.eq_nil_of_length_eq_zero e)
      refine ⟨by simp, ?_, by simp⟩
      constructor
      · intro h0; exact absurd h0 this.1
      · intro h0; exact absurd h0.symm hl
    | ok r =>
      obtain ⟨t, k, s⟩ := r
      have hk := ent_len he
      have hc := (ent_ok he).1
      obtain ⟨i1, i2, i3⟩ := fr_le m (rest.drop k) s (c + 1) (by rw [List.length_drop]; omega)
      rw [frJ_ok he]
      rw [List.length_drop] at i1 i2
      refine ⟨by simp only; omega, ?_, fun _ => ?_⟩
      · simp only
        rw [i2]; omega
      · simp only [List.length_cons]
        have := i3 (by omega)
        omega

/-! ### Prefixes -/
theorem take_take_le {α : Type} (xs : List α) {a b : Nat} (h : a ≤ b) : (xs.take b).take a = xs.take a := by rw [List.take_take, Nat.min_eq_left h]
theorem drop_take_le {α : Type} (xs : List α) (a b m : Nat) (h : a + b ≤ m) : ((xs.take m).drop a).take b = (xs.drop a).take b := by
  rw [List.drop_take, List.take_take, Nat.min_eq_left (by omega)]
/-- an entry is read the same way when the bytes are cut off behind it -/
theorem ent_take {rest : List UInt8} {d s : UInt64} {c k m : Nat} {t : NodeT} (h : entJ rest d c = .ok (t, k, s)) (hm : k ≤ m) : entJ (rest.take m) d c = .ok (t, k, s) := by
  obtain ⟨h1, h2, h3, h4, rfl, rfl, h7, h8⟩ := ent_ok h
  have e4 : (rest.take m).take 4 = rest.take 4 := take_take_le rest (by omega)
  have hl : (rest.take m).length = min m rest.length := by simp
  have hb : bodyJ (rest.take m) = bodyJ rest := by unfold bodyJ; rw [e4]; exact take_take_le rest (by omega)
  have := ent_mk (rest := rest.take m) (d := d) (c := c) (t := t) h1 (by omega) (by rw [e4]; exact h3) (by rw [e4]; omega) (by rw [e4, hb, drop_take_le rest _ _ _ (by omega)]; exact h7) (by rw [e4, drop_take_le rest _ _ _ (by omega)]; exact h8)
  rw [e4, hb] at this
  exact this
theorem fr_take : ∀ (m : Nat) (rest : List UInt8) (d : UInt64) (c : Nat), rest.length ≤ m → frJ (rest.take (frJ rest d c).n) d c = ⟨(frJ rest d c).l, (frJ rest d c).n, (frJ rest d c).d, 0⟩
  | 0, rest, d, c, h => by
    have : rest = [] := List.eq_nil_of_length_eq_zero (by omega)
    subst this
    rw [frJ_nil]; simp [frJ_nil]
  | m + 1, rest, d, c, h => by
    by_cases hr : rest = []
    · subst hr; rw [frJ_nil]; simp [frJ_nil]
    cases he : entJ rest d c with
    | error e => rw [frJ_err hr he]; simp [frJ_nil]
    | ok r =>
      obtain ⟨t, k, s⟩ := r
      have hk := ent_len he
      have ih := fr_take m (rest.drop k) s (c + 1) (by rw [List.length_drop]; omega)
      rw [frJ_ok he]
      simp only
      rw [frJ_ok (ent_take he (show k ≤ k + _ by omega)), List.drop_take, show k + (frJ (rest.drop k) s (c + 1)).n - k = (frJ (rest.drop k) s (c + 1)).n by omega, ih]

end Go.Proofs.YthbfmioikbphgaaDoor
