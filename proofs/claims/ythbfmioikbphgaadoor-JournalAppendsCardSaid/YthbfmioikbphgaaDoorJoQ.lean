/- Journals, plain: bounds, appending, cutting. -/
import Derived.Test.YthbfmioikbphgaaDoorJoP
import Derived.Test.YthbfmioikbphgaaDoorCoI
namespace Go.Proofs.YthbfmioikbphgaaDoor
set_option maxRecDepth 100000

/-- an intact prefix is short -/
theorem fr_bound : ∀ (m : Nat) (rest : List UInt8) (d : UInt64) (c : Nat), rest.length ≤ m → (frJ rest d c).n ≤ 2012 * (frJ rest d c).l.length
  | 0, rest, d, c, h => by
    have : rest = [] := List.eq_nil_of_length_eq_zero (by omega)
    subst this
    rw [frJ_nil]; simp
  | m + 1, rest, d, c, h => by
    by_cases hr : rest = []
    · subst hr; rw [frJ_nil]; simp
    cases he : entJ rest d c with
    | error e => rw [frJ_err hr he]; simp
    | ok r =>
      obtain ⟨t, k, s⟩ := r
      have hk := ent_len he
      obtain ⟨-, -, h3, -, rfl, -⟩ := ent_ok he
      have ih := fr_bound m (rest.drop (beN (rest.take 4) + 12)) s (c + 1) (by rw [List.length_drop]; omega)
      rw [frJ_ok he]
      simp only [List.length_cons]
      omega
theorem rd_le (log : List UInt8) : (rdJ log).n ≤ log.length := (fr_le _ log (digOf []) 0 (Nat.le_refl _)).1
theorem rd_zero (log : List UInt8) : (rdJ log).e = 0 ↔ (rdJ log).n = log.length := (fr_le _ log (digOf []) 0 (Nat.le_refl _)).2.1
theorem rd_count (log : List UInt8) : (rdJ log).l.length ≤ 300 := by
  have := (fr_le _ log (digOf []) 0 (Nat.le_refl _)).2.2 (by omega)
  show (frJ log (digOf []) 0).l.length ≤ 300
  omega
theorem rd_bound (log : List UInt8) : (rdJ log).n ≤ 603600 := by
  have h1 := fr_bound _ log (digOf []) 0 (Nat.le_refl _)
  have h2 := rd_count log
  show (frJ log (digOf []) 0).n ≤ 603600
  have : (frJ log (digOf []) 0).l.length ≤ 300 := h2
  omega
theorem rd_take (log : List UInt8) : rdJ (log.take (rdJ log).n) = ⟨(rdJ log).l, (rdJ log).n, (rdJ log).d, 0⟩ := fr_take _ log (digOf []) 0 (Nat.le_refl _)
theorem rd_nil : rdJ [] = ⟨[], 0, digOf [], 0⟩ := rfl

/-- the last digest is written at the end -/
theorem fr_end : ∀ (m : Nat) (rest : List UInt8) (d : UInt64) (c : Nat), rest.length ≤ m → (frJ rest d c).e = 0 → rest = [] ∨ 12 ≤ rest.length ∧ rest.drop (rest.length - 8) = be8 (frJ rest d c).d
  | 0, rest, d, c, h, _ => .inl (List.eq_nil_of_length_eq_zero (by omega))
  | m + 1, rest, d, c, h, h0 => by
    by_cases hr : rest = []
    · exact .inl hr
    right
    cases he : entJ rest d c with
    | error e =>
      rw [frJ_err hr he] at h0
      exact absurd h0 (ent_err_ne he).1
    | ok r =>
      obtain ⟨t, k, s⟩ := r
      have hk := ent_len he
      obtain ⟨-, -, h3, -, hkk, -, h7, -⟩ := ent_ok he
      rw [frJ_ok he] at h0 ⊢
      simp only at h0 ⊢
      refine ⟨by omega, ?_⟩
      rcases fr_end m (rest.drop k) s (c + 1) (by rw [List.length_drop]; omega) h0 with hn | ⟨h1, h2⟩
      · have hl : rest.length = k := by
          have := congrArg List.length hn
          rw [List.length_drop] at this
          simp at this; omega
        rw [hn, frJ_nil]
        simp only
        rw [← h7, hl, hkk, show beN (rest.take 4) + 12 - 8 = beN (rest.take 4) + 4 by omega]
        exact (List.take_of_length_le (by rw [List.length_drop]; omega)).symm
      · rw [List.drop_drop, List.length_drop] at h2
        rw [List.length_drop] at h1
        rw [← h2]
        congr 1
        omega
/-- the digest at the end of some bytes -/
def endJ (log : List UInt8) : UInt64 := if log.length < 8 then digOf [] else UInt64.ofNat (beN (log.drop (log.length - 8)))
theorem rd_end {log : List UInt8} (h : (rdJ log).e = 0) : endJ log = (rdJ log).d := by
  rcases fr_end _ log (digOf []) 0 (Nat.le_refl _) h with rfl | ⟨h1, h2⟩
  · rfl
  · unfold endJ
    rw [if_neg (by omega), h2, beN_be8]
    simp [rdJ]

/-- an entry is read the same way when more bytes follow -/
theorem ent_app {rest : List UInt8} (more : List UInt8) {d s : UInt64} {c k : Nat} {t : NodeT} (h : entJ rest d c = .ok (t, k, s)) : entJ (rest ++ more) d c = .ok (t, k, s) := by
  obtain ⟨h1, h2, h3, h4, rfl, rfl, h7, h8⟩ := ent_ok h
  have e0 : (rest ++ more).take rest.length = rest := by simp
  have ek : ∀ a, a ≤ rest.length → (rest ++ more).take a = rest.take a := fun a ha => by
    rw [← take_take_le (rest ++ more) ha, e0]
  have ed : ∀ a b, a + b ≤ rest.length → ((rest ++ more).drop a).take b = (rest.drop a).take b := fun a b hab => by
    rw [← drop_take_le (rest ++ more) a b rest.length hab, e0]
  have e4 := ek 4 h2
  have hb : bodyJ (rest ++ more) = bodyJ rest := by unfold bodyJ; rw [e4]; exact ek _ (by omega)
  have hl : (rest ++ more).length = rest.length + more.length := by simp
  have := ent_mk (rest := rest ++ more) (d := d) (c := c) (t := t) h1 (by omega) (by rw [e4]; exact h3) (by rw [e4]; omega) (by rw [e4, hb, ed _ _ (by omega)]; exact h7) (by rw [e4, ed _ _ (by omega)]; exact h8)
  rw [e4, hb] at this
  exact this
theorem fr_app (more : List UInt8) : ∀ (m : Nat) (rest : List UInt8) (d : UInt64) (c : Nat), rest.length ≤ m → (frJ rest d c).e = 0 →
    frJ (rest ++ more) d c = ⟨(frJ rest d c).l ++ (frJ more (frJ rest d c).d (c + (frJ rest d c).l.length)).l, rest.length + (frJ more (frJ rest d c).d (c + (frJ rest d c).l.length)).n, (frJ more (frJ rest d c).d (c + (frJ rest d c).l.length)).d, (frJ more (frJ rest d c).d (c + (frJ rest d c).l.length)).e⟩
  | 0, rest, d, c, h, _ => by
    have : rest = [] := List.eq_nil_of_length_eq_zero (by omega)
    subst this
    rw [frJ_nil]; simp
  | m + 1, rest, d, c, h, h0 => by
    by_cases hr : rest = []
    · subst hr; rw [frJ_nil]; simp
    cases he : entJ rest d c with
    | error e =>
      rw [frJ_err hr he] at h0
      exact absurd h0 (ent_err_ne he).1
    | ok r =>
      obtain ⟨t, k, s⟩ := r
      have hk := ent_len he
      rw [frJ_ok he] at h0
      have ih := fr_app more m (rest.drop k) s (c + 1) (by rw [List.length_drop]; omega) h0
      rw [frJ_ok (ent_app more he), List.drop_append_of_le_length (by omega), ih, frJ_ok he]
      simp only [List.length_cons, List.cons_append]
      rw [show c + 1 + (frJ (rest.drop k) s (c + 1)).l.length = c + ((frJ (rest.drop k) s (c + 1)).l.length + 1) by omega, List.length_drop]
      congr 1
      omega
/-- the body of an entry, and an entry -/
def bodyE (t : NodeT) : List UInt8 := beList (UInt64.ofNat (encT t).length) 4 ++ encT t
def entE (t : NodeT) (d : UInt64) : List UInt8 := bodyE t ++ be8 (digChain d (bodyE t))
theorem be8_len (v : UInt64) : (be8 v).length = 8 := beList_len v 8
theorem bodyE_len (t : NodeT) : (bodyE t).length = (encT t).length + 4 := by unfold bodyE; rw [List.length_append, beList_len]; omega
theorem entE_len (t : NodeT) (d : UInt64) : (entE t d).length = (encT t).length + 12 := by unfold entE; rw [List.length_append, bodyE_len, be8_len]
theorem bodyE_size {t : NodeT} (h : (encT t).length ≤ 2000) (more : List UInt8) : beN ((bodyE t ++ more).take 4) = (encT t).length := by
  have e : (bodyE t ++ more).take 4 = beList (UInt64.ofNat (encT t).length) 4 := by
    unfold bodyE
    rw [List.append_assoc, List.take_append_of_le_length (by rw [beList_len]; omega), List.take_of_length_le (by rw [beList_len]; omega)]
  rw [e, beN_list, UInt64.toNat_ofNat_of_lt' (show (encT t).length < 18446744073709551616 by omega), Nat.mod_eq_of_lt (by omega)]
theorem decR_enc0 {t : NodeT} (hok : okT t = true) (hi : i64T t) : decR (encT t) = .ok (t, []) := by
  have hl := okT_len hok
  unfold decR
  rw [List.take_of_length_le hl]
  have := node_read (if 1048576 < (encT t).length then 5 else 4) 8 t [] (by omega) (okT_fit hok) hi
  rwa [List.append_nil] at this
theorem ent_made {t : NodeT} (hok : okT t = true) (hi : i64T t) (hl : (encT t).length ≤ 2000) {c : Nat} (hc : c < 300) (d : UInt64) (more : List UInt8) : entJ (entE t d ++ more) d c = .ok (t, (encT t).length + 12, digChain d (bodyE t)) := by
  have e : entE t d ++ more = bodyE t ++ (be8 (digChain d (bodyE t)) ++ more) := by unfold entE; rw [List.append_assoc]
  have hs := bodyE_size hl (be8 (digChain d (bodyE t)) ++ more)
  rw [← e] at hs
  have hb : bodyJ (entE t d ++ more) = bodyE t := by
    unfold bodyJ
    rw [hs, e, List.take_append_of_le_length (by rw [bodyE_len]; omega), List.take_of_length_le (by rw [bodyE_len]; omega)]
  have hlen : (entE t d ++ more).length = (encT t).length + 12 + more.length := by rw [List.length_append, entE_len]
  have := ent_mk (rest := entE t d ++ more) (d := d) (c := c) (t := t) hc (by omega) (by omega) (by omega) (by
    rw [hs, hb, e, List.drop_append_of_le_length (by rw [bodyE_len]; omega), List.drop_of_length_le (by rw [bodyE_len]; omega), List.nil_append, List.take_append_of_le_length (by rw [be8_len]; omega), List.take_of_length_le (by rw [be8_len]; omega)]) (by
    rw [hs, e]
    have h4 : (bodyE t ++ (be8 (digChain d (bodyE t)) ++ more)).drop 4 = encT t ++ (be8 (digChain d (bodyE t)) ++ more) := by
      unfold bodyE
      rw [List.append_assoc, List.drop_append_of_le_length (by rw [beList_len]; omega), List.drop_of_length_le (by rw [beList_len]; omega), List.nil_append]
    rw [h4, List.take_append_of_le_length (by omega), List.take_of_length_le (by omega)]
    exact decR_enc0 hok hi)
  rw [hs, hb] at this
  exact this
/-- one more entry -/
theorem rd_snoc {log : List UInt8} {t : NodeT} (h : (rdJ log).e = 0) (hok : okT t = true) (hi : i64T t) (hl : (encT t).length ≤ 2000) (hc : (rdJ log).l.length < 300) :
    rdJ (log ++ entE t (rdJ log).d) = ⟨(rdJ log).l ++ [t], log.length + ((encT t).length + 12), digChain (rdJ log).d (bodyE t), 0⟩ := by
  have h2 := ent_made hok hi hl (c := 0 + (rdJ log).l.length) (by omega) (rdJ log).d []
  rw [List.append_nil] at h2
  have h1 := fr_app (entE t (rdJ log).d) _ log (digOf []) 0 (Nat.le_refl _) h
  have hk := frJ_ok h2
  rw [List.drop_of_length_le (by rw [entE_len]; omega), frJ_nil] at hk
  have h3 : rdJ (log ++ entE t (rdJ log).d) = frJ (log ++ entE t (rdJ log).d) (digOf []) 0 := rfl
  rw [h3, h1]
  have e1 : frJ log (digOf []) 0 = rdJ log := rfl
  rw [e1, hk]
  simp

/-- what Append returns -/
def appJ (log : List UInt8) (t : NodeT) : Except Int (List UInt8) :=
  if (rdJ log).e ≠ 0 then .error (rdJ log).e
  else if okT t = false then .error 1
  else if 2000 < (encT t).length ∨ 300 ≤ (rdJ log).l.length then .error 5
  else .ok (log ++ entE t (endJ log))
end Go.Proofs.YthbfmioikbphgaaDoor
