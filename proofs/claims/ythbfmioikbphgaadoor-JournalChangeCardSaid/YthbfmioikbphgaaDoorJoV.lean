/- Journals, plain: what a journal with one changed byte yields. -/
import Derived.Test.YthbfmioikbphgaaDoorJoT
namespace Go.Proofs.YthbfmioikbphgaaDoor
set_option maxRecDepth 100000

theorem take_set_of_le {α : Type} (xs : List α) {j m : Nat} (y : α) (h : m ≤ j) : (xs.set j y).take m = xs.take m := by
  rw [List.take_set, List.set_eq_of_length_le (by rw [List.length_take]; omega)]
theorem drop_set_of_lt {α : Type} (xs : List α) {j m : Nat} (y : α) (h : j < m) : (xs.set j y).drop m = xs.drop m := by
  rw [List.drop_set, if_pos h]
theorem set_app_right {α : Type} (xs ys : List α) {i : Nat} (y : α) (h : xs.length ≤ i) : (xs ++ ys).set i y = xs ++ ys.set (i - xs.length) y := by
  rw [List.set_append, if_neg (by omega)]
theorem getD_set_ne {xs : List UInt8} {j : Nat} {y : UInt8} (hj : j < xs.length) (h : xs.set j y = xs) : xs.getD j 0 = y := by
  have h1 : (xs.set j y)[j]? = some y := by simp [hj]
  rw [h] at h1
  rw [List.getD, h1]; rfl

/-- a changed byte behind the length is noticed -/
theorem ent_bad {t : NodeT} (hg : GoodJ t) (more : List UInt8) {d : UInt64} {c j : Nat} (hc : c < 300) (h4 : 4 ≤ j) (hj : j < sizJ t) {x : UInt8} (hne : (entE t d ++ more).getD j 0 ≠ x) :
    entJ ((entE t d ++ more).set j x) d c = .error 12 := by
  obtain ⟨h1, h2, h3⟩ := hg
  unfold sizJ at hj
  have e : entE t d ++ more = bodyE t ++ (be8 (digChain d (bodyE t)) ++ more) := by unfold entE; rw [List.append_assoc]
  have hl : ((entE t d ++ more).set j x).length = (encT t).length + 12 + more.length := by rw [List.length_set, List.length_append, entE_len]
  have hs : beN (((entE t d ++ more).set j x).take 4) = (encT t).length := by
    rw [take_set_of_le _ _ h4, e]; exact bodyE_size h3 _
  unfold entJ
  rw [if_neg (by omega), if_neg (by omega), hs, if_neg (by omega), if_neg (by omega), if_pos]
  unfold bodyJ
  rw [hs, e]
  by_cases hjb : j < (encT t).length + 4
  · have hd : ((bodyE t ++ (be8 (digChain d (bodyE t)) ++ more)).set j x).drop ((encT t).length + 4) = be8 (digChain d (bodyE t)) ++ more := by
      rw [drop_set_of_lt _ _ hjb, List.drop_append_of_le_length (by rw [bodyE_len]; exact Nat.le_refl _), List.drop_of_length_le (by rw [bodyE_len]; exact Nat.le_refl _), List.nil_append]
    have ht : ((bodyE t ++ (be8 (digChain d (bodyE t)) ++ more)).set j x).take ((encT t).length + 4) = (bodyE t).set j x := by
      rw [List.set_append, if_pos (by rw [bodyE_len]; exact hjb), List.take_append_of_le_length (by rw [List.length_set, bodyE_len]; exact Nat.le_refl _), List.take_of_length_le (by rw [List.length_set, bodyE_len]; exact Nat.le_refl _)]
    rw [hd, ht, List.take_append_of_le_length (by rw [be8_len]; omega), List.take_of_length_le (by rw [be8_len]; omega), beN_be8]
    intro h
    have h5 : digChain d (bodyE t) = digChain d ((bodyE t).set j x) := UInt64.toNat_inj.1 h
    unfold digChain at h5
    rw [digAdd_set _ _ _ (by rw [bodyE_len]; exact hjb)] at h5
    apply hne
    rw [e]
    have : (bodyE t ++ (be8 (digChain d (bodyE t)) ++ more)).getD j 0 = (bodyE t).getD j 0 := by
      rw [List.getD, List.getD, List.getElem?_append_left (by rw [bodyE_len]; exact hjb)]
    rw [this]; exact h5
  · have hbl : (bodyE t).length = (encT t).length + 4 := bodyE_len t
    have hset : (bodyE t ++ (be8 (digChain d (bodyE t)) ++ more)).set j x = bodyE t ++ ((be8 (digChain d (bodyE t))).set (j - ((encT t).length + 4)) x ++ more) := by
      rw [set_app_right _ _ _ (by omega), hbl, List.set_append, if_pos (by rw [be8_len]; omega)]
    have hd : (bodyE t ++ ((be8 (digChain d (bodyE t))).set (j - ((encT t).length + 4)) x ++ more)).drop ((encT t).length + 4) = (be8 (digChain d (bodyE t))).set (j - ((encT t).length + 4)) x ++ more := by
      rw [List.drop_append_of_le_length (by omega), List.drop_of_length_le (by omega), List.nil_append]
    have ht : (bodyE t ++ ((be8 (digChain d (bodyE t))).set (j - ((encT t).length + 4)) x ++ more)).take ((encT t).length + 4) = bodyE t := by
      rw [List.take_append_of_le_length (by omega), List.take_of_length_le (by omega)]
    rw [hset, hd, ht, List.take_append_of_le_length (by rw [List.length_set, be8_len]; omega), List.take_of_length_le (by rw [List.length_set, be8_len]; omega)]
    intro h
    rw [← beN_be8] at h
    have h5 := beN_inj 8 _ _ (by rw [List.length_set, be8_len]) (be8_len _) h
    apply hne
    have h6 := getD_set_ne (by rw [be8_len]; omega) h5
    rw [e, ← h6]
    rw [List.getD, List.getD, List.getElem?_append_right (by omega), hbl, List.getElem?_append_left (by rw [be8_len]; omega)]

/-- the journal, split at the k-th entry -/
theorem enc_split {ts : List NodeT} {k : Nat} {t : NodeT} (hk : ts[k]? = some t) (d : UInt64) : encJ d ts = encJ d (ts.take k) ++ (entE t (dgJ d (ts.take k)) ++ encJ (digChain (dgJ d (ts.take k)) (bodyE t)) (ts.drop (k + 1))) := by
  conv => lhs; rw [split_k ts hk, encJ_app]
  rfl
structure BadR (ts : List NodeT) (k i : Nat) (x : UInt8) : Prop where
  pre : ((encJ (digOf []) ts).set i x).take (lenJ (ts.take k)) = encJ (digOf []) (ts.take k)
  late : lenJ (ts.take k) + 4 ≤ i → rdJ ((encJ (digOf []) ts).set i x) = ⟨ts.take k, lenJ (ts.take k), dgJ (digOf []) (ts.take k), 12⟩
  early : i < lenJ (ts.take k) + 4 → (∃ e, e ≠ 0 ∧ rdJ ((encJ (digOf []) ts).set i x) = ⟨ts.take k, lenJ (ts.take k), dgJ (digOf []) (ts.take k), e⟩) ∨
    ∃ us n d e z s, rdJ ((encJ (digOf []) ts).set i x) = ⟨us, n, d, e⟩ ∧ k < us.length ∧ us.length ≤ 300 ∧ z ≤ 2000 ∧ beN ((((encJ (digOf []) ts).set i x).drop (lenJ (ts.take k))).take 4) = z ∧ lenJ (ts.take k) + z + 12 ≤ lenJ ts ∧
      digChain (dgJ (digOf []) (ts.take k)) ((((encJ (digOf []) ts).set i x).drop (lenJ (ts.take k))).take (z + 4)) = s ∧ (((encJ (digOf []) ts).set i x).drop (lenJ (ts.take k) + (z + 4))).take 8 = be8 s
theorem rd_bad {ts : List NodeT} (hg : ∀ t ∈ ts, GoodJ t) (hc : ts.length ≤ 10) {i k : Nat} {x : UInt8} (hi : i < lenJ ts) (h1 : lenJ (ts.take k) ≤ i) (h2 : k < ts.length → i < lenJ (ts.take (k + 1))) (hne : (encJ (digOf []) ts).getD i 0 ≠ x) : BadR ts k i x := by
  have hkl : k < ts.length := by
    rcases Nat.lt_or_ge k ts.length with h | h
    · exact h
    · rw [List.take_of_length_le h] at h1; omega
  obtain ⟨t, ht⟩ : ∃ t, ts[k]? = some t := ⟨ts[k], List.getElem?_eq_getElem hkl⟩
  have h2' := h2 hkl
  rw [lenJ_take ht] at h2'
  have hgt : GoodJ t := hg t (List.mem_of_getElem? ht)
  have hgk : ∀ t ∈ ts.take k, GoodJ t := fun t ht => hg t (List.mem_of_mem_take ht)
  have hlk : (ts.take k).length = k := by rw [List.length_take]; omega
  have hsp := enc_split ht (digOf [])
  have hLl := encJ_len ts (digOf [])
  generalize hM : encJ (digChain (dgJ (digOf []) (ts.take k)) (bodyE t)) (ts.drop (k + 1)) = more at hsp
  generalize hd : dgJ (digOf []) (ts.take k) = d at *
  generalize hb : lenJ (ts.take k) = bg at *
  have hpl : (encJ (digOf []) (ts.take k)).length = bg := by rw [encJ_len, hb]
  have hbad : (encJ (digOf []) ts).set i x = encJ (digOf []) (ts.take k) ++ (entE t d ++ more).set (i - bg) x := by
    rw [hsp, set_app_right _ _ _ (by omega), hpl]
  have hne' : (entE t d ++ more).getD (i - bg) 0 ≠ x := by
    rw [hsp, List.getD, List.getElem?_append_right (by omega), hpl] at hne
    exact hne
  have hdrop : ((encJ (digOf []) ts).set i x).drop bg = (entE t d ++ more).set (i - bg) x := by
    rw [hbad, List.drop_append_of_le_length (by omega), List.drop_of_length_le (by omega), List.nil_append]
  have hfr : rdJ ((encJ (digOf []) ts).set i x) = ⟨ts.take k ++ (frJ ((entE t d ++ more).set (i - bg) x) d k).l, bg + (frJ ((entE t d ++ more).set (i - bg) x) d k).n, (frJ ((entE t d ++ more).set (i - bg) x) d k).d, (frJ ((entE t d ++ more).set (i - bg) x) d k).e⟩ := by
    have h := frJ_enc ((entE t d ++ more).set (i - bg) x) (ts.take k) (digOf []) 0 hgk (by omega)
    rw [hlk, hd, hb, Nat.zero_add] at h
    have e : rdJ ((encJ (digOf []) ts).set i x) = frJ ((encJ (digOf []) ts).set i x) (digOf []) 0 := rfl
    rw [e, hbad, h]
  have hRn : (entE t d ++ more).set (i - bg) x ≠ [] := by
    intro h
    have := congrArg List.length h
    rw [List.length_set, List.length_append, entE_len] at this
    simp at this
  have hLs : lenJ ts = bg + ((entE t d ++ more).set (i - bg) x).length := by
    rw [← hLl, hsp, List.length_append, hpl, List.length_set]
  refine ⟨?_, fun h => ?_, fun h => ?_⟩
  · rw [hb, hbad, List.take_append_of_le_length (by omega), List.take_of_length_le (by omega)]
  · rw [hb] at h ⊢
    rw [hd, hfr, frJ_err hRn (ent_bad hgt more (by omega) (by omega) (by omega) hne')]
    simp
  · rw [hb] at h ⊢
    rw [hd]
    cases he : entJ ((entE t d ++ more).set (i - bg) x) d k with
    | error e =>
      left
      refine ⟨e, (ent_err_ne he).1, ?_⟩
      rw [hfr, frJ_err hRn he]
      simp
    | ok r =>
      obtain ⟨t', k', s⟩ := r
      obtain ⟨q1, q2, q3, q4, q5, q6, q7, q8⟩ := ent_ok he
      right
      have hcnt := rd_count ((encJ (digOf []) ts).set i x)
      rw [hfr, frJ_ok he] at hcnt ⊢
      refine ⟨_, _, _, _, _, s, rfl, ?_, hcnt, q3, by rw [hdrop], ?_, ?_, ?_⟩
      · rw [List.length_append, hlk, List.length_cons]; omega
      · rw [hLs]; omega
      · rw [hdrop, q6]; rfl
      · rw [← List.drop_drop, hdrop]; exact q7
/-- the number of four bytes -/
theorem beN_four (a b c d : UInt8) : beN [a, b, c, d] = a.toNat * 16777216 + b.toNat * 65536 + c.toNat * 256 + d.toNat := by
  simp [beN]; omega
end Go.Proofs.YthbfmioikbphgaaDoor
