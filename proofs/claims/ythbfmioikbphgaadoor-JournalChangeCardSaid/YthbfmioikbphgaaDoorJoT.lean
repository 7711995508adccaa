/- Journals, plain: a journal of some trees, its entries' ends, cutting it, changing a byte of it. -/
import Derived.Test.YthbfmioikbphgaaDoorJoQ
namespace Go.Proofs.YthbfmioikbphgaaDoor
set_option maxRecDepth 100000

def GoodJ (t : NodeT) : Prop := okT t = true ∧ i64T t ∧ (encT t).length ≤ 2000
def sizJ (t : NodeT) : Nat := (encT t).length + 12
def encJ : UInt64 → List NodeT → List UInt8
  | _, [] => []
  | d, t :: ts => entE t d ++ encJ (digChain d (bodyE t)) ts
def dgJ : UInt64 → List NodeT → UInt64
  | d, [] => d
  | d, t :: ts => dgJ (digChain d (bodyE t)) ts
def lenJ : List NodeT → Nat
  | [] => 0
  | t :: ts => sizJ t + lenJ ts
def endsJ : Nat → List NodeT → List Nat
  | _, [] => []
  | o, t :: ts => (o + sizJ t) :: endsJ (o + sizJ t) ts
theorem encJ_len : ∀ (ts : List NodeT) (d : UInt64), (encJ d ts).length = lenJ ts
  | [], _ => rfl
  | t :: ts, d => by simp only [encJ, lenJ, List.length_append, entE_len, encJ_len ts, sizJ]
theorem endsJ_len : ∀ (ts : List NodeT) (o : Nat), (endsJ o ts).length = ts.length
  | [], _ => rfl
  | t :: ts, o => by simp only [endsJ, List.length_cons, endsJ_len ts]
theorem encJ_app : ∀ (xs ys : List NodeT) (d : UInt64), encJ d (xs ++ ys) = encJ d xs ++ encJ (dgJ d xs) ys
  | [], _, _ => rfl
  | t :: ts, ys, d => by simp only [List.cons_append, encJ, dgJ, encJ_app ts ys, List.append_assoc]
theorem dgJ_app : ∀ (xs ys : List NodeT) (d : UInt64), dgJ d (xs ++ ys) = dgJ (dgJ d xs) ys
  | [], _, _ => rfl
  | t :: ts, ys, d => by simp only [List.cons_append, dgJ, dgJ_app ts ys]
theorem lenJ_app : ∀ (xs ys : List NodeT), lenJ (xs ++ ys) = lenJ xs + lenJ ys
  | [], ys => by simp [lenJ]
  | t :: ts, ys => by simp only [List.cons_append, lenJ, lenJ_app ts ys]; omega
theorem endsJ_app : ∀ (xs ys : List NodeT) (o : Nat), endsJ o (xs ++ ys) = endsJ o xs ++ endsJ (o + lenJ xs) ys
  | [], ys, o => by simp [endsJ, lenJ]
  | t :: ts, ys, o => by simp only [List.cons_append, endsJ, lenJ, endsJ_app ts ys, Nat.add_assoc]
theorem encJ_snoc (ts : List NodeT) (t : NodeT) (d : UInt64) : encJ d (ts ++ [t]) = encJ d ts ++ entE t (dgJ d ts) := by
  rw [encJ_app]; simp [encJ]
theorem endsJ_snoc (ts : List NodeT) (t : NodeT) : endsJ 0 (ts ++ [t]) = endsJ 0 ts ++ [lenJ ts + sizJ t] := by
  rw [endsJ_app]; simp [endsJ]
theorem frJ_enc (rest : List UInt8) : ∀ (ts : List NodeT) (d : UInt64) (c : Nat), (∀ t ∈ ts, GoodJ t) → c + ts.length ≤ 300 →
    frJ (encJ d ts ++ rest) d c = ⟨ts ++ (frJ rest (dgJ d ts) (c + ts.length)).l, lenJ ts + (frJ rest (dgJ d ts) (c + ts.length)).n, (frJ rest (dgJ d ts) (c + ts.length)).d, (frJ rest (dgJ d ts) (c + ts.length)).e⟩
  | [], d, c, _, _ => by simp [encJ, dgJ, lenJ]
  | t :: ts, d, c, hg, hc => by
    obtain ⟨h1, h2, h3⟩ := hg t (by simp)
    rw [List.length_cons] at hc
    have he := ent_made h1 h2 h3 (c := c) (by omega) d (encJ (digChain d (bodyE t)) ts ++ rest)
    have ih := frJ_enc rest ts (digChain d (bodyE t)) (c + 1) (fun u hu => hg u (by simp [hu])) (by omega)
    simp only [encJ, dgJ, lenJ, List.append_assoc]
    rw [frJ_ok he]
    have hd : (entE t d ++ (encJ (digChain d (bodyE t)) ts ++ rest)).drop ((encT t).length + 12) = encJ (digChain d (bodyE t)) ts ++ rest := by
      rw [← entE_len t d]; simp
    rw [hd, ih]
    simp only [List.length_cons, List.cons_append, sizJ]
    rw [show c + 1 + ts.length = c + (ts.length + 1) by omega]
    congr 1
    omega
theorem rdJ_enc {ts : List NodeT} (hg : ∀ t ∈ ts, GoodJ t) (hc : ts.length ≤ 300) : rdJ (encJ (digOf []) ts) = ⟨ts, lenJ ts, dgJ (digOf []) ts, 0⟩ := by
  have h := frJ_enc [] ts (digOf []) 0 hg (by omega)
  rw [List.append_nil, frJ_nil] at h
  have h2 : frJ (encJ (digOf []) ts) (digOf []) 0 = ⟨ts, lenJ ts, dgJ (digOf []) ts, 0⟩ := by simpa using h
  exact h2
theorem appJ_enc {ts : List NodeT} {t : NodeT} (hg : ∀ t ∈ ts, GoodJ t) (hc : ts.length < 300) (ht : GoodJ t) : appJ (encJ (digOf []) ts) t = .ok (encJ (digOf []) (ts ++ [t])) := by
  obtain ⟨h1, h2, h3⟩ := ht
  have hr := rdJ_enc hg (by omega)
  have he := rd_end (log := encJ (digOf []) ts) (by rw [hr])
  unfold appJ
  rw [if_neg (by rw [hr]; simp), if_neg (by rw [h1]; simp), if_neg (by rw [hr]; simp only; omega), he, hr, encJ_snoc]

theorem lenJ_le : ∀ (ts : List NodeT), (∀ t ∈ ts, GoodJ t) → lenJ ts ≤ ts.length * 2012
  | [], _ => by simp [lenJ]
  | t :: ts, h => by
    have h1 := lenJ_le ts fun u hu => h u (by simp [hu])
    have h2 := (h t (by simp)).2.2
    simp only [lenJ, sizJ, List.length_cons]; omega
/-! ### What is chosen -/
def okE (t : NodeT) : Bool := okT t && decide ((encT t).length ≤ 2000)
def selJ (acc : List NodeT) : List NodeT → List NodeT
  | [] => acc
  | t :: ts => selJ (if acc.length = 10 ∨ okE t = false then acc else acc ++ [t]) ts
theorem sel_skip {nodes : List NodeT} {k : Nat} {t : NodeT} {acc : List NodeT} (ht : nodes[k]? = some t) (h : acc.length = 10 ∨ okE t = false) : selJ acc (nodes.drop k) = selJ acc (nodes.drop (k + 1)) := by
  obtain ⟨hk, rfl⟩ := List.getElem?_eq_some_iff.1 ht
  rw [List.drop_eq_getElem_cons hk]
  simp only [selJ]
  rw [if_pos h]
theorem sel_take {nodes : List NodeT} {k : Nat} {t : NodeT} {acc : List NodeT} (ht : nodes[k]? = some t) (h : acc.length ≠ 10) (h2 : okE t = true) : selJ acc (nodes.drop k) = selJ (acc ++ [t]) (nodes.drop (k + 1)) := by
  obtain ⟨hk, rfl⟩ := List.getElem?_eq_some_iff.1 ht
  rw [List.drop_eq_getElem_cons hk]
  simp only [selJ]
  rw [if_neg (by rw [h2]; simp [h])]
theorem okE_good {t : NodeT} (h : okE t = true) (hi : i64T t) : GoodJ t := by
  unfold okE at h
  simp at h
  exact ⟨h.1, hi, h.2⟩

/-! ### How many entries end at or before a position -/
def cntJ (ends : List Nat) (cut : Nat) : Nat := (ends.filter fun e => decide (e ≤ cut)).length
theorem cnt_none : ∀ (ts : List NodeT) (o cut : Nat), cut < o → cntJ (endsJ o ts) cut = 0
  | [], _, _, _ => rfl
  | t :: ts, o, cut, h => by
    have ih := cnt_none ts (o + sizJ t) cut (by omega)
    unfold cntJ at ih ⊢
    simp only [endsJ]
    rw [List.filter_cons_of_neg (by simp; omega)]
    exact ih
theorem cnt_form : ∀ (ts : List NodeT) (o cut : Nat), o ≤ cut → ∃ k, cntJ (endsJ o ts) cut = k ∧ k ≤ ts.length ∧ o + lenJ (ts.take k) ≤ cut ∧ (k < ts.length → cut < o + lenJ (ts.take (k + 1)))
  | [], o, cut, h => ⟨0, rfl, by simp, by simpa [lenJ] using h, by simp⟩
  | t :: ts, o, cut, h => by
    by_cases hc : o + sizJ t ≤ cut
    · obtain ⟨k, h1, h2, h3, h4⟩ := cnt_form ts (o + sizJ t) cut hc
      refine ⟨k + 1, ?_, by simp only [List.length_cons]; omega, ?_, fun hk => ?_⟩
      · unfold cntJ at h1 ⊢
        simp only [endsJ]
        rw [List.filter_cons_of_pos (by simpa using hc), List.length_cons, h1]
      · simp only [List.take_succ_cons, lenJ]; omega
      · have := h4 (by simp only [List.length_cons] at hk; omega)
        simp only [List.take_succ_cons, lenJ] at this ⊢; omega
    · refine ⟨0, ?_, by simp, by simpa [lenJ] using h, fun _ => ?_⟩
      · have := cnt_none ts (o + sizJ t) cut (by omega)
        unfold cntJ at this ⊢
        simp only [endsJ]
        rw [List.filter_cons_of_neg (by simp; omega)]
        exact this
      · simp only [List.take_succ_cons, List.take_zero, lenJ]; omega
/-- the end of the k-th entry -/
theorem ends_at : ∀ (ts : List NodeT) (o k : Nat), k < ts.length → (endsJ o ts)[k]? = some (o + lenJ (ts.take (k + 1)))
  | [], _, _, h => by simp at h
  | t :: ts, o, 0, _ => by simp [endsJ, lenJ]
  | t :: ts, o, k + 1, h => by
    have := ends_at ts (o + sizJ t) k (by simp only [List.length_cons] at h; omega)
    simp only [endsJ, List.getElem?_cons_succ, List.take_succ_cons, lenJ] at this ⊢
    rw [this, Nat.add_assoc]

/-! ### Cutting -/
theorem ent_cut {t : NodeT} (hg : GoodJ t) {d : UInt64} {c j : Nat} (hc : c < 300) (hj : j < sizJ t) : entJ ((entE t d).take j) d c = .error 4 := by
  obtain ⟨h1, h2, h3⟩ := hg
  unfold sizJ at hj
  have hl : ((entE t d).take j).length = j := by rw [List.length_take, entE_len]; omega
  unfold entJ
  rw [if_neg (by omega)]
  by_cases h4 : j < 4
  · rw [if_pos (by omega)]
  · have hs : beN (((entE t d).take j).take 4) = (encT t).length := by
      rw [take_take_le _ (by omega)]
      exact bodyE_size h3 _
    rw [if_neg (by omega), if_neg (by omega), if_pos (by omega)]
theorem split_k (ts : List NodeT) {k : Nat} {t : NodeT} (hk : ts[k]? = some t) : ts = ts.take k ++ t :: ts.drop (k + 1) := by
  obtain ⟨h, rfl⟩ := List.getElem?_eq_some_iff.1 hk
  rw [← List.drop_eq_getElem_cons h, List.take_append_drop]
theorem lenJ_take {ts : List NodeT} {k : Nat} {t : NodeT} (hk : ts[k]? = some t) : lenJ (ts.take (k + 1)) = lenJ (ts.take k) + sizJ t := by
  rw [List.take_add_one, hk, lenJ_app]; simp [lenJ]
/-- what a journal that is cut off yields -/
theorem rd_cut {ts : List NodeT} (hg : ∀ t ∈ ts, GoodJ t) (hc : ts.length ≤ 300) {cut k : Nat} (hk : k ≤ ts.length) (h1 : lenJ (ts.take k) ≤ cut) (h2 : k < ts.length → cut < lenJ (ts.take (k + 1))) (h3 : cut ≤ lenJ ts) :
    rdJ ((encJ (digOf []) ts).take cut) = ⟨ts.take k, lenJ (ts.take k), dgJ (digOf []) (ts.take k), if cut = lenJ (ts.take k) then 0 else 4⟩ := by
  have hgk : ∀ t ∈ ts.take k, GoodJ t := fun t ht => hg t (List.mem_of_mem_take ht)
  have hlk : (ts.take k).length = k := by rw [List.length_take]; omega
  by_cases hkl : k = ts.length
  · have e : ts.take k = ts := List.take_of_length_le (by omega)
    rw [e] at h1 ⊢
    have hcut : cut = lenJ ts := by omega
    rw [if_pos hcut, List.take_of_length_le (by rw [encJ_len]; omega), rdJ_enc hg hc]
  · obtain ⟨t, ht⟩ : ∃ t, ts[k]? = some t := ⟨ts[k]'(by omega), List.getElem?_eq_getElem (by omega)⟩
    have hs := split_k ts ht
    have hgt : GoodJ t := hg t (List.mem_of_getElem? ht)
    have h2' := h2 (by omega)
    rw [lenJ_take ht] at h2'
    have e : (encJ (digOf []) ts).take cut = encJ (digOf []) (ts.take k) ++ (entE t (dgJ (digOf []) (ts.take k))).take (cut - lenJ (ts.take k)) := by
      have e1 : encJ (digOf []) ts = encJ (digOf []) (ts.take k) ++ (entE t (dgJ (digOf []) (ts.take k)) ++ encJ (digChain (dgJ (digOf []) (ts.take k)) (bodyE t)) (ts.drop (k + 1))) := by
        conv => lhs; rw [hs, encJ_app]
        rfl
      rw [e1, List.take_append, List.take_of_length_le (by rw [encJ_len]; exact h1), encJ_len, List.take_append_of_le_length]
      rw [entE_len]; unfold sizJ at h2'; omega
    have hr := frJ_enc ((entE t (dgJ (digOf []) (ts.take k))).take (cut - lenJ (ts.take k))) (ts.take k) (digOf []) 0 hgk (by omega)
    have hrd : rdJ ((encJ (digOf []) ts).take cut) = frJ ((encJ (digOf []) ts).take cut) (digOf []) 0 := rfl
    rw [hrd, e, hr]
    by_cases h0 : cut = lenJ (ts.take k)
    · rw [if_pos h0, show cut - lenJ (ts.take k) = 0 by omega, List.take_zero, frJ_nil]
      simp
    · rw [if_neg h0, frJ_err (by intro hn; have := congrArg List.length hn; rw [List.length_take, entE_len] at this; simp at this; omega) (ent_cut hgt (by omega) (by omega))]
      simp
end Go.Proofs.YthbfmioikbphgaaDoor
