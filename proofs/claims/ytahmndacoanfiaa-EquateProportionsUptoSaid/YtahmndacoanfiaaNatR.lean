/- Natural numbers: what the reference's Norm, Of, limb, Cmp, Add, Sub, Mul and short return, for all limbs. Condition: the limbs can be read, and take at most 2^46 bytes. -/
import Derived.Test.YtahmndacoanfiaaNatC
import Derived.Laws.CopyOwn
namespace Go.Proofs.Ytahmndacoanfiaa
set_option maxRecDepth 100000
open Go.RowKit

/-- copy into a slice that the call owns, all of it -/
theorem wpList_copyAll {P : Program} {w : World} {ops : Array Oper} {rest : List Oper} {o : Oper} {a : Act} {Q : Exit → Act → World → Prop} (hgd : o.guard = none) (d s : Operand) (dT sT : TypeId)
    (ho : o.op = .call { callee := .builtin .copy, args := #[d, s], argTypes := #[dT, sT] }) (e : TypeId) (hu : P.underlying dT = some (.slice e)) (hsz : (P.info? e).map (·.size) = some 1)
    (B g n c : Nat) (hd : a.eval d = .slice (some ⟨g, 0, none⟩) n c) (old : List Value) (hown : Owns w B e (.slice (some ⟨g, 0, none⟩) n c) old)
    (sp : Option Addr) (sLen sCap : Nat) (hs : a.eval s = .slice sp sLen sCap) (hle : n ≤ sLen) (news : List Value) (hl : news.length = n) (hsrc : Cells w sp n sCap (fun i => news.getD i .nilFunc)) (h1 : ∀ v ∈ news, v.oneCell' = true)
    (h : ∀ w', Owns w' B e (.slice (some ⟨g, 0, none⟩) n c) news → Below B w w' → wpList P ops Q rest (a.put o.dst (goInt n)) w') : wpList P ops Q (o :: rest) a w := by
  have hol := hown.len
  subst hol
  rcases hown.2 with ⟨h', _⟩ | ⟨g', cap', cur, h', hg, hh, hnc, hcm, hcs, htk⟩
  · cases h'
  · cases h'
    have hcur : old.length ≤ cur.toList.length := by simp at hcs ⊢; omega
    refine wpList_copy_splice hgd d s dT sT ho e hu hsz _ sp _ _ sLen sCap hd hs g 0 cur.toList e (by simpa using hh) news (by rw [hl]; exact (Nat.min_eq_right hle).symm) (fun hp => ⟨rfl, ?_⟩) (by rw [hl, Nat.zero_add]; exact hcur) h1 B w (Below.refl _ _) hg fun w' h2 h3 => ?_
    · rcases hsrc.2.2.2 with h0 | ⟨b, off, rfl, _, hc⟩
      · omega
      · refine ⟨_, rfl, fun j v hj => ?_⟩
        have hj' : j < news.length := (List.getElem?_eq_some_iff.1 hj).1
        rw [addr_add, hc j (by omega)]; simp [List.getD, hj]
    · rw [hl]
      refine h w' ⟨by simp, .inr ⟨g, c, (splice cur.toList 0 news).toArray, by rw [hl], hg, h2.out, by rw [hl]; exact hnc, hcm, ?_, ?_⟩⟩ h3
      · rw [List.size_toArray, length_splice _ _ _ (by rw [hl, Nat.zero_add]; exact hcur)]; simpa using hcs
      · simp [splice, hl]

theorem infoLimb1 : (Try.prog.info? 68).map (·.size) = some 1 := by kernel_rfl

theorem Num.form {w : World} {v : Value} {n : Nat} (h : Num w v n) : ∃ a len cap, v = .slice a len cap ∧ Limbs w a len cap (digs n) := h

theorem cmp_less' {xs zs : List Nat} {k : Nat} (hx : Lim xs) (he : natOf (xs.drop (k + 1)) = natOf (zs.drop (k + 1))) (h : xs.getD k 0 < zs.getD k 0) : natOf xs < natOf zs := by
  have ha : ∀ l : List Nat, natOf l = natOf (l.take k) + 4294967296 ^ k * natOf (l.drop k) := fun l => by
    have e := natOf_append (l.take k) (l.drop k)
    rw [List.take_append_drop, List.length_take] at e
    by_cases hk : k ≤ l.length
    · rwa [Nat.min_eq_left hk] at e
    · rw [List.drop_of_length_le (by omega)] at e ⊢
      simp [natOf] at e ⊢
      exact e
  have h1 : natOf (xs.take k) < 4294967296 ^ k := Nat.lt_of_lt_of_le (natOf_lt (hx.take k)) (Nat.pow_le_pow_right (by omega) (by rw [List.length_take]; omega))
  rw [ha xs, ha zs, natOf_drop_s xs k, natOf_drop_s zs k, he]
  have h2 : 4294967296 ^ k * (xs.getD k 0 + 4294967296 * natOf (zs.drop (k + 1)) + 1) ≤ 4294967296 ^ k * (zs.getD k 0 + 4294967296 * natOf (zs.drop (k + 1))) := Nat.mul_le_mul_left _ (by omega)
  rw [Nat.mul_add] at h2
  omega

theorem radd_end {P Q zs : List Nat} {n cc : Nat} (hP : Lim P) (hQ : Lim Q) (h1 : P.length ≤ n) (h2 : Q.length ≤ n) (e : natOf zs + 4294967296 ^ (n + 1) * cc = natOf (P.take (n + 1)) + natOf (Q.take (n + 1))) :
    natOf (zs ++ List.replicate (n + 1 - (n + 1)) 0) = natOf P + natOf Q := by
  rw [List.take_of_length_le (by omega), List.take_of_length_le (by omega)] at e
  rw [Nat.sub_self, List.replicate_zero, List.append_nil]
  have hP : natOf P < 4294967296 ^ n := Nat.lt_of_lt_of_le (natOf_lt hP) (Nat.pow_le_pow_right (by omega) h1)
  have hQ : natOf Q < 4294967296 ^ n := Nat.lt_of_lt_of_le (natOf_lt hQ) (Nat.pow_le_pow_right (by omega) h2)
  rw [Nat.pow_succ, Nat.mul_assoc] at e
  rcases Nat.eq_zero_or_pos cc with h0 | h0
  · subst h0; omega
  · have h3 : 4294967296 ^ n * 2 ≤ 4294967296 ^ n * (4294967296 * cc) := Nat.mul_le_mul_left _ (by omega)
    omega

end Go.Proofs.Ytahmndacoanfiaa
