/- Natural numbers: what the reference's Norm, Of, limb, Cmp, Add, Sub, Mul and short return, for all limbs. Condition: the limbs can be read, and take at most 2^46 bytes. -/
import Derived.Test.YtahmndacoanfiaaGreatNatC
import Derived.Laws.CopyOwn
namespace Go.Proofs.YtahmndacoanfiaaGreat
set_option maxRecDepth 100000
open Go.RowKit

/-- copy into a slice that the call owns, all of it -/
theorem wpList_copyAll {P : Program} {w : World} {ops : Array Oper} {rest : List Oper} {o : Oper} {a : Act} {Q : Exit → Act → World → Prop} (hgd : o.guard = none) (d s : Operand) (dT sT : TypeId)
    (ho : o.op = .call { callee := .builtin .copy, args := #[d, s], argTypes := #[dT, sT] }) (e : TypeId) (hu : P.underlying dT = some (.slice e)) (hsz : (P.info? e).map (·.size) = some 1)
    (B g n c : Nat) (hd : a.eval d = .slice (some ⟨g, 0, none⟩) n c) (old : List Value) (hown : Owns w B e (.slice (some ⟨g, 0, none⟩) n c) old)
    (sp : Option Addr) (sLen sCap : Nat) (hs : a.eval s = .slice sp sLen sCap) (hle : n ≤ sLen) (news : List Value) (hl : news.length = n) (hsrc : Cells w sp n sCap (fun i => news.getD i .nilFunc)) (h1 : ∀ v ∈ news, v.oneCell' = true)
    (h : ∀ w', Owns w' B e (.slice (some ⟨g, 0, none⟩) n c) news → Below B w w' → wpList P ops Q rest (a.put o.dst (goInt n)) w') : wpList P ops Q (o :: rest) a w := by
  have hol := hown.len
  subst hol
  rcases hown.2 with ⟨h', _⟩ | ⟨g', cap', cur, h', hg, hh, hnc, hcm, hcs, htk⟩
  · cases h'
  · cases h'
    have hcur : old.length ≤ cur.toList.length := by simp at hcs ⊢; omega
    refine wpList_copy_splice hgd d s dT sT ho e hu hsz _ sp _ _ sLen sCap hd hs g 0 cur.toList e (by simpa using hh) news (by rw [hl]; exact (Nat.min_eq_right hle).symm) (fun hp => ⟨rfl, ?_⟩) (by rw [hl, Nat.zero_add]; exact hcur) h1 B w (Below.refl _ _) hg fun w' h2 h3 => ?_
    · rcases hsrc.2.2.2 with h0 | ⟨b, off, rfl, _, hc⟩
      · omega
      · refine ⟨_, rfl, fun j v hj => ?_⟩
        have hj' : j < news.length := (List.getElem?_eq_some_iff.1 hj).1
        rw [addr_add, hc j (by omega)]; simp [List.getD, hj]
    · rw [hl]
      refine h w' ⟨by simp, .inr ⟨g, c, (splice cur.toList 0 news).toArray, by rw [hl], hg, h2.out, by rw [hl]; exact hnc, hcm, ?_, ?_⟩⟩ h3
      · rw [List.size_toArray, length_splice _ _ _ (by rw [hl, Nat.zero_add]; exact hcur)]; simpa using hcs
      · simp [splice, hl]

theorem infoLimb1 : (Tryz.prog.info? 67).map (·.size) = some 1 := by kernel_rfl

theorem Num.form {w : World} {v : Value} {n : Nat} (h : Num w v n) : ∃ a len cap, v = .slice a len cap ∧ Limbs w a len cap (digs n) := h

set_option maxRecDepth 100000 in
set_option maxHeartbeats 1000000 in
theorem rnorm_new (xs : List Nat) (a : Option Addr) (len cap : Nat) (w : World) (hx : Limbs w a len cap xs) (hm : len * 4 ≤ 281474976710656) :
    Calls Tryz.prog 92 #[.slice a len cap] w fun e w' => ∃ v, e = .returned v ∧ (Num w' v (natOf xs) ∧ New w.heap.size v) ∧ Below w.heap.size w w' := by
  have HX := Lib.hid hx
  have HT := Lib.hid hx.trim
  have HM := Lib.hid hx.2.1
  have HL := Lib.hid hx.1
  have HC := Lib.hid hx.2.2
  clear hx
  go_enter Tryz.func92, Tryz.ntmps92
  go_wp2_with fail
  go_loop [3] (fun v => ∃ k : Nat, k ≤ len ∧ v = .int .i64 k ∧ Hid (trimL xs = trimL (xs.take k))) (fun v => (intOf v).toNat)
  case atStart => exact ⟨len, Nat.le_refl _, rfl, by unfold Hid; rw [List.take_of_length_le (by rw [HL.out]; omega)]⟩
  case round =>
    obtain ⟨k, hk, rfl, HD⟩ := hrel
    by_cases hend : k = 0 ∨ xs.getD (k - 1) 0 ≠ 0
    · have HF : Hid ((digs (natOf xs)).length = k) := by
        unfold Hid
        by_cases hk0 : k = 0
        · subst hk0; exact trim_end0 HM.out HD.out
        · exact trim_end1 HM.out (by omega) (by rw [HL.out]; exact hk) HD.out (hend.resolve_left hk0)
      rw [HF.out] at HT
      have HV := Lib.hid HT.out.vals
      have hfin : ∀ (v : Value) (w' : World), Owns w' w.heap.size 67 v (lvs (digs (natOf xs))) → Num w' v (natOf xs) := fun v w' h => h.limbs (lim_digs _)
      have HFin := Lib.hid hfin
      have HNl := Lib.hid (show (lvs (digs (natOf xs))).length = k by rw [lvs_length]; exact HF.out)
      have H1 := Lib.hid (lvs_one (digs (natOf xs)))
      clear hfin HF HT HX HD
      generalize lvs (digs (natOf xs)) = N at *
      by_cases hk0 : k = 0
      case' pos =>
        have d1 : decide (0 < (k : Int)) = false := by simp; omega
        have d2 : decide (0 < k) = false := by simp; omega
        clear hk0 hend
      case' neg =>
        have hk1 : 1 ≤ k := by omega
        have h0 := hend.resolve_left hk0
        clear hk0 hend
        obtain ⟨b, off, rfl, _, hcc⟩ := HC.out.at (k := k - 1) (by omega)
        have c1 := hcc (k - 1) (by omega) w (Below.refl _ _)
        have d1 : decide (0 < (k : Int)) = true := by simp; omega
        clear hcc
        generalize xs.getD (k - 1) 0 = x at *
        have d2 : ((x : Int) == 0) = false := by simpa using h0
        clear h0
      all_goals
        go_wp2_with (first | (at_make; refine wpList_mkn rfl _ _ 24 rfl 67 (.int .u32 0) 4 Tryz.underlying24 infoLimb rfl _ _ _ _ k rfl rfl rfl rfl (by omega) (by simp only [maxLen]; omega) fun w1 h1 h2 => ?_; have HO := Lib.hid h1; clear h1; have HV1 := Lib.hid (HV.out.below h2)) | (refine wpList_copyAll (o := ⟨some 23, _, _, _, _, _⟩) rfl (.tmp 21) (.tmp 22) 24 24 rfl 67 Tryz.underlying24 infoLimb1 w.heap.size w.heap.size k k rfl _ HO.out _ len cap rfl hk N HNl.out HV1.out H1.out fun w2 h3 h4 => ?_))
        go_wp2_with fail
        go_ret
        exact ⟨_, rfl, ⟨HFin.out _ _ h3, new_at _ _ _ _ _ (Nat.le_refl _)⟩, h2.trans h4⟩
    · have hk0 : k ≠ 0 := fun h => hend (.inl h)
      have h0 : xs.getD (k - 1) 0 = 0 := Decidable.byContradiction fun h => hend (.inr h)
      have hk1 : 1 ≤ k := by omega
      clear hend hk0
      obtain ⟨b, off, rfl, _, hcc⟩ := HC.out.at (k := k - 1) (by omega)
      have c1 := hcc (k - 1) (by omega) w (Below.refl _ _)
      have d1 : decide (0 < (k : Int)) = true := by simp; omega
      have HS := Lib.hid (trim_next hk1 (by rw [HL.out]; exact hk) HD.out h0)
      rw [h0] at c1
      clear hcc h0
      go_wp2_with fail
      go_round
      case rel => exact ⟨k - 1, by omega, by go_num, HS⟩
      case measure => simp [intOf]; omega

theorem rnorm_any (xs : List Nat) (a : Option Addr) (len cap : Nat) (w : World) (hx : Limbs w a len cap xs) (hm : len * 4 ≤ 281474976710656) :
    Calls Tryz.prog 92 #[.slice a len cap] w fun e w' => ∃ v, e = .returned v ∧ Num w' v (natOf xs) ∧ Below w.heap.size w w' :=
  (rnorm_new xs a len cap w hx hm).mono fun _ _ ⟨v, h1, h2, h3⟩ => ⟨v, h1, h2.1, h3⟩
theorem rnorm_numN (xs : List Nat) (a : Option Addr) (len cap : Nat) (w : World) (n B : Nat) (hx : Limbs w a len cap xs) (hn : natOf xs = n) (hm : len * 4 ≤ 281474976710656) (hB : B ≤ w.heap.size) :
    Calls Tryz.prog 92 #[.slice a len cap] w fun e w' => ∃ v, e = .returned v ∧ (Num w' v n ∧ New B v) ∧ Below w.heap.size w w' := by
  have := rnorm_new xs a len cap w hx hm
  rw [hn] at this
  exact this.mono fun _ _ ⟨v, h1, h2, h3⟩ => ⟨v, h1, ⟨h2.1, fun x l c e => Nat.le_trans hB (h2.2 x l c e)⟩, h3⟩
theorem rnorm_num (xs : List Nat) (a : Option Addr) (len cap : Nat) (w : World) (n : Nat) (hx : Limbs w a len cap xs) (hn : natOf xs = n) (hm : len * 4 ≤ 281474976710656) :
    Calls Tryz.prog 92 #[.slice a len cap] w fun e w' => ∃ v, e = .returned v ∧ Num w' v n ∧ Below w.heap.size w w' := by
  have := rnorm_any xs a len cap w hx hm
  rwa [hn] at this

theorem rof_any (m : Nat) (hm : m < 18446744073709551616) (w : World) :
    Calls Tryz.prog 77 #[.int .u64 (m : Int)] w fun e w' => ∃ v, e = .returned v ∧ Num w' v m ∧ Below w.heap.size w w' := by
  go_enter Tryz.func77, Tryz.ntmps77
  go_wp2_with fail
  have hl := limbs_lit w 67 [m % 4294967296, m / 4294967296] (fun x hx => by simp at hx; omega) (by simp [maxLen])
  have hn : natOf [m % 4294967296, m / 4294967296] = m := by simp only [natOf]; omega
  rw [show ((m : Int) % 4294967296) = ((m % 4294967296 : Nat) : Int) by simp, show ((m : Int) / 4294967296) = ((m / 4294967296 : Nat) : Int) by simp]
  refine (rnorm_num _ _ _ _ _ _ hl hn (by simp)).mono ?_
  rintro e w1 ⟨v, rfl, hN, hb⟩
  have HN := Lib.hid hN
  clear hl hn hN
  go_wp2_with fail
  go_ret
  exact ⟨v, rfl, HN.out, ((Below.refl _ _).alloc (Nat.le_refl _) _).trans (hb.mono (by simp))⟩

theorem rlimb_any (xs : List Nat) (a : Option Addr) (len cap : Nat) (k x : Nat) (w : World) (hx : Limbs w a len cap xs) (hxx : xs.getD k 0 = x) :
    Calls Tryz.prog 110 #[.slice a len cap, .int .i64 (k : Int)] w fun e w' => e = .returned (.int .u64 (x : Int)) ∧ w = w' := by
  have HX := Lib.hid hx
  have HXx := Lib.hid hxx
  clear hx hxx
  by_cases hk : k < len
  · obtain ⟨b, off, rfl, _, hcc⟩ := HX.out.2.2.at hk
    have c1 := hcc k hk w (Below.refl _ _)
    have hx1 := HX.out.2.1.getD k
    rw [HXx.out] at c1 hx1
    clear hcc
    go_enter Tryz.func110, Tryz.ntmps110
    go_wp2_with fail
    go_ret
    exact ⟨rfl, rfl⟩
  · have HZ := Lib.hid (show x = 0 by rw [← HXx.out]; simp [List.getD, List.getElem?_eq_none (show xs.length ≤ k by rw [HX.out.1]; omega)])
    go_enter Tryz.func110, Tryz.ntmps110
    go_wp2_with fail
    go_ret
    exact ⟨by rw [HZ.out]; rfl, rfl⟩

theorem cmp_less' {xs zs : List Nat} {k : Nat} (hx : Lim xs) (he : natOf (xs.drop (k + 1)) = natOf (zs.drop (k + 1))) (h : xs.getD k 0 < zs.getD k 0) : natOf xs < natOf zs := by
  have ha : ∀ l : List Nat, natOf l = natOf (l.take k) + 4294967296 ^ k * natOf (l.drop k) := fun l => by
    have e := natOf_append (l.take k) (l.drop k)
    rw [List.take_append_drop, List.length_take] at e
    by_cases hk : k ≤ l.length
    · rwa [Nat.min_eq_left hk] at e
    · rw [List.drop_of_length_le (by omega)] at e ⊢
      simp [natOf] at e ⊢
      exact e
  have h1 : natOf (xs.take k) < 4294967296 ^ k := Nat.lt_of_lt_of_le (natOf_lt (hx.take k)) (Nat.pow_le_pow_right (by omega) (by rw [List.length_take]; omega))
  rw [ha xs, ha zs, natOf_drop_s xs k, natOf_drop_s zs k, he]
  have h2 : 4294967296 ^ k * (xs.getD k 0 + 4294967296 * natOf (zs.drop (k + 1)) + 1) ≤ 4294967296 ^ k * (zs.getD k 0 + 4294967296 * natOf (zs.drop (k + 1))) := Nat.mul_le_mul_left _ (by omega)
  rw [Nat.mul_add] at h2
  omega

set_option maxHeartbeats 400000 in
theorem rcmp_any (X Y : List Nat) (a a' : Option Addr) (len cap len' cap' : Nat) (w : World) (hx : Limbs w a len cap X) (hy : Limbs w a' len' cap' Y) :
    Calls Tryz.prog 76 #[.slice a len cap, .slice a' len' cap'] w fun e w' => e = .returned (.int .i64 (cmpI (natOf X) (natOf Y))) ∧ w = w' := by
  have HX := Lib.hid hx
  have HY := Lib.hid hy
  have hm1 := hx.2.2.1
  have hm2 := hx.2.2.2.1
  have hm3 := hy.2.2.1
  have hm4 := hy.2.2.2.1
  unfold maxLen at hm2 hm4
  clear hx hy
  by_cases hsw : len < len'
  case' pos =>
    obtain ⟨n, rfl⟩ : ∃ n, n = len' := ⟨_, rfl⟩
    have hnx : len ≤ n := by omega
    have hny : n ≤ n := by omega
    have hnn : n ≤ 9223372036854775807 := by omega
  case' neg =>
    obtain ⟨n, rfl⟩ : ∃ n, n = len := ⟨_, rfl⟩
    have hnx : n ≤ n := by omega
    have hny : len' ≤ n := by omega
    have hnn : n ≤ 9223372036854775807 := by omega
  all_goals
    go_enter Tryz.func76, Tryz.ntmps76
    go_wp2_with fail
    go_loop [5] (fun i => ∃ k : Nat, k ≤ n ∧ i = .int .i64 ((k : Int) - 1) ∧ Hid (natOf (X.drop k) = natOf (Y.drop k))) (fun i => (1 + intOf i).toNat)
    case atStart => exact ⟨n, Nat.le_refl _, rfl, by unfold Hid; rw [List.drop_of_length_le (by rw [HX.out.1]; omega), List.drop_of_length_le (by rw [HY.out.1]; omega)]⟩
    case round =>
      obtain ⟨k, hk, rfl, HD⟩ := hrel
      cases k with
      | zero =>
        have HF := Lib.hid (cmpI_eq (m := natOf X) (n := natOf Y) (by simpa using HD.out))
        go_wp2_with fail
        go_ret
        exact ⟨by rw [HF.out]; rfl, rfl⟩
      | succ j =>
        rw [show (((j + 1 : Nat) : Int) - 1) = (j : Int) by omega]
        have HSL := Lib.hid (fun h => cmp_less' (k := j) (xs := X) (zs := Y) HX.out.2.1 HD.out h)
        have HSG := Lib.hid (fun h => cmp_less' (k := j) (xs := Y) (zs := X) HY.out.2.1 HD.out.symm h)
        have HSE := Lib.hid (fun h : X.getD j 0 = Y.getD j 0 => show natOf (X.drop j) = natOf (Y.drop j) by rw [natOf_drop_s X j, natOf_drop_s Y j, HD.out, h])
        generalize hX1 : X.getD j 0 = x at *
        generalize hY1 : Y.getD j 0 = y at *
        have HX1 := Lib.hid hX1
        have HY1 := Lib.hid hY1
        clear hX1 hY1
        go_wp2_with fail
        refine (rlimb_any X _ _ _ j x _ HX.out HX1.out).mono ?_
        rintro e w1 ⟨rfl, rfl⟩
        go_wp2_with fail
        refine (rlimb_any Y _ _ _ j y _ HY.out HY1.out).mono ?_
        rintro e w1 ⟨rfl, rfl⟩
        rcases Nat.lt_trichotomy x y with h | h | h
        · have HF := Lib.hid (cmpI_lt (HSL.out h))
          go_wp2_with fail
          go_ret
          exact ⟨by rw [HF.out]; rfl, rfl⟩
        · have HS := Lib.hid (HSE.out h)
          subst h
          go_wp2_with fail
          go_round
          case rel => exact ⟨j, by omega, rfl, HS⟩
          case measure => simp [intOf]; omega
        · have HF := Lib.hid (cmpI_gt (HSG.out h))
          have h' : ¬ x < y := by omega
          go_wp2_with fail
          go_ret
          exact ⟨by rw [HF.out]; rfl, rfl⟩

theorem radd_end {P Q zs : List Nat} {n cc : Nat} (hP : Lim P) (hQ : Lim Q) (h1 : P.length ≤ n) (h2 : Q.length ≤ n) (e : natOf zs + 4294967296 ^ (n + 1) * cc = natOf (P.take (n + 1)) + natOf (Q.take (n + 1))) :
    natOf (zs ++ List.replicate (n + 1 - (n + 1)) 0) = natOf P + natOf Q := by
  rw [List.take_of_length_le (by omega), List.take_of_length_le (by omega)] at e
  rw [Nat.sub_self, List.replicate_zero, List.append_nil]
  have hP : natOf P < 4294967296 ^ n := Nat.lt_of_lt_of_le (natOf_lt hP) (Nat.pow_le_pow_right (by omega) h1)
  have hQ : natOf Q < 4294967296 ^ n := Nat.lt_of_lt_of_le (natOf_lt hQ) (Nat.pow_le_pow_right (by omega) h2)
  rw [Nat.pow_succ, Nat.mul_assoc] at e
  rcases Nat.eq_zero_or_pos cc with h0 | h0
  · subst h0; omega
  · have h3 : 4294967296 ^ n * 2 ≤ 4294967296 ^ n * (4294967296 * cc) := Nat.mul_le_mul_left _ (by omega)
    omega

set_option maxHeartbeats 1000000 in
theorem radd_any (P Q : List Nat) (a a' : Option Addr) (len cap len' cap' : Nat) (w : World) (hx : Limbs w a len cap P) (hy : Limbs w a' len' cap' Q) (hm1 : len * 4 ≤ 140737488355328) (hm2 : len' * 4 ≤ 140737488355328) :
    Calls Tryz.prog 97 #[.slice a len cap, .slice a' len' cap'] w fun e w' => ∃ v, e = .returned v ∧ Num w' v (natOf P + natOf Q) ∧ Below w.heap.size w w' := by
  have HX := Lib.hid hx
  have HY := Lib.hid hy
  clear hx hy
  by_cases hsw : len < len'
  case' pos =>
    obtain ⟨n, rfl⟩ : ∃ n, n = len' := ⟨_, rfl⟩
    have hnx : len ≤ n := by omega
    have hny : n ≤ n := by omega
    have hnn : n * 4 ≤ 140737488355328 := by omega
  case' neg =>
    obtain ⟨n, rfl⟩ : ∃ n, n = len := ⟨_, rfl⟩
    have hnx : n ≤ n := by omega
    have hny : len' ≤ n := by omega
    have hnn : n * 4 ≤ 140737488355328 := by omega
  all_goals
    go_enter Tryz.func97, Tryz.ntmps97
    go_wp2_with (at_make; refine wpList_mkn rfl _ _ 24 rfl 67 (.int .u32 0) 4 Tryz.underlying24 infoLimb rfl _ _ _ _ (n + 1) rfl rfl rfl rfl (by omega) (by simp only [maxLen]; omega) fun w1 h1 h2 => ?_)
    have HO := Lib.hid h1
    clear h1
    go_wp2_with fail
    go_loopw [6, 7] (fun c i wr => ∃ (k cc : Nat) (zs : List Nat), k ≤ n + 1 ∧ i = .int .i64 k ∧ c = .int .u64 cc ∧ cc ≤ 1 ∧ Hid (zs.length = k) ∧ Hid (Lim zs) ∧ Hid (natOf zs + 4294967296 ^ k * cc = natOf (P.take k) + natOf (Q.take k)) ∧ Hid (Owns wr w.heap.size 67 (.slice (some ⟨w.heap.size, 0, none⟩) (n + 1) (n + 1)) (lvs (zs ++ List.replicate (n + 1 - k) 0))) ∧ Below w.heap.size w wr) (fun _ i _ => n + 1 - (intOf i).toNat)
    case atStart => exact ⟨0, 0, [], by omega, rfl, rfl, by omega, rfl, lim_nil, by simp [Hid, natOf], by have := HO.out; simpa [Hid, lvs, lv] using this, h2⟩
    case round =>
      obtain ⟨k, cc, zs, hk, rfl, rfl, hcc1, HZ, HZl, HE, HOk, hb⟩ := hrel
      by_cases hlt : k < n + 1
      · have c4 := HOk.out.free k
        have c3 := HOk.out.cell k (by omega)
        have hx1 := HX.out.2.1.getD k
        have hy1 := HY.out.2.1.getD k
        have hS := HOk.out.store k (lv ((P.getD k 0 + cc + Q.getD k 0) % 4294967296))
        rw [lvs_set] at hS
        have e1 := lset_fill zs (n - k) ((P.getD k 0 + cc + Q.getD k 0) % 4294967296)
        rw [HZ.out, show n - k + 1 = n + 1 - k by omega] at e1
        rw [e1, show n - k = n + 1 - (k + 1) by omega] at hS
        rw [show P.getD k 0 + cc + Q.getD k 0 = P.getD k 0 + Q.getD k 0 + cc by omega] at hS
        have HS1 := Lib.hid hS
        have HE1 := Lib.hid (add_step (t := P.getD k 0 + Q.getD k 0 + cc) HZ.out HE.out (by omega))
        have HBs := Lib.hid (fun v => hb.setCell (p := ⟨w.heap.size, k, none⟩) (Nat.le_refl _) v)
        have HXr := Lib.hid (HX.out.below hb)
        have HYr := Lib.hid (HY.out.below hb)
        clear hS e1
        generalize (lvs (zs ++ List.replicate (n + 1 - k) 0)).getD k .nilFunc = old at *
        generalize hX1 : P.getD k 0 = x at *
        generalize hY1 : Q.getD k 0 = y at *
        have HX1 := Lib.hid hX1
        have HY1 := Lib.hid hY1
        clear hX1 hY1
        go_wp2_with fail
        refine (rlimb_any P _ _ _ k x _ HXr.out HX1.out).mono ?_
        rintro e w1 ⟨rfl, rfl⟩
        go_wp2_with fail
        refine (rlimb_any Q _ _ _ k y _ HYr.out HY1.out).mono ?_
        rintro e w1 ⟨rfl, rfl⟩
        go_wp2_with fail
        go_roundw
        case rel => exact ⟨k + 1, (x + y + cc) / 4294967296, zs ++ [(x + y + cc) % 4294967296], by omega, by go_num, by go_num, by omega, by unfold Hid; simp [HZ.out], HZl.out.snoc (by omega), HE1, HS1, HBs.out _⟩
        case measure => simp [intOf]; omega
      · obtain rfl : k = n + 1 := by omega
        have HL := Lib.hid (HOk.out.limbs' (HZl.out.append (lim_replicate _)))
        have HEnd := Lib.hid (radd_end HX.out.2.1 HY.out.2.1 (by rw [HX.out.1]; exact hnx) (by rw [HY.out.1]; exact hny) HE.out)
        generalize zs ++ List.replicate (n + 1 - (n + 1)) 0 = Z at *
        go_wp2_with fail
        refine (rnorm_num _ _ _ _ _ _ HL.out HEnd.out (by omega)).mono ?_
        rintro e w2 ⟨v, rfl, hN, hb2⟩
        have HNum := Lib.hid hN
        clear hN
        go_wp2_with fail
        go_ret
        exact ⟨v, rfl, HNum.out, hb.trans (hb2.mono hb.size)⟩

end Go.Proofs.YtahmndacoanfiaaGreat
