/- Natural numbers: what nat.trim, Of, Norm and Cmp return, for all limbs. Condition: the limbs can be read. -/
import Derived.Test.YtahmndacoanfiaaGreatNatP
import Derived.Test.YtahmndacoanfiaaGreatProg
namespace Go.Proofs.YtahmndacoanfiaaGreat
set_option maxRecDepth 100000
open Go.RowKit

theorem infoLimb : (Tryz.prog.info? 67).map (fun i => (i.zero, i.size, i.bytes)) = some (some (.int .u32 0), 1, 4) := by kernel_rfl

theorem trim_end0 {xs : List Nat} (hl : Lim xs) (h : trimL xs = trimL (xs.take 0)) : (digs (natOf xs)).length = 0 := by
  rw [← trimL_digs hl, h]; simp [trimL]
theorem trim_end1 {xs : List Nat} (hl : Lim xs) {k : Nat} (hk1 : 1 ≤ k) (hk : k ≤ xs.length) (h : trimL xs = trimL (xs.take k)) (h0 : xs.getD (k - 1) 0 ≠ 0) : (digs (natOf xs)).length = k := by
  rw [← trimL_digs hl, h]
  obtain ⟨j, rfl⟩ : ∃ j, k = j + 1 := ⟨k - 1, by omega⟩
  rw [trimL_done xs j (by omega) (by simpa using h0), List.length_take]; omega
theorem trim_next {xs : List Nat} {k : Nat} (hk1 : 1 ≤ k) (hk : k ≤ xs.length) (h : trimL xs = trimL (xs.take k)) (h0 : xs.getD (k - 1) 0 = 0) : trimL xs = trimL (xs.take (k - 1)) := by
  obtain ⟨j, rfl⟩ : ∃ j, k = j + 1 := ⟨k - 1, by omega⟩
  rw [h, trimL_less xs j (by omega) (by simpa using h0)]; rfl

theorem Limbs.trim {w : World} {a : Option Addr} {len cap : Nat} {xs : List Nat} (h : Limbs w a len cap xs) : Limbs w a (digs (natOf xs)).length cap (digs (natOf xs)) := by
  have h1 := digs_length_of h.2.1
  rw [h.1] at h1
  have := h.pre (digs (natOf xs)).length h1
  rwa [← digs_take h.2.1] at this
theorem Limbs.num {w : World} {a : Option Addr} {len cap : Nat} {xs : List Nat} (h : Limbs w a len cap xs) : Num w (.slice a (digs (natOf xs)).length cap) (natOf xs) := ⟨_, _, _, rfl, h.trim⟩

set_option maxHeartbeats 400000 in
theorem trim_any (xs : List Nat) (a : Option Addr) (len cap : Nat) (w : World) (hx : Limbs w a len cap xs) :
    Calls Tryz.prog 87 #[.slice a len cap] w fun e w' => e = .returned (.slice a (digs (natOf xs)).length cap) ∧ w = w' := by
  have hlc : len ≤ cap := hx.2.2.1
  have hm : cap ≤ 9223372036854775807 := by have h2 := hx.2.2.2.1; unfold maxLen at h2; omega
  have HM := Lib.hid hx.2.1
  have HL := Lib.hid hx.1
  have HC := Lib.hid hx.2.2
  clear hx
  go_enter Tryz.func87, Tryz.ntmps87
  go_wp2
  go_loop [0] (fun v => ∃ k : Nat, k ≤ len ∧ v = .slice a k cap ∧ Hid (trimL xs = trimL (xs.take k))) (fun v => lenOf v)
  case atStart => exact ⟨len, Nat.le_refl _, rfl, by unfold Hid; rw [List.take_of_length_le (by rw [HL.out]; omega)]⟩
  case round =>
    obtain ⟨k, hk, rfl, HD⟩ := hrel
    by_cases hk0 : k = 0
    · subst hk0
      have HF := Lib.hid (trim_end0 HM.out HD.out)
      go_wp2
      go_ret
      exact ⟨by rw [HF.out]; rfl, rfl⟩
    · have hk1 : 1 ≤ k := by omega
      obtain ⟨b, off, rfl, _, hcc⟩ := HC.out.at (k := k - 1) (by omega)
      have c1 := hcc (k - 1) (by omega) w (Below.refl _ _)
      have d1 : decide (0 < (k : Int)) = true := by simp; omega
      clear hcc hk0
      by_cases h0 : xs.getD (k - 1) 0 = 0
      · have HS := Lib.hid (trim_next hk1 (by rw [HL.out]; exact hk) HD.out h0)
        rw [h0] at c1
        clear h0
        go_wp2
        go_round
        case rel => exact ⟨k - 1, by omega, rfl, HS⟩
        case measure => simp [lenOf]; omega
      · have HF := Lib.hid (trim_end1 HM.out hk1 (by rw [HL.out]; exact hk) HD.out h0)
        generalize xs.getD (k - 1) 0 = x at *
        have d2 : ((x : Int) == 0) = false := by simpa using h0
        clear h0
        go_wp2
        go_ret
        exact ⟨by rw [HF.out]; rfl, rfl⟩

theorem Num.eq {w : World} {v : Value} {m n : Nat} (h : Num w v m) (e : m = n) : Num w v n := e ▸ h

theorem trim_num (xs : List Nat) (a : Option Addr) (len cap : Nat) (w : World) (n : Nat) (hx : Limbs w a len cap xs) (hn : natOf xs = n) :
    Calls Tryz.prog 87 #[.slice a len cap] w fun e w' => ∃ v, e = .returned v ∧ Num w v n ∧ w = w' :=
  (trim_any xs a len cap w hx).mono fun _ _ ⟨h1, h2⟩ => ⟨_, h1, hx.num.eq hn, h2⟩

/-- the slice lies from block B on, or nowhere -/
def New (B : Nat) (v : Value) : Prop := ∀ x l c, v = .slice (some x) l c → B ≤ x.block
theorem New.mono {B B' : Nat} {v : Value} (h : New B v) (hB : B' ≤ B) : New B' v := fun x l c e => Nat.le_trans hB (h x l c e)
theorem new_at (B g o l c : Nat) (h : B ≤ g) : New B (.slice (some ⟨g, o, none⟩) l c) := fun x l' c' e => by cases e; exact h

theorem trim_numN (xs : List Nat) (a : Option Addr) (len cap : Nat) (w : World) (n B : Nat) (hx : Limbs w a len cap xs) (hn : natOf xs = n) (hB : ∀ x, a = some x → B ≤ x.block) :
    Calls Tryz.prog 87 #[.slice a len cap] w fun e w' => ∃ v, e = .returned v ∧ (Num w v n ∧ New B v) ∧ w = w' :=
  (trim_any xs a len cap w hx).mono fun _ _ ⟨h1, h2⟩ => ⟨_, h1, ⟨hx.num.eq hn, fun x l c e => hB x (by cases e; rfl)⟩, h2⟩

theorem limbs_lit (w : World) (e : TypeId) (xs : List Nat) (hx : Lim xs) (hl : xs.length ≤ maxLen) : Limbs (w.alloc (.cells (lvs xs).toArray e)) (some ⟨w.heap.size, 0, none⟩) xs.length xs.length xs := by
  have h := cells_lit w e (lvs xs) (by rw [lvs_length]; exact hl)
  rw [lvs_length] at h
  exact ⟨rfl, hx, h.congr fun i hi => by rw [lvs_at xs i hi]; rfl⟩

theorem of_new (m : Nat) (hm : m < 18446744073709551616) (w : World) :
    Calls Tryz.prog 81 #[.int .u64 (m : Int)] w fun e w' => ∃ v, e = .returned v ∧ (Num w' v m ∧ New w.heap.size v) ∧ Below w.heap.size w w' := by
  go_enter Tryz.func81, Tryz.ntmps81
  go_wp2_with fail
  have hl := limbs_lit w 67 [m % 4294967296, m / 4294967296] (fun x hx => by simp at hx; omega) (by simp [maxLen])
  have hn : natOf [m % 4294967296, m / 4294967296] = m := by simp only [natOf]; omega
  rw [show ((m : Int) % 4294967296) = ((m % 4294967296 : Nat) : Int) by simp, show ((m : Int) / 4294967296) = ((m / 4294967296 : Nat) : Int) by simp]
  refine (trim_any _ _ _ _ _ hl).mono ?_
  rintro e w1 ⟨rfl, rfl⟩
  have HN := Lib.hid (hl.num.eq hn)
  clear hl hn
  go_wp2_with fail
  go_ret
  exact ⟨_, rfl, ⟨HN.out, new_at _ _ _ _ _ (Nat.le_refl _)⟩, (Below.refl _ _).alloc (Nat.le_refl _) _⟩

theorem of_any (m : Nat) (hm : m < 18446744073709551616) (w : World) :
    Calls Tryz.prog 81 #[.int .u64 (m : Int)] w fun e w' => ∃ v, e = .returned v ∧ Num w' v m ∧ Below w.heap.size w w' :=
  (of_new m hm w).mono fun _ _ ⟨v, h1, h2, h3⟩ => ⟨v, h1, h2.1, h3⟩

theorem norm_new (xs : List Nat) (a : Option Addr) (len cap : Nat) (w : World) (hx : Limbs w a len cap xs) (hm : len * 4 ≤ 140737488355328) :
    Calls Tryz.prog 111 #[.slice a len cap] w fun e w' => ∃ v, e = .returned v ∧ (Num w' v (natOf xs) ∧ New w.heap.size v) ∧ Below w.heap.size w w' := by
  have H := Lib.hid hx; clear hx
  go_enter Tryz.func111, Tryz.ntmps111
  go_wp2_with fail
  refine (trim_any xs a len cap _ H.out).mono ?_
  rintro e w1 ⟨rfl, rfl⟩
  have e1 := digs_length_of H.out.2.1
  have e2 := H.out.1
  have HT := Lib.hid H.out.trim
  have HN := Lib.hid (show (lvs (digs (natOf xs))).length = (digs (natOf xs)).length from lvs_length _)
  have hn : (digs (natOf xs)).length ≤ len := by omega
  clear e1 e2
  generalize (digs (natOf xs)).length = k at *
  go_wp2_with (at_builtin; go_must (refine wpList_app rfl _ _ 24 rfl w.heap.size 67 (.int .u32 0) 4 Tryz.underlying24 infoLimb rfl (.slice none 0 0) [] rfl (Owns.nil _ _ _) a k cap (lvs (digs (natOf xs))) rfl HN.out HT.out.vals (lvs_one _) (by simp only [List.length_nil]; omega) (by simp only [List.length_nil, maxLen]; omega) (Nat.le_refl _) fun v1 w1 h1 h2 => ?_))
  have hb1 := h2.below (Nat.le_refl _) (by simp [Value.ownBlock])
  go_wp2_with fail
  go_ret
  have hnew : New w.heap.size v1 := fun x l c e => by subst e; exact Owns.lt h1 _ rfl
  obtain ⟨a1, n1, c1, rfl, hl1⟩ := Owns.limbs h1 (lim_digs _)
  exact ⟨_, rfl, ⟨⟨a1, n1, c1, rfl, hl1⟩, hnew⟩, hb1⟩

theorem norm_any (xs : List Nat) (a : Option Addr) (len cap : Nat) (w : World) (hx : Limbs w a len cap xs) (hm : len * 4 ≤ 140737488355328) :
    Calls Tryz.prog 111 #[.slice a len cap] w fun e w' => ∃ v, e = .returned v ∧ Num w' v (natOf xs) ∧ Below w.heap.size w w' :=
  (norm_new xs a len cap w hx hm).mono fun _ _ ⟨v, h1, h2, h3⟩ => ⟨v, h1, h2.1, h3⟩

/-- the order of two numbers, as Go says it -/
def cmpI (m n : Nat) : Int := if m < n then -1 else if n < m then 1 else 0
theorem cmpI_lt {m n : Nat} (h : m < n) : cmpI m n = -1 := by simp [cmpI, h]
theorem cmpI_gt {m n : Nat} (h : n < m) : cmpI m n = 1 := by simp [cmpI, h, show ¬ m < n by omega]
theorem cmpI_eq {m n : Nat} (h : m = n) : cmpI m n = 0 := by simp [cmpI, h]
theorem cmpI_cases (m n : Nat) : cmpI m n = -1 ∧ m < n ∨ cmpI m n = 1 ∧ n < m ∨ cmpI m n = 0 ∧ m = n := by
  rcases Nat.lt_trichotomy m n with h | h | h
  · exact .inl ⟨cmpI_lt h, h⟩
  · exact .inr (.inr ⟨cmpI_eq h, h⟩)
  · exact .inr (.inl ⟨cmpI_gt h, h⟩)

set_option maxHeartbeats 400000 in
theorem cmp_any (xs ys : List Nat) (a a' : Option Addr) (len cap len' cap' : Nat) (w : World) (hx : Limbs w a len cap xs) (hy : Limbs w a' len' cap' ys) :
    Calls Tryz.prog 80 #[.slice a len cap, .slice a' len' cap'] w fun e w' => e = .returned (.int .i64 (cmpI (natOf xs) (natOf ys))) ∧ Below w.heap.size w w' := by
  have HX := Lib.hid hx
  have HY := Lib.hid hy
  have HXT := Lib.hid hx.trim
  have HYT := Lib.hid hy.trim
  have hc1 := hx.trim.2.2.1
  have hc2 := hx.2.2.2.1
  unfold maxLen at hc2
  clear hx hy
  go_enter Tryz.func80, Tryz.ntmps80
  go_wp2_with fail
  refine (trim_any xs a len cap _ HX.out).mono ?_
  rintro e w1 ⟨rfl, rfl⟩
  go_wp2_with fail
  refine (trim_any ys a' len' cap' _ HY.out).mono ?_
  rintro e w1 ⟨rfl, rfl⟩
  have HLL := Lib.hid (lt_of_len (a := natOf xs) (b := natOf ys))
  have HGG := Lib.hid (lt_of_len (a := natOf ys) (b := natOf xs))
  clear HX HY
  generalize hn : (digs (natOf xs)).length = n at *
  generalize hn' : (digs (natOf ys)).length = n' at *
  have HN := Lib.hid hn
  have HN' := Lib.hid hn'
  clear hn hn'
  rcases Nat.lt_trichotomy n n' with h | h | h
  · have HF := Lib.hid (cmpI_lt (HLL.out h))
    go_wp2_with fail
    go_ret
    exact ⟨by rw [HF.out]; rfl, Below.refl _ _⟩
  · have HE := Lib.hid h
    have g1 : ¬ n < n' := by omega
    have g2 : ¬ n' < n := by omega
    clear h
    have HX1 := Lib.hid (show natOf (digs (natOf xs)) = natOf xs from natOf_digs _)
    have HY1 := Lib.hid (show natOf (digs (natOf ys)) = natOf ys from natOf_digs _)
    have HXl := Lib.hid (lim_digs (natOf xs))
    have HYl := Lib.hid (lim_digs (natOf ys))
    generalize digs (natOf xs) = X at *
    generalize digs (natOf ys) = Y at *
    go_wp2_with fail
    go_loopw [5] (fun i wr => ∃ k : Nat, k ≤ n ∧ i = .int .i64 ((k : Int) - 1) ∧ Hid (natOf (X.drop k) = natOf (Y.drop k)) ∧ Below w.heap.size w wr) (fun i _ => (1 + intOf i).toNat)
    case atStart => exact ⟨n, Nat.le_refl _, rfl, by unfold Hid; rw [List.drop_of_length_le (by rw [HN.out]; omega), List.drop_of_length_le (by rw [HN'.out]; have := HE.out; omega)], Below.refl _ _⟩
    case round =>
      obtain ⟨k, hk, rfl, HD, hb⟩ := hrel
      cases k with
      | zero =>
        have HF := Lib.hid (cmpI_eq (m := natOf xs) (n := natOf ys) (by rw [← HX1.out, ← HY1.out]; exact HD.out))
        go_wp2_with fail
        go_ret
        exact ⟨by rw [HF.out]; rfl, hb⟩
      | succ j =>
        rw [show (((j + 1 : Nat) : Int) - 1) = (j : Int) by omega]
        obtain ⟨b, off, rfl, _, hcc⟩ := HXT.out.2.2.at (k := j) (by omega)
        obtain ⟨b', off', rfl, _, hcc'⟩ := HYT.out.2.2.at (k := j) (by have := HE.out; omega)
        have c1 := hcc j (by omega) wr hb
        have c2 := hcc' j (by have := HE.out; omega) wr hb
        have g3 : j < n' := by have := HE.out; omega
        clear hcc hcc'
        have HSL := Lib.hid (fun h => cmp_less (k := j) (xs := X) (zs := Y) HXl.out (by rw [HN.out]; omega) (by rw [HN.out, HN'.out]; exact HE.out) HD.out h)
        have HSG := Lib.hid (fun h => cmp_less (k := j) (xs := Y) (zs := X) HYl.out (by rw [HN'.out]; omega) (by rw [HN.out, HN'.out]; exact HE.out.symm) HD.out.symm h)
        have HSE := Lib.hid (fun h : X.getD j 0 = Y.getD j 0 => show natOf (X.drop j) = natOf (Y.drop j) by rw [natOf_drop_s X j, natOf_drop_s Y j, HD.out, h])
        generalize X.getD j 0 = x at *
        generalize Y.getD j 0 = y at *
        rw [HX1.out, HY1.out] at HSL HSG
        rcases Nat.lt_trichotomy x y with h | h | h
        · have HF := Lib.hid (cmpI_lt (HSL.out h))
          have d1 : decide (x < y) = true := by simpa using h
          go_wp2_with fail
          go_quiet (fail)
          go_wp2_with fail
          go_ret
          exact ⟨by rw [HF.out]; rfl, below_drewN hb _⟩
        · have HS := Lib.hid (HSE.out h)
          subst h
          have d1 : decide (x < x) = false := by simp
          go_wp2_with fail
          go_quiet (fail)
          go_wp2_with fail
          go_quiet (fail)
          go_wp2_with fail
          go_roundw
          case rel => exact ⟨j, by omega, rfl, HS, below_drewN hb _⟩
          case measure => simp [intOf]; omega
        · have HF := Lib.hid (cmpI_gt (HSG.out h))
          have d1 : decide (x < y) = false := by simp; omega
          have d2 : decide (y < x) = true := by simpa using h
          go_wp2_with fail
          go_quiet (fail)
          go_wp2_with fail
          go_quiet (fail)
          go_wp2_with fail
          go_ret
          exact ⟨by rw [HF.out]; rfl, below_drewN (below_drewN hb _) _⟩
  · have HF := Lib.hid (cmpI_gt (HGG.out h))
    go_wp2_with fail
    go_ret
    exact ⟨by rw [HF.out]; rfl, Below.refl _ _⟩

end Go.Proofs.YtahmndacoanfiaaGreat
