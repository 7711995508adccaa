/- The law DrawsPicks: a picked index has a positive weight, lists without a choice draw nothing, and equal weights are picked like numbers below their count. No condition. -/
import Derived.Test.YtfkijcimddbjoaaDrA
import Derived.Test.YtfkijcimddbjoaaFrame
namespace Go.Proofs.Ytfkijcimddbjoaa
open Go.ChangeShapes Go.WideShapes Go.ChangeAt Go.RowKit

theorem firstAbove_spec {l : List Int} {x : Int} : ∀ (f k : Nat), (∀ i, i < k → isum (l.take (i + 1)) ≤ x) → (∃ j, k ≤ j ∧ j < k + f ∧ x < isum (l.take (j + 1))) →
    k ≤ firstAbove l x f k ∧ firstAbove l x f k < k + f ∧ x < isum (l.take (firstAbove l x f k + 1)) ∧ ∀ i, i < firstAbove l x f k → isum (l.take (i + 1)) ≤ x
  | 0, k, _, ⟨j, h1, h2, _⟩ => by omega
  | f + 1, k, h, ⟨j, h1, h2, h3⟩ => by
    unfold firstAbove
    by_cases hk : x < isum (l.take (k + 1))
    · rw [decide_eq_true hk, cond_true]
      exact ⟨Nat.le_refl _, by omega, hk, h⟩
    · rw [decide_eq_false hk, cond_false]
      have hj : j ≠ k := fun e => hk (by rw [← e]; exact h3)
      have := firstAbove_spec f (k + 1) (fun i hi => by
        by_cases hik : i = k
        · subst hik; omega
        · exact h i (by omega)) ⟨j, by omega, by omega, h3⟩
      exact ⟨by omega, by omega, this.2.2⟩
theorem pick_cases (d : UInt64) (l : List Int) : (pickI d l = -1 ∧ pickS d l = d) ∨ ∃ j : Nat, pickI d l = (j : Int) ∧ j < l.length ∧ 0 < l.getD j 0 ∧ l.getD j 0 ≤ 1000000 ∧ pickS d l = stepD d := by
  by_cases h1 : l.length < 1 ∨ 1024 < l.length
  · exact .inl (pick_len h1)
  cases h2 : wOk l
  · exact .inl (pick_bad h2)
  by_cases h3 : isum l = 0
  · exact .inl (pick_zero h3)
  right
  have hy := pick_yes (d := d) (l := l) (by omega) (by omega) h2 h3
  have hb := isum_bd h2 l.length
  rw [List.take_length] at hb
  have hx := belD_bd (d := d) (n := isum l) (by omega) (by omega)
  generalize belD d (isum l) = x at *
  have hs := firstAbove_spec (l := l) (x := x) l.length 0 (fun i hi => by omega) ⟨l.length - 1, by omega, by omega, by rw [show l.length - 1 + 1 = l.length by omega, List.take_length]; omega⟩
  generalize firstAbove l x l.length 0 = j at *
  obtain ⟨_, s2, s3, s4⟩ := hs
  rw [isum_take_succ l j (by omega)] at s3
  have hlow : isum (l.take j) ≤ x := by
    rcases Nat.eq_zero_or_pos j with h | h
    · subst h; simp [isum]; omega
    · have := s4 (j - 1) (by omega); rwa [show j - 1 + 1 = j by omega] at this
  exact ⟨j, hy.1, by omega, by omega, (wOk_at h2 j).2, hy.2⟩
theorem isum_rep (c : Int) (n k : Nat) (h : k ≤ n) : isum ((List.replicate n c).take k) = k * c := by
  induction k with
  | zero => simp [isum]
  | succ k ih =>
    rw [isum_take_succ _ k (by simp; omega), ih (by omega)]
    have : (List.replicate n c).getD k 0 = c := by simp [List.getD, show k < n by omega]
    rw [this]; push_cast; rw [Int.add_mul]; omega
theorem pick_rep (d : UInt64) (n : Nat) (c : Int) (h1 : 1 ≤ n) (h2 : n ≤ 255) (h3 : 1 ≤ c) (h4 : c ≤ 256) : pickI d (List.replicate n c) = belD d n ∧ pickS d (List.replicate n c) = stepD d := by
  have hw : wOk (List.replicate n c) = true := by
    unfold wOk; rw [List.all_eq_true]; intro x hx; rw [List.eq_of_mem_replicate hx]; simp; omega
  have hsum : isum (List.replicate n c) = n * c := by have := isum_rep c n n (Nat.le_refl _); rwa [List.take_of_length_le (by simp)] at this
  have hpos : (1 : Int) ≤ n * c := by
    have := Int.mul_le_mul (show (1 : Int) ≤ n by omega) h3 (by omega) (by omega)
    omega
  have hle : (n : Int) * c ≤ 255 * 256 := Int.mul_le_mul (by omega) h4 (by omega) (by omega)
  have hy := pick_yes (d := d) (l := List.replicate n c) (by simp; omega) (by simp; omega) hw (by rw [hsum]; omega)
  refine ⟨?_, hy.2⟩
  rw [hy.1, hsum, List.length_replicate]
  have hx := belD_bd (d := d) (n := n * c) hpos (by omega)
  have e1 : belD d (n * c) / c = belD d n := by
    rw [belD_yes (badN_no hpos (by omega)), belD_yes (badN_no (by omega) (by omega))]
    rw [Int.ediv_ediv_of_nonneg (by omega : (0 : Int) ≤ 4294967296), Int.mul_comm 4294967296 c, ← Int.ediv_ediv_of_nonneg (by omega : (0 : Int) ≤ c), ← Int.mul_assoc, Int.mul_ediv_cancel _ (by omega)]
  have hb := belD_bd (d := d) (n := (n : Int)) (by omega) (by omega)
  generalize belD d (n * c) = x at *
  rw [← e1] at hb ⊢
  have hq1 : x / c * c ≤ x := Int.ediv_mul_le x (by omega)
  have hq2 : x < (x / c + 1) * c := Int.lt_ediv_add_one_mul_self x (by omega)
  obtain ⟨q, hq⟩ : ∃ q : Nat, x / c = (q : Int) := ⟨(x / c).toNat, by omega⟩
  rw [hq] at hb hq1 hq2 ⊢
  congr 1
  refine firstAbove_at n 0 q (by omega) (by omega) (fun i _ hi => ?_) ?_
  · rw [isum_rep c n (i + 1) (by omega)]
    have : (((i + 1 : Nat) : Int)) * c ≤ q * c := Int.mul_le_mul_of_nonneg_right (by omega) (by omega)
    omega
  · rw [isum_rep c n (q + 1) (by omega)]; push_cast; exact hq2
theorem pick_none (d : UInt64) : pickI d [] = -1 ∧ pickS d [] = d := pick_len (by simp)
theorem rep_set (c : Int) (k n : Nat) (h : k < n) : (List.replicate k c ++ List.replicate (n - k) 0).set k c = List.replicate (k + 1) c ++ List.replicate (n - (k + 1)) 0 := by
  obtain ⟨m, rfl⟩ : ∃ m, n = k + 1 + m := ⟨n - k - 1, by omega⟩
  have := iset_fill (List.replicate k c) m c
  rw [List.length_replicate] at this
  rw [show k + 1 + m - k = m + 1 by omega, this, show k + 1 + m - (k + 1) = m by omega, List.replicate_succ' (n := k)]

set_option maxHeartbeats 2000000 in
theorem drPicks_calls (d : UInt64) (l : List Int) (a : Option Addr) (len cap : Nat) (n u : Nat) (w : World) (hl : Ints w a len cap l) (hn : n ≤ 255) (hu : u ≤ 255) :
    Calls Try.prog 5 #[.int .u64 (d.toNat : Int), .slice a len cap, .int .u8 n, .int .u8 u] w fun e w' => e = .returned (.bool true) ∧ Below w.heap.size w w' := by
  have hlc := hl.2.1
  have hlm := hl.2.2.1
  unfold maxLen at hlm
  have HL := Lib.hid hl
  clear hl
  have HPC := Lib.hid (pick_cases d l)
  go_enter Try.func5, Try.ntmps5
  go_wp2_with fail
  refine (next_draw d _).mono ?_
  rintro e w' ⟨rfl, rfl⟩
  go_wp2_with fail
  refine (pick_draw d l _ _ _ _ HL.out).mono ?_
  rintro e w1 ⟨rfl, hb1⟩
  rcases HPC.out with ⟨e1, e2⟩ | ⟨j, e1, hj, hw1, hw2, e2⟩
  case' inr =>
    obtain ⟨b, off, rfl, hbs, hcc⟩ := HL.out.2.at (k := j) (by rw [← HL.out.1]; exact hj)
    have c1 := hcc j (by rw [← HL.out.1]; exact hj) w1 hb1
    rw [HL.out.1] at hj
    generalize l.getD j 0 = y at *
    clear hcc
    have d1 : decide (len ≤ j) = false := by simp; omega
  all_goals
    rw [e1, e2]
    clear e1 e2 HPC
    go_wp2_with (refine wpList_mkn rfl _ _ 36 rfl 3 (.int .i64 0) 8 Try.underlying36 infoInt rfl .i64 .i64 _ _ n rfl rfl rfl rfl (by omega) (by unfold maxLen; omega) fun w2 ho2 hb2 => ?_)
    rw [ivs_replicate] at ho2
    have HO2 := Lib.hid ho2
    have hb02 := hb1.trans (hb2.mono hb1.size)
    have hs1 := hb1.size
    clear ho2 hb1 hb2
    go_wp2_with fail
    go_loopw [67] (fun i wr => ∃ k : Nat, k ≤ n ∧ i = .int .i64 k ∧ Hid (Owns wr w1.heap.size 3 (.slice (some ⟨w1.heap.size, 0, none⟩) n n) (ivs (List.replicate k ((u : Int) + 1) ++ List.replicate (n - k) 0))) ∧ Below w.heap.size w wr) (fun i _ => n - (intOf i).toNat)
    case atStart => exact ⟨0, by omega, rfl, Lib.hid (by simpa using HO2.out), hb02⟩
    case round =>
      clear hb02 HO2
      obtain ⟨k, hk, rfl, HO, hb⟩ := hrel
      by_cases hlt : k < n
      · have f1 := HO.out.free k
        have c1 := HO.out.cell k hlt
        rw [ivs_at _ k (by simp; omega)] at c1
        unfold iv at c1
        have HO2 := Lib.hid (HO.out.store k (iv ((u : Int) + 1)))
        rw [ivs_set, rep_set _ k n hlt] at HO2
        unfold iv at HO2
        go_wp2_with fail
        go_roundw
        case rel => exact ⟨k + 1, by omega, by go_num, HO2, hb.setCell hs1 _⟩
        case measure => simp [intOf]; omega
      · obtain rfl : k = n := by omega
        have HI := Lib.hid (show Ints wr (some ⟨w1.heap.size, 0, none⟩) k k (List.replicate k ((u : Int) + 1)) by have := HO.out.ints'; simpa using this)
        clear HO
        go_wp2_with fail
        refine (pick_draw d _ _ _ _ _ HI.out).mono ?_
        rintro e w3 ⟨rfl, hb3⟩
        have hb03 := hb.trans (hb3.mono hb.size)
        clear hb3 hb
        by_cases h0 : k = 0
        · subst h0
          rw [show List.replicate 0 ((u : Int) + 1) = [] from rfl, (pick_none d).1, (pick_none d).2]
          go_wp2_with fail
          refine (below_draw d _ _).mono ?_
          rintro e w' ⟨rfl, rfl⟩
          go_wp2_with fail
          refine (awake_any _).mono ?_
          rintro e w4 ⟨rfl, hb4⟩
          go_wp2_with fail
          go_ret
          exact ⟨rfl, hb03.trans (hb4.mono hb03.size)⟩
        · have z1 : ((k : Int) == 0) = false := by simp; omega
          have HR := Lib.hid (pick_rep d k ((u : Int) + 1) (by omega) hn (by omega) (by omega))
          have HBS := Lib.hid (belS_yes (d := d) (badN_no (n := (k : Int)) (by omega) (by omega)))
          rw [HR.out.1, HR.out.2]
          go_wp2_with fail
          refine (below_draw d (k : Int) _).mono ?_
          rintro e w' ⟨rfl, rfl⟩
          rw [HBS.out]
          go_wp2_with fail
          refine (awake_any _).mono ?_
          rintro e w4 ⟨rfl, hb4⟩
          go_wp2_with fail
          go_ret
          exact ⟨rfl, hb03.trans (hb4.mono hb03.size)⟩

theorem drawsPicks_walk {H : Type} {enc : TypeId × Value → H} (W : World) (base : Nat) (args : Array Value) (ds gs : List (DataW H)) (before : List MemPlace)
    (hval : ∀ (j : Nat) t v, Try.f5.params[j]? = some t → args[j]? = some v → Value.okWide Try.prog W .any base t v)
    (hW : DataW.Whole enc Try.prog Try.f5.params.toList Rows.drawsPicksSpec.vars false W args.toList ds gs before)
    (_hsz : (DataW.weightsEach Try.prog (Try.f5.params.toList ++ Rows.drawsPicksSpec.plain.varTypes Try.prog) (ds ++ gs)).all (· ≤ reachBytes) = true) :
    Calls Try.prog 5 args W fun e w' => e = .returned (.bool true) ∧ Below W.heap.size W w' := by
  obtain ⟨p, q, hA, hV, -, -, -⟩ := hW
  obtain ⟨rfl, -⟩ := trodVars_none hV
  rw [Try.params5] at hA hval
  obtain ⟨v0, v1, v2, v3, d0, d1, d2, d3, p0, p1, p2, p3, rfl, rfl, rfl, h0, h1, h2, h3⟩ := trodAll_four hA
  obtain ⟨d, rfl, -, wd⟩ := open_num Try.underlying23 (hval 0 _ _ rfl rfl) h0
  obtain ⟨a, len, cap, xs, rfl, hr, -⟩ := open_row Try.underlying36 Try.underlying3 (by kernel_rfl) (hval 1 _ _ rfl rfl) h1
  obtain ⟨m, rfl, -, wm⟩ := open_num Try.underlying5 (hval 2 _ _ rfl rfl) h2
  obtain ⟨n, rfl, -, wn⟩ := open_num Try.underlying5 (hval 3 _ _ rfl rfl) h3
  obtain ⟨d', rfl⟩ := u64_of d wd
  obtain ⟨m', rfl⟩ := u8_of m wm
  obtain ⟨n', rfl⟩ := u8_of n wn
  exact drPicks_calls d' xs a len cap m'.toNat n'.toNat W hr.ints (by have := m'.toNat_lt; omega) (by have := n'.toNat_lt; omega)

set_option maxRecDepth 100000 in
theorem drawsPicks_lifted (os : Os) (started : os.Started) (H : Type) (enc : TypeId × Value → H) :
    ReturnsInHanded {} Try.checked os 5 .any (Rows.drawsPicksSpec.pre6 enc Try.prog Try.f5 Rows.drawsPicksRow.domain false) (Rows.drawsPicksSpec.post enc Try.prog Try.f5 false true false false) := by
  refine returnsInHanded_of_change_sized (C := Try.checked) own started (by kernel_rfl) Try.func5
    (ChangeSpec.witness6 (enc := enc) (C := Try.checked) false ⟨#[], #[.int .u64 0, .slice none 0 0, .int .u8 0, .int .u8 0], []⟩ 8 (by kernel_rfl) (by kernel_rfl) (by kernel_rfl) (by kernel_rfl)) ?_
  intro W base args ds gs before hval hW _ hsz _
  exact law_post rfl (by kernel_rfl) (by kernel_rfl) (fun ds h => match ds, h with | [d0, d1, d2, d3], _ => ⟨rfl, rfl, rfl⟩) hW (drawsPicks_walk W base args ds gs before hval hW hsz)

theorem drawsPicks_over : Rows.drawsPicksRow.holds Try.pinned (OpenSpec.ofChange Rows.drawsPicksSpec) :=
  OpenClaim.holds_of_wide 5 Try.f5 rfl rfl rfl rfl rfl rfl rfl ⟨rfl, rfl, rfl, rfl, rfl⟩ rfl rfl rfl rfl rfl (by kernel_rfl) Try.func5 (by kernel_rfl)
    (of_decide_eq_true (by kernel_rfl)) (by unfold Func.isWrapper; first | (rw [if_pos (by decide +kernel)]; kernel_rfl) | (rw [if_neg (by decide +kernel)]; exact ⟨rfl, rfl⟩))
    (fun os started H enc _ => drawsPicks_lifted os started H enc)

theorem drawsPicks_proved : Rows.DrawsPicksSaid := drawsPicks_over

end Go.Proofs.Ytfkijcimddbjoaa
