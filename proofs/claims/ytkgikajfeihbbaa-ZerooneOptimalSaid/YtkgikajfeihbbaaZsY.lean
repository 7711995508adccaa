/- 0-1 programs: all assignments by their numbers; what assignment returns. -/
import Derived.Test.YtkgikajfeihbbaaZsX
namespace Go.Proofs.Ytkgikajfeihbbaa
set_option maxRecDepth 100000
open Go.RowKit

/-- the assignment number k of n variables -/
def bitsK (k : Nat) : Nat → List Int
  | 0 => []
  | n + 1 => ((k / 2 ^ n % 2 : Nat) : Int) :: bitsK k n
theorem bitsK_len (k : Nat) : ∀ n, (bitsK k n).length = n
  | 0 => rfl
  | n + 1 => by simp [bitsK, bitsK_len k n]
theorem bitsK_01 (k : Nat) : ∀ n, ∀ z ∈ bitsK k n, z = 0 ∨ z = 1
  | 0, z, h => by simp [bitsK] at h
  | n + 1, z, h => by
    simp only [bitsK, List.mem_cons] at h
    rcases h with rfl | h
    · omega
    · exact bitsK_01 k n z h
theorem bitsK_low (k : Nat) : ∀ (n a : Nat), n ≤ a → bitsK (k + 2 ^ a) n = bitsK k n
  | 0, _, _ => rfl
  | n + 1, a, h => by
    simp only [bitsK]
    rw [bitsK_low k n a (by omega)]
    have e : (k + 2 ^ a) / 2 ^ n % 2 = k / 2 ^ n % 2 := by
      obtain ⟨d, rfl⟩ : ∃ d, a = n + 1 + d := ⟨a - (n + 1), by omega⟩
      have h1 : 2 ^ (n + 1 + d) = 2 ^ n * (2 * 2 ^ d) := by rw [Nat.pow_add, Nat.pow_succ, Nat.mul_assoc]
      rw [h1, Nat.add_mul_div_left _ _ (Nat.two_pow_pos n)]
      omega
    rw [e]
/-- the assignments below number t, the last first -/
def downK (n t : Nat) : List (List Int) := (List.range t).reverse.map fun k => bitsK k n
theorem downK_succ (n t : Nat) : downK n (t + 1) = bitsK t n :: downK n t := by simp [downK, List.range_succ]
theorem downK_app (n a : Nat) : ∀ b, downK n (a + b) = ((List.range b).reverse.map fun k => bitsK (a + k) n) ++ downK n a
  | 0 => by simp
  | b + 1 => by
    rw [← Nat.add_assoc, downK_succ, downK_app n a b]
    simp [List.range_succ]
theorem asg_down : ∀ n, asg (List.replicate n (-1)) = downK n (2 ^ n)
  | 0 => by simp [asg, downK, bitsK]
  | n + 1 => by
    have ih := asg_down n
    rw [List.replicate_succ]
    simp only [asg]
    rw [if_pos trivial, ih, Nat.pow_succ, Nat.mul_two, downK_app]
    have h0 : ∀ k, k < 2 ^ n → bitsK k (n + 1) = 0 :: bitsK k n := fun k hk => by
      simp only [bitsK]
      rw [Nat.div_eq_of_lt hk]; rfl
    have h1 : ∀ k, k < 2 ^ n → bitsK (2 ^ n + k) (n + 1) = 1 :: bitsK k n := fun k hk => by
      simp only [bitsK]
      rw [Nat.add_comm, bitsK_low k n n (Nat.le_refl _)]
      have : (k + 2 ^ n) / 2 ^ n % 2 = 1 := by
        rw [Nat.add_div_right _ (Nat.two_pow_pos n), Nat.div_eq_of_lt hk]
      rw [this]; rfl
    congr 1
    · unfold downK
      rw [List.map_map]
      refine List.map_congr_left fun k hk => ?_
      rw [h1 k (by simpa using hk)]; rfl
    · unfold downK
      rw [List.map_map]
      refine List.map_congr_left fun k hk => ?_
      rw [h0 k (by simpa using hk)]; rfl

theorem best_down {p : ProbM} (h : validOf p = 0) : (downK p.val.length (2 ^ p.val.length)).foldl (stepR (feasOf p) (dotL p.val)) (none, 0) = bestOf p.rows p.val p.fix := by
  have hv := validM h
  have hl : p.fix.length = p.val.length := hv.fixn
  unfold bestOf
  rw [foldR_filter, foldR_filter (asg p.fix), ← asg_down, asg_filter p.fix (fix_tri hv), List.filter_filter, hl]
  congr 1
  refine List.filter_congr fun y hy => ?_
  have hb := asg_bits (List.replicate p.val.length (-1)) (fun f hf => .inl (List.eq_of_mem_replicate hf)) y hy
  have hyl : y.length = p.val.length := by rw [asg_len _ y hy]; simp
  have h01 : Bits01 y := fun k hk => hb _ (by simp [List.getD, hk])
  unfold feasOf feasR
  rw [h, isBits_of h01 hyl]
  simp [Bool.and_comm]

theorem and1 {a : Nat} (h : a < 4294967296) : bits .and .i64 (a : Int) 1 = ((a % 2 : Nat) : Int) := by
  have hb : (BitVec.ofInt 64 (a : Int)).toNat = a := by rw [BitVec.toNat_ofInt]; simp; omega
  show IntKind.i64.wrap ((BitVec.ofInt 64 (a : Int) &&& BitVec.ofInt 64 1).toNat : Int) = _
  rw [BitVec.toNat_and, hb, show (BitVec.ofInt 64 1).toNat = 1 from by decide, Nat.and_one_is_mod]
  have : a % 2 < 2 := Nat.mod_lt _ (by omega)
  rcases Nat.mod_two_eq_zero_or_one a with e | e <;> rw [e] <;> rfl

theorem shr_nat (k t : Nat) : ((k : Int)).fdiv (2 ^ t) = ((k / 2 ^ t : Nat) : Int) := by
  rw [Int.fdiv_eq_ediv_of_nonneg _ (by exact Int.le_of_lt (Int.pow_pos (by decide)))]
  simp
set_option maxHeartbeats 2000000 in
theorem assignment_any (k n : Nat) (w : World) (hn : n ≤ 8) (hk : k < 256) :
    Calls Try.prog 24 #[.int .i64 k, .int .i64 n] w fun e w' => ∃ v, e = .returned v ∧ OwnI w' w.heap.size v (bitsK k n) ∧ Below w.heap.size w w' := by
  go_enter Try.func24, Try.ntmps24
  go_wp2_with fail
  go_loopw [5, 6] (fun xv iv wr => ∃ (t : Nat) (zs : List Int), t ≤ n ∧ iv = .int .i64 ((t : Int) - 1) ∧ Below w.heap.size w wr ∧ Hid (OwnI wr w.heap.size xv zs) ∧ Hid (zs ++ bitsK k t = bitsK k n) ∧ zs.length + t = n) (fun _ iv _ => (intOf iv + 1).toNat)
  case atStart => exact ⟨n, [], by omega, rfl, Below.refl _ _, Lib.hid (Owns.nil _ _ _), Lib.hid rfl, by simp⟩
  case round =>
    obtain ⟨t, zs, ht, rfl, hb, HO, HE, hl⟩ := hrel
    cases t with
    | zero =>
      have HF := Lib.hid (show zs = bitsK k n by have := HE.out; simpa [bitsK] using this)
      obtain ⟨a, l, c, rfl, -⟩ := Owns.ints (show Owns wr w.heap.size 3 u5 (ivs zs) from HO.out)
      go_wp2_with fail
      go_ret
      exact ⟨_, rfl, by rw [← HF.out]; exact HO.out, hb⟩
    | succ t =>
      have hti : ((t + 1 : Nat) : Int) - 1 = (t : Int) := by omega
      rw [hti]
      have hq : k / 2 ^ t < 4294967296 := Nat.lt_of_le_of_lt (Nat.div_le_self _ _) (by omega)
      have hand := and1 hq
      have hdv : (k : Int) / 2 ^ t = ((k / 2 ^ t : Nat) : Int) := by simp
      have hw1 : IntKind.u64.wrap (t : Int) = t := by rw [IntKind.wrap_u64]; omega
      have HNx := Lib.hid (show (zs ++ [((k / 2 ^ t % 2 : Nat) : Int)]) ++ bitsK k t = bitsK k n by rw [← HE.out]; simp [bitsK])
      have HN := Lib.hid (show ((ivs zs).length + 1) * 8 ≤ 140737488355328 ∧ (ivs zs).length + 1 ≤ maxLen by rw [ivs_len]; simp only [maxLen]; omega)
      have hws := hb.size
      generalize hqq : k / 2 ^ t = q at *
      clear hqq hti
      go_wp2_with (at_builtin; go_must (refine wpList_app1 rfl _ _ 22 rfl w.heap.size 3 (.int .i64 0) 8 Try.underlying22 infoInt rfl u5 (ivs zs) rfl (.int .i64 (q % 2 : Nat)) rfl HO.out rfl HN.out.1 HN.out.2 hws fun v' w' h1 h2 => ?_))
      have hbm := hb.trans (h2.below hws (Owns.lt HO.out))
      have HO3 := Lib.hid (show OwnI w' w.heap.size v' (zs ++ [((q % 2 : Nat) : Int)]) by unfold OwnI; rw [ivs_append]; exact h1)
      clear h1 h2
      go_wp2_with fail
      go_roundw
      case rel => exact ⟨t, _, by omega, by go_num, hbm, HO3, HNx, by simp; omega⟩
      case measure => simp [intOf]

end Go.Proofs.Ytkgikajfeihbbaa
