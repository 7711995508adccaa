/- The law DrawsReplay: draws depend on the state alone, skipping is drawing, and every shuffle is a permutation that consumes one draw less than it has elements. No condition. -/
import Derived.Test.YtfkijcimddbjoaaDrA
import Derived.Test.YtfkijcimddbjoaaFrame
namespace Go.Proofs.Ytfkijcimddbjoaa
open Go.ChangeShapes Go.WideShapes Go.ChangeAt Go.RowKit

theorem infoBool : (Try.prog.info? 4).map (fun i => (i.zero, i.size, i.bytes)) = some (some (.bool false), 1, 1) := by kernel_rfl
theorem swapL_perm (l : List Int) (i k : Nat) (hi : i < l.length) (hk : k < l.length) : (swapL l i k).Perm l := by
  have h := Array.swap_perm (xs := l.toArray) (i := i) (j := k) (by simpa using hi) (by simpa using hk)
  have h2 := Array.perm_iff_toList_perm.1 h
  simp at h2
  unfold swapL
  simpa [List.getD, hi, hk] using h2
theorem shufL_perm (i : Nat) : ∀ d l, i < l.length ∨ i = 0 → i ≤ 1024 → (shufL i d l).Perm l := by
  induction i with
  | zero => intro d l _ _; exact List.Perm.refl _
  | succ i ih =>
    intro d l h h2
    rw [shufL]
    have hb := belD_bd (d := d) (n := (i : Int) + 2) (by omega) (by omega)
    refine (ih _ _ (.inl (by rw [swapL_length]; omega)) (by omega)).trans (swapL_perm l (i + 1) _ (by omega) (by omega))
theorem rangeL_nodup (n : Nat) : (rangeL n).Nodup := by
  unfold rangeL
  rw [List.nodup_iff_pairwise_ne, List.pairwise_map]
  exact (List.nodup_range (n := n)).imp fun h h' => h (Int.ofNat.inj h')
theorem rangeL_mem (n : Nat) (x : Int) : x ∈ rangeL n ↔ 0 ≤ x ∧ x < n := by
  simp only [rangeL, List.mem_map, List.mem_range]
  constructor
  · rintro ⟨a, ha, rfl⟩; omega
  · intro h; exact ⟨x.toNat, by omega, by omega⟩
/-- what has been seen after k elements -/
def seenL (l : List Int) (k n : Nat) : List Value := (List.range n).map fun j : Nat => .bool (decide ((j : Int) ∈ l.take k))
theorem seenL_length (l : List Int) (k n : Nat) : (seenL l k n).length = n := by simp [seenL]
theorem seenL_at (l : List Int) (k n j : Nat) (h : j < n) : (seenL l k n).getD j .nilFunc = .bool (decide ((j : Int) ∈ l.take k)) := by simp [seenL, List.getD, h]
theorem seenL_zero (l : List Int) (n : Nat) : seenL l 0 n = List.replicate n (.bool false) := by
  refine List.ext_getElem (by simp [seenL]) fun i h1 h2 => ?_
  simp [seenL]
theorem seenL_succ (l : List Int) (k n x : Nat) (hk : k < l.length) (hx : l.getD k 0 = (x : Int)) : (seenL l k n).set x (.bool true) = seenL l (k + 1) n := by
  refine List.ext_getElem (by simp [seenL]) fun i h1 h2 => ?_
  rw [List.getElem_set]
  simp only [seenL, List.getElem_map, List.getElem_range]
  rw [take_snoc l k 0 hk, hx]
  by_cases h : x = i
  · subst h; simp
  · rw [if_neg h]; congr 2; rw [List.mem_append, List.mem_singleton]
    have : ¬ (i : Int) = (x : Int) := by omega
    simp [this]
theorem nodup_fresh (l : List Int) (h : l.Nodup) (k : Nat) (hk : k < l.length) : l.getD k 0 ∉ l.take k := by
  intro hm
  rw [← List.take_append_drop k l, drop_cons l k 0 hk] at h
  exact (List.nodup_append.1 h).2.2 _ hm _ (by simp) rfl

set_option maxHeartbeats 1000000 in
theorem perm_yes (l : List Int) (a : Option Addr) (len cap : Nat) (w : World) (hl : Ints w a len cap l) (hn : l.Nodup) (hb : ∀ x ∈ l, 0 ≤ x ∧ x < len) (hlen : len ≤ 1024) :
    Calls Try.prog 29 #[.slice a len cap] w fun e w' => e = .returned (.bool true) ∧ Below w.heap.size w w' := by
  obtain ⟨hll, hcell⟩ := hl
  have HL := Lib.hid hll
  have HC := Lib.hid hcell
  have HBd := Lib.hid hb
  have HNd := Lib.hid (nodup_fresh l hn)
  clear hll hcell hb hn
  go_enter Try.func29, Try.ntmps29
  go_wp2_with (refine wpList_mkn rfl _ _ 68 rfl 4 (.bool false) 1 Try.underlying68 infoBool rfl .i64 .i64 _ _ len rfl rfl rfl rfl (by omega) (by unfold maxLen; omega) fun w1 ho1 hb1 => ?_)
  rw [← seenL_zero l] at ho1
  have HO1 := Lib.hid ho1
  clear ho1
  go_wp2_with fail
  go_loopw [11] (fun i wr => ∃ k : Nat, k ≤ len ∧ i = .int .i64 k ∧ Hid (Owns wr w.heap.size 4 (.slice (some ⟨w.heap.size, 0, none⟩) len len) (seenL l k len)) ∧ Below w.heap.size w wr) (fun i _ => len - (intOf i).toNat)
  case atStart => exact ⟨0, by omega, rfl, HO1, hb1⟩
  case round =>
    obtain ⟨k, hk, rfl, HO, hb⟩ := hrel
    by_cases hlt : k < len
    · obtain ⟨b, off, rfl, hbs, hcc⟩ := HC.out.at hlt
      have c1 := hcc k hlt wr hb
      have hkl : k < l.length := by rw [HL.out]; exact hlt
      have hbd := HBd.out (l.getD k 0) (by simp [List.getD, hkl])
      have hfr := HNd.out k hkl
      clear hcc
      obtain ⟨x, hx⟩ : ∃ x : Nat, l.getD k 0 = (x : Int) := ⟨(l.getD k 0).toNat, by omega⟩
      have HO2 := Lib.hid (HO.out.store x (.bool true))
      rw [seenL_succ l k len x hkl hx] at HO2
      rw [hx] at c1 hbd hfr
      have hxl : x < len := by omega
      have c2 := HO.out.cell x hxl
      have f2 := HO.out.free x
      rw [seenL_at l k len x hxl, decide_eq_false hfr] at c2
      have d1 : decide (len ≤ x) = false := by simp; omega
      clear hbd hfr hkl hx
      go_wp2_with fail
      go_roundw
      case rel => exact ⟨k + 1, by omega, by go_num, HO2, hb.setCell (Nat.le_refl _) _⟩
      case measure => simp [intOf]; omega
    · go_wp2_with fail
      go_ret
      exact ⟨rfl, hb⟩

theorem shuffleL_perm (d : UInt64) (n : Nat) (h : n ≤ 1024) : (shuffleL d n).Perm (rangeL n) := by
  unfold shuffleL
  rw [badM_no (by omega) (by omega), cond_false, Int.toNat_natCast]
  refine shufL_perm _ _ _ ?_ (by omega)
  rw [rangeL_length]; omega
theorem shuffleS_eq (d : UInt64) (n : Nat) (h : n ≤ 1024) : shuffleS d n = itD (n - 1) d := by
  unfold shuffleS
  rw [badM_no (by omega) (by omega), cond_false, shufS_it _ (by omega)]
  congr 1; omega
theorem skip_none (d : UInt64) : itD (skipN 0) d = d := by rw [show skipN 0 = 0 by unfold skipN; omega]; rfl
theorem it_none (d : UInt64) : itD (0 - 1) d = d := rfl
theorem skipN_nat (n : Nat) (h : n ≤ 9999999) : skipN n = n := by unfold skipN; omega

set_option maxHeartbeats 2000000 in
theorem drReplay_zero (s : UInt64) (m n : Nat) (w : World) (hm : m ≤ 255) (hn : n ≤ 255) (h0 : n = 0) :
    Calls Try.prog 9 #[.int .u64 (s.toNat : Int), .int .u8 m, .int .u8 n] w fun e w' => e = .returned (.bool true) ∧ Below w.heap.size w w' := by
  have H0 := Lib.hid h0
  clear h0
  have HP := Lib.hid (fun d => shuffleL_perm d n (by omega))
  have HSS := Lib.hid (fun d => shuffleS_eq d n (by omega))
  go_enter Try.func9, Try.ntmps9
  go_wp2_with fail
  refine (new_draw s _).mono ?_
  rintro e w' ⟨rfl, rfl⟩
  go_wp2_with fail
  refine (new_draw s _).mono ?_
  rintro e w' ⟨rfl, rfl⟩
  go_wp2_with fail
  go_loop [7, 8, 9] (fun x y i => ∃ k : Nat, k ≤ m ∧ i = .int .i64 k ∧ x = .int .u64 ((itD k (stepD s)).toNat : Int) ∧ y = .int .u64 ((itD k (stepD s)).toNat : Int)) (fun _ _ i => m - (intOf i).toNat)
  case atStart => exact ⟨0, by omega, rfl, rfl, rfl⟩
  case round =>
    obtain ⟨k, hk, rfl, rfl, rfl⟩ := hrel
    by_cases hlt : k < m
    · go_wp2_with fail
      refine (next_draw _ _).mono ?_
      rintro e w' ⟨rfl, rfl⟩
      go_wp2_with fail
      refine (next_draw _ _).mono ?_
      rintro e w' ⟨rfl, rfl⟩
      go_wp2_with fail
      go_round
      case rel => exact ⟨k + 1, by omega, by go_num, rfl, rfl⟩
      case measure => simp [intOf]; omega
    · obtain rfl : k = m := by omega
      have HA := Lib.hid (itD_add k n (stepD s))
      have K1 := Lib.hid (skipN_nat k (by omega))
      have K2 := Lib.hid (skipN_nat n (by omega))
      have K3 := Lib.hid (skipN_nat (k + n) (by omega))
      go_wp2_with fail
      refine (new_draw s _).mono ?_
      rintro e w' ⟨rfl, rfl⟩
      go_wp2_with fail
      refine (skip_draw _ (k : Int) _ (by omega) (by omega)).mono ?_
      rintro e w' ⟨rfl, rfl⟩
      rw [K1.out]
      go_wp2_with fail
      refine (skip_draw _ (n : Int) _ (by omega) (by omega)).mono ?_
      rintro e w' ⟨rfl, rfl⟩
      rw [K2.out, HA.out]
      go_wp2_with fail
      refine (new_draw s _).mono ?_
      rintro e w' ⟨rfl, rfl⟩
      go_wp2_with fail
      refine (skip_draw _ ((k : Int) + (n : Int)) _ (by omega) (by omega)).mono ?_
      rintro e w' ⟨rfl, rfl⟩
      rw [show ((k : Int) + (n : Int)) = ((k + n : Nat) : Int) by omega, K3.out]
      go_wp2_with fail
      refine (skip_draw _ 0 _ (by omega) (by omega)).mono ?_
      rintro e w' ⟨rfl, rfl⟩
      rw [skip_none]
      generalize itD k (stepD s) = d at *
      generalize itD (k + n) (stepD s) = dkn at *
      have hS := HSS.out d
      have HPd := Lib.hid (HP.out d)
      clear HSS HP
      go_wp2_with fail
      refine (shuffle_draw d (n : Int) _).mono ?_
      rintro e w1 ⟨a1, n1, c1, rfl, hi1, hb1⟩
      rw [hS]
      clear hS
      obtain rfl : n1 = n := by rw [← hi1.1, HPd.out.length_eq, rangeL_length]
      have HI := Lib.hid hi1
      clear hi1
      go_wp2_with fail
      refine (perm_yes _ _ _ _ _ HI.out ((HPd.out.nodup_iff).2 (rangeL_nodup _)) (fun x hx => (rangeL_mem _ x).1 (HPd.out.mem_iff.1 hx)) (by omega)).mono ?_
      rintro e w2 ⟨rfl, hb2⟩
      have hb02 := hb1.trans (hb2.mono hb1.size)
      clear hb1 hb2
      obtain rfl : n1 = 0 := H0.out
      rw [it_none]
      go_wp2_with fail
      refine (awake_any _).mono ?_
      rintro e w3 ⟨rfl, hb3⟩
      go_wp2_with fail
      go_ret
      exact ⟨rfl, hb02.trans (hb3.mono hb02.size)⟩
set_option maxHeartbeats 2000000 in
theorem drReplay_pos (s : UInt64) (m n : Nat) (w : World) (hm : m ≤ 255) (hn : n ≤ 255) (h0 : n ≠ 0) :
    Calls Try.prog 9 #[.int .u64 (s.toNat : Int), .int .u8 m, .int .u8 n] w fun e w' => e = .returned (.bool true) ∧ Below w.heap.size w w' := by
  have H0 := Lib.hid h0
  clear h0
  have HP := Lib.hid (fun d => shuffleL_perm d n (by omega))
  have HSS := Lib.hid (fun d => shuffleS_eq d n (by omega))
  go_enter Try.func9, Try.ntmps9
  go_wp2_with fail
  refine (new_draw s _).mono ?_
  rintro e w' ⟨rfl, rfl⟩
  go_wp2_with fail
  refine (new_draw s _).mono ?_
  rintro e w' ⟨rfl, rfl⟩
  go_wp2_with fail
  go_loop [7, 8, 9] (fun x y i => ∃ k : Nat, k ≤ m ∧ i = .int .i64 k ∧ x = .int .u64 ((itD k (stepD s)).toNat : Int) ∧ y = .int .u64 ((itD k (stepD s)).toNat : Int)) (fun _ _ i => m - (intOf i).toNat)
  case atStart => exact ⟨0, by omega, rfl, rfl, rfl⟩
  case round =>
    obtain ⟨k, hk, rfl, rfl, rfl⟩ := hrel
    by_cases hlt : k < m
    · go_wp2_with fail
      refine (next_draw _ _).mono ?_
      rintro e w' ⟨rfl, rfl⟩
      go_wp2_with fail
      refine (next_draw _ _).mono ?_
      rintro e w' ⟨rfl, rfl⟩
      go_wp2_with fail
      go_round
      case rel => exact ⟨k + 1, by omega, by go_num, rfl, rfl⟩
      case measure => simp [intOf]; omega
    · obtain rfl : k = m := by omega
      have HA := Lib.hid (itD_add k n (stepD s))
      have K1 := Lib.hid (skipN_nat k (by omega))
      have K2 := Lib.hid (skipN_nat n (by omega))
      have K3 := Lib.hid (skipN_nat (k + n) (by omega))
      go_wp2_with fail
      refine (new_draw s _).mono ?_
      rintro e w' ⟨rfl, rfl⟩
      go_wp2_with fail
      refine (skip_draw _ (k : Int) _ (by omega) (by omega)).mono ?_
      rintro e w' ⟨rfl, rfl⟩
      rw [K1.out]
      go_wp2_with fail
      refine (skip_draw _ (n : Int) _ (by omega) (by omega)).mono ?_
      rintro e w' ⟨rfl, rfl⟩
      rw [K2.out, HA.out]
      go_wp2_with fail
      refine (new_draw s _).mono ?_
      rintro e w' ⟨rfl, rfl⟩
      go_wp2_with fail
      refine (skip_draw _ ((k : Int) + (n : Int)) _ (by omega) (by omega)).mono ?_
      rintro e w' ⟨rfl, rfl⟩
      rw [show ((k : Int) + (n : Int)) = ((k + n : Nat) : Int) by omega, K3.out]
      go_wp2_with fail
      refine (skip_draw _ 0 _ (by omega) (by omega)).mono ?_
      rintro e w' ⟨rfl, rfl⟩
      rw [skip_none]
      generalize itD k (stepD s) = d at *
      generalize itD (k + n) (stepD s) = dkn at *
      have hS := HSS.out d
      have HPd := Lib.hid (HP.out d)
      clear HSS HP
      go_wp2_with fail
      refine (shuffle_draw d (n : Int) _).mono ?_
      rintro e w1 ⟨a1, n1, c1, rfl, hi1, hb1⟩
      rw [hS]
      clear hS
      obtain rfl : n1 = n := by rw [← hi1.1, HPd.out.length_eq, rangeL_length]
      have HI := Lib.hid hi1
      clear hi1
      go_wp2_with fail
      refine (perm_yes _ _ _ _ _ HI.out ((HPd.out.nodup_iff).2 (rangeL_nodup _)) (fun x hx => (rangeL_mem _ x).1 (HPd.out.mem_iff.1 hx)) (by omega)).mono ?_
      rintro e w2 ⟨rfl, hb2⟩
      have hb02 := hb1.trans (hb2.mono hb1.size)
      clear hb1 hb2
      have h0 := H0.out
      have z1 : ((n1 : Int) == 0) = false := by simp; omega
      have z2 : decide (0 < (n1 : Int)) = true := by simp; omega
      have z3 : decide (0 < n1) = true := by simp; omega
      have K4 := Lib.hid (show skipN ((n1 : Int) - 1) = n1 - 1 by unfold skipN; omega)
      have hn1 : 1 ≤ n1 := by omega
      clear h0
      go_wp2_with fail
      refine (skip_draw _ ((n1 : Int) - 1) _ (by omega) (by omega)).mono ?_
      rintro e w' ⟨rfl, rfl⟩
      rw [K4.out]
      go_wp2_with fail
      refine (awake_any _).mono ?_
      rintro e w3 ⟨rfl, hb3⟩
      go_wp2_with fail
      go_ret
      exact ⟨rfl, hb02.trans (hb3.mono hb02.size)⟩
theorem drReplay_calls (s : UInt64) (m n : Nat) (w : World) (hm : m ≤ 255) (hn : n ≤ 255) :
    Calls Try.prog 9 #[.int .u64 (s.toNat : Int), .int .u8 m, .int .u8 n] w fun e w' => e = .returned (.bool true) ∧ Below w.heap.size w w' := by
  by_cases h : n = 0
  · exact drReplay_zero s m n w hm hn h
  · exact drReplay_pos s m n w hm hn h

theorem drawsReplay_walk {H : Type} {enc : TypeId × Value → H} (W : World) (base : Nat) (args : Array Value) (ds gs : List (DataW H)) (before : List MemPlace)
    (hval : ∀ (j : Nat) t v, Try.f9.params[j]? = some t → args[j]? = some v → Value.okWide Try.prog W .any base t v)
    (hW : DataW.Whole enc Try.prog Try.f9.params.toList Rows.drawsReplaySpec.vars false W args.toList ds gs before)
    (_hsz : (DataW.weightsEach Try.prog (Try.f9.params.toList ++ Rows.drawsReplaySpec.plain.varTypes Try.prog) (ds ++ gs)).all (· ≤ reachBytes) = true) :
    Calls Try.prog 9 args W fun e w' => e = .returned (.bool true) ∧ Below W.heap.size W w' := by
  obtain ⟨p, q, hA, hV, -, -, -⟩ := hW
  obtain ⟨rfl, -⟩ := trodVars_none hV
  rw [Try.params9] at hA hval
  obtain ⟨v0, v1, v2, d0, d1, d2, p0, p1, p2, rfl, rfl, rfl, h0, h1, h2⟩ := trodAll_three hA
  obtain ⟨s, rfl, -, ws⟩ := open_num Try.underlying22 (hval 0 _ _ rfl rfl) h0
  obtain ⟨m, rfl, -, wm⟩ := open_num Try.underlying5 (hval 1 _ _ rfl rfl) h1
  obtain ⟨n, rfl, -, wn⟩ := open_num Try.underlying5 (hval 2 _ _ rfl rfl) h2
  obtain ⟨s', rfl⟩ := u64_of s ws
  obtain ⟨m', rfl⟩ := u8_of m wm
  obtain ⟨n', rfl⟩ := u8_of n wn
  exact drReplay_calls s' m'.toNat n'.toNat W (by have := m'.toNat_lt; omega) (by have := n'.toNat_lt; omega)

set_option maxRecDepth 100000 in
theorem drawsReplay_lifted (os : Os) (started : os.Started) (H : Type) (enc : TypeId × Value → H) :
    ReturnsInHanded {} Try.checked os 9 .any (Rows.drawsReplaySpec.pre6 enc Try.prog Try.f9 Rows.drawsReplayRow.domain false) (Rows.drawsReplaySpec.post enc Try.prog Try.f9 false true false false) := by
  refine returnsInHanded_of_change_sized (C := Try.checked) own started (by kernel_rfl) Try.func9
    (ChangeSpec.witness6 (enc := enc) (C := Try.checked) false ⟨#[], #[.int .u64 0, .int .u8 0, .int .u8 0], []⟩ 8 (by kernel_rfl) (by kernel_rfl) (by kernel_rfl) (by kernel_rfl)) ?_
  intro W base args ds gs before hval hW _ hsz _
  exact law_post rfl (by kernel_rfl) (by kernel_rfl) (fun ds h => match ds, h with | [d0, d1, d2], _ => ⟨rfl, rfl, rfl⟩) hW (drawsReplay_walk W base args ds gs before hval hW hsz)

theorem drawsReplay_over : Rows.drawsReplayRow.holds Try.pinned (OpenSpec.ofChange Rows.drawsReplaySpec) :=
  OpenClaim.holds_of_wide 9 Try.f9 rfl rfl rfl rfl rfl rfl rfl ⟨rfl, rfl, rfl, rfl, rfl⟩ rfl rfl rfl rfl rfl (by kernel_rfl) Try.func9 (by kernel_rfl)
    (of_decide_eq_true (by kernel_rfl)) (by unfold Func.isWrapper; first | (rw [if_pos (by decide +kernel)]; kernel_rfl) | (rw [if_neg (by decide +kernel)]; exact ⟨rfl, rfl⟩))
    (fun os started H enc _ => drawsReplay_lifted os started H enc)

theorem drawsReplay_proved : Rows.DrawsReplaySaid := drawsReplay_over

end Go.Proofs.Ytfkijcimddbjoaa
