/- Equating, plain laws: ranks, scores with a rank, moments of a table. No program in sight; no condition. · Slices of ints, as values. Plain lemmas, no condition. · Equating: what equate.zero, whole, half, sum and Valid return. Condition of sum: at most 61 numbers from 0 to 1000000. · Equating: what equate.Rank returns. Condition: the fraction takes at most 2^47 bytes. · Guarded operations that write or call, in the schedule of a drawn region: taken or left out. Plain theory of regions, no program. · Equating: what equate.Inverse returns. Condition: the fraction takes at most 2^47 bytes. · Slices of fractions that are only read, and opening them among a law's arguments. · Slices, owned by the call, of elements of several cells: append, make, reading, writing. · Equating: what equate.Score returns. No condition but the reach. · Equating: what equate.Table returns. No condition but the reach. -/
import Derived.Test.YtahmndacoanfiaaGreatBase
import Derived.Test.YtahmndacoanfiaaGreatProg
import Derived.Test.YtahmndacoanfiaaGreatEqA
import Derived.Test.YtahmndacoanfiaaGreatMix
import Derived.Test.YtahmndacoanfiaaGreatRatO
namespace Go.Proofs.YtahmndacoanfiaaGreat
set_option maxRecDepth 100000
def preS (f : List Int) (k : Nat) : Int := (f.take k).sum
def OkF (f : List Int) : Prop := f.length ≤ 61 ∧ (∀ n ∈ f, 0 ≤ n ∧ n ≤ 1000000) ∧ f.sum ≠ 0
theorem getD_mem {f : List Int} {k : Nat} (h : k < f.length) : f.getD k 0 ∈ f := by
 simp [List.getD, h]
theorem preS_succ (f : List Int) (k : Nat) (h : k < f.length) : preS f (k + 1) = preS f k + f.getD k 0 := by
 unfold preS
 rw [List.take_add_one, List.sum_append]
 simp [List.getD, h]
theorem preS_zero (f : List Int) : preS f 0 = 0 := by simp [preS]
theorem preS_all (f : List Int) {k : Nat} (h : f.length ≤ k) : preS f k = f.sum := by rw [preS, List.take_of_length_le h]
theorem preS_step {f : List Int} (h : ∀ n ∈ f, 0 ≤ n) (k : Nat) : preS f k ≤ preS f (k + 1) := by
 rcases Nat.lt_or_ge k f.length with h1 | h1
 · rw [preS_succ f k h1]; have := h _ (getD_mem h1); omega
 · rw [preS_all f h1, preS_all f (by omega)]; omega
theorem preS_mono {f : List Int} (h : ∀ n ∈ f, 0 ≤ n) {j k : Nat} (hjk : j ≤ k) : preS f j ≤ preS f k := by
 induction k with
 | zero => obtain rfl : j = 0 := by omega
           omega
 | succ k ih =>
   rcases Nat.lt_or_ge k j with h1 | h1
   · obtain rfl : j = k + 1 := by omega
     omega
   · have := ih h1; have := preS_step h k; omega
theorem preS_nonneg {f : List Int} (h : ∀ n ∈ f, 0 ≤ n) (k : Nat) : 0 ≤ preS f k := by
 have := preS_mono h (Nat.zero_le k); rw [preS_zero] at this; exact this
theorem preS_le_sum {f : List Int} (h : ∀ n ∈ f, 0 ≤ n) (k : Nat) : preS f k ≤ f.sum := by
 rcases Nat.lt_or_ge k f.length with h1 | h1
 · have := preS_mono h (Nat.le_of_lt h1); rwa [preS_all f (Nat.le_refl _)] at this
 · rw [preS_all f h1]; omega
theorem preS_le {f : List Int} (h : ∀ n ∈ f, n ≤ 1000000) (k : Nat) : preS f k ≤ 1000000 * (k : Int) := by
 induction k with
 | zero => rw [preS_zero]; omega
 | succ k ih =>
   rcases Nat.lt_or_ge k f.length with h1 | h1
   · rw [preS_succ f k h1]; have := h _ (getD_mem h1); omega
   · rw [preS_all f (by omega)]; rw [preS_all f h1] at ih; omega
theorem OkF.pos {f : List Int} (h : OkF f) : 0 < f.sum := by
 have := preS_nonneg (fun n hn => (h.2.1 n hn).1) f.length
 rw [preS_all f (Nat.le_refl _)] at this
 have := h.2.2; omega
theorem OkF.nn {f : List Int} (h : OkF f) : ∀ n ∈ f, 0 ≤ n := fun n hn => (h.2.1 n hn).1
theorem OkF.len {f : List Int} (h : OkF f) : 0 < f.length := by
 rcases Nat.eq_zero_or_pos f.length with h1 | h1
 · have := h.pos; rw [List.length_eq_zero_iff.1 h1] at this; simp at this
 · exact h1
theorem OkF.sum_le {f : List Int} (h : OkF f) : f.sum ≤ 61000000 := by
 have h1 := preS_le (fun n hn => (h.2.1 n hn).2) f.length
 rw [preS_all f (Nat.le_refl _)] at h1
 have := h.1; omega
def rkN (f : List Int) (y : Rat) : Rat :=
 if y ≤ 0 then 0 else if (f.length : Rat) ≤ y then (f.sum : Rat) else (preS f y.floor.toNat : Rat) + (f.getD y.floor.toNat 0 : Rat) * (y - (y.floor.toNat : Rat))
theorem floor_of {y : Rat} {k : Nat} (h1 : (k : Rat) ≤ y) (h2 : y < (k : Rat) + 1) : y.floor = (k : Int) := by
 have a := (Rat.le_floor_iff (x := (k : Int)) (a := y)).2 (by rw [Rat.intCast_natCast]; exact h1)
 have b : ¬ ((k : Int) + 1 ≤ y.floor) := fun h => by
   have := (Rat.le_floor_iff (x := (k : Int) + 1) (a := y)).1 h
   rw [Rat.intCast_add, Rat.intCast_natCast] at this
   have e1 : ((1 : Int) : Rat) = 1 := rfl
   grind
 omega
theorem rkN_at {f : List Int} {y : Rat} {k : Nat} (hk : k < f.length) (h1 : (k : Rat) ≤ y) (h2 : y ≤ (k : Rat) + 1) :
   rkN f y = (preS f k : Rat) + (f.getD k 0 : Rat) * (y - (k : Rat)) := by
 have hs := preS_succ f k hk
 unfold rkN
 by_cases hy : y ≤ 0
 · have hk0 : k = 0 := by
     rcases Nat.eq_zero_or_pos k with h | h
     · exact h
     · have : (0 : Rat) < (k : Rat) := Rat.natCast_pos.2 h
       grind
   subst hk0
   have : y = 0 := by simp at h1; grind
   rw [if_pos hy, this, preS_zero]; grind
 rw [if_neg hy]
 by_cases hn : (f.length : Rat) ≤ y
 · have hkn : k + 1 = f.length := by
     have h3 : (f.length : Rat) ≤ ((k + 1 : Nat) : Rat) := by push_cast; grind
     have := Rat.natCast_le_natCast.1 h3
     omega
   have hy2 : y = (k : Rat) + 1 := by
     have : (f.length : Rat) = (k : Rat) + 1 := by rw [← hkn]; push_cast; rfl
     grind
   rw [if_pos hn, ← preS_all f (Nat.le_refl _), ← hkn, hs, hy2]
   push_cast; grind
 rw [if_neg hn]
 have h3 : y < (k : Rat) + 1 ∨ y = (k : Rat) + 1 := by grind
 rcases h3 with h3 | h3
 · rw [floor_of h1 h3]; rfl
 · have hkn : k + 1 < f.length := by
     have h4 : ((k + 1 : Nat) : Rat) < (f.length : Rat) := by push_cast; grind
     exact Rat.natCast_lt_natCast.1 h4
   rw [floor_of (k := k + 1) (by push_cast; grind) (by push_cast; grind)]
   simp only [Int.toNat_natCast]
   rw [hs, h3]; push_cast; grind
theorem cast_nn {a b : Int} (h : a ≤ b) : (a : Rat) ≤ (b : Rat) := Rat.intCast_le_intCast.2 h
theorem cast_lt {a b : Int} (h : a < b) : (a : Rat) < (b : Rat) := Rat.intCast_lt_intCast.2 h
theorem rk_cell {f : List Int} {y : Rat} (h0 : 0 ≤ y) (h1 : y < (f.length : Rat)) : ∃ k : Nat, k < f.length ∧ (k : Rat) ≤ y ∧ y < (k : Rat) + 1 ∧ y.floor = (k : Int) := by
 have a := Rat.floor_le (a := y)
 have b := Rat.lt_floor (x := y)
 have c : 0 ≤ y.floor := by
   have := (Rat.le_floor_iff (x := 0) (a := y)).2 (by simpa using h0)
   exact this
 obtain ⟨k, hk⟩ : ∃ k : Nat, y.floor = (k : Int) := ⟨y.floor.toNat, by omega⟩
 rw [hk] at a b
 rw [Rat.intCast_natCast] at a b
 replace b : y < (k : Rat) + 1 := by grind
 have hkl : (k : Rat) < (f.length : Rat) := by grind
 exact ⟨k, Rat.natCast_lt_natCast.1 hkl, a, b, hk⟩
theorem rkN_bounds {f : List Int} (hf : ∀ n ∈ f, 0 ≤ n) (y : Rat) : 0 ≤ rkN f y ∧ rkN f y ≤ (f.sum : Rat) := by
 have hs := cast_nn (preS_le_sum hf 0)
 rw [preS_zero] at hs
 have e0 : ((0 : Int) : Rat) = 0 := rfl
 by_cases hy : y ≤ 0
 · unfold rkN; rw [if_pos hy]; grind
 by_cases hn : (f.length : Rat) ≤ y
 · unfold rkN; rw [if_neg hy, if_pos hn]; grind
 obtain ⟨k, hk, h1, h2, -⟩ := rk_cell (f := f) (y := y) (by grind) (by grind)
 rw [rkN_at hk h1 (by grind)]
 have p1 := cast_nn (preS_nonneg hf k)
 have p2 := cast_nn (preS_le_sum hf (k + 1))
 rw [preS_succ f k hk, Rat.intCast_add] at p2
 have p3 := cast_nn (hf _ (getD_mem hk))
 have q : (f.getD k 0 : Rat) * (y - (k : Rat)) ≤ (f.getD k 0 : Rat) * 1 := Rat.mul_le_mul_of_nonneg_left (by grind) (by grind)
 have q' : 0 ≤ (f.getD k 0 : Rat) * (y - (k : Rat)) := Rat.mul_nonneg (by grind) (by grind)
 grind
def HitB (f : List Int) (q : Rat) (k : Nat) : Prop := 0 < f.getD k 0 ∧ q ≤ (preS f (k + 1) : Rat)
def IsInv (f : List Int) (q : Rat) (k : Nat) : Prop := k < f.length ∧ HitB f q k ∧ ∀ j, j < k → ¬ HitB f q j
def invV (f : List Int) (q : Rat) (k : Nat) : Rat := ((k : Rat) - 1/2) + (q - (preS f k : Rat)) / (f.getD k 0 : Rat)
theorem inv_below {f : List Int} (hf : ∀ n ∈ f, 0 ≤ n) {q : Rat} {k : Nat} (hk : k ≤ f.length) (hn : ∀ j, j < k → ¬ HitB f q j) : preS f k = 0 ∨ (preS f k : Rat) < q := by
 induction k with
 | zero => exact .inl (preS_zero f)
 | succ k ih =>
   have h1 := ih (by omega) (fun j hj => hn j (by omega))
   have h2 := preS_succ f k (by omega)
   have h3 := hf _ (getD_mem (show k < f.length by omega))
   have h4 := hn k (by omega)
   unfold HitB at h4
   by_cases h5 : 0 < f.getD k 0
   · right
     have h6 : ¬ q ≤ (preS f (k + 1) : Rat) := fun h => h4 ⟨h5, h⟩
     grind
   · have h6 : f.getD k 0 = 0 := by omega
     rw [h2, h6, Int.add_zero]; exact h1
theorem inv_ex {f : List Int} (hf : ∀ n ∈ f, 0 ≤ n) (h0 : f.sum ≠ 0) {q : Rat} (hq : q ≤ (f.sum : Rat)) : ∃ k, IsInv f q k := by
 have key : ∀ n, n ≤ f.length → (∃ k, IsInv f q k) ∨ ∀ j, j < n → ¬ HitB f q j := by
   intro n
   induction n with
   | zero => intro _; right; intro j hj; omega
   | succ n ih =>
     intro hn
     rcases ih (by omega) with h | h
     · exact .inl h
     · by_cases h1 : HitB f q n
       · exact .inl ⟨n, by omega, h1, h⟩
       · right; intro j hj
         rcases Nat.lt_or_eq_of_le (show j ≤ n by omega) with h2 | rfl
         · exact h j h2
         · exact h1
 rcases key _ (Nat.le_refl _) with h | h
 · exact h
 · rcases inv_below hf (Nat.le_refl _) h with h1 | h1
   · rw [preS_all f (Nat.le_refl _)] at h1; exact absurd h1 h0
   · rw [preS_all f (Nat.le_refl _)] at h1; grind
theorem inv_uniq {f : List Int} {q : Rat} {j k : Nat} (h1 : IsInv f q j) (h2 : IsInv f q k) : j = k := by
 rcases Nat.lt_trichotomy j k with h | h | h
 · exact absurd h1.2.1 (h2.2.2 j h)
 · exact h
 · exact absurd h2.2.1 (h1.2.2 k h)
open Classical in
noncomputable def invR (f : List Int) (q : Rat) : Rat := invV f q (Classical.epsilon (IsInv f q))
theorem invR_eq {f : List Int} {q : Rat} {k : Nat} (h : IsInv f q k) : invR f q = invV f q k := by
 unfold invR
 rw [inv_uniq (Classical.epsilon_spec ⟨k, h⟩ : IsInv f q (Classical.epsilon (IsInv f q))) h]
def S1 (f : List Int) : Nat → Int | 0 => 0 | k + 1 => S1 f k + k * f.getD k 0
def S2 (f : List Int) : Nat → Int | 0 => 0 | k + 1 => S2 f k + k * k * f.getD k 0
theorem preS_succ' (f : List Int) (k : Nat) : preS f (k + 1) = preS f k + f.getD k 0 := by
 rcases Nat.lt_or_ge k f.length with h | h
 · exact preS_succ f k h
 · rw [preS_all f h, preS_all f (by omega)]; simp [List.getD, h]
def meanR (f : List Int) : Rat := (S1 f f.length : Rat) / (f.sum : Rat)
def varR (f : List Int) : Rat := (S2 f f.length : Rat) / (f.sum : Rat) - meanR f * meanR f
end Go.Proofs.YtahmndacoanfiaaGreat
namespace Go.Proofs.YtahmndacoanfiaaGreat
set_option maxRecDepth 100000
open Go.RowKit
theorem infoInt : (Tryz.prog.info? 3).map (fun i => (i.zero, i.size, i.bytes)) = some (some (.int .i64 0), 1, 8) := by kernel_rfl
def iv (x : Int) : Value := .int .i64 x
def ivs (xs : List Int) : List Value := xs.map iv
theorem ivs_length (xs : List Int) : (ivs xs).length = xs.length := by simp [ivs]
theorem ivs_append (xs ys : List Int) : ivs (xs ++ ys) = ivs xs ++ ivs ys := by simp [ivs]
theorem ivs_set (xs : List Int) (j : Nat) (y : Int) : (ivs xs).set j (iv y) = ivs (xs.set j y) := by simp [ivs, List.map_set]
theorem ivs_at (xs : List Int) (j : Nat) (h : j < xs.length) : (ivs xs).getD j .nilFunc = iv (xs.getD j 0) := by simp [ivs, List.getD, h]
def Ints (w : World) (a : Option Addr) (len cap : Nat) (xs : List Int) : Prop := xs.length = len ∧ Cells w a len cap (fun i => .int .i64 (xs.getD i 0))
theorem Ints.below {w w' : World} {a : Option Addr} {len cap : Nat} {xs : List Int} (h : Ints w a len cap xs) (hb : Below w.heap.size w w') : Ints w' a len cap xs := ⟨h.1, h.2.below hb⟩
theorem Row.ints {w : World} {a : Option Addr} {len cap : Nat} {xs : List Int} (h : Row .i64 w a len cap xs) : Ints w a len cap xs := ⟨h.1, h.2.2⟩
theorem Owns.ints {w : World} {B : Nat} {e : TypeId} {v : Value} {xs : List Int} (h : Owns w B e v (ivs xs)) : ∃ a n cap, v = .slice a n cap ∧ Ints w a n cap xs := by
 obtain ⟨a, cap, rfl, hc⟩ := h.form
 rw [ivs_length] at hc ⊢
 refine ⟨a, xs.length, cap, rfl, rfl, hc.congr fun i hi => ?_⟩
 rw [ivs_at xs i hi]; rfl
theorem Owns.ints' {w : World} {B : Nat} {e : TypeId} {a : Option Addr} {n cap : Nat} {xs : List Int} (h : Owns w B e (.slice a n cap) (ivs xs)) : Ints w a n cap xs := by
 obtain ⟨a', n', cap', hv, hi⟩ := h.ints
 cases hv; exact hi
theorem ints_lit (w : World) (e : TypeId) (xs : List Int) (hl : xs.length ≤ maxLen) : Ints (w.alloc (.cells (ivs xs).toArray e)) (some ⟨w.heap.size, 0, none⟩) xs.length xs.length xs := by
 have h := cells_lit w e (ivs xs) (by rw [ivs_length]; exact hl)
 rw [ivs_length] at h
 exact ⟨rfl, h.congr fun i hi => by rw [ivs_at xs i hi]; rfl⟩
theorem iset_fill (l : List Int) (m : Nat) (y : Int) : (l ++ List.replicate (m + 1) 0).set l.length y = (l ++ [y]) ++ List.replicate m 0 := by
 rw [List.set_append_right _ _ (Nat.le_refl _)]; simp [List.replicate_succ]
theorem ivs_replicate (n : Nat) : List.replicate n (Value.int .i64 0) = ivs (List.replicate n 0) := by simp [ivs, iv]
end Go.Proofs.YtahmndacoanfiaaGreat
namespace Go.Proofs.YtahmndacoanfiaaGreat
set_option maxRecDepth 100000
open Go.RowKit
set_option maxHeartbeats 1000000 in
theorem integer_any (v : Value) (r : Rat) (m : Int) (L : Nat) (w : World) (hv : RatV w v r L) (hL : 1 ≤ L) (hm : (L + 4) * 4 ≤ 140737488355328) (h1 : 1 ≤ m) (h2 : m ≤ 7) :
   Calls Tryz.prog 44 #[v, .int .i64 m] w fun e w' => ∃ v, e = .returned (.tuple #[v, .int .i64 0]) ∧ IntN w.heap.size w' v (roundI m r) ∧ Below w.heap.size w w' := by
 obtain ⟨p, q, hr, hpq⟩ := hv
 have HR := Lib.hid (show RatV w v r L from ⟨p, q, hr, hpq⟩)
 obtain ⟨neg, a', len', cap', xs, a, len, cap, ys, rfl, -, -, -, -, -, -⟩ := hr
 clear hpq
 go_enter Tryz.func44, Tryz.ntmps44
 go_wp2_with fail
 have hbx : Below w.heap.size w ((w.alloc (.cells #[.bool neg, .slice a' len' cap', .slice a len cap] 28)).alloc (.cells #[.bool false, .slice none 0 0] 26)) := (((Below.refl _ _).alloc (Nat.le_refl _) _).alloc (by simp) _)
 generalize hWW : ((w.alloc (.cells #[.bool neg, .slice a' len' cap', .slice a len cap] 28)).alloc (.cells #[.bool false, .slice none 0 0] 26)) = w0 at *
 replace HR := Lib.hid (HR.out.below hbx)
 have cA0 : w0.cell? ⟨w.heap.size, 0, none⟩ = some (.bool neg) := by subst hWW; go_simp
 have cA1 : w0.cell? ⟨w.heap.size, 1, none⟩ = some (.slice a' len' cap') := by subst hWW; go_simp
 have cA2 : w0.cell? ⟨w.heap.size, 2, none⟩ = some (.slice a len cap) := by subst hWW; go_simp
 have ltA : w.heap.size < w0.heap.size := by subst hWW; simp <;> omega
 have cR0 : w0.cell? ⟨w.heap.size + 1, 0, none⟩ = some (.bool false) := by subst hWW; go_simp
 have fR0 : w0.frozen? ⟨w.heap.size + 1, 0, none⟩ = false := by subst hWW; go_simp
 have cR1 : w0.cell? ⟨w.heap.size + 1, 1, none⟩ = some (.slice none 0 0) := by subst hWW; go_simp
 have fR1 : w0.frozen? ⟨w.heap.size + 1, 1, none⟩ = false := by subst hWW; go_simp
 have ltR : w.heap.size + 1 < w0.heap.size := by subst hWW; simp
 have hB := hbx
 clear hbx hWW
 have hs1 := ltR
 refine (round_any _ r m L _ HR.out hL hm h1 h2).mono ?_
 rintro e w1 ⟨vb, vs, rfl, hv1, hb⟩
 replace cA0 := bc hb ltA cA0
 replace cA1 := bc hb ltA cA1
 replace cA2 := bc hb ltA cA2
 replace ltA := bl hb ltA
 replace cR0 := bc hb ltR cR0
 replace fR0 := bf hb ltR fR0
 replace cR1 := bc hb ltR cR1
 replace fR1 := bf hb ltR fR1
 replace ltR := bl hb ltR
 replace HR := Lib.hid (HR.out.below hb)
 replace hB := hB.trans (hb.mono hB.size)
 obtain ⟨a1, n1, c1, e1, p1, p2⟩ := hv1
 cases e1
 have HFin := Lib.hid (int_store (B := w0.heap.size) (B' := w.heap.size) (g := w.heap.size + 1) (z := roundI m r) ⟨a1, n1, c1, rfl, p1, p2⟩ hs1 (by omega))
 clear p1 p2
 generalize decide (roundI m r < 0) = dn at *
 clear hb
 go_wp2_with fail
 exact bodyPost_ret (v := .tuple #[.agg #[.bool dn, .slice a1 n1 c1], .int .i64 0]) (by simp [results, Tryz.results44, go_sem, cR0, cR1, ltR]) rfl ⟨_, rfl, HFin.out.below ((Below.refl _ _).alloc (Nat.le_refl _) _), (((hB.setCell (p := ⟨w.heap.size + 1, 0, none⟩) (by simp) _).setCell (p := ⟨w.heap.size + 1, 1, none⟩) (by simp) _).alloc (by simpa using hB.size) _)⟩
theorem RatN.alloc {B : Nat} {w : World} {v : Value} {r : Rat} (h : RatN B w v r) (c : Array Value) (ty : TypeId) : RatN B (w.alloc (.cells c ty)) v r := h.below ((Below.refl _ _).alloc (Nat.le_refl _) _)
theorem rat_whole (n : Int) : Rat.divInt n 1 = (n : Rat) := by rw [Rat.divInt_eq_div]; have : ((1 : Int) : Rat) = 1 := rfl; rw [this]; grind
theorem ehalf_eq : Rat.divInt 1 2 = (1/2 : Rat) := by rw [Rat.divInt_eq_div]; rfl
set_option maxHeartbeats 1000000 in
theorem ewhole_any (n : Int) (w : World) (h1 : -9223372036854775808 ≤ n) (h2 : n ≤ 9223372036854775807) :
   Calls Tryz.prog 28 #[.int .i64 n] w fun e w' => ∃ v, e = .returned v ∧ RatN w.heap.size w' v (n : Rat) ∧ Rsz (n : Rat) 2 ∧ Below w.heap.size w w' := by
 have HS := Lib.hid (rat_whole n)
 go_enter Tryz.func28, Tryz.ntmps28
 go_wp2_with fail
 have hbx : Below w.heap.size w (w.alloc (.cells #[.bool false, .slice none 0 0, .slice none 0 0] 28)) := ((Below.refl _ _).alloc (Nat.le_refl _) _)
 generalize hWW : (w.alloc (.cells #[.bool false, .slice none 0 0, .slice none 0 0] 28)) = w0 at *
 have cR0 : w0.cell? ⟨w.heap.size, 0, none⟩ = some (.bool false) := by subst hWW; go_simp
 have fR0 : w0.frozen? ⟨w.heap.size, 0, none⟩ = false := by subst hWW; go_simp
 have cR1 : w0.cell? ⟨w.heap.size, 1, none⟩ = some (.slice none 0 0) := by subst hWW; go_simp
 have fR1 : w0.frozen? ⟨w.heap.size, 1, none⟩ = false := by subst hWW; go_simp
 have cR2 : w0.cell? ⟨w.heap.size, 2, none⟩ = some (.slice none 0 0) := by subst hWW; go_simp
 have fR2 : w0.frozen? ⟨w.heap.size, 2, none⟩ = false := by subst hWW; go_simp
 have ltR : w.heap.size < w0.heap.size := by subst hWW; simp
 have hB := hbx
 clear hbx hWW
 have hs1 := ltR
 refine (qof_any n 1 _ (by omega) (by omega) (by omega) (by omega) (by omega)).mono ?_
 rintro e w1 ⟨v1, rfl, hv1, hsz, hb⟩
 replace cR0 := bc hb ltR cR0
 replace fR0 := bf hb ltR fR0
 replace cR1 := bc hb ltR cR1
 replace fR1 := bf hb ltR fR1
 replace cR2 := bc hb ltR cR2
 replace fR2 := bf hb ltR fR2
 replace ltR := bl hb ltR
 replace hB := hB.trans (hb.mono hB.size)
 rw [HS.out] at hv1 hsz
 obtain ⟨x', l', k', x, l, k, rfl, h1, h2, h3, h4⟩ := hv1
 have HSz := Lib.hid hsz
 have HFin := Lib.hid (rat_store (B := w0.heap.size) (B' := w.heap.size) (g := w.heap.size) (r := (n : Rat)) ⟨x', l', k', x, l, k, rfl, h1, h2, h3, h4⟩ hs1 (by omega))
 clear h1 h2 h3 h4 hsz
 generalize decide (((n : Rat) : Rat).num < 0) = dn at *
 clear hb
 go_wp2_with fail
 exact bodyPost_ret (v := .agg #[.bool dn, .slice x' l' k', .slice x l k]) (by simp [results, Tryz.results28, go_sem, cR0, cR1, cR2, ltR]) rfl ⟨_, rfl, HFin.out.alloc _ _, HSz.out, ((((hB.setCell (p := ⟨w.heap.size, 0, none⟩) (by simp) _).setCell (p := ⟨w.heap.size, 1, none⟩) (by simp) _).setCell (p := ⟨w.heap.size, 2, none⟩) (by simp) _).alloc (by simpa using hB.size) _)⟩
set_option maxHeartbeats 1000000 in
theorem ehalf_any (w : World) :
   Calls Tryz.prog 25 #[] w fun e w' => ∃ v, e = .returned v ∧ RatN w.heap.size w' v (1/2 : Rat) ∧ Rsz (1/2 : Rat) 2 ∧ Below w.heap.size w w' := by
 have HS := Lib.hid (ehalf_eq)
 go_enter Tryz.func25, Tryz.ntmps25
 go_wp2_with fail
 have hbx : Below w.heap.size w (w.alloc (.cells #[.bool false, .slice none 0 0, .slice none 0 0] 28)) := ((Below.refl _ _).alloc (Nat.le_refl _) _)
 generalize hWW : (w.alloc (.cells #[.bool false, .slice none 0 0, .slice none 0 0] 28)) = w0 at *
 have cR0 : w0.cell? ⟨w.heap.size, 0, none⟩ = some (.bool false) := by subst hWW; go_simp
 have fR0 : w0.frozen? ⟨w.heap.size, 0, none⟩ = false := by subst hWW; go_simp
 have cR1 : w0.cell? ⟨w.heap.size, 1, none⟩ = some (.slice none 0 0) := by subst hWW; go_simp
 have fR1 : w0.frozen? ⟨w.heap.size, 1, none⟩ = false := by subst hWW; go_simp
 have cR2 : w0.cell? ⟨w.heap.size, 2, none⟩ = some (.slice none 0 0) := by subst hWW; go_simp
 have fR2 : w0.frozen? ⟨w.heap.size, 2, none⟩ = false := by subst hWW; go_simp
 have ltR : w.heap.size < w0.heap.size := by subst hWW; simp
 have hB := hbx
 clear hbx hWW
 have hs1 := ltR
 refine (qof_any 1 2 _ (by omega) (by omega) (by omega) (by omega) (by omega)).mono ?_
 rintro e w1 ⟨v1, rfl, hv1, hsz, hb⟩
 replace cR0 := bc hb ltR cR0
 replace fR0 := bf hb ltR fR0
 replace cR1 := bc hb ltR cR1
 replace fR1 := bf hb ltR fR1
 replace cR2 := bc hb ltR cR2
 replace fR2 := bf hb ltR fR2
 replace ltR := bl hb ltR
 replace hB := hB.trans (hb.mono hB.size)
 rw [HS.out] at hv1 hsz
 obtain ⟨x', l', k', x, l, k, rfl, h1, h2, h3, h4⟩ := hv1
 have HSz := Lib.hid hsz
 have HFin := Lib.hid (rat_store (B := w0.heap.size) (B' := w.heap.size) (g := w.heap.size) (r := (1/2 : Rat)) ⟨x', l', k', x, l, k, rfl, h1, h2, h3, h4⟩ hs1 (by omega))
 clear h1 h2 h3 h4 hsz
 generalize decide (((1/2 : Rat) : Rat).num < 0) = dn at *
 clear hb
 go_wp2_with fail
 exact bodyPost_ret (v := .agg #[.bool dn, .slice x' l' k', .slice x l k]) (by simp [results, Tryz.results25, go_sem, cR0, cR1, cR2, ltR]) rfl ⟨_, rfl, HFin.out.alloc _ _, HSz.out, ((((hB.setCell (p := ⟨w.heap.size, 0, none⟩) (by simp) _).setCell (p := ⟨w.heap.size, 1, none⟩) (by simp) _).setCell (p := ⟨w.heap.size, 2, none⟩) (by simp) _).alloc (by simpa using hB.size) _)⟩
theorem heap_alloc_size (w : World) (o : Obj) : (w.alloc o).heap.size = w.heap.size + 1 := by simp
set_option maxHeartbeats 1000000 in
theorem ezero_any (w : World) : Calls Tryz.prog 23 #[] w fun e w' => ∃ v, e = .returned v ∧ RatN w.heap.size w' v 0 ∧ Below w.heap.size w w' := by
 have HL := Lib.hid (limbs_lit (w.alloc (.cells #[.bool false, .slice none 0 0, .slice (some ⟨w.heap.size + 1, 0, none⟩) 1 1] 28)) 67 [1] (fun x hx => by simp at hx; omega) (by simp [maxLen]))
 have HFin : Hid (RatN w.heap.size ((w.alloc (.cells #[.bool false, .slice none 0 0, .slice (some ⟨w.heap.size + 1, 0, none⟩) 1 1] 28)).alloc (.cells #[.int .u32 1] 67)) (.agg #[.bool false, .slice none 0 0, .slice (some ⟨w.heap.size + 1, 0, none⟩) 1 1]) 0) := Lib.hid ⟨none, 0, 0, some ⟨w.heap.size + 1, 0, none⟩, 1, 1, rfl, by rw [show (0 : Rat).num.natAbs = 0 from rfl, digs_zero]; exact limbs_nil _, new_none _ _ _, by
   have := HL.out
   rw [show (0 : Rat).den = 1 from rfl, digs_one (by omega) (by omega)]
   rw [heap_alloc_size] at this
   exact this, fun b l c e => by cases e; simp⟩
 go_enter Tryz.func23, Tryz.ntmps23
 go_wp2_with fail
 exact bodyPost_ret (v := .agg #[.bool false, .slice none 0 0, .slice (some ⟨w.heap.size + 1, 0, none⟩) 1 1]) (by simp [results, Tryz.results23, go_sem]) rfl ⟨_, rfl, HFin.out, ((Below.refl _ _).alloc (Nat.le_refl _) _).alloc (by simp) _⟩
theorem preS_at {f : List Int} (hf : ∀ n ∈ f, 0 ≤ n ∧ n ≤ 1000000) (hl : f.length ≤ 61) (k : Nat) : 0 ≤ preS f k ∧ preS f k ≤ 61000000 ∧ 0 ≤ f.getD k 0 ∧ f.getD k 0 ≤ 1000000 := by
 have h1 := preS_nonneg (fun n hn => (hf n hn).1) k
 have h2 := preS_le_sum (fun n hn => (hf n hn).1) k
 have h3 := preS_le (fun n hn => (hf n hn).2) f.length
 rw [preS_all f (Nat.le_refl _)] at h3
 refine ⟨h1, by omega, ?_⟩
 rcases Nat.lt_or_ge k f.length with h | h
 · exact hf _ (getD_mem h)
 · simp [List.getD, h]
set_option maxHeartbeats 1000000 in
theorem esum_any (f : List Int) (a : Option Addr) (len cap : Nat) (w : World) (hI : Ints w a len cap f) (hf : ∀ n ∈ f, 0 ≤ n ∧ n ≤ 1000000) (hl : len ≤ 61) :
   Calls Tryz.prog 34 #[.slice a len cap] w fun e w' => e = .returned (.int .i64 f.sum) ∧ w = w' := by
 have hfl : f.length = len := hI.1
 have HI := Lib.hid hI
 have HF := Lib.hid hf
 have HN := Lib.hid hfl
 have HA := Lib.hid (preS_all f (k := len) (by omega))
 clear hI hf hfl
 go_enter Tryz.func34, Tryz.ntmps34
 go_wp2_with fail
 go_loop [3, 8] (fun n i => ∃ k : Nat, k ≤ len ∧ i = .int .i64 k ∧ n = .int .i64 (preS f k)) (fun _ i => len - (intOf i).toNat)
 case atStart => exact ⟨0, by omega, rfl, by rw [preS_zero]⟩
 case round =>
   obtain ⟨k, hk, rfl, rfl⟩ := hrel
   have hb := preS_at HF.out (by rw [HN.out]; exact hl) k
   by_cases hlt : k < len
   · obtain ⟨b, off, rfl, hbs, hcc⟩ := HI.out.2.at hlt
     have e1 := hcc k hlt w (Below.refl _ _)
     have HS := Lib.hid (preS_succ f k (by rw [HN.out]; exact hlt))
     obtain ⟨b1, b2, b3, b4⟩ := hb
     generalize f.getD k 0 = y at *
     generalize preS f k = s at *
     clear hcc
     go_wp2_with fail
     go_round
     case rel => exact ⟨k + 1, by omega, by go_num, by rw [HS.out]⟩
     case measure => simp [intOf]; omega
   · obtain rfl : k = len := by omega
     rw [HA.out]
     go_wp2_with fail
     go_ret
     exact ⟨rfl, rfl⟩
def badF (n : Int) : Bool := decide (n < 0) || decide (1000000 < n)
def eqE (f : List Int) : Int := if 61 < f.length then 5 else if f.any badF = true then 3 else if f.sum = 0 then 20 else 0
theorem eqE_long {f : List Int} (h : 61 < f.length) : eqE f = 5 := by unfold eqE; rw [if_pos h]
theorem eqE_bad {f : List Int} {k : Nat} (h : f.length ≤ 61) (hk : k < f.length) (hb : badF (f.getD k 0) = true) : eqE f = 3 := by
 unfold eqE; rw [if_neg (by omega), if_pos (List.any_eq_true.2 ⟨_, getD_mem hk, hb⟩)]
theorem any_none {f : List Int} (hb : ∀ j, j < f.length → badF (f.getD j 0) = false) : ¬ f.any badF = true := by
 intro h
 obtain ⟨x, hx, h2⟩ := List.any_eq_true.1 h
 obtain ⟨j, hj, rfl⟩ := List.getElem_of_mem hx
 have := hb j hj
 simp [List.getD, hj] at this
 rw [this] at h2; cases h2
theorem eqE_empty {f : List Int} (h : f.length ≤ 61) (hb : ∀ j, j < f.length → badF (f.getD j 0) = false) (h0 : f.sum = 0) : eqE f = 20 := by
 unfold eqE; rw [if_neg (by omega), if_neg (any_none hb), if_pos h0]
theorem eqE_ok {f : List Int} (h : f.length ≤ 61) (hb : ∀ j, j < f.length → badF (f.getD j 0) = false) (h0 : f.sum ≠ 0) : eqE f = 0 := by
 unfold eqE; rw [if_neg (by omega), if_neg (any_none hb), if_neg h0]
theorem badF_no {f : List Int} (hb : ∀ j, j < f.length → badF (f.getD j 0) = false) : ∀ n ∈ f, 0 ≤ n ∧ n ≤ 1000000 := by
 intro n hn
 obtain ⟨j, hj, rfl⟩ := List.getElem_of_mem hn
 have := hb j hj
 simp [List.getD, hj, badF] at this
 exact this
theorem eqE_OkF {f : List Int} : eqE f = 0 ↔ OkF f := by
 unfold eqE OkF
 constructor
 · intro h
   split at h
   · omega
   split at h
   · omega
   split at h
   · omega
   rename_i h1 h2 h3
   refine ⟨by omega, fun n hn => ?_, h3⟩
   have : ¬ badF n = true := fun hb => h2 (List.any_eq_true.2 ⟨n, hn, hb⟩)
   simp [badF] at this
   exact this
 · rintro ⟨h1, h2, h3⟩
   rw [if_neg (by omega), if_neg, if_neg h3]
   intro h
   obtain ⟨x, hx, hb⟩ := List.any_eq_true.1 h
   have := h2 x hx
   simp [badF] at hb
   omega
set_option maxHeartbeats 1000000 in
theorem evalid_any (f : List Int) (a : Option Addr) (len cap : Nat) (w : World) (hI : Ints w a len cap f)  :
   Calls Tryz.prog 10 #[.slice a len cap] w fun e w' => e = .returned (.int .i64 (eqE f)) ∧ w = w' := by
 have hfl : f.length = len := hI.1
 have hlm : len ≤ 9223372036854775807 := by have h1 := hI.2.1; have h2 := hI.2.2.1; unfold maxLen at h2; omega
 have HI := Lib.hid hI
 have HN := Lib.hid hfl
 clear hI hfl
 by_cases h61 : 61 < len
 · have d : decide (61 < (len : Int)) = true := by simp; omega
   have HE := Lib.hid (eqE_long (f := f) (by rw [HN.out]; exact h61))
   go_enter Tryz.func10, Tryz.ntmps10
   go_wp2_with fail
   go_ret
   exact ⟨by rw [HE.out]; rfl, rfl⟩
 have d : decide (61 < (len : Int)) = false := by simp; omega
 go_enter Tryz.func10, Tryz.ntmps10
 go_wp2_with fail
 go_loop [10] (fun i => ∃ k : Nat, k ≤ len ∧ i = .int .i64 k ∧ Hid (∀ j, j < k → badF (f.getD j 0) = false)) (fun i => len - (intOf i).toNat)
 case atStart => exact ⟨0, by omega, rfl, Lib.hid (fun j hj => by omega)⟩
 case round =>
   obtain ⟨k, hk, rfl, HG⟩ := hrel
   by_cases hlt : k < len
   · obtain ⟨b, off, rfl, hbs, hcc⟩ := HI.out.2.at hlt
     have e1 := hcc k hlt w (Below.refl _ _)
     have HB := Lib.hid (eqE_bad (f := f) (k := k) (by rw [HN.out]; omega) (by rw [HN.out]; exact hlt))
     have HG2 := Lib.hid (show badF (f.getD k 0) = false → ∀ j, j < k + 1 → badF (f.getD j 0) = false from fun h j hj => by
       rcases Nat.lt_or_eq_of_le (show j ≤ k by omega) with h2 | rfl
       · exact HG.out j h2
       · exact h)
     generalize f.getD k 0 = y at *
     clear hcc HG
     by_cases h0 : y < 0
     · have HE := Lib.hid (HB.out (by simp [badF, h0]))
       have d0 : decide (y < 0) = true := by simpa using h0
       clear HB HG2
       go_wp2_with fail
       go_ret
       exact ⟨by rw [HE.out]; rfl, rfl⟩
     have d0 : decide (y < 0) = false := by simpa using h0
     by_cases h1 : 1000000 < y
     · have HE := Lib.hid (HB.out (by simp [badF, h1]))
       have d1 : decide (1000000 < y) = true := by simpa using h1
       clear HB HG2
       go_wp2_with fail
       go_ret
       exact ⟨by rw [HE.out]; rfl, rfl⟩
     have d1 : decide (1000000 < y) = false := by simpa using h1
     have HG3 := Lib.hid (HG2.out (by simp [badF, h0, h1]))
     clear HB HG2
     go_wp2_with fail
     go_round
     case rel => exact ⟨k + 1, by omega, by go_num, HG3⟩
     case measure => simp [intOf]; omega
   · obtain rfl : k = len := by omega
     have HG2 := Lib.hid (show ∀ j, j < f.length → badF (f.getD j 0) = false by rw [HN.out]; exact HG.out)
     clear HG
     go_wp2_with fail
     refine (esum_any f a k cap w HI.out (badF_no HG2.out) (by omega)).mono ?_
     rintro e w1 ⟨rfl, rfl⟩
     by_cases hz : f.sum = 0
     · have HE := Lib.hid (eqE_empty (f := f) (by rw [HN.out]; omega) HG2.out hz)
       have dz : (f.sum == 0) = true := by simpa using hz
       clear hz
       generalize f.sum = s at *
       go_wp2_with fail
       go_ret
       exact ⟨by rw [HE.out]; rfl, rfl⟩
     · have HE := Lib.hid (eqE_ok (f := f) (by rw [HN.out]; omega) HG2.out hz)
       have dz : (f.sum == 0) = false := by simpa using hz
       clear hz
       generalize f.sum = s at *
       go_wp2_with fail
       go_ret
       exact ⟨by rw [HE.out]; rfl, rfl⟩
end Go.Proofs.YtahmndacoanfiaaGreat
namespace Go.Proofs.YtahmndacoanfiaaGreat
set_option maxRecDepth 100000
open Go.RowKit
theorem RatN.off {B : Nat} {w : World} {b : Bool} {a' a : Option Addr} {n' c' n c : Nat} {r : Rat} (h : RatN B w (.agg #[.bool b, .slice a' n' c', .slice a n c]) r) {g : Nat} {cs : Array Value} {t : TypeId} (hg : w.heap[g]? = some (.cells cs t))
   (hc : ∀ (o : Nat) (n : Int), cs[o]? ≠ some (Value.int .u32 n)) (v0 v1 v2 : Value) : RatN B (((w.setCell ⟨g, 0, none⟩ v0).setCell ⟨g, 1, none⟩ v1).setCell ⟨g, 2, none⟩ v2) (.agg #[.bool b, .slice a' n' c', .slice a n c]) r := by
 obtain ⟨x', l', k', x, l, k, e, h1, h2, h3, h4⟩ := h
 cases e
 have o1 := h1.offBlk hg hc
 have o2 := h3.offBlk hg hc
 exact ⟨a', n', c', a, n, c, rfl, ((h1.off o1 0 _).off o1 1 _).off o1 2 _, h2, ((h3.off o2 0 _).off o2 1 _).off o2 2 _, h4⟩
theorem evalid_b (f : List Int) (a : Option Addr) (len cap : Nat) (w : World) (hI : Ints w a len cap f) :
   Calls Tryz.prog 10 #[.slice a len cap] w fun e w' => e = .returned (.int .i64 (eqE f)) ∧ Below w.heap.size w w' :=
 (evalid_any f a len cap w hI).mono fun _ _ ⟨h1, h2⟩ => ⟨h1, h2 ▸ Below.refl _ _⟩
theorem esum_b (f : List Int) (a : Option Addr) (len cap : Nat) (w : World) (hI : Ints w a len cap f) (hf : ∀ n ∈ f, 0 ≤ n ∧ n ≤ 1000000) (hl : len ≤ 61) :
   Calls Tryz.prog 34 #[.slice a len cap] w fun e w' => e = .returned (.int .i64 f.sum) ∧ Below w.heap.size w w' :=
 (esum_any f a len cap w hI hf hl).mono fun _ _ ⟨h1, h2⟩ => ⟨h1, h2 ▸ Below.refl _ _⟩
theorem Ints.take {w : World} {a : Option Addr} {len cap : Nat} {f : List Int} (h : Ints w a len cap f) {k : Nat} (hk : k ≤ len) : Ints w a k cap (f.take k) := by
 refine ⟨by rw [List.length_take, h.1]; omega, ?_⟩
 obtain ⟨-, h1, h2, h3, h4⟩ := h
 refine ⟨by omega, h2, h3, ?_⟩
 · rcases Nat.eq_zero_or_pos k with h0 | h0
   · exact .inl h0
   · rcases h4 with h4 | ⟨b, off, e, hb, hc⟩
     · omega
     · refine .inr ⟨b, off, e, hb, fun i hi => ?_⟩
       rw [hc i (by omega)]
       simp [List.getD, hi]
def rankR (f : List Int) (x : Rat) : Rat := rkN f (x + 1/2) / (f.sum : Rat)
theorem cmpI_ge {r s : Rat} : 0 ≤ rcmpI r s ↔ s ≤ r := by
 unfold rcmpI
 by_cases h : r < s
 · rw [if_pos h]; constructor
   · intro h2; omega
   · intro h2; grind
 · rw [if_neg h]; constructor
   · intro _; grind
   · intro _; split <;> omega
theorem sgI_le {r : Rat} : rsgI r ≤ 0 ↔ r ≤ 0 := by
 have h := mk_cmp (p := r.num) (s := 0) (q := r.den) (t := 1) r.den_nz (by omega)
 unfold rsgI
 rw [show (r.num * (1 : Nat) - 0 * r.den : Int) = r.num by simp, Rat.mkRat_self] at h
 rw [h, show mkRat 0 1 = (0 : Rat) from rfl]
 unfold rcmpI
 by_cases h1 : r < 0
 · rw [if_pos h1]; constructor
   · intro _; grind
   · intro _; omega
 · rw [if_neg h1]
   by_cases h2 : 0 < r
   · rw [if_pos h2]; constructor
     · intro h; omega
     · intro h; grind
   · rw [if_neg h2]; constructor
     · intro _; grind
     · intro _; omega
set_option maxHeartbeats 4000000 in
theorem erank_low (f : List Int) (a : Option Addr) (len cap : Nat) (v : Value) (x : Rat) (L : Nat) (w : World) (hI : Ints w a len cap f) (hv : RatV w v x L) (hL : 1 ≤ L) (hm : (L + 40) * 4 ≤ 140737488355328) (hO : OkF f) (hy : x + 1/2 ≤ 0) :
   Calls Tryz.prog 6 #[.slice a len cap, v] w fun e w' => ∃ v, e = .returned (.tuple #[v, .int .i64 0]) ∧ RatN w.heap.size w' v 0 ∧ Rsz 0 (L + 13) ∧ Below w.heap.size w w' := by
 have HI := Lib.hid hI
 have HN := Lib.hid hI.1
 have HR := Lib.hid hv
 obtain ⟨p, q, hr, hpq⟩ := hv
 obtain ⟨negx, ax', lenx', capx', xsx, ax, lenx, capx, ysx, rfl, -, -, -, -, -, -⟩ := hr
 clear hpq hI
 have HO := Lib.hid (eqE_OkF.2 hO)
 have HF := Lib.hid hO.2.1
 have h61 : len ≤ 61 := by rw [← HN.out]; exact hO.1
 have HS := Lib.hid (sgI_le.2 hy)
 clear hO hy
 go_enter Tryz.func6, Tryz.ntmps6
 go_wp2_with fail
 have hbx : Below w.heap.size w ((w.alloc (.cells #[.bool negx, .slice ax' lenx' capx', .slice ax lenx capx] 28)).alloc (.cells #[.bool false, .slice none 0 0, .slice none 0 0] 28)) := (((Below.refl _ _).alloc (Nat.le_refl _) _).alloc (by simp) _)
 generalize hWW : ((w.alloc (.cells #[.bool negx, .slice ax' lenx' capx', .slice ax lenx capx] 28)).alloc (.cells #[.bool false, .slice none 0 0, .slice none 0 0] 28)) = w0 at *
 replace HI := Lib.hid (HI.out.below hbx)
 replace HR := Lib.hid (HR.out.below hbx)
 have cA0 : w0.cell? ⟨w.heap.size, 0, none⟩ = some (.bool negx) := by subst hWW; go_simp
 have cA1 : w0.cell? ⟨w.heap.size, 1, none⟩ = some (.slice ax' lenx' capx') := by subst hWW; go_simp
 have cA2 : w0.cell? ⟨w.heap.size, 2, none⟩ = some (.slice ax lenx capx) := by subst hWW; go_simp
 have ltA : w.heap.size < w0.heap.size := by subst hWW; simp <;> omega
 have cR0 : w0.cell? ⟨w.heap.size + 1, 0, none⟩ = some (.bool false) := by subst hWW; go_simp
 have fR0 : w0.frozen? ⟨w.heap.size + 1, 0, none⟩ = false := by subst hWW; go_simp
 have cR1 : w0.cell? ⟨w.heap.size + 1, 1, none⟩ = some (.slice none 0 0) := by subst hWW; go_simp
 have fR1 : w0.frozen? ⟨w.heap.size + 1, 1, none⟩ = false := by subst hWW; go_simp
 have cR2 : w0.cell? ⟨w.heap.size + 1, 2, none⟩ = some (.slice none 0 0) := by subst hWW; go_simp
 have fR2 : w0.frozen? ⟨w.heap.size + 1, 2, none⟩ = false := by subst hWW; go_simp
 have ltR : w.heap.size + 1 < w0.heap.size := by subst hWW; simp
 have hB := hbx
 clear hbx hWW
 refine (evalid_b f a len cap _ HI.out).mono ?_
 rintro e w1 ⟨rfl, hb⟩
 replace cA0 := bc hb ltA cA0
 replace cA1 := bc hb ltA cA1
 replace cA2 := bc hb ltA cA2
 replace ltA := bl hb ltA
 replace cR0 := bc hb ltR cR0
 replace fR0 := bf hb ltR fR0
 replace cR1 := bc hb ltR cR1
 replace fR1 := bf hb ltR fR1
 replace cR2 := bc hb ltR cR2
 replace fR2 := bf hb ltR fR2
 replace ltR := bl hb ltR
 replace HI := Lib.hid (HI.out.below hb)
 replace HR := Lib.hid (HR.out.below hb)
 replace hB := hB.trans (hb.mono hB.size)
 rw [HO.out]
 clear hb
 go_wp2_with fail
 have SCA0 := Lib.hid cA0
 have SCA1 := Lib.hid cA1
 have SCA2 := Lib.hid cA2
 have SLA := Lib.hid ltA
 have SCR0 := Lib.hid cR0
 have SFR0 := Lib.hid fR0
 have SCR1 := Lib.hid cR1
 have SFR1 := Lib.hid fR1
 have SCR2 := Lib.hid cR2
 have SFR2 := Lib.hid fR2
 have SLR := Lib.hid ltR
 have SHI := Lib.hid HI.out
 have SHR := Lib.hid HR.out
 have SB := Lib.hid hB
 have eA0 := box_ext (B := w1.heap.size) cA0 ltA
 have eA1 := box_ext (B := w1.heap.size) cA1 ltA
 have eA2 := box_ext (B := w1.heap.size) cA2 ltA
 have eR0 := box_ext (B := w1.heap.size) cR0 ltR
 have eR1 := box_ext (B := w1.heap.size) cR1 ltR
 have eR2 := box_ext (B := w1.heap.size) cR2 ltR
 refine wp_region_float 3 [(0, false), (1, true), (2, true)] [(4, true)] (fun w' => ∃ W : Ext w1.heap.size w1, w' = W.1) _ 7 (.cells #[.bool false, .slice none 0 0, .slice none 0 0] 28) w1.heap.size (by kernel_rfl) rfl rfl rfl (fun a w => by simp [execOp, go_sem]) (fun w ⟨W, e⟩ => e ▸ W.2.size) (fun w ⟨W, e⟩ => ⟨⟨_, (e ▸ W.2).alloc (e ▸ W.2.size) _⟩, rfl⟩) (by kernel_rfl) ⟨⟨w1.drew, (Below.refl _ _).drew⟩, rfl⟩ ?_
 repeat (refine wpFl_calm rfl (fun K hK => ?_); go_simp; refine hK _ ?_; clear hK K)
 clear eA0 eA1 eA2 eR0 eR1 eR2
 have hbx : Below w1.heap.size w1 w1.drew := (Below.refl _ _).drew
 have hM := hbx
 replace cA0 := bc hbx ltA cA0
 replace cA1 := bc hbx ltA cA1
 replace cA2 := bc hbx ltA cA2
 replace ltA := bl hbx ltA
 replace cR0 := bc hbx ltR cR0
 replace fR0 := bf hbx ltR fR0
 replace cR1 := bc hbx ltR cR1
 replace fR1 := bf hbx ltR fR1
 replace cR2 := bc hbx ltR cR2
 replace fR2 := bf hbx ltR fR2
 replace ltR := bl hbx ltR
 replace HI := Lib.hid (HI.out.below hbx)
 replace HR := Lib.hid (HR.out.below hbx)
 replace hB := hB.trans (hbx.mono hB.size)
 clear hbx
 generalize w1.drew = ww1d at *
 refine wpFl_eff rfl rfl (fun wy hC hg K hK => ?_)
 obtain ⟨⟨wz, hE⟩, hwe⟩ := hC
 change wy = wz at hwe
 subst hwe
 replace cA0 := bc hg ltA cA0
 replace cA1 := bc hg ltA cA1
 replace cA2 := bc hg ltA cA2
 replace ltA := bl hg ltA
 replace cR0 := bc hg ltR cR0
 replace fR0 := bf hg ltR fR0
 replace cR1 := bc hg ltR cR1
 replace fR1 := bf hg ltR fR1
 replace cR2 := bc hg ltR cR2
 replace fR2 := bf hg ltR fR2
 replace ltR := bl hg ltR
 replace HI := Lib.hid (HI.out.below hg)
 replace HR := Lib.hid (HR.out.below hg)
 replace hB := hB.trans (hg.mono hB.size)
 replace hM := hE
 clear hE hg
 go_simp
 refine (ehalf_any _).mono ?_
 rintro e w2 ⟨v2, rfl, hv, hsz, hb⟩
 replace cA0 := bc hb ltA cA0
 replace cA1 := bc hb ltA cA1
 replace cA2 := bc hb ltA cA2
 replace ltA := bl hb ltA
 replace cR0 := bc hb ltR cR0
 replace fR0 := bf hb ltR fR0
 replace cR1 := bc hb ltR cR1
 replace fR1 := bf hb ltR fR1
 replace cR2 := bc hb ltR cR2
 replace fR2 := bf hb ltR fR2
 replace ltR := bl hb ltR
 replace HI := Lib.hid (HI.out.below hb)
 replace HR := Lib.hid (HR.out.below hb)
 replace hM := hM.trans (hb.mono hM.size)
 replace hB := hB.trans (hb.mono hB.size)
 have HV2 := Lib.hid (hv.raw hsz)
 clear hv hsz
 refine hK _ _ ⟨⟨w2, hM⟩, rfl⟩ hb ?_
 clear hK K hb
 refine wpFl_eff rfl rfl (fun wy hC hg K hK => ?_)
 obtain ⟨⟨wz, hE⟩, hwe⟩ := hC
 change wy = wz at hwe
 subst hwe
 replace cA0 := bc hg ltA cA0
 replace cA1 := bc hg ltA cA1
 replace cA2 := bc hg ltA cA2
 replace ltA := bl hg ltA
 replace cR0 := bc hg ltR cR0
 replace fR0 := bf hg ltR fR0
 replace cR1 := bc hg ltR cR1
 replace fR1 := bf hg ltR fR1
 replace cR2 := bc hg ltR cR2
 replace fR2 := bf hg ltR fR2
 replace ltR := bl hg ltR
 replace HI := Lib.hid (HI.out.below hg)
 replace HR := Lib.hid (HR.out.below hg)
 replace HV2 := Lib.hid (HV2.out.below hg)
 replace hB := hB.trans (hg.mono hB.size)
 replace hM := hE
 clear hE hg
 go_simp
 refine (qadd_any _ _ x (1/2) L 2 _ HR.out HV2.out hL (by omega) (by omega)).mono ?_
 rintro e w3 ⟨v3, rfl, hv, hsz, hb⟩
 replace cA0 := bc hb ltA cA0
 replace cA1 := bc hb ltA cA1
 replace cA2 := bc hb ltA cA2
 replace ltA := bl hb ltA
 replace cR0 := bc hb ltR cR0
 replace fR0 := bf hb ltR fR0
 replace cR1 := bc hb ltR cR1
 replace fR1 := bf hb ltR fR1
 replace cR2 := bc hb ltR cR2
 replace fR2 := bf hb ltR fR2
 replace ltR := bl hb ltR
 replace HI := Lib.hid (HI.out.below hb)
 replace HR := Lib.hid (HR.out.below hb)
 replace HV2 := Lib.hid (HV2.out.below hb)
 replace hM := hM.trans (hb.mono hM.size)
 replace hB := hB.trans (hb.mono hB.size)
 have HV3 := Lib.hid (hv.raw hsz)
 obtain ⟨p3', m3', q3', p3, m3, q3, rfl, -, -, -, -⟩ := hv
 clear hsz
 generalize decide ((x + 1/2 : Rat).num < 0) = d3 at *
 refine hK _ _ ⟨⟨w3, hM⟩, rfl⟩ hb ?_
 clear hK K hb
 clear HV2
 refine wpFl_nil fun gY wy hC hg hBk hge => ?_
 obtain ⟨⟨wz, hE⟩, hwe⟩ := hC
 change wy = wz at hwe
 subst hwe
 replace cA0 := bc hg ltA cA0
 replace cA1 := bc hg ltA cA1
 replace cA2 := bc hg ltA cA2
 replace ltA := bl hg ltA
 replace cR0 := bc hg ltR cR0
 replace fR0 := bf hg ltR fR0
 replace cR1 := bc hg ltR cR1
 replace fR1 := bf hg ltR fR1
 replace cR2 := bc hg ltR cR2
 replace fR2 := bf hg ltR fR2
 replace ltR := bl hg ltR
 replace HI := Lib.hid (HI.out.below hg)
 replace HR := Lib.hid (HR.out.below hg)
 replace HV3 := Lib.hid (HV3.out.below hg)
 replace hB := hB.trans (hg.mono hB.size)
 replace hM := hE
 clear hE hg
 have z0 := blk_cell hBk 0
 have y0 := blk_free hBk 0
 have z1 := blk_cell hBk 1
 have y1 := blk_free hBk 1
 have z2 := blk_cell hBk 2
 have y2 := blk_free hBk 2
 simp at z0 z1 z2
 have hgl := blk_lt hBk
 refine wpSched_eff rfl rfl (fun K hK => ?_)
 go_simp
 refine hK _ _ ⟨⟨_, (((hM.setCell (p := ⟨gY, 0, none⟩) hge _).setCell (p := ⟨gY, 1, none⟩) hge _).setCell (p := ⟨gY, 2, none⟩) hge _)⟩, rfl⟩ ?_
 clear hK K
 refine wpSched_nil ?_
 have hMn := (((hM.setCell (p := ⟨gY, 0, none⟩) hge (.bool d3)).setCell (p := ⟨gY, 1, none⟩) hge (.slice p3' m3' q3')).setCell (p := ⟨gY, 2, none⟩) hge (.slice p3 m3 q3))
 replace HV3 := Lib.hid (HV3.out.off hBk zRat_no (.bool d3) (.slice p3' m3' q3') (.slice p3 m3 q3))
 replace cA0 := bc hMn SLA.out SCA0.out
 replace cA1 := bc hMn SLA.out SCA1.out
 replace cA2 := bc hMn SLA.out SCA2.out
 replace ltA := bl hMn SLA.out
 replace cR0 := bc hMn SLR.out SCR0.out
 replace fR0 := bf hMn SLR.out SFR0.out
 replace cR1 := bc hMn SLR.out SCR1.out
 replace fR1 := bf hMn SLR.out SFR1.out
 replace cR2 := bc hMn SLR.out SCR2.out
 replace fR2 := bf hMn SLR.out SFR2.out
 replace ltR := bl hMn SLR.out
 replace HI := Lib.hid (SHI.out.below hMn)
 replace HR := Lib.hid (SHR.out.below hMn)
 replace hB := SB.out.trans (hMn.mono SB.out.size)
 have cY0 : (((wy.setCell ⟨gY, 0, none⟩ (.bool d3)).setCell ⟨gY, 1, none⟩ (.slice p3' m3' q3')).setCell ⟨gY, 2, none⟩ (.slice p3 m3 q3)).cell? ⟨gY, 0, none⟩ = some (.bool d3) := by go_simp
 have cY1 : (((wy.setCell ⟨gY, 0, none⟩ (.bool d3)).setCell ⟨gY, 1, none⟩ (.slice p3' m3' q3')).setCell ⟨gY, 2, none⟩ (.slice p3 m3 q3)).cell? ⟨gY, 1, none⟩ = some (.slice p3' m3' q3') := by go_simp
 have cY2 : (((wy.setCell ⟨gY, 0, none⟩ (.bool d3)).setCell ⟨gY, 1, none⟩ (.slice p3' m3' q3')).setCell ⟨gY, 2, none⟩ (.slice p3 m3 q3)).cell? ⟨gY, 2, none⟩ = some (.slice p3 m3 q3) := by go_simp
 have ltY : gY < (((wy.setCell ⟨gY, 0, none⟩ (.bool d3)).setCell ⟨gY, 1, none⟩ (.slice p3' m3' q3')).setCell ⟨gY, 2, none⟩ (.slice p3 m3 q3)).heap.size := by simpa using hgl
 have neYA : w.heap.size < gY := Nat.lt_of_lt_of_le SLA.out hge
 have neYR : w.heap.size + 1 < gY := Nat.lt_of_lt_of_le SLR.out hge
 clear SCA0 SCA1 SCA2 SLA SCR0 SFR0 SCR1 SFR1 SCR2 SFR2 SLR SHI SHR SB
 clear hMn hM hBk hgl z0 y0 z1 y1 z2 y2
 go_wp2_with fail
 generalize (((wy.setCell ⟨gY, 0, none⟩ (.bool d3)).setCell ⟨gY, 1, none⟩ (.slice p3' m3' q3')).setCell ⟨gY, 2, none⟩ (.slice p3 m3 q3)) = w4 at *
 refine (qsign_any _ (x + 1/2) (L + 3) _ HV3.out (by omega)).mono ?_
 rintro e w5 ⟨rfl, hb⟩
 replace cA0 := bc hb ltA cA0
 replace cA1 := bc hb ltA cA1
 replace cA2 := bc hb ltA cA2
 replace ltA := bl hb ltA
 replace cR0 := bc hb ltR cR0
 replace fR0 := bf hb ltR fR0
 replace cR1 := bc hb ltR cR1
 replace fR1 := bf hb ltR fR1
 replace cR2 := bc hb ltR cR2
 replace fR2 := bf hb ltR fR2
 replace ltR := bl hb ltR
 replace cY0 := bc hb ltY cY0
 replace cY1 := bc hb ltY cY1
 replace cY2 := bc hb ltY cY2
 replace ltY := bl hb ltY
 replace HI := Lib.hid (HI.out.below hb)
 replace HR := Lib.hid (HR.out.below hb)
 replace HV3 := Lib.hid (HV3.out.below hb)
 replace hB := hB.trans (hb.mono hB.size)
 have hsg := HS.out
 generalize rsgI (x + 1/2) = sg at *
 clear hb
 go_wp2_with fail
 have hs1 := ltR
 refine (ezero_any _).mono ?_
 rintro e w6 ⟨v6, rfl, hv, hb⟩
 replace cA0 := bc hb ltA cA0
 replace cA1 := bc hb ltA cA1
 replace cA2 := bc hb ltA cA2
 replace ltA := bl hb ltA
 replace cR0 := bc hb ltR cR0
 replace fR0 := bf hb ltR fR0
 replace cR1 := bc hb ltR cR1
 replace fR1 := bf hb ltR fR1
 replace cR2 := bc hb ltR cR2
 replace fR2 := bf hb ltR fR2
 replace ltR := bl hb ltR
 replace cY0 := bc hb ltY cY0
 replace cY1 := bc hb ltY cY1
 replace cY2 := bc hb ltY cY2
 replace ltY := bl hb ltY
 replace HI := Lib.hid (HI.out.below hb)
 replace HR := Lib.hid (HR.out.below hb)
 replace HV3 := Lib.hid (HV3.out.below hb)
 replace hB := hB.trans (hb.mono hB.size)
 have HZ6 : Hid (Rsz (0 : Rat) (L + 13)) := Lib.hid (by unfold Rsz; rw [show (0 : Rat).num.natAbs = 0 from rfl, show (0 : Rat).den = 1 from rfl, digs_zero, digs_one (by omega) (by omega)]; simp)
 obtain ⟨p6', m6', q6', p6, m6, q6, rfl, h1, h2, h3, h4⟩ := hv
 have HFin := Lib.hid (rat_store (B := w5.heap.size) (B' := w.heap.size) (g := w.heap.size + 1) (r := 0) ⟨p6', m6', q6', p6, m6, q6, rfl, h1, h2, h3, h4⟩ hs1 (by omega))
 clear h1 h2 h3 h4
 generalize decide ((0 : Rat).num < 0) = d6 at *
 clear hb
 go_wp2_with fail
 exact bodyPost_ret (v := .tuple #[.agg #[.bool d6, .slice p6' m6' q6', .slice p6 m6 q6], .int .i64 0]) (by simp [results, Tryz.results6, go_sem, cR0, cR1, cR2]) rfl ⟨_, rfl, HFin.out, HZ6.out, ((hB.setCell (p := ⟨w.heap.size + 1, 0, none⟩) (by simp) _).setCell (p := ⟨w.heap.size + 1, 1, none⟩) (by simp) _).setCell (p := ⟨w.heap.size + 1, 2, none⟩) (by simp) _⟩
set_option maxHeartbeats 4000000 in
theorem erank_high (f : List Int) (a : Option Addr) (len cap : Nat) (v : Value) (x : Rat) (L : Nat) (w : World) (hI : Ints w a len cap f) (hv : RatV w v x L) (hL : 1 ≤ L) (hm : (L + 40) * 4 ≤ 140737488355328) (hO : OkF f) (hy : ¬ x + 1/2 ≤ 0) (hn : (f.length : Rat) ≤ x + 1/2) :
   Calls Tryz.prog 6 #[.slice a len cap, v] w fun e w' => ∃ v, e = .returned (.tuple #[v, .int .i64 0]) ∧ RatN w.heap.size w' v 1 ∧ Rsz 1 (L + 13) ∧ Below w.heap.size w w' := by
 have HI := Lib.hid hI
 have HN := Lib.hid hI.1
 have HR := Lib.hid hv
 obtain ⟨p, q, hr, hpq⟩ := hv
 obtain ⟨negx, ax', lenx', capx', xsx, ax, lenx, capx, ysx, rfl, -, -, -, -, -, -⟩ := hr
 clear hpq hI
 have HO := Lib.hid (eqE_OkF.2 hO)
 have HF := Lib.hid hO.2.1
 have h61 : len ≤ 61 := by rw [← HN.out]; exact hO.1
 have HS := Lib.hid (show ¬ rsgI (x + 1/2) ≤ 0 from fun h => hy (sgI_le.1 h))
 have HC := Lib.hid (cmpI_ge.2 hn)
 rw [HN.out] at HC
 clear hO hy hn
 go_enter Tryz.func6, Tryz.ntmps6
 go_wp2_with fail
 have hbx : Below w.heap.size w ((w.alloc (.cells #[.bool negx, .slice ax' lenx' capx', .slice ax lenx capx] 28)).alloc (.cells #[.bool false, .slice none 0 0, .slice none 0 0] 28)) := (((Below.refl _ _).alloc (Nat.le_refl _) _).alloc (by simp) _)
 generalize hWW : ((w.alloc (.cells #[.bool negx, .slice ax' lenx' capx', .slice ax lenx capx] 28)).alloc (.cells #[.bool false, .slice none 0 0, .slice none 0 0] 28)) = w0 at *
 replace HI := Lib.hid (HI.out.below hbx)
 replace HR := Lib.hid (HR.out.below hbx)
 have cA0 : w0.cell? ⟨w.heap.size, 0, none⟩ = some (.bool negx) := by subst hWW; go_simp
 have cA1 : w0.cell? ⟨w.heap.size, 1, none⟩ = some (.slice ax' lenx' capx') := by subst hWW; go_simp
 have cA2 : w0.cell? ⟨w.heap.size, 2, none⟩ = some (.slice ax lenx capx) := by subst hWW; go_simp
 have ltA : w.heap.size < w0.heap.size := by subst hWW; simp <;> omega
 have cR0 : w0.cell? ⟨w.heap.size + 1, 0, none⟩ = some (.bool false) := by subst hWW; go_simp
 have fR0 : w0.frozen? ⟨w.heap.size + 1, 0, none⟩ = false := by subst hWW; go_simp
 have cR1 : w0.cell? ⟨w.heap.size + 1, 1, none⟩ = some (.slice none 0 0) := by subst hWW; go_simp
 have fR1 : w0.frozen? ⟨w.heap.size + 1, 1, none⟩ = false := by subst hWW; go_simp
 have cR2 : w0.cell? ⟨w.heap.size + 1, 2, none⟩ = some (.slice none 0 0) := by subst hWW; go_simp
 have fR2 : w0.frozen? ⟨w.heap.size + 1, 2, none⟩ = false := by subst hWW; go_simp
 have ltR : w.heap.size + 1 < w0.heap.size := by subst hWW; simp
 have hB := hbx
 clear hbx hWW
 refine (evalid_b f a len cap _ HI.out).mono ?_
 rintro e w1 ⟨rfl, hb⟩
 replace cA0 := bc hb ltA cA0
 replace cA1 := bc hb ltA cA1
 replace cA2 := bc hb ltA cA2
 replace ltA := bl hb ltA
 replace cR0 := bc hb ltR cR0
 replace fR0 := bf hb ltR fR0
 replace cR1 := bc hb ltR cR1
 replace fR1 := bf hb ltR fR1
 replace cR2 := bc hb ltR cR2
 replace fR2 := bf hb ltR fR2
 replace ltR := bl hb ltR
 replace HI := Lib.hid (HI.out.below hb)
 replace HR := Lib.hid (HR.out.below hb)
 replace hB := hB.trans (hb.mono hB.size)
 rw [HO.out]
 clear hb
 go_wp2_with fail
 have SCA0 := Lib.hid cA0
 have SCA1 := Lib.hid cA1
 have SCA2 := Lib.hid cA2
 have SLA := Lib.hid ltA
 have SCR0 := Lib.hid cR0
 have SFR0 := Lib.hid fR0
 have SCR1 := Lib.hid cR1
 have SFR1 := Lib.hid fR1
 have SCR2 := Lib.hid cR2
 have SFR2 := Lib.hid fR2
 have SLR := Lib.hid ltR
 have SHI := Lib.hid HI.out
 have SHR := Lib.hid HR.out
 have SB := Lib.hid hB
 have eA0 := box_ext (B := w1.heap.size) cA0 ltA
 have eA1 := box_ext (B := w1.heap.size) cA1 ltA
 have eA2 := box_ext (B := w1.heap.size) cA2 ltA
 have eR0 := box_ext (B := w1.heap.size) cR0 ltR
 have eR1 := box_ext (B := w1.heap.size) cR1 ltR
 have eR2 := box_ext (B := w1.heap.size) cR2 ltR
 refine wp_region_float 3 [(0, false), (1, true), (2, true)] [(4, true)] (fun w' => ∃ W : Ext w1.heap.size w1, w' = W.1) _ 7 (.cells #[.bool false, .slice none 0 0, .slice none 0 0] 28) w1.heap.size (by kernel_rfl) rfl rfl rfl (fun a w => by simp [execOp, go_sem]) (fun w ⟨W, e⟩ => e ▸ W.2.size) (fun w ⟨W, e⟩ => ⟨⟨_, (e ▸ W.2).alloc (e ▸ W.2.size) _⟩, rfl⟩) (by kernel_rfl) ⟨⟨w1.drew, (Below.refl _ _).drew⟩, rfl⟩ ?_
 repeat (refine wpFl_calm rfl (fun K hK => ?_); go_simp; refine hK _ ?_; clear hK K)
 clear eA0 eA1 eA2 eR0 eR1 eR2
 have hbx : Below w1.heap.size w1 w1.drew := (Below.refl _ _).drew
 have hM := hbx
 replace cA0 := bc hbx ltA cA0
 replace cA1 := bc hbx ltA cA1
 replace cA2 := bc hbx ltA cA2
 replace ltA := bl hbx ltA
 replace cR0 := bc hbx ltR cR0
 replace fR0 := bf hbx ltR fR0
 replace cR1 := bc hbx ltR cR1
 replace fR1 := bf hbx ltR fR1
 replace cR2 := bc hbx ltR cR2
 replace fR2 := bf hbx ltR fR2
 replace ltR := bl hbx ltR
 replace HI := Lib.hid (HI.out.below hbx)
 replace HR := Lib.hid (HR.out.below hbx)
 replace hB := hB.trans (hbx.mono hB.size)
 clear hbx
 generalize w1.drew = ww1d at *
 refine wpFl_eff rfl rfl (fun wy hC hg K hK => ?_)
 obtain ⟨⟨wz, hE⟩, hwe⟩ := hC
 change wy = wz at hwe
 subst hwe
 replace cA0 := bc hg ltA cA0
 replace cA1 := bc hg ltA cA1
 replace cA2 := bc hg ltA cA2
 replace ltA := bl hg ltA
 replace cR0 := bc hg ltR cR0
 replace fR0 := bf hg ltR fR0
 replace cR1 := bc hg ltR cR1
 replace fR1 := bf hg ltR fR1
 replace cR2 := bc hg ltR cR2
 replace fR2 := bf hg ltR fR2
 replace ltR := bl hg ltR
 replace HI := Lib.hid (HI.out.below hg)
 replace HR := Lib.hid (HR.out.below hg)
 replace hB := hB.trans (hg.mono hB.size)
 replace hM := hE
 clear hE hg
 go_simp
 refine (ehalf_any _).mono ?_
 rintro e w2 ⟨v2, rfl, hv, hsz, hb⟩
 replace cA0 := bc hb ltA cA0
 replace cA1 := bc hb ltA cA1
 replace cA2 := bc hb ltA cA2
 replace ltA := bl hb ltA
 replace cR0 := bc hb ltR cR0
 replace fR0 := bf hb ltR fR0
 replace cR1 := bc hb ltR cR1
 replace fR1 := bf hb ltR fR1
 replace cR2 := bc hb ltR cR2
 replace fR2 := bf hb ltR fR2
 replace ltR := bl hb ltR
 replace HI := Lib.hid (HI.out.below hb)
 replace HR := Lib.hid (HR.out.below hb)
 replace hM := hM.trans (hb.mono hM.size)
 replace hB := hB.trans (hb.mono hB.size)
 have HV2 := Lib.hid (hv.raw hsz)
 clear hv hsz
 refine hK _ _ ⟨⟨w2, hM⟩, rfl⟩ hb ?_
 clear hK K hb
 refine wpFl_eff rfl rfl (fun wy hC hg K hK => ?_)
 obtain ⟨⟨wz, hE⟩, hwe⟩ := hC
 change wy = wz at hwe
 subst hwe
 replace cA0 := bc hg ltA cA0
 replace cA1 := bc hg ltA cA1
 replace cA2 := bc hg ltA cA2
 replace ltA := bl hg ltA
 replace cR0 := bc hg ltR cR0
 replace fR0 := bf hg ltR fR0
 replace cR1 := bc hg ltR cR1
 replace fR1 := bf hg ltR fR1
 replace cR2 := bc hg ltR cR2
 replace fR2 := bf hg ltR fR2
 replace ltR := bl hg ltR
 replace HI := Lib.hid (HI.out.below hg)
 replace HR := Lib.hid (HR.out.below hg)
 replace HV2 := Lib.hid (HV2.out.below hg)
 replace hB := hB.trans (hg.mono hB.size)
 replace hM := hE
 clear hE hg
 go_simp
 refine (qadd_any _ _ x (1/2) L 2 _ HR.out HV2.out hL (by omega) (by omega)).mono ?_
 rintro e w3 ⟨v3, rfl, hv, hsz, hb⟩
 replace cA0 := bc hb ltA cA0
 replace cA1 := bc hb ltA cA1
 replace cA2 := bc hb ltA cA2
 replace ltA := bl hb ltA
 replace cR0 := bc hb ltR cR0
 replace fR0 := bf hb ltR fR0
 replace cR1 := bc hb ltR cR1
 replace fR1 := bf hb ltR fR1
 replace cR2 := bc hb ltR cR2
 replace fR2 := bf hb ltR fR2
 replace ltR := bl hb ltR
 replace HI := Lib.hid (HI.out.below hb)
 replace HR := Lib.hid (HR.out.below hb)
 replace HV2 := Lib.hid (HV2.out.below hb)
 replace hM := hM.trans (hb.mono hM.size)
 replace hB := hB.trans (hb.mono hB.size)
 have HV3 := Lib.hid (hv.raw hsz)
 obtain ⟨p3', m3', q3', p3, m3, q3, rfl, -, -, -, -⟩ := hv
 clear hsz
 generalize decide ((x + 1/2 : Rat).num < 0) = d3 at *
 refine hK _ _ ⟨⟨w3, hM⟩, rfl⟩ hb ?_
 clear hK K hb
 clear HV2
 refine wpFl_nil fun gY wy hC hg hBk hge => ?_
 obtain ⟨⟨wz, hE⟩, hwe⟩ := hC
 change wy = wz at hwe
 subst hwe
 replace cA0 := bc hg ltA cA0
 replace cA1 := bc hg ltA cA1
 replace cA2 := bc hg ltA cA2
 replace ltA := bl hg ltA
 replace cR0 := bc hg ltR cR0
 replace fR0 := bf hg ltR fR0
 replace cR1 := bc hg ltR cR1
 replace fR1 := bf hg ltR fR1
 replace cR2 := bc hg ltR cR2
 replace fR2 := bf hg ltR fR2
 replace ltR := bl hg ltR
 replace HI := Lib.hid (HI.out.below hg)
 replace HR := Lib.hid (HR.out.below hg)
 replace HV3 := Lib.hid (HV3.out.below hg)
 replace hB := hB.trans (hg.mono hB.size)
 replace hM := hE
 clear hE hg
 have z0 := blk_cell hBk 0
 have y0 := blk_free hBk 0
 have z1 := blk_cell hBk 1
 have y1 := blk_free hBk 1
 have z2 := blk_cell hBk 2
 have y2 := blk_free hBk 2
 simp at z0 z1 z2
 have hgl := blk_lt hBk
 refine wpSched_eff rfl rfl (fun K hK => ?_)
 go_simp
 refine hK _ _ ⟨⟨_, (((hM.setCell (p := ⟨gY, 0, none⟩) hge _).setCell (p := ⟨gY, 1, none⟩) hge _).setCell (p := ⟨gY, 2, none⟩) hge _)⟩, rfl⟩ ?_
 clear hK K
 refine wpSched_nil ?_
 have hMn := (((hM.setCell (p := ⟨gY, 0, none⟩) hge (.bool d3)).setCell (p := ⟨gY, 1, none⟩) hge (.slice p3' m3' q3')).setCell (p := ⟨gY, 2, none⟩) hge (.slice p3 m3 q3))
 replace HV3 := Lib.hid (HV3.out.off hBk zRat_no (.bool d3) (.slice p3' m3' q3') (.slice p3 m3 q3))
 replace cA0 := bc hMn SLA.out SCA0.out
 replace cA1 := bc hMn SLA.out SCA1.out
 replace cA2 := bc hMn SLA.out SCA2.out
 replace ltA := bl hMn SLA.out
 replace cR0 := bc hMn SLR.out SCR0.out
 replace fR0 := bf hMn SLR.out SFR0.out
 replace cR1 := bc hMn SLR.out SCR1.out
 replace fR1 := bf hMn SLR.out SFR1.out
 replace cR2 := bc hMn SLR.out SCR2.out
 replace fR2 := bf hMn SLR.out SFR2.out
 replace ltR := bl hMn SLR.out
 replace HI := Lib.hid (SHI.out.below hMn)
 replace HR := Lib.hid (SHR.out.below hMn)
 replace hB := SB.out.trans (hMn.mono SB.out.size)
 have cY0 : (((wy.setCell ⟨gY, 0, none⟩ (.bool d3)).setCell ⟨gY, 1, none⟩ (.slice p3' m3' q3')).setCell ⟨gY, 2, none⟩ (.slice p3 m3 q3)).cell? ⟨gY, 0, none⟩ = some (.bool d3) := by go_simp
 have cY1 : (((wy.setCell ⟨gY, 0, none⟩ (.bool d3)).setCell ⟨gY, 1, none⟩ (.slice p3' m3' q3')).setCell ⟨gY, 2, none⟩ (.slice p3 m3 q3)).cell? ⟨gY, 1, none⟩ = some (.slice p3' m3' q3') := by go_simp
 have cY2 : (((wy.setCell ⟨gY, 0, none⟩ (.bool d3)).setCell ⟨gY, 1, none⟩ (.slice p3' m3' q3')).setCell ⟨gY, 2, none⟩ (.slice p3 m3 q3)).cell? ⟨gY, 2, none⟩ = some (.slice p3 m3 q3) := by go_simp
 have ltY : gY < (((wy.setCell ⟨gY, 0, none⟩ (.bool d3)).setCell ⟨gY, 1, none⟩ (.slice p3' m3' q3')).setCell ⟨gY, 2, none⟩ (.slice p3 m3 q3)).heap.size := by simpa using hgl
 have neYA : w.heap.size < gY := Nat.lt_of_lt_of_le SLA.out hge
 have neYR : w.heap.size + 1 < gY := Nat.lt_of_lt_of_le SLR.out hge
 clear SCA0 SCA1 SCA2 SLA SCR0 SFR0 SCR1 SFR1 SCR2 SFR2 SLR SHI SHR SB
 clear hMn hM hBk hgl z0 y0 z1 y1 z2 y2
 go_wp2_with fail
 generalize (((wy.setCell ⟨gY, 0, none⟩ (.bool d3)).setCell ⟨gY, 1, none⟩ (.slice p3' m3' q3')).setCell ⟨gY, 2, none⟩ (.slice p3 m3 q3)) = w4 at *
 refine (qsign_any _ (x + 1/2) (L + 3) _ HV3.out (by omega)).mono ?_
 rintro e w5 ⟨rfl, hb⟩
 replace cA0 := bc hb ltA cA0
 replace cA1 := bc hb ltA cA1
 replace cA2 := bc hb ltA cA2
 replace ltA := bl hb ltA
 replace cR0 := bc hb ltR cR0
 replace fR0 := bf hb ltR fR0
 replace cR1 := bc hb ltR cR1
 replace fR1 := bf hb ltR fR1
 replace cR2 := bc hb ltR cR2
 replace fR2 := bf hb ltR fR2
 replace ltR := bl hb ltR
 replace cY0 := bc hb ltY cY0
 replace cY1 := bc hb ltY cY1
 replace cY2 := bc hb ltY cY2
 replace ltY := bl hb ltY
 replace HI := Lib.hid (HI.out.below hb)
 replace HR := Lib.hid (HR.out.below hb)
 replace HV3 := Lib.hid (HV3.out.below hb)
 replace hB := hB.trans (hb.mono hB.size)
 have hsg := HS.out
 generalize rsgI (x + 1/2) = sg at *
 have dsg : decide (sg ≤ 0) = false := by simpa using hsg
 clear hsg HS
 clear hb
 go_wp2_with fail
 have eA0 := box_ext (B := w5.heap.size) cA0 ltA
 have eA1 := box_ext (B := w5.heap.size) cA1 ltA
 have eA2 := box_ext (B := w5.heap.size) cA2 ltA
 have eR0 := box_ext (B := w5.heap.size) cR0 ltR
 have eR1 := box_ext (B := w5.heap.size) cR1 ltR
 have eR2 := box_ext (B := w5.heap.size) cR2 ltR
 have eY0 := box_ext (B := w5.heap.size) cY0 ltY
 have eY1 := box_ext (B := w5.heap.size) cY1 ltY
 have eY2 := box_ext (B := w5.heap.size) cY2 ltY
 refine wp_region_sched [(0, false), (1, false), (2, false), (3, true), (4, true), (5, false)] (fun w' => ∃ W : Ext w5.heap.size w5, w' = W.1) (by kernel_rfl) (by kernel_rfl) ⟨⟨w5.drew, (Below.refl _ _).drew⟩, rfl⟩ ?_
 repeat (refine wpSched_calm rfl (fun K hK => ?_); go_simp; refine hK _ ?_; clear hK K)
 clear eA0 eA1 eA2 eR0 eR1 eR2 eY0 eY1 eY2
 have hbx : Below w5.heap.size w5 w5.drew := (Below.refl _ _).drew
 have hM := hbx
 replace cA0 := bc hbx ltA cA0
 replace cA1 := bc hbx ltA cA1
 replace cA2 := bc hbx ltA cA2
 replace ltA := bl hbx ltA
 replace cR0 := bc hbx ltR cR0
 replace fR0 := bf hbx ltR fR0
 replace cR1 := bc hbx ltR cR1
 replace fR1 := bf hbx ltR fR1
 replace cR2 := bc hbx ltR cR2
 replace fR2 := bf hbx ltR fR2
 replace ltR := bl hbx ltR
 replace cY0 := bc hbx ltY cY0
 replace cY1 := bc hbx ltY cY1
 replace cY2 := bc hbx ltY cY2
 replace ltY := bl hbx ltY
 replace HI := Lib.hid (HI.out.below hbx)
 replace HR := Lib.hid (HR.out.below hbx)
 replace HV3 := Lib.hid (HV3.out.below hbx)
 replace hB := hB.trans (hbx.mono hB.size)
 clear hbx
 generalize w5.drew = ww5d at *
 refine wpSched_eff rfl rfl (fun K hK => ?_)
 go_simp
 refine (ewhole_any _ _ (by omega) (by omega)).mono ?_
 rintro e w6 ⟨v6, rfl, hv, hsz, hb⟩
 replace cA0 := bc hb ltA cA0
 replace cA1 := bc hb ltA cA1
 replace cA2 := bc hb ltA cA2
 replace ltA := bl hb ltA
 replace cR0 := bc hb ltR cR0
 replace fR0 := bf hb ltR fR0
 replace cR1 := bc hb ltR cR1
 replace fR1 := bf hb ltR fR1
 replace cR2 := bc hb ltR cR2
 replace fR2 := bf hb ltR fR2
 replace ltR := bl hb ltR
 replace cY0 := bc hb ltY cY0
 replace cY1 := bc hb ltY cY1
 replace cY2 := bc hb ltY cY2
 replace ltY := bl hb ltY
 replace HI := Lib.hid (HI.out.below hb)
 replace HR := Lib.hid (HR.out.below hb)
 replace HV3 := Lib.hid (HV3.out.below hb)
 replace hM := hM.trans (hb.mono hM.size)
 replace hB := hB.trans (hb.mono hB.size)
 have HV6 := Lib.hid (hv.raw hsz)
 rw [Rat.intCast_natCast] at HV6
 clear hv hsz
 clear hb
 refine hK _ _ ⟨⟨w6, hM⟩, rfl⟩ ?_
 clear hK K
 refine wpSched_eff rfl rfl (fun K hK => ?_)
 go_simp
 refine (qcmp_any _ _ (x + 1/2) (len : Rat) (L + 3) 2 _ HV3.out HV6.out (by omega) (by omega) (by omega)).mono ?_
 rintro e w7 ⟨rfl, hb⟩
 replace cA0 := bc hb ltA cA0
 replace cA1 := bc hb ltA cA1
 replace cA2 := bc hb ltA cA2
 replace ltA := bl hb ltA
 replace cR0 := bc hb ltR cR0
 replace fR0 := bf hb ltR fR0
 replace cR1 := bc hb ltR cR1
 replace fR1 := bf hb ltR fR1
 replace cR2 := bc hb ltR cR2
 replace fR2 := bf hb ltR fR2
 replace ltR := bl hb ltR
 replace cY0 := bc hb ltY cY0
 replace cY1 := bc hb ltY cY1
 replace cY2 := bc hb ltY cY2
 replace ltY := bl hb ltY
 replace HI := Lib.hid (HI.out.below hb)
 replace HR := Lib.hid (HR.out.below hb)
 replace HV3 := Lib.hid (HV3.out.below hb)
 replace HV6 := Lib.hid (HV6.out.below hb)
 replace hM := hM.trans (hb.mono hM.size)
 replace hB := hB.trans (hb.mono hB.size)
 have hcm := HC.out
 generalize rcmpI (x + 1/2) (len : Rat) = cm at *
 have dcm : decide (0 ≤ cm) = true := by simpa using hcm
 clear HC
 clear hb
 refine hK _ _ ⟨⟨w7, hM⟩, rfl⟩ ?_
 clear hK K
 repeat (refine wpSched_calm rfl (fun K hK => ?_); go_simp; refine hK _ ?_; clear hK K)
 refine wpSched_nil ?_
 clear HV6
 go_wp2_with fail
 have hs1 := ltR
 refine (ewhole_any 1 _ (by omega) (by omega)).mono ?_
 rintro e w8 ⟨v8, rfl, hv, hsz, hb⟩
 replace cA0 := bc hb ltA cA0
 replace cA1 := bc hb ltA cA1
 replace cA2 := bc hb ltA cA2
 replace ltA := bl hb ltA
 replace cR0 := bc hb ltR cR0
 replace fR0 := bf hb ltR fR0
 replace cR1 := bc hb ltR cR1
 replace fR1 := bf hb ltR fR1
 replace cR2 := bc hb ltR cR2
 replace fR2 := bf hb ltR fR2
 replace ltR := bl hb ltR
 replace cY0 := bc hb ltY cY0
 replace cY1 := bc hb ltY cY1
 replace cY2 := bc hb ltY cY2
 replace ltY := bl hb ltY
 replace HI := Lib.hid (HI.out.below hb)
 replace HR := Lib.hid (HR.out.below hb)
 replace HV3 := Lib.hid (HV3.out.below hb)
 replace hB := hB.trans (hb.mono hB.size)
 rw [show ((1 : Int) : Rat) = 1 from rfl] at hv hsz
 have HZ8 := Lib.hid (hsz.mono (show 2 ≤ L + 13 by omega))
 clear hsz
 obtain ⟨p8', m8', q8', p8, m8, q8, rfl, h1, h2, h3, h4⟩ := hv
 have HFin := Lib.hid (rat_store (B := w7.heap.size) (B' := w.heap.size) (g := w.heap.size + 1) (r := 1) ⟨p8', m8', q8', p8, m8, q8, rfl, h1, h2, h3, h4⟩ hs1 (by omega))
 clear h1 h2 h3 h4
 generalize decide ((1 : Rat).num < 0) = d8 at *
 clear hb
 go_wp2_with fail
 exact bodyPost_ret (v := .tuple #[.agg #[.bool d8, .slice p8' m8' q8', .slice p8 m8 q8], .int .i64 0]) (by simp [results, Tryz.results6, go_sem, cR0, cR1, cR2]) rfl ⟨_, rfl, HFin.out, HZ8.out, ((hB.setCell (p := ⟨w.heap.size + 1, 0, none⟩) (by simp) _).setCell (p := ⟨w.heap.size + 1, 1, none⟩) (by simp) _).setCell (p := ⟨w.heap.size + 1, 2, none⟩) (by simp) _⟩
set_option maxHeartbeats 4000000 in
theorem erank_mid (f : List Int) (a : Option Addr) (len cap : Nat) (v : Value) (x : Rat) (L : Nat) (w : World) (hI : Ints w a len cap f) (hv : RatV w v x L) (hL : 1 ≤ L) (hm : (L + 40) * 4 ≤ 140737488355328) (hO : OkF f) (k : Nat) (hk : k < len) (hy : ¬ x + 1/2 ≤ 0) (hn : ¬ (len : Rat) ≤ x + 1/2) (hkf : (x + 1/2 : Rat).floor = (k : Int)) :
   Calls Tryz.prog 6 #[.slice a len cap, v] w fun e w' => ∃ v, e = .returned (.tuple #[v, .int .i64 0]) ∧ RatN w.heap.size w' v (((preS f k : Rat) + (f.getD k 0 : Rat) * (x + 1/2 - ((k : Int) : Rat))) / (f.sum : Rat)) ∧ Rsz (((preS f k : Rat) + (f.getD k 0 : Rat) * (x + 1/2 - ((k : Int) : Rat))) / (f.sum : Rat)) (L + 13) ∧ Below w.heap.size w w' := by
 have HI := Lib.hid hI
 have HN := Lib.hid hI.1
 have HR := Lib.hid hv
 obtain ⟨p, q, hr, hpq⟩ := hv
 obtain ⟨negx, ax', lenx', capx', xsx, ax, lenx, capx, ysx, rfl, -, -, -, -, -, -⟩ := hr
 clear hpq hI
 have HO := Lib.hid (eqE_OkF.2 hO)
 have HF := Lib.hid hO.2.1
 have h61 : len ≤ 61 := by rw [← HN.out]; exact hO.1
 have HS := Lib.hid (show ¬ rsgI (x + 1/2) ≤ 0 from fun h => hy (sgI_le.1 h))
 have HC := Lib.hid (show ¬ 0 ≤ rcmpI (x + 1/2) (len : Rat) from fun h => hn (cmpI_ge.1 h))
 have HK := Lib.hid hkf
 obtain ⟨b1, b2, b3, b4⟩ := preS_at hO.2.1 hO.1 k
 have b5 := hO.pos
 have b6 := hO.sum_le
 have HSn := Lib.hid (show (f.sum : Rat) ≠ 0 from fun h => by have := cast_lt b5; rw [h] at this; exact absurd this (by decide))
 have HPt := Lib.hid (show (f.take k).sum = preS f k from rfl)
 have HFt := Lib.hid (show ∀ n ∈ f.take k, 0 ≤ n ∧ n ≤ 1000000 from fun n hn => hO.2.1 n (List.mem_of_mem_take hn))
 have HF0 := Lib.hid hO.2.1
 generalize hfk : f.getD k 0 = fk at *
 have HFk := Lib.hid hfk
 generalize hpk : preS f k = pk at *
 have HPk := Lib.hid hpk
 generalize hsf : f.sum = sf at *
 have HSf := Lib.hid hsf
 clear hO hy hn hkf hfk hpk hsf
 go_enter Tryz.func6, Tryz.ntmps6
 go_wp2_with fail
 have hbx : Below w.heap.size w ((w.alloc (.cells #[.bool negx, .slice ax' lenx' capx', .slice ax lenx capx] 28)).alloc (.cells #[.bool false, .slice none 0 0, .slice none 0 0] 28)) := (((Below.refl _ _).alloc (Nat.le_refl _) _).alloc (by simp) _)
 generalize hWW : ((w.alloc (.cells #[.bool negx, .slice ax' lenx' capx', .slice ax lenx capx] 28)).alloc (.cells #[.bool false, .slice none 0 0, .slice none 0 0] 28)) = w0 at *
 replace HI := Lib.hid (HI.out.below hbx)
 replace HR := Lib.hid (HR.out.below hbx)
 have cA0 : w0.cell? ⟨w.heap.size, 0, none⟩ = some (.bool negx) := by subst hWW; go_simp
 have cA1 : w0.cell? ⟨w.heap.size, 1, none⟩ = some (.slice ax' lenx' capx') := by subst hWW; go_simp
 have cA2 : w0.cell? ⟨w.heap.size, 2, none⟩ = some (.slice ax lenx capx) := by subst hWW; go_simp
 have ltA : w.heap.size < w0.heap.size := by subst hWW; simp <;> omega
 have cR0 : w0.cell? ⟨w.heap.size + 1, 0, none⟩ = some (.bool false) := by subst hWW; go_simp
 have fR0 : w0.frozen? ⟨w.heap.size + 1, 0, none⟩ = false := by subst hWW; go_simp
 have cR1 : w0.cell? ⟨w.heap.size + 1, 1, none⟩ = some (.slice none 0 0) := by subst hWW; go_simp
 have fR1 : w0.frozen? ⟨w.heap.size + 1, 1, none⟩ = false := by subst hWW; go_simp
 have cR2 : w0.cell? ⟨w.heap.size + 1, 2, none⟩ = some (.slice none 0 0) := by subst hWW; go_simp
 have fR2 : w0.frozen? ⟨w.heap.size + 1, 2, none⟩ = false := by subst hWW; go_simp
 have ltR : w.heap.size + 1 < w0.heap.size := by subst hWW; simp
 have hB := hbx
 clear hbx hWW
 refine (evalid_b f a len cap _ HI.out).mono ?_
 rintro e w1 ⟨rfl, hb⟩
 replace cA0 := bc hb ltA cA0
 replace cA1 := bc hb ltA cA1
 replace cA2 := bc hb ltA cA2
 replace ltA := bl hb ltA
 replace cR0 := bc hb ltR cR0
 replace fR0 := bf hb ltR fR0
 replace cR1 := bc hb ltR cR1
 replace fR1 := bf hb ltR fR1
 replace cR2 := bc hb ltR cR2
 replace fR2 := bf hb ltR fR2
 replace ltR := bl hb ltR
 replace HI := Lib.hid (HI.out.below hb)
 replace HR := Lib.hid (HR.out.below hb)
 replace hB := hB.trans (hb.mono hB.size)
 rw [HO.out]
 clear hb
 go_wp2_with fail
 have SCA0 := Lib.hid cA0
 have SCA1 := Lib.hid cA1
 have SCA2 := Lib.hid cA2
 have SLA := Lib.hid ltA
 have SCR0 := Lib.hid cR0
 have SFR0 := Lib.hid fR0
 have SCR1 := Lib.hid cR1
 have SFR1 := Lib.hid fR1
 have SCR2 := Lib.hid cR2
 have SFR2 := Lib.hid fR2
 have SLR := Lib.hid ltR
 have SHI := Lib.hid HI.out
 have SHR := Lib.hid HR.out
 have SB := Lib.hid hB
 have eA0 := box_ext (B := w1.heap.size) cA0 ltA
 have eA1 := box_ext (B := w1.heap.size) cA1 ltA
 have eA2 := box_ext (B := w1.heap.size) cA2 ltA
 have eR0 := box_ext (B := w1.heap.size) cR0 ltR
 have eR1 := box_ext (B := w1.heap.size) cR1 ltR
 have eR2 := box_ext (B := w1.heap.size) cR2 ltR
 refine wp_region_float 3 [(0, false), (1, true), (2, true)] [(4, true)] (fun w' => ∃ W : Ext w1.heap.size w1, w' = W.1) _ 7 (.cells #[.bool false, .slice none 0 0, .slice none 0 0] 28) w1.heap.size (by kernel_rfl) rfl rfl rfl (fun a w => by simp [execOp, go_sem]) (fun w ⟨W, e⟩ => e ▸ W.2.size) (fun w ⟨W, e⟩ => ⟨⟨_, (e ▸ W.2).alloc (e ▸ W.2.size) _⟩, rfl⟩) (by kernel_rfl) ⟨⟨w1.drew, (Below.refl _ _).drew⟩, rfl⟩ ?_
 repeat (refine wpFl_calm rfl (fun K hK => ?_); go_simp; refine hK _ ?_; clear hK K)
 clear eA0 eA1 eA2 eR0 eR1 eR2
 have hbx : Below w1.heap.size w1 w1.drew := (Below.refl _ _).drew
 have hM := hbx
 replace cA0 := bc hbx ltA cA0
 replace cA1 := bc hbx ltA cA1
 replace cA2 := bc hbx ltA cA2
 replace ltA := bl hbx ltA
 replace cR0 := bc hbx ltR cR0
 replace fR0 := bf hbx ltR fR0
 replace cR1 := bc hbx ltR cR1
 replace fR1 := bf hbx ltR fR1
 replace cR2 := bc hbx ltR cR2
 replace fR2 := bf hbx ltR fR2
 replace ltR := bl hbx ltR
 replace HI := Lib.hid (HI.out.below hbx)
 replace HR := Lib.hid (HR.out.below hbx)
 replace hB := hB.trans (hbx.mono hB.size)
 clear hbx
 generalize w1.drew = ww1d at *
 refine wpFl_eff rfl rfl (fun wy hC hg K hK => ?_)
 obtain ⟨⟨wz, hE⟩, hwe⟩ := hC
 change wy = wz at hwe
 subst hwe
 replace cA0 := bc hg ltA cA0
 replace cA1 := bc hg ltA cA1
 replace cA2 := bc hg ltA cA2
 replace ltA := bl hg ltA
 replace cR0 := bc hg ltR cR0
 replace fR0 := bf hg ltR fR0
 replace cR1 := bc hg ltR cR1
 replace fR1 := bf hg ltR fR1
 replace cR2 := bc hg ltR cR2
 replace fR2 := bf hg ltR fR2
 replace ltR := bl hg ltR
 replace HI := Lib.hid (HI.out.below hg)
 replace HR := Lib.hid (HR.out.below hg)
 replace hB := hB.trans (hg.mono hB.size)
 replace hM := hE
 clear hE hg
 go_simp
 refine (ehalf_any _).mono ?_
 rintro e w2 ⟨v2, rfl, hv, hsz, hb⟩
 replace cA0 := bc hb ltA cA0
 replace cA1 := bc hb ltA cA1
 replace cA2 := bc hb ltA cA2
 replace ltA := bl hb ltA
 replace cR0 := bc hb ltR cR0
 replace fR0 := bf hb ltR fR0
 replace cR1 := bc hb ltR cR1
 replace fR1 := bf hb ltR fR1
 replace cR2 := bc hb ltR cR2
 replace fR2 := bf hb ltR fR2
 replace ltR := bl hb ltR
 replace HI := Lib.hid (HI.out.below hb)
 replace HR := Lib.hid (HR.out.below hb)
 replace hM := hM.trans (hb.mono hM.size)
 replace hB := hB.trans (hb.mono hB.size)
 have HV2 := Lib.hid (hv.raw hsz)
 clear hv hsz
 refine hK _ _ ⟨⟨w2, hM⟩, rfl⟩ hb ?_
 clear hK K hb
 refine wpFl_eff rfl rfl (fun wy hC hg K hK => ?_)
 obtain ⟨⟨wz, hE⟩, hwe⟩ := hC
 change wy = wz at hwe
 subst hwe
 replace cA0 := bc hg ltA cA0
 replace cA1 := bc hg ltA cA1
 replace cA2 := bc hg ltA cA2
 replace ltA := bl hg ltA
 replace cR0 := bc hg ltR cR0
 replace fR0 := bf hg ltR fR0
 replace cR1 := bc hg ltR cR1
 replace fR1 := bf hg ltR fR1
 replace cR2 := bc hg ltR cR2
 replace fR2 := bf hg ltR fR2
 replace ltR := bl hg ltR
 replace HI := Lib.hid (HI.out.below hg)
 replace HR := Lib.hid (HR.out.below hg)
 replace HV2 := Lib.hid (HV2.out.below hg)
 replace hB := hB.trans (hg.mono hB.size)
 replace hM := hE
 clear hE hg
 go_simp
 refine (qadd_any _ _ x (1/2) L 2 _ HR.out HV2.out hL (by omega) (by omega)).mono ?_
 rintro e w3 ⟨v3, rfl, hv, hsz, hb⟩
 replace cA0 := bc hb ltA cA0
 replace cA1 := bc hb ltA cA1
 replace cA2 := bc hb ltA cA2
 replace ltA := bl hb ltA
 replace cR0 := bc hb ltR cR0
 replace fR0 := bf hb ltR fR0
 replace cR1 := bc hb ltR cR1
 replace fR1 := bf hb ltR fR1
 replace cR2 := bc hb ltR cR2
 replace fR2 := bf hb ltR fR2
 replace ltR := bl hb ltR
 replace HI := Lib.hid (HI.out.below hb)
 replace HR := Lib.hid (HR.out.below hb)
 replace HV2 := Lib.hid (HV2.out.below hb)
 replace hM := hM.trans (hb.mono hM.size)
 replace hB := hB.trans (hb.mono hB.size)
 have HV3 := Lib.hid (hv.raw hsz)
 obtain ⟨p3', m3', q3', p3, m3, q3, rfl, -, -, -, -⟩ := hv
 clear hsz
 generalize decide ((x + 1/2 : Rat).num < 0) = d3 at *
 refine hK _ _ ⟨⟨w3, hM⟩, rfl⟩ hb ?_
 clear hK K hb
 clear HV2
 refine wpFl_nil fun gY wy hC hg hBk hge => ?_
 obtain ⟨⟨wz, hE⟩, hwe⟩ := hC
 change wy = wz at hwe
 subst hwe
 replace cA0 := bc hg ltA cA0
 replace cA1 := bc hg ltA cA1
 replace cA2 := bc hg ltA cA2
 replace ltA := bl hg ltA
 replace cR0 := bc hg ltR cR0
 replace fR0 := bf hg ltR fR0
 replace cR1 := bc hg ltR cR1
 replace fR1 := bf hg ltR fR1
 replace cR2 := bc hg ltR cR2
 replace fR2 := bf hg ltR fR2
 replace ltR := bl hg ltR
 replace HI := Lib.hid (HI.out.below hg)
 replace HR := Lib.hid (HR.out.below hg)
 replace HV3 := Lib.hid (HV3.out.below hg)
 replace hB := hB.trans (hg.mono hB.size)
 replace hM := hE
 clear hE hg
 have z0 := blk_cell hBk 0
 have y0 := blk_free hBk 0
 have z1 := blk_cell hBk 1
 have y1 := blk_free hBk 1
 have z2 := blk_cell hBk 2
 have y2 := blk_free hBk 2
 simp at z0 z1 z2
 have hgl := blk_lt hBk
 refine wpSched_eff rfl rfl (fun K hK => ?_)
 go_simp
 refine hK _ _ ⟨⟨_, (((hM.setCell (p := ⟨gY, 0, none⟩) hge _).setCell (p := ⟨gY, 1, none⟩) hge _).setCell (p := ⟨gY, 2, none⟩) hge _)⟩, rfl⟩ ?_
 clear hK K
 refine wpSched_nil ?_
 have hMn := (((hM.setCell (p := ⟨gY, 0, none⟩) hge (.bool d3)).setCell (p := ⟨gY, 1, none⟩) hge (.slice p3' m3' q3')).setCell (p := ⟨gY, 2, none⟩) hge (.slice p3 m3 q3))
 replace HV3 := Lib.hid (HV3.out.off hBk zRat_no (.bool d3) (.slice p3' m3' q3') (.slice p3 m3 q3))
 replace cA0 := bc hMn SLA.out SCA0.out
 replace cA1 := bc hMn SLA.out SCA1.out
 replace cA2 := bc hMn SLA.out SCA2.out
 replace ltA := bl hMn SLA.out
 replace cR0 := bc hMn SLR.out SCR0.out
 replace fR0 := bf hMn SLR.out SFR0.out
 replace cR1 := bc hMn SLR.out SCR1.out
 replace fR1 := bf hMn SLR.out SFR1.out
 replace cR2 := bc hMn SLR.out SCR2.out
 replace fR2 := bf hMn SLR.out SFR2.out
 replace ltR := bl hMn SLR.out
 replace HI := Lib.hid (SHI.out.below hMn)
 replace HR := Lib.hid (SHR.out.below hMn)
 replace hB := SB.out.trans (hMn.mono SB.out.size)
 have cY0 : (((wy.setCell ⟨gY, 0, none⟩ (.bool d3)).setCell ⟨gY, 1, none⟩ (.slice p3' m3' q3')).setCell ⟨gY, 2, none⟩ (.slice p3 m3 q3)).cell? ⟨gY, 0, none⟩ = some (.bool d3) := by go_simp
 have cY1 : (((wy.setCell ⟨gY, 0, none⟩ (.bool d3)).setCell ⟨gY, 1, none⟩ (.slice p3' m3' q3')).setCell ⟨gY, 2, none⟩ (.slice p3 m3 q3)).cell? ⟨gY, 1, none⟩ = some (.slice p3' m3' q3') := by go_simp
 have cY2 : (((wy.setCell ⟨gY, 0, none⟩ (.bool d3)).setCell ⟨gY, 1, none⟩ (.slice p3' m3' q3')).setCell ⟨gY, 2, none⟩ (.slice p3 m3 q3)).cell? ⟨gY, 2, none⟩ = some (.slice p3 m3 q3) := by go_simp
 have ltY : gY < (((wy.setCell ⟨gY, 0, none⟩ (.bool d3)).setCell ⟨gY, 1, none⟩ (.slice p3' m3' q3')).setCell ⟨gY, 2, none⟩ (.slice p3 m3 q3)).heap.size := by simpa using hgl
 have neYA : w.heap.size < gY := Nat.lt_of_lt_of_le SLA.out hge
 have neYR : w.heap.size + 1 < gY := Nat.lt_of_lt_of_le SLR.out hge
 clear SCA0 SCA1 SCA2 SLA SCR0 SFR0 SCR1 SFR1 SCR2 SFR2 SLR SHI SHR SB
 clear hMn hM hBk hgl z0 y0 z1 y1 z2 y2
 go_wp2_with fail
 generalize (((wy.setCell ⟨gY, 0, none⟩ (.bool d3)).setCell ⟨gY, 1, none⟩ (.slice p3' m3' q3')).setCell ⟨gY, 2, none⟩ (.slice p3 m3 q3)) = w4 at *
 refine (qsign_any _ (x + 1/2) (L + 3) _ HV3.out (by omega)).mono ?_
 rintro e w5 ⟨rfl, hb⟩
 replace cA0 := bc hb ltA cA0
 replace cA1 := bc hb ltA cA1
 replace cA2 := bc hb ltA cA2
 replace ltA := bl hb ltA
 replace cR0 := bc hb ltR cR0
 replace fR0 := bf hb ltR fR0
 replace cR1 := bc hb ltR cR1
 replace fR1 := bf hb ltR fR1
 replace cR2 := bc hb ltR cR2
 replace fR2 := bf hb ltR fR2
 replace ltR := bl hb ltR
 replace cY0 := bc hb ltY cY0
 replace cY1 := bc hb ltY cY1
 replace cY2 := bc hb ltY cY2
 replace ltY := bl hb ltY
 replace HI := Lib.hid (HI.out.below hb)
 replace HR := Lib.hid (HR.out.below hb)
 replace HV3 := Lib.hid (HV3.out.below hb)
 replace hB := hB.trans (hb.mono hB.size)
 have hsg := HS.out
 generalize rsgI (x + 1/2) = sg at *
 have dsg : decide (sg ≤ 0) = false := by simpa using hsg
 clear hsg HS
 clear hb
 go_wp2_with fail
 have eA0 := box_ext (B := w5.heap.size) cA0 ltA
 have eA1 := box_ext (B := w5.heap.size) cA1 ltA
 have eA2 := box_ext (B := w5.heap.size) cA2 ltA
 have eR0 := box_ext (B := w5.heap.size) cR0 ltR
 have eR1 := box_ext (B := w5.heap.size) cR1 ltR
 have eR2 := box_ext (B := w5.heap.size) cR2 ltR
 have eY0 := box_ext (B := w5.heap.size) cY0 ltY
 have eY1 := box_ext (B := w5.heap.size) cY1 ltY
 have eY2 := box_ext (B := w5.heap.size) cY2 ltY
 refine wp_region_sched [(0, false), (1, false), (2, false), (3, true), (4, true), (5, false)] (fun w' => ∃ W : Ext w5.heap.size w5, w' = W.1) (by kernel_rfl) (by kernel_rfl) ⟨⟨w5.drew, (Below.refl _ _).drew⟩, rfl⟩ ?_
 repeat (refine wpSched_calm rfl (fun K hK => ?_); go_simp; refine hK _ ?_; clear hK K)
 clear eA0 eA1 eA2 eR0 eR1 eR2 eY0 eY1 eY2
 have hbx : Below w5.heap.size w5 w5.drew := (Below.refl _ _).drew
 have hM := hbx
 replace cA0 := bc hbx ltA cA0
 replace cA1 := bc hbx ltA cA1
 replace cA2 := bc hbx ltA cA2
 replace ltA := bl hbx ltA
 replace cR0 := bc hbx ltR cR0
 replace fR0 := bf hbx ltR fR0
 replace cR1 := bc hbx ltR cR1
 replace fR1 := bf hbx ltR fR1
 replace cR2 := bc hbx ltR cR2
 replace fR2 := bf hbx ltR fR2
 replace ltR := bl hbx ltR
 replace cY0 := bc hbx ltY cY0
 replace cY1 := bc hbx ltY cY1
 replace cY2 := bc hbx ltY cY2
 replace ltY := bl hbx ltY
 replace HI := Lib.hid (HI.out.below hbx)
 replace HR := Lib.hid (HR.out.below hbx)
 replace HV3 := Lib.hid (HV3.out.below hbx)
 replace hB := hB.trans (hbx.mono hB.size)
 clear hbx
 generalize w5.drew = ww5d at *
 refine wpSched_eff rfl rfl (fun K hK => ?_)
 go_simp
 refine (ewhole_any _ _ (by omega) (by omega)).mono ?_
 rintro e w6 ⟨v6, rfl, hv, hsz, hb⟩
 replace cA0 := bc hb ltA cA0
 replace cA1 := bc hb ltA cA1
 replace cA2 := bc hb ltA cA2
 replace ltA := bl hb ltA
 replace cR0 := bc hb ltR cR0
 replace fR0 := bf hb ltR fR0
 replace cR1 := bc hb ltR cR1
 replace fR1 := bf hb ltR fR1
 replace cR2 := bc hb ltR cR2
 replace fR2 := bf hb ltR fR2
 replace ltR := bl hb ltR
 replace cY0 := bc hb ltY cY0
 replace cY1 := bc hb ltY cY1
 replace cY2 := bc hb ltY cY2
 replace ltY := bl hb ltY
 replace HI := Lib.hid (HI.out.below hb)
 replace HR := Lib.hid (HR.out.below hb)
 replace HV3 := Lib.hid (HV3.out.below hb)
 replace hM := hM.trans (hb.mono hM.size)
 replace hB := hB.trans (hb.mono hB.size)
 have HV6 := Lib.hid (hv.raw hsz)
 rw [Rat.intCast_natCast] at HV6
 clear hv hsz
 clear hb
 refine hK _ _ ⟨⟨w6, hM⟩, rfl⟩ ?_
 clear hK K
 refine wpSched_eff rfl rfl (fun K hK => ?_)
 go_simp
 refine (qcmp_any _ _ (x + 1/2) (len : Rat) (L + 3) 2 _ HV3.out HV6.out (by omega) (by omega) (by omega)).mono ?_
 rintro e w7 ⟨rfl, hb⟩
 replace cA0 := bc hb ltA cA0
 replace cA1 := bc hb ltA cA1
 replace cA2 := bc hb ltA cA2
 replace ltA := bl hb ltA
 replace cR0 := bc hb ltR cR0
 replace fR0 := bf hb ltR fR0
 replace cR1 := bc hb ltR cR1
 replace fR1 := bf hb ltR fR1
 replace cR2 := bc hb ltR cR2
 replace fR2 := bf hb ltR fR2
 replace ltR := bl hb ltR
 replace cY0 := bc hb ltY cY0
 replace cY1 := bc hb ltY cY1
 replace cY2 := bc hb ltY cY2
 replace ltY := bl hb ltY
 replace HI := Lib.hid (HI.out.below hb)
 replace HR := Lib.hid (HR.out.below hb)
 replace HV3 := Lib.hid (HV3.out.below hb)
 replace HV6 := Lib.hid (HV6.out.below hb)
 replace hM := hM.trans (hb.mono hM.size)
 replace hB := hB.trans (hb.mono hB.size)
 have hcm := HC.out
 generalize rcmpI (x + 1/2) (len : Rat) = cm at *
 have dcm : decide (0 ≤ cm) = false := by simpa using hcm
 clear HC hcm
 clear hb
 refine hK _ _ ⟨⟨w7, hM⟩, rfl⟩ ?_
 clear hK K
 repeat (refine wpSched_calm rfl (fun K hK => ?_); go_simp; refine hK _ ?_; clear hK K)
 refine wpSched_nil ?_
 clear HV6
 go_wp2_with fail
 refine (qfloor_any _ (x + 1/2) (L + 3) _ HV3.out (by omega) (by omega)).mono ?_
 rintro e w8 ⟨v8, rfl, hv, hsz, hb⟩
 replace cA0 := bc hb ltA cA0
 replace cA1 := bc hb ltA cA1
 replace cA2 := bc hb ltA cA2
 replace ltA := bl hb ltA
 replace cR0 := bc hb ltR cR0
 replace fR0 := bf hb ltR fR0
 replace cR1 := bc hb ltR cR1
 replace fR1 := bf hb ltR fR1
 replace cR2 := bc hb ltR cR2
 replace fR2 := bf hb ltR fR2
 replace ltR := bl hb ltR
 replace cY0 := bc hb ltY cY0
 replace cY1 := bc hb ltY cY1
 replace cY2 := bc hb ltY cY2
 replace ltY := bl hb ltY
 replace HI := Lib.hid (HI.out.below hb)
 replace HR := Lib.hid (HR.out.below hb)
 replace HV3 := Lib.hid (HV3.out.below hb)
 replace hB := hB.trans (hb.mono hB.size)
 rw [HK.out] at hv hsz
 have HV8 := Lib.hid (hv.raw (L + 3) hsz)
 clear hv hsz
 clear hb
 go_wp2_with fail
 refine (iint64_small _ (k : Int) (L + 3) _ HV8.out (by omega) (by omega)).mono ?_
 rintro e w9 ⟨rfl, hb⟩
 replace cA0 := bc hb ltA cA0
 replace cA1 := bc hb ltA cA1
 replace cA2 := bc hb ltA cA2
 replace ltA := bl hb ltA
 replace cR0 := bc hb ltR cR0
 replace fR0 := bf hb ltR fR0
 replace cR1 := bc hb ltR cR1
 replace fR1 := bf hb ltR fR1
 replace cR2 := bc hb ltR cR2
 replace fR2 := bf hb ltR fR2
 replace ltR := bl hb ltR
 replace cY0 := bc hb ltY cY0
 replace cY1 := bc hb ltY cY1
 replace cY2 := bc hb ltY cY2
 replace ltY := bl hb ltY
 replace HI := Lib.hid (HI.out.below hb)
 replace HR := Lib.hid (HR.out.below hb)
 replace HV3 := Lib.hid (HV3.out.below hb)
 replace HV8 := Lib.hid (HV8.out.below hb)
 replace hB := hB.trans (hb.mono hB.size)
 clear hb
 clear HV8
 go_wp2_with fail
 obtain ⟨bb, off, rfl, hbs, hcc⟩ := HI.out.2.at hk
 have ec := hcc k hk _ (Below.refl _ _)
 rw [HFk.out] at ec
 have ef := box_ext (B := w9.heap.size) ec hbs
 clear hcc ec hbs
 have SCA0 := Lib.hid cA0
 have SCA1 := Lib.hid cA1
 have SCA2 := Lib.hid cA2
 have SLA := Lib.hid ltA
 have SCR0 := Lib.hid cR0
 have SFR0 := Lib.hid fR0
 have SCR1 := Lib.hid cR1
 have SFR1 := Lib.hid fR1
 have SCR2 := Lib.hid cR2
 have SFR2 := Lib.hid fR2
 have SLR := Lib.hid ltR
 have SCY0 := Lib.hid cY0
 have SCY1 := Lib.hid cY1
 have SCY2 := Lib.hid cY2
 have SLY := Lib.hid ltY
 have SHI := Lib.hid HI.out
 have SHR := Lib.hid HR.out
 have SHV3 := Lib.hid HV3.out
 have SB := Lib.hid hB
 have eA0 := box_ext (B := w9.heap.size) cA0 ltA
 have eA1 := box_ext (B := w9.heap.size) cA1 ltA
 have eA2 := box_ext (B := w9.heap.size) cA2 ltA
 have eR0 := box_ext (B := w9.heap.size) cR0 ltR
 have eR1 := box_ext (B := w9.heap.size) cR1 ltR
 have eR2 := box_ext (B := w9.heap.size) cR2 ltR
 have eY0 := box_ext (B := w9.heap.size) cY0 ltY
 have eY1 := box_ext (B := w9.heap.size) cY1 ltY
 have eY2 := box_ext (B := w9.heap.size) cY2 ltY
 refine wp_region_float 10 [(0, false), (1, false), (2, false), (3, false), (5, false), (6, false), (4, true), (7, true), (8, true), (9, true)] [(11, true)] (fun w' => ∃ W : Ext w9.heap.size w9, w' = W.1) _ 11 (.cells #[.bool false, .slice none 0 0, .slice none 0 0] 28) w9.heap.size (by kernel_rfl) rfl rfl rfl (fun a w => by simp [execOp, go_sem]) (fun w ⟨W, e⟩ => e ▸ W.2.size) (fun w ⟨W, e⟩ => ⟨⟨_, (e ▸ W.2).alloc (e ▸ W.2.size) _⟩, rfl⟩) (by kernel_rfl) ⟨⟨w9.drew, (Below.refl _ _).drew⟩, rfl⟩ ?_
 repeat (refine wpFl_calm rfl (fun K hK => ?_); go_simp; refine hK _ ?_; clear hK K)
 clear eA0 eA1 eA2 eR0 eR1 eR2 eY0 eY1 eY2
 have hbx : Below w9.heap.size w9 w9.drew := (Below.refl _ _).drew
 have hM := hbx
 replace cA0 := bc hbx ltA cA0
 replace cA1 := bc hbx ltA cA1
 replace cA2 := bc hbx ltA cA2
 replace ltA := bl hbx ltA
 replace cR0 := bc hbx ltR cR0
 replace fR0 := bf hbx ltR fR0
 replace cR1 := bc hbx ltR cR1
 replace fR1 := bf hbx ltR fR1
 replace cR2 := bc hbx ltR cR2
 replace fR2 := bf hbx ltR fR2
 replace ltR := bl hbx ltR
 replace cY0 := bc hbx ltY cY0
 replace cY1 := bc hbx ltY cY1
 replace cY2 := bc hbx ltY cY2
 replace ltY := bl hbx ltY
 replace HI := Lib.hid (HI.out.below hbx)
 replace HR := Lib.hid (HR.out.below hbx)
 replace HV3 := Lib.hid (HV3.out.below hbx)
 replace hB := hB.trans (hbx.mono hB.size)
 clear hbx
 generalize w9.drew = ww9d at *
 clear ef
 refine wpFl_eff rfl rfl (fun wy hC hg K hK => ?_)
 obtain ⟨⟨wz, hE⟩, hwe⟩ := hC
 change wy = wz at hwe
 subst hwe
 replace cA0 := bc hg ltA cA0
 replace cA1 := bc hg ltA cA1
 replace cA2 := bc hg ltA cA2
 replace ltA := bl hg ltA
 replace cR0 := bc hg ltR cR0
 replace fR0 := bf hg ltR fR0
 replace cR1 := bc hg ltR cR1
 replace fR1 := bf hg ltR fR1
 replace cR2 := bc hg ltR cR2
 replace fR2 := bf hg ltR fR2
 replace ltR := bl hg ltR
 replace cY0 := bc hg ltY cY0
 replace cY1 := bc hg ltY cY1
 replace cY2 := bc hg ltY cY2
 replace ltY := bl hg ltY
 replace HI := Lib.hid (HI.out.below hg)
 replace HR := Lib.hid (HR.out.below hg)
 replace HV3 := Lib.hid (HV3.out.below hg)
 replace hB := hB.trans (hg.mono hB.size)
 replace hM := hE
 clear hE hg
 go_simp
 refine (ewhole_any fk _ (by omega) (by omega)).mono ?_
 rintro e wa ⟨va, rfl, hv, hsz, hb⟩
 replace cA0 := bc hb ltA cA0
 replace cA1 := bc hb ltA cA1
 replace cA2 := bc hb ltA cA2
 replace ltA := bl hb ltA
 replace cR0 := bc hb ltR cR0
 replace fR0 := bf hb ltR fR0
 replace cR1 := bc hb ltR cR1
 replace fR1 := bf hb ltR fR1
 replace cR2 := bc hb ltR cR2
 replace fR2 := bf hb ltR fR2
 replace ltR := bl hb ltR
 replace cY0 := bc hb ltY cY0
 replace cY1 := bc hb ltY cY1
 replace cY2 := bc hb ltY cY2
 replace ltY := bl hb ltY
 replace HI := Lib.hid (HI.out.below hb)
 replace HR := Lib.hid (HR.out.below hb)
 replace HV3 := Lib.hid (HV3.out.below hb)
 replace hM := hM.trans (hb.mono hM.size)
 replace hB := hB.trans (hb.mono hB.size)
 have HVa := Lib.hid (hv.raw hsz)
 clear hv hsz
 refine hK _ _ ⟨⟨wa, hM⟩, rfl⟩ hb ?_
 clear hK K hb
 refine wpFl_eff rfl rfl (fun wy hC hg K hK => ?_)
 obtain ⟨⟨wz, hE⟩, hwe⟩ := hC
 change wy = wz at hwe
 subst hwe
 replace cA0 := bc hg ltA cA0
 replace cA1 := bc hg ltA cA1
 replace cA2 := bc hg ltA cA2
 replace ltA := bl hg ltA
 replace cR0 := bc hg ltR cR0
 replace fR0 := bf hg ltR fR0
 replace cR1 := bc hg ltR cR1
 replace fR1 := bf hg ltR fR1
 replace cR2 := bc hg ltR cR2
 replace fR2 := bf hg ltR fR2
 replace ltR := bl hg ltR
 replace cY0 := bc hg ltY cY0
 replace cY1 := bc hg ltY cY1
 replace cY2 := bc hg ltY cY2
 replace ltY := bl hg ltY
 replace HI := Lib.hid (HI.out.below hg)
 replace HR := Lib.hid (HR.out.below hg)
 replace HV3 := Lib.hid (HV3.out.below hg)
 replace HVa := Lib.hid (HVa.out.below hg)
 replace hB := hB.trans (hg.mono hB.size)
 replace hM := hE
 clear hE hg
 go_simp
 refine (ewhole_any (k : Int) _ (by omega) (by omega)).mono ?_
 rintro e wb ⟨vb, rfl, hv, hsz, hb⟩
 replace cA0 := bc hb ltA cA0
 replace cA1 := bc hb ltA cA1
 replace cA2 := bc hb ltA cA2
 replace ltA := bl hb ltA
 replace cR0 := bc hb ltR cR0
 replace fR0 := bf hb ltR fR0
 replace cR1 := bc hb ltR cR1
 replace fR1 := bf hb ltR fR1
 replace cR2 := bc hb ltR cR2
 replace fR2 := bf hb ltR fR2
 replace ltR := bl hb ltR
 replace cY0 := bc hb ltY cY0
 replace cY1 := bc hb ltY cY1
 replace cY2 := bc hb ltY cY2
 replace ltY := bl hb ltY
 replace HI := Lib.hid (HI.out.below hb)
 replace HR := Lib.hid (HR.out.below hb)
 replace HV3 := Lib.hid (HV3.out.below hb)
 replace HVa := Lib.hid (HVa.out.below hb)
 replace hM := hM.trans (hb.mono hM.size)
 replace hB := hB.trans (hb.mono hB.size)
 have HVb := Lib.hid (hv.raw hsz)
 clear hv hsz
 refine hK _ _ ⟨⟨wb, hM⟩, rfl⟩ hb ?_
 clear hK K hb
 refine wpFl_eff rfl rfl (fun wy hC hg K hK => ?_)
 obtain ⟨⟨wz, hE⟩, hwe⟩ := hC
 change wy = wz at hwe
 subst hwe
 replace cA0 := bc hg ltA cA0
 replace cA1 := bc hg ltA cA1
 replace cA2 := bc hg ltA cA2
 replace ltA := bl hg ltA
 replace cR0 := bc hg ltR cR0
 replace fR0 := bf hg ltR fR0
 replace cR1 := bc hg ltR cR1
 replace fR1 := bf hg ltR fR1
 replace cR2 := bc hg ltR cR2
 replace fR2 := bf hg ltR fR2
 replace ltR := bl hg ltR
 replace cY0 := bc hg ltY cY0
 replace cY1 := bc hg ltY cY1
 replace cY2 := bc hg ltY cY2
 replace ltY := bl hg ltY
 replace HI := Lib.hid (HI.out.below hg)
 replace HR := Lib.hid (HR.out.below hg)
 replace HV3 := Lib.hid (HV3.out.below hg)
 replace HVa := Lib.hid (HVa.out.below hg)
 replace HVb := Lib.hid (HVb.out.below hg)
 replace hB := hB.trans (hg.mono hB.size)
 replace hM := hE
 clear hE hg
 go_simp
 refine (qsub_any _ _ (x + 1/2) ((k : Int) : Rat) (L + 3) 2 _ HV3.out HVb.out (by omega) (by omega) (by omega)).mono ?_
 rintro e wc ⟨vc, rfl, hv, hsz, hb⟩
 replace cA0 := bc hb ltA cA0
 replace cA1 := bc hb ltA cA1
 replace cA2 := bc hb ltA cA2
 replace ltA := bl hb ltA
 replace cR0 := bc hb ltR cR0
 replace fR0 := bf hb ltR fR0
 replace cR1 := bc hb ltR cR1
 replace fR1 := bf hb ltR fR1
 replace cR2 := bc hb ltR cR2
 replace fR2 := bf hb ltR fR2
 replace ltR := bl hb ltR
 replace cY0 := bc hb ltY cY0
 replace cY1 := bc hb ltY cY1
 replace cY2 := bc hb ltY cY2
 replace ltY := bl hb ltY
 replace HI := Lib.hid (HI.out.below hb)
 replace HR := Lib.hid (HR.out.below hb)
 replace HV3 := Lib.hid (HV3.out.below hb)
 replace HVa := Lib.hid (HVa.out.below hb)
 replace HVb := Lib.hid (HVb.out.below hb)
 replace hM := hM.trans (hb.mono hM.size)
 replace hB := hB.trans (hb.mono hB.size)
 have HVc := Lib.hid (hv.raw hsz)
 clear hv hsz
 refine hK _ _ ⟨⟨wc, hM⟩, rfl⟩ hb ?_
 clear hK K hb
 refine wpFl_eff rfl rfl (fun wy hC hg K hK => ?_)
 obtain ⟨⟨wz, hE⟩, hwe⟩ := hC
 change wy = wz at hwe
 subst hwe
 replace cA0 := bc hg ltA cA0
 replace cA1 := bc hg ltA cA1
 replace cA2 := bc hg ltA cA2
 replace ltA := bl hg ltA
 replace cR0 := bc hg ltR cR0
 replace fR0 := bf hg ltR fR0
 replace cR1 := bc hg ltR cR1
 replace fR1 := bf hg ltR fR1
 replace cR2 := bc hg ltR cR2
 replace fR2 := bf hg ltR fR2
 replace ltR := bl hg ltR
 replace cY0 := bc hg ltY cY0
 replace cY1 := bc hg ltY cY1
 replace cY2 := bc hg ltY cY2
 replace ltY := bl hg ltY
 replace HI := Lib.hid (HI.out.below hg)
 replace HR := Lib.hid (HR.out.below hg)
 replace HV3 := Lib.hid (HV3.out.below hg)
 replace HVa := Lib.hid (HVa.out.below hg)
 replace HVb := Lib.hid (HVb.out.below hg)
 replace HVc := Lib.hid (HVc.out.below hg)
 replace hB := hB.trans (hg.mono hB.size)
 replace hM := hE
 clear hE hg
 go_simp
 refine (qmul_any _ _ (fk : Rat) (x + 1/2 - ((k : Int) : Rat)) 2 (L + 3 + 2 + 1) _ HVa.out HVc.out (by omega) (by omega) (by omega)).mono ?_
 rintro e we ⟨ve, rfl, hv, hsz, hb⟩
 replace cA0 := bc hb ltA cA0
 replace cA1 := bc hb ltA cA1
 replace cA2 := bc hb ltA cA2
 replace ltA := bl hb ltA
 replace cR0 := bc hb ltR cR0
 replace fR0 := bf hb ltR fR0
 replace cR1 := bc hb ltR cR1
 replace fR1 := bf hb ltR fR1
 replace cR2 := bc hb ltR cR2
 replace fR2 := bf hb ltR fR2
 replace ltR := bl hb ltR
 replace cY0 := bc hb ltY cY0
 replace cY1 := bc hb ltY cY1
 replace cY2 := bc hb ltY cY2
 replace ltY := bl hb ltY
 replace HI := Lib.hid (HI.out.below hb)
 replace HR := Lib.hid (HR.out.below hb)
 replace HV3 := Lib.hid (HV3.out.below hb)
 replace HVa := Lib.hid (HVa.out.below hb)
 replace HVb := Lib.hid (HVb.out.below hb)
 replace HVc := Lib.hid (HVc.out.below hb)
 replace hM := hM.trans (hb.mono hM.size)
 replace hB := hB.trans (hb.mono hB.size)
 have HVe := Lib.hid (hv.raw hsz)
 obtain ⟨pe', me', qe', pe, me, qe, rfl, -, -, -, -⟩ := hv
 clear hsz
 generalize decide (((fk : Rat) * (x + 1/2 - ((k : Int) : Rat)) : Rat).num < 0) = de at *
 refine hK _ _ ⟨⟨we, hM⟩, rfl⟩ hb ?_
 clear hK K hb
 clear HVa HVb HVc HV3
 refine wpFl_nil fun gQ wy hC hg hBk hge => ?_
 obtain ⟨⟨wz, hE⟩, hwe⟩ := hC
 change wy = wz at hwe
 subst hwe
 replace cA0 := bc hg ltA cA0
 replace cA1 := bc hg ltA cA1
 replace cA2 := bc hg ltA cA2
 replace ltA := bl hg ltA
 replace cR0 := bc hg ltR cR0
 replace fR0 := bf hg ltR fR0
 replace cR1 := bc hg ltR cR1
 replace fR1 := bf hg ltR fR1
 replace cR2 := bc hg ltR cR2
 replace fR2 := bf hg ltR fR2
 replace ltR := bl hg ltR
 replace cY0 := bc hg ltY cY0
 replace cY1 := bc hg ltY cY1
 replace cY2 := bc hg ltY cY2
 replace ltY := bl hg ltY
 replace HI := Lib.hid (HI.out.below hg)
 replace HR := Lib.hid (HR.out.below hg)
 replace HVe := Lib.hid (HVe.out.below hg)
 replace hB := hB.trans (hg.mono hB.size)
 replace hM := hE
 clear hE hg
 have z0 := blk_cell hBk 0
 have y0 := blk_free hBk 0
 have z1 := blk_cell hBk 1
 have y1 := blk_free hBk 1
 have z2 := blk_cell hBk 2
 have y2 := blk_free hBk 2
 simp at z0 z1 z2
 have hgl := blk_lt hBk
 refine wpSched_eff rfl rfl (fun K hK => ?_)
 go_simp
 refine hK _ _ ⟨⟨_, (((hM.setCell (p := ⟨gQ, 0, none⟩) hge _).setCell (p := ⟨gQ, 1, none⟩) hge _).setCell (p := ⟨gQ, 2, none⟩) hge _)⟩, rfl⟩ ?_
 clear hK K
 refine wpSched_nil ?_
 have hMn := (((hM.setCell (p := ⟨gQ, 0, none⟩) hge (.bool de)).setCell (p := ⟨gQ, 1, none⟩) hge (.slice pe' me' qe')).setCell (p := ⟨gQ, 2, none⟩) hge (.slice pe me qe))
 replace HVe := Lib.hid (HVe.out.off hBk zRat_no (.bool de) (.slice pe' me' qe') (.slice pe me qe))
 replace cA0 := bc hMn SLA.out SCA0.out
 replace cA1 := bc hMn SLA.out SCA1.out
 replace cA2 := bc hMn SLA.out SCA2.out
 replace ltA := bl hMn SLA.out
 replace cR0 := bc hMn SLR.out SCR0.out
 replace fR0 := bf hMn SLR.out SFR0.out
 replace cR1 := bc hMn SLR.out SCR1.out
 replace fR1 := bf hMn SLR.out SFR1.out
 replace cR2 := bc hMn SLR.out SCR2.out
 replace fR2 := bf hMn SLR.out SFR2.out
 replace ltR := bl hMn SLR.out
 replace cY0 := bc hMn SLY.out SCY0.out
 replace cY1 := bc hMn SLY.out SCY1.out
 replace cY2 := bc hMn SLY.out SCY2.out
 replace ltY := bl hMn SLY.out
 replace HI := Lib.hid (SHI.out.below hMn)
 replace HR := Lib.hid (SHR.out.below hMn)
 replace HV3 := Lib.hid (SHV3.out.below hMn)
 replace hB := SB.out.trans (hMn.mono SB.out.size)
 have cQ0 : (((wy.setCell ⟨gQ, 0, none⟩ (.bool de)).setCell ⟨gQ, 1, none⟩ (.slice pe' me' qe')).setCell ⟨gQ, 2, none⟩ (.slice pe me qe)).cell? ⟨gQ, 0, none⟩ = some (.bool de) := by go_simp
 have cQ1 : (((wy.setCell ⟨gQ, 0, none⟩ (.bool de)).setCell ⟨gQ, 1, none⟩ (.slice pe' me' qe')).setCell ⟨gQ, 2, none⟩ (.slice pe me qe)).cell? ⟨gQ, 1, none⟩ = some (.slice pe' me' qe') := by go_simp
 have cQ2 : (((wy.setCell ⟨gQ, 0, none⟩ (.bool de)).setCell ⟨gQ, 1, none⟩ (.slice pe' me' qe')).setCell ⟨gQ, 2, none⟩ (.slice pe me qe)).cell? ⟨gQ, 2, none⟩ = some (.slice pe me qe) := by go_simp
 have ltQ : gQ < (((wy.setCell ⟨gQ, 0, none⟩ (.bool de)).setCell ⟨gQ, 1, none⟩ (.slice pe' me' qe')).setCell ⟨gQ, 2, none⟩ (.slice pe me qe)).heap.size := by simpa using hgl
 have neQA : w.heap.size < gQ := Nat.lt_of_lt_of_le SLA.out hge
 have neQR : w.heap.size + 1 < gQ := Nat.lt_of_lt_of_le SLR.out hge
 have neQY : gY < gQ := Nat.lt_of_lt_of_le SLY.out hge
 clear SCA0 SCA1 SCA2 SLA SCR0 SFR0 SCR1 SFR1 SCR2 SFR2 SLR SCY0 SCY1 SCY2 SLY SHI SHR SHV3 SB
 clear hMn hM hBk hgl z0 y0 z1 y1 z2 y2
 go_wp2_with fail
 generalize (((wy.setCell ⟨gQ, 0, none⟩ (.bool de)).setCell ⟨gQ, 1, none⟩ (.slice pe' me' qe')).setCell ⟨gQ, 2, none⟩ (.slice pe me qe)) = wf at *
 have hkc : k ≤ cap := by have := HI.out.2.1; omega
 have SCA0 := Lib.hid cA0
 have SCA1 := Lib.hid cA1
 have SCA2 := Lib.hid cA2
 have SLA := Lib.hid ltA
 have SCR0 := Lib.hid cR0
 have SFR0 := Lib.hid fR0
 have SCR1 := Lib.hid cR1
 have SFR1 := Lib.hid fR1
 have SCR2 := Lib.hid cR2
 have SFR2 := Lib.hid fR2
 have SLR := Lib.hid ltR
 have SCY0 := Lib.hid cY0
 have SCY1 := Lib.hid cY1
 have SCY2 := Lib.hid cY2
 have SLY := Lib.hid ltY
 have SCQ0 := Lib.hid cQ0
 have SCQ1 := Lib.hid cQ1
 have SCQ2 := Lib.hid cQ2
 have SLQ := Lib.hid ltQ
 have SHI := Lib.hid HI.out
 have SHR := Lib.hid HR.out
 have SHVe := Lib.hid HVe.out
 have SB := Lib.hid hB
 have eA0 := box_ext (B := wf.heap.size) cA0 ltA
 have eA1 := box_ext (B := wf.heap.size) cA1 ltA
 have eA2 := box_ext (B := wf.heap.size) cA2 ltA
 have eR0 := box_ext (B := wf.heap.size) cR0 ltR
 have eR1 := box_ext (B := wf.heap.size) cR1 ltR
 have eR2 := box_ext (B := wf.heap.size) cR2 ltR
 have eY0 := box_ext (B := wf.heap.size) cY0 ltY
 have eY1 := box_ext (B := wf.heap.size) cY1 ltY
 have eY2 := box_ext (B := wf.heap.size) cY2 ltY
 have eQ0 := box_ext (B := wf.heap.size) cQ0 ltQ
 have eQ1 := box_ext (B := wf.heap.size) cQ1 ltQ
 have eQ2 := box_ext (B := wf.heap.size) cQ2 ltQ
 refine wp_region_float 14 [(0, false), (1, false), (2, false), (5, false), (7, false), (3, true), (4, true), (6, true), (8, true), (9, true), (10, true), (11, false), (12, false), (13, false)] [(15, true), (16, false)] (fun w' => ∃ W : Ext wf.heap.size wf, w' = W.1) _ 12 (.cells #[.bool false, .slice none 0 0, .slice none 0 0] 28) wf.heap.size (by kernel_rfl) rfl rfl rfl (fun a w => by simp [execOp, go_sem]) (fun w ⟨W, e⟩ => e ▸ W.2.size) (fun w ⟨W, e⟩ => ⟨⟨_, (e ▸ W.2).alloc (e ▸ W.2.size) _⟩, rfl⟩) (by kernel_rfl) ⟨⟨wf.drew, (Below.refl _ _).drew⟩, rfl⟩ ?_
 repeat (refine wpFl_calm rfl (fun K hK => ?_); go_simp; refine hK _ ?_; clear hK K)
 clear eA0 eA1 eA2 eR0 eR1 eR2 eY0 eY1 eY2 eQ0 eQ1 eQ2
 have hbx : Below wf.heap.size wf wf.drew := (Below.refl _ _).drew
 have hM := hbx
 replace cA0 := bc hbx ltA cA0
 replace cA1 := bc hbx ltA cA1
 replace cA2 := bc hbx ltA cA2
 replace ltA := bl hbx ltA
 replace cR0 := bc hbx ltR cR0
 replace fR0 := bf hbx ltR fR0
 replace cR1 := bc hbx ltR cR1
 replace fR1 := bf hbx ltR fR1
 replace cR2 := bc hbx ltR cR2
 replace fR2 := bf hbx ltR fR2
 replace ltR := bl hbx ltR
 replace cY0 := bc hbx ltY cY0
 replace cY1 := bc hbx ltY cY1
 replace cY2 := bc hbx ltY cY2
 replace ltY := bl hbx ltY
 replace cQ0 := bc hbx ltQ cQ0
 replace cQ1 := bc hbx ltQ cQ1
 replace cQ2 := bc hbx ltQ cQ2
 replace ltQ := bl hbx ltQ
 replace HI := Lib.hid (HI.out.below hbx)
 replace HR := Lib.hid (HR.out.below hbx)
 replace HVe := Lib.hid (HVe.out.below hbx)
 replace hB := hB.trans (hbx.mono hB.size)
 clear hbx
 generalize wf.drew = wwfd at *
 refine wpFl_eff rfl rfl (fun wy hC hg K hK => ?_)
 obtain ⟨⟨wz, hE⟩, hwe⟩ := hC
 change wy = wz at hwe
 subst hwe
 replace cA0 := bc hg ltA cA0
 replace cA1 := bc hg ltA cA1
 replace cA2 := bc hg ltA cA2
 replace ltA := bl hg ltA
 replace cR0 := bc hg ltR cR0
 replace fR0 := bf hg ltR fR0
 replace cR1 := bc hg ltR cR1
 replace fR1 := bf hg ltR fR1
 replace cR2 := bc hg ltR cR2
 replace fR2 := bf hg ltR fR2
 replace ltR := bl hg ltR
 replace cY0 := bc hg ltY cY0
 replace cY1 := bc hg ltY cY1
 replace cY2 := bc hg ltY cY2
 replace ltY := bl hg ltY
 replace cQ0 := bc hg ltQ cQ0
 replace cQ1 := bc hg ltQ cQ1
 replace cQ2 := bc hg ltQ cQ2
 replace ltQ := bl hg ltQ
 replace HI := Lib.hid (HI.out.below hg)
 replace HR := Lib.hid (HR.out.below hg)
 replace HVe := Lib.hid (HVe.out.below hg)
 replace hB := hB.trans (hg.mono hB.size)
 replace hM := hE
 clear hE hg
 go_simp
 refine (esum_b (f.take k) _ k cap _ (HI.out.take (Nat.le_of_lt hk)) HFt.out (by omega)).mono ?_
 rintro e wg ⟨rfl, hb⟩
 replace cA0 := bc hb ltA cA0
 replace cA1 := bc hb ltA cA1
 replace cA2 := bc hb ltA cA2
 replace ltA := bl hb ltA
 replace cR0 := bc hb ltR cR0
 replace fR0 := bf hb ltR fR0
 replace cR1 := bc hb ltR cR1
 replace fR1 := bf hb ltR fR1
 replace cR2 := bc hb ltR cR2
 replace fR2 := bf hb ltR fR2
 replace ltR := bl hb ltR
 replace cY0 := bc hb ltY cY0
 replace cY1 := bc hb ltY cY1
 replace cY2 := bc hb ltY cY2
 replace ltY := bl hb ltY
 replace cQ0 := bc hb ltQ cQ0
 replace cQ1 := bc hb ltQ cQ1
 replace cQ2 := bc hb ltQ cQ2
 replace ltQ := bl hb ltQ
 replace HI := Lib.hid (HI.out.below hb)
 replace HR := Lib.hid (HR.out.below hb)
 replace HVe := Lib.hid (HVe.out.below hb)
 replace hM := hM.trans (hb.mono hM.size)
 replace hB := hB.trans (hb.mono hB.size)
 rw [HPt.out]
 refine hK _ _ ⟨⟨wg, hM⟩, rfl⟩ hb ?_
 clear hK K hb
 refine wpFl_eff rfl rfl (fun wy hC hg K hK => ?_)
 obtain ⟨⟨wz, hE⟩, hwe⟩ := hC
 change wy = wz at hwe
 subst hwe
 replace cA0 := bc hg ltA cA0
 replace cA1 := bc hg ltA cA1
 replace cA2 := bc hg ltA cA2
 replace ltA := bl hg ltA
 replace cR0 := bc hg ltR cR0
 replace fR0 := bf hg ltR fR0
 replace cR1 := bc hg ltR cR1
 replace fR1 := bf hg ltR fR1
 replace cR2 := bc hg ltR cR2
 replace fR2 := bf hg ltR fR2
 replace ltR := bl hg ltR
 replace cY0 := bc hg ltY cY0
 replace cY1 := bc hg ltY cY1
 replace cY2 := bc hg ltY cY2
 replace ltY := bl hg ltY
 replace cQ0 := bc hg ltQ cQ0
 replace cQ1 := bc hg ltQ cQ1
 replace cQ2 := bc hg ltQ cQ2
 replace ltQ := bl hg ltQ
 replace HI := Lib.hid (HI.out.below hg)
 replace HR := Lib.hid (HR.out.below hg)
 replace HVe := Lib.hid (HVe.out.below hg)
 replace hB := hB.trans (hg.mono hB.size)
 replace hM := hE
 clear hE hg
 go_simp
 refine (ewhole_any pk _ (by omega) (by omega)).mono ?_
 rintro e wh ⟨vh, rfl, hv, hsz, hb⟩
 replace cA0 := bc hb ltA cA0
 replace cA1 := bc hb ltA cA1
 replace cA2 := bc hb ltA cA2
 replace ltA := bl hb ltA
 replace cR0 := bc hb ltR cR0
 replace fR0 := bf hb ltR fR0
 replace cR1 := bc hb ltR cR1
 replace fR1 := bf hb ltR fR1
 replace cR2 := bc hb ltR cR2
 replace fR2 := bf hb ltR fR2
 replace ltR := bl hb ltR
 replace cY0 := bc hb ltY cY0
 replace cY1 := bc hb ltY cY1
 replace cY2 := bc hb ltY cY2
 replace ltY := bl hb ltY
 replace cQ0 := bc hb ltQ cQ0
 replace cQ1 := bc hb ltQ cQ1
 replace cQ2 := bc hb ltQ cQ2
 replace ltQ := bl hb ltQ
 replace HI := Lib.hid (HI.out.below hb)
 replace HR := Lib.hid (HR.out.below hb)
 replace HVe := Lib.hid (HVe.out.below hb)
 replace hM := hM.trans (hb.mono hM.size)
 replace hB := hB.trans (hb.mono hB.size)
 have HVh := Lib.hid (hv.raw hsz)
 clear hv hsz
 refine hK _ _ ⟨⟨wh, hM⟩, rfl⟩ hb ?_
 clear hK K hb
 refine wpFl_eff rfl rfl (fun wy hC hg K hK => ?_)
 obtain ⟨⟨wz, hE⟩, hwe⟩ := hC
 change wy = wz at hwe
 subst hwe
 replace cA0 := bc hg ltA cA0
 replace cA1 := bc hg ltA cA1
 replace cA2 := bc hg ltA cA2
 replace ltA := bl hg ltA
 replace cR0 := bc hg ltR cR0
 replace fR0 := bf hg ltR fR0
 replace cR1 := bc hg ltR cR1
 replace fR1 := bf hg ltR fR1
 replace cR2 := bc hg ltR cR2
 replace fR2 := bf hg ltR fR2
 replace ltR := bl hg ltR
 replace cY0 := bc hg ltY cY0
 replace cY1 := bc hg ltY cY1
 replace cY2 := bc hg ltY cY2
 replace ltY := bl hg ltY
 replace cQ0 := bc hg ltQ cQ0
 replace cQ1 := bc hg ltQ cQ1
 replace cQ2 := bc hg ltQ cQ2
 replace ltQ := bl hg ltQ
 replace HI := Lib.hid (HI.out.below hg)
 replace HR := Lib.hid (HR.out.below hg)
 replace HVe := Lib.hid (HVe.out.below hg)
 replace HVh := Lib.hid (HVh.out.below hg)
 replace hB := hB.trans (hg.mono hB.size)
 replace hM := hE
 clear hE hg
 go_simp
 refine (qadd_any _ _ (pk : Rat) ((fk : Rat) * (x + 1/2 - ((k : Int) : Rat))) 2 (2 + (L + 3 + 2 + 1)) _ HVh.out HVe.out (by omega) (by omega) (by omega)).mono ?_
 rintro e wi ⟨vi, rfl, hv, hsz, hb⟩
 replace cA0 := bc hb ltA cA0
 replace cA1 := bc hb ltA cA1
 replace cA2 := bc hb ltA cA2
 replace ltA := bl hb ltA
 replace cR0 := bc hb ltR cR0
 replace fR0 := bf hb ltR fR0
 replace cR1 := bc hb ltR cR1
 replace fR1 := bf hb ltR fR1
 replace cR2 := bc hb ltR cR2
 replace fR2 := bf hb ltR fR2
 replace ltR := bl hb ltR
 replace cY0 := bc hb ltY cY0
 replace cY1 := bc hb ltY cY1
 replace cY2 := bc hb ltY cY2
 replace ltY := bl hb ltY
 replace cQ0 := bc hb ltQ cQ0
 replace cQ1 := bc hb ltQ cQ1
 replace cQ2 := bc hb ltQ cQ2
 replace ltQ := bl hb ltQ
 replace HI := Lib.hid (HI.out.below hb)
 replace HR := Lib.hid (HR.out.below hb)
 replace HVe := Lib.hid (HVe.out.below hb)
 replace HVh := Lib.hid (HVh.out.below hb)
 replace hM := hM.trans (hb.mono hM.size)
 replace hB := hB.trans (hb.mono hB.size)
 have HVi := Lib.hid (hv.raw hsz)
 clear hv hsz
 refine hK _ _ ⟨⟨wi, hM⟩, rfl⟩ hb ?_
 clear hK K hb
 refine wpFl_eff rfl rfl (fun wy hC hg K hK => ?_)
 obtain ⟨⟨wz, hE⟩, hwe⟩ := hC
 change wy = wz at hwe
 subst hwe
 replace cA0 := bc hg ltA cA0
 replace cA1 := bc hg ltA cA1
 replace cA2 := bc hg ltA cA2
 replace ltA := bl hg ltA
 replace cR0 := bc hg ltR cR0
 replace fR0 := bf hg ltR fR0
 replace cR1 := bc hg ltR cR1
 replace fR1 := bf hg ltR fR1
 replace cR2 := bc hg ltR cR2
 replace fR2 := bf hg ltR fR2
 replace ltR := bl hg ltR
 replace cY0 := bc hg ltY cY0
 replace cY1 := bc hg ltY cY1
 replace cY2 := bc hg ltY cY2
 replace ltY := bl hg ltY
 replace cQ0 := bc hg ltQ cQ0
 replace cQ1 := bc hg ltQ cQ1
 replace cQ2 := bc hg ltQ cQ2
 replace ltQ := bl hg ltQ
 replace HI := Lib.hid (HI.out.below hg)
 replace HR := Lib.hid (HR.out.below hg)
 replace HVe := Lib.hid (HVe.out.below hg)
 replace HVh := Lib.hid (HVh.out.below hg)
 replace HVi := Lib.hid (HVi.out.below hg)
 replace hB := hB.trans (hg.mono hB.size)
 replace hM := hE
 clear hE hg
 go_simp
 refine (esum_b f _ len cap _ HI.out HF0.out h61).mono ?_
 rintro e wj ⟨rfl, hb⟩
 replace cA0 := bc hb ltA cA0
 replace cA1 := bc hb ltA cA1
 replace cA2 := bc hb ltA cA2
 replace ltA := bl hb ltA
 replace cR0 := bc hb ltR cR0
 replace fR0 := bf hb ltR fR0
 replace cR1 := bc hb ltR cR1
 replace fR1 := bf hb ltR fR1
 replace cR2 := bc hb ltR cR2
 replace fR2 := bf hb ltR fR2
 replace ltR := bl hb ltR
 replace cY0 := bc hb ltY cY0
 replace cY1 := bc hb ltY cY1
 replace cY2 := bc hb ltY cY2
 replace ltY := bl hb ltY
 replace cQ0 := bc hb ltQ cQ0
 replace cQ1 := bc hb ltQ cQ1
 replace cQ2 := bc hb ltQ cQ2
 replace ltQ := bl hb ltQ
 replace HI := Lib.hid (HI.out.below hb)
 replace HR := Lib.hid (HR.out.below hb)
 replace HVe := Lib.hid (HVe.out.below hb)
 replace HVh := Lib.hid (HVh.out.below hb)
 replace HVi := Lib.hid (HVi.out.below hb)
 replace hM := hM.trans (hb.mono hM.size)
 replace hB := hB.trans (hb.mono hB.size)
 rw [HSf.out]
 refine hK _ _ ⟨⟨wj, hM⟩, rfl⟩ hb ?_
 clear hK K hb
 refine wpFl_eff rfl rfl (fun wy hC hg K hK => ?_)
 obtain ⟨⟨wz, hE⟩, hwe⟩ := hC
 change wy = wz at hwe
 subst hwe
 replace cA0 := bc hg ltA cA0
 replace cA1 := bc hg ltA cA1
 replace cA2 := bc hg ltA cA2
 replace ltA := bl hg ltA
 replace cR0 := bc hg ltR cR0
 replace fR0 := bf hg ltR fR0
 replace cR1 := bc hg ltR cR1
 replace fR1 := bf hg ltR fR1
 replace cR2 := bc hg ltR cR2
 replace fR2 := bf hg ltR fR2
 replace ltR := bl hg ltR
 replace cY0 := bc hg ltY cY0
 replace cY1 := bc hg ltY cY1
 replace cY2 := bc hg ltY cY2
 replace ltY := bl hg ltY
 replace cQ0 := bc hg ltQ cQ0
 replace cQ1 := bc hg ltQ cQ1
 replace cQ2 := bc hg ltQ cQ2
 replace ltQ := bl hg ltQ
 replace HI := Lib.hid (HI.out.below hg)
 replace HR := Lib.hid (HR.out.below hg)
 replace HVe := Lib.hid (HVe.out.below hg)
 replace HVh := Lib.hid (HVh.out.below hg)
 replace HVi := Lib.hid (HVi.out.below hg)
 replace hB := hB.trans (hg.mono hB.size)
 replace hM := hE
 clear hE hg
 go_simp
 refine (ewhole_any sf _ (by omega) (by omega)).mono ?_
 rintro e wk ⟨vk, rfl, hv, hsz, hb⟩
 replace cA0 := bc hb ltA cA0
 replace cA1 := bc hb ltA cA1
 replace cA2 := bc hb ltA cA2
 replace ltA := bl hb ltA
 replace cR0 := bc hb ltR cR0
 replace fR0 := bf hb ltR fR0
 replace cR1 := bc hb ltR cR1
 replace fR1 := bf hb ltR fR1
 replace cR2 := bc hb ltR cR2
 replace fR2 := bf hb ltR fR2
 replace ltR := bl hb ltR
 replace cY0 := bc hb ltY cY0
 replace cY1 := bc hb ltY cY1
 replace cY2 := bc hb ltY cY2
 replace ltY := bl hb ltY
 replace cQ0 := bc hb ltQ cQ0
 replace cQ1 := bc hb ltQ cQ1
 replace cQ2 := bc hb ltQ cQ2
 replace ltQ := bl hb ltQ
 replace HI := Lib.hid (HI.out.below hb)
 replace HR := Lib.hid (HR.out.below hb)
 replace HVe := Lib.hid (HVe.out.below hb)
 replace HVh := Lib.hid (HVh.out.below hb)
 replace HVi := Lib.hid (HVi.out.below hb)
 replace hM := hM.trans (hb.mono hM.size)
 replace hB := hB.trans (hb.mono hB.size)
 have HVk := Lib.hid (hv.raw hsz)
 clear hv hsz
 refine hK _ _ ⟨⟨wk, hM⟩, rfl⟩ hb ?_
 clear hK K hb
 refine wpFl_eff rfl rfl (fun wy hC hg K hK => ?_)
 obtain ⟨⟨wz, hE⟩, hwe⟩ := hC
 change wy = wz at hwe
 subst hwe
 replace cA0 := bc hg ltA cA0
 replace cA1 := bc hg ltA cA1
 replace cA2 := bc hg ltA cA2
 replace ltA := bl hg ltA
 replace cR0 := bc hg ltR cR0
 replace fR0 := bf hg ltR fR0
 replace cR1 := bc hg ltR cR1
 replace fR1 := bf hg ltR fR1
 replace cR2 := bc hg ltR cR2
 replace fR2 := bf hg ltR fR2
 replace ltR := bl hg ltR
 replace cY0 := bc hg ltY cY0
 replace cY1 := bc hg ltY cY1
 replace cY2 := bc hg ltY cY2
 replace ltY := bl hg ltY
 replace cQ0 := bc hg ltQ cQ0
 replace cQ1 := bc hg ltQ cQ1
 replace cQ2 := bc hg ltQ cQ2
 replace ltQ := bl hg ltQ
 replace HI := Lib.hid (HI.out.below hg)
 replace HR := Lib.hid (HR.out.below hg)
 replace HVe := Lib.hid (HVe.out.below hg)
 replace HVh := Lib.hid (HVh.out.below hg)
 replace HVi := Lib.hid (HVi.out.below hg)
 replace HVk := Lib.hid (HVk.out.below hg)
 replace hB := hB.trans (hg.mono hB.size)
 replace hM := hE
 clear hE hg
 go_simp
 have hsB' : w.heap.size + 2 ≤ wy.heap.size := ltR
 refine (qdiv_any _ _ ((pk : Rat) + (fk : Rat) * (x + 1/2 - ((k : Int) : Rat))) (sf : Rat) (2 + (2 + (L + 3 + 2 + 1)) + 1) 2 _ HVi.out HVk.out HSn.out (by omega) (by omega) (by omega)).mono ?_
 rintro e wl ⟨vl, rfl, hv, hsz, hb⟩
 replace cA0 := bc hb ltA cA0
 replace cA1 := bc hb ltA cA1
 replace cA2 := bc hb ltA cA2
 replace ltA := bl hb ltA
 replace cR0 := bc hb ltR cR0
 replace fR0 := bf hb ltR fR0
 replace cR1 := bc hb ltR cR1
 replace fR1 := bf hb ltR fR1
 replace cR2 := bc hb ltR cR2
 replace fR2 := bf hb ltR fR2
 replace ltR := bl hb ltR
 replace cY0 := bc hb ltY cY0
 replace cY1 := bc hb ltY cY1
 replace cY2 := bc hb ltY cY2
 replace ltY := bl hb ltY
 replace cQ0 := bc hb ltQ cQ0
 replace cQ1 := bc hb ltQ cQ1
 replace cQ2 := bc hb ltQ cQ2
 replace ltQ := bl hb ltQ
 replace HI := Lib.hid (HI.out.below hb)
 replace HR := Lib.hid (HR.out.below hb)
 replace HVe := Lib.hid (HVe.out.below hb)
 replace HVh := Lib.hid (HVh.out.below hb)
 replace HVi := Lib.hid (HVi.out.below hb)
 replace HVk := Lib.hid (HVk.out.below hb)
 replace hM := hM.trans (hb.mono hM.size)
 replace hB := hB.trans (hb.mono hB.size)
 have HZl := Lib.hid (hsz.mono (show 2 + (2 + (L + 3 + 2 + 1)) + 1 + 2 ≤ L + 13 by omega))
 have HVl := Lib.hid (hv.mono hsB')
 obtain ⟨pl', ml', ql', pl, ml, ql, rfl, -, -, -, -⟩ := hv
 clear hsz
 generalize decide ((((pk : Rat) + (fk : Rat) * (x + 1/2 - ((k : Int) : Rat))) / (sf : Rat)).num < 0) = dl at *
 refine hK _ _ ⟨⟨wl, hM⟩, rfl⟩ hb ?_
 clear hK K hb
 clear HVh HVi HVk HVe
 repeat (refine wpFl_calm rfl (fun K hK => ?_); go_simp; refine hK _ ?_; clear hK K)
 refine wpFl_nil fun gZ wy hC hg hBk hge => ?_
 obtain ⟨⟨wz, hE⟩, hwe⟩ := hC
 change wy = wz at hwe
 subst hwe
 replace cA0 := bc hg ltA cA0
 replace cA1 := bc hg ltA cA1
 replace cA2 := bc hg ltA cA2
 replace ltA := bl hg ltA
 replace cR0 := bc hg ltR cR0
 replace fR0 := bf hg ltR fR0
 replace cR1 := bc hg ltR cR1
 replace fR1 := bf hg ltR fR1
 replace cR2 := bc hg ltR cR2
 replace fR2 := bf hg ltR fR2
 replace ltR := bl hg ltR
 replace cY0 := bc hg ltY cY0
 replace cY1 := bc hg ltY cY1
 replace cY2 := bc hg ltY cY2
 replace ltY := bl hg ltY
 replace cQ0 := bc hg ltQ cQ0
 replace cQ1 := bc hg ltQ cQ1
 replace cQ2 := bc hg ltQ cQ2
 replace ltQ := bl hg ltQ
 replace HI := Lib.hid (HI.out.below hg)
 replace HR := Lib.hid (HR.out.below hg)
 replace HVl := Lib.hid (HVl.out.below hg)
 replace hB := hB.trans (hg.mono hB.size)
 replace hM := hE
 clear hE hg
 have z0 := blk_cell hBk 0
 have y0 := blk_free hBk 0
 have z1 := blk_cell hBk 1
 have y1 := blk_free hBk 1
 have z2 := blk_cell hBk 2
 have y2 := blk_free hBk 2
 simp at z0 z1 z2
 have hgl := blk_lt hBk
 refine wpSched_eff rfl rfl (fun K hK => ?_)
 go_simp
 refine hK _ _ ⟨⟨_, (((hM.setCell (p := ⟨gZ, 0, none⟩) hge _).setCell (p := ⟨gZ, 1, none⟩) hge _).setCell (p := ⟨gZ, 2, none⟩) hge _)⟩, rfl⟩ ?_
 clear hK K
 repeat (refine wpSched_calm rfl (fun K hK => ?_); go_simp; refine hK _ ?_; clear hK K)
 refine wpSched_nil ?_
 have hMn := (((hM.setCell (p := ⟨gZ, 0, none⟩) hge (.bool dl)).setCell (p := ⟨gZ, 1, none⟩) hge (.slice pl' ml' ql')).setCell (p := ⟨gZ, 2, none⟩) hge (.slice pl ml ql))
 replace HVl := Lib.hid (HVl.out.off hBk zRat_no (.bool dl) (.slice pl' ml' ql') (.slice pl ml ql))
 replace cA0 := bc hMn SLA.out SCA0.out
 replace cA1 := bc hMn SLA.out SCA1.out
 replace cA2 := bc hMn SLA.out SCA2.out
 replace ltA := bl hMn SLA.out
 replace cR0 := bc hMn SLR.out SCR0.out
 replace fR0 := bf hMn SLR.out SFR0.out
 replace cR1 := bc hMn SLR.out SCR1.out
 replace fR1 := bf hMn SLR.out SFR1.out
 replace cR2 := bc hMn SLR.out SCR2.out
 replace fR2 := bf hMn SLR.out SFR2.out
 replace ltR := bl hMn SLR.out
 replace cY0 := bc hMn SLY.out SCY0.out
 replace cY1 := bc hMn SLY.out SCY1.out
 replace cY2 := bc hMn SLY.out SCY2.out
 replace ltY := bl hMn SLY.out
 replace cQ0 := bc hMn SLQ.out SCQ0.out
 replace cQ1 := bc hMn SLQ.out SCQ1.out
 replace cQ2 := bc hMn SLQ.out SCQ2.out
 replace ltQ := bl hMn SLQ.out
 replace HI := Lib.hid (SHI.out.below hMn)
 replace HR := Lib.hid (SHR.out.below hMn)
 replace HVe := Lib.hid (SHVe.out.below hMn)
 replace hB := SB.out.trans (hMn.mono SB.out.size)
 have cZ0 : (((wy.setCell ⟨gZ, 0, none⟩ (.bool dl)).setCell ⟨gZ, 1, none⟩ (.slice pl' ml' ql')).setCell ⟨gZ, 2, none⟩ (.slice pl ml ql)).cell? ⟨gZ, 0, none⟩ = some (.bool dl) := by go_simp
 have cZ1 : (((wy.setCell ⟨gZ, 0, none⟩ (.bool dl)).setCell ⟨gZ, 1, none⟩ (.slice pl' ml' ql')).setCell ⟨gZ, 2, none⟩ (.slice pl ml ql)).cell? ⟨gZ, 1, none⟩ = some (.slice pl' ml' ql') := by go_simp
 have cZ2 : (((wy.setCell ⟨gZ, 0, none⟩ (.bool dl)).setCell ⟨gZ, 1, none⟩ (.slice pl' ml' ql')).setCell ⟨gZ, 2, none⟩ (.slice pl ml ql)).cell? ⟨gZ, 2, none⟩ = some (.slice pl ml ql) := by go_simp
 have ltZ : gZ < (((wy.setCell ⟨gZ, 0, none⟩ (.bool dl)).setCell ⟨gZ, 1, none⟩ (.slice pl' ml' ql')).setCell ⟨gZ, 2, none⟩ (.slice pl ml ql)).heap.size := by simpa using hgl
 have neZA : w.heap.size < gZ := Nat.lt_of_lt_of_le SLA.out hge
 have neZR : w.heap.size + 1 < gZ := Nat.lt_of_lt_of_le SLR.out hge
 have neZY : gY < gZ := Nat.lt_of_lt_of_le SLY.out hge
 have neZQ : gQ < gZ := Nat.lt_of_lt_of_le SLQ.out hge
 clear SCA0 SCA1 SCA2 SLA SCR0 SFR0 SCR1 SFR1 SCR2 SFR2 SLR SCY0 SCY1 SCY2 SLY SCQ0 SCQ1 SCQ2 SLQ SHI SHR SHVe SB
 clear hMn hM hBk hgl z0 y0 z1 y1 z2 y2
 go_wp2_with fail
 generalize (((wy.setCell ⟨gZ, 0, none⟩ (.bool dl)).setCell ⟨gZ, 1, none⟩ (.slice pl' ml' ql')).setCell ⟨gZ, 2, none⟩ (.slice pl ml ql)) = wm at *
 have HFin := Lib.hid (rat_store (B' := w.heap.size) (g := w.heap.size + 1) HVl.out (by omega) (by omega))
 exact bodyPost_ret (v := .tuple #[.agg #[.bool dl, .slice pl' ml' ql', .slice pl ml ql], .int .i64 0]) (by simp [results, Tryz.results6, go_sem, cR0, cR1, cR2]) rfl ⟨_, rfl, HFin.out, HZl.out, ((hB.setCell (p := ⟨w.heap.size + 1, 0, none⟩) (by simp) _).setCell (p := ⟨w.heap.size + 1, 1, none⟩) (by simp) _).setCell (p := ⟨w.heap.size + 1, 2, none⟩) (by simp) _⟩
theorem rank_val {f : List Int} (h0 : 0 < f.sum) {x : Rat} : (x + 1/2 ≤ 0 → rankR f x = 0) ∧ (¬ x + 1/2 ≤ 0 → (f.length : Rat) ≤ x + 1/2 → rankR f x = 1) ∧ (∀ k : Nat, k < f.length → (k : Rat) ≤ x + 1/2 → x + 1/2 < (k : Rat) + 1 → rankR f x = ((preS f k : Rat) + (f.getD k 0 : Rat) * (x + 1/2 - ((k : Int) : Rat))) / (f.sum : Rat)) := by
 have h1 := cast_lt h0
 have e0 : ((0 : Int) : Rat) = 0 := rfl
 refine ⟨fun h => ?_, fun h h2 => ?_, fun k hk a b => ?_⟩
 · unfold rankR rkN; rw [if_pos h]; grind
 · unfold rankR rkN; rw [if_neg h, if_pos h2]
   rw [Rat.div_def, Rat.mul_inv_cancel]; grind
 · unfold rankR; rw [rkN_at hk a (by grind), Rat.intCast_natCast]
theorem erank_any (f : List Int) (a : Option Addr) (len cap : Nat) (v : Value) (x : Rat) (L : Nat) (w : World) (hI : Ints w a len cap f) (hv : RatV w v x L) (hL : 1 ≤ L) (hm : (L + 40) * 4 ≤ 140737488355328) (hO : OkF f) :
   Calls Tryz.prog 6 #[.slice a len cap, v] w fun e w' => ∃ v, e = .returned (.tuple #[v, .int .i64 0]) ∧ RatN w.heap.size w' v (rankR f x) ∧ Rsz (rankR f x) (L + 13) ∧ Below w.heap.size w w' := by
 obtain ⟨r1, r2, r3⟩ := rank_val (x := x) hO.pos
 by_cases hy : x + 1/2 ≤ 0
 · rw [r1 hy]; exact erank_low f a len cap v x L w hI hv hL hm hO hy
 by_cases hn : (f.length : Rat) ≤ x + 1/2
 · rw [r2 hy hn]; exact erank_high f a len cap v x L w hI hv hL hm hO hy hn
 obtain ⟨k, hk, a1, a2, hkf⟩ := rk_cell (f := f) (y := x + 1/2) (by grind) (by grind)
 rw [r3 k hk a1 a2]
 exact erank_mid f a len cap v x L w hI hv hL hm hO k (by rw [← hI.1]; exact hk) hy (by rw [← hI.1]; exact hn) hkf
end Go.Proofs.YtahmndacoanfiaaGreat
namespace Go.Proofs.YtahmndacoanfiaaGreat
set_option maxRecDepth 100000
open Go
section
variable {P : Program} {ops : Array Oper} {C : World → Prop} {Q : Exit → Act → World → Prop}
theorem wpSched_geff {i : Nat} {rest : List (Nat × Bool)} {a : Act} {w : World} {o : Oper} (ho : ops[i]? = some o) (hg : Region.wanted o (yielded ops a.tmps) = true)
   (h : ∀ K : Act → World → Prop, (∀ a' w', C w' → wpSched P ops Q C rest a' w' → K a' w') → o.wp P a w K Q) : wpSched P ops Q C ((i, true) :: rest) a w := by
 unfold wpSched wpOp
 simp only [ho]
 rw [if_pos hg]
 exact .inl (h _ fun _ _ h1 h2 => ⟨h1, h2⟩)
theorem wpSched_skip {i : Nat} {rest : List (Nat × Bool)} {a : Act} {w : World} {o : Oper} (ho : ops[i]? = some o) (hg : Region.wanted o (yielded ops a.tmps) = false)
   (hC : C w) (h : wpSched P ops Q C rest (a.put o.dst undef) w) : wpSched P ops Q C ((i, true) :: rest) a w := by
 unfold wpSched wpOp
 simp only [ho]
 rw [if_neg (by rw [hg]; simp)]
 exact ⟨hC, h⟩
end
end Go.Proofs.YtahmndacoanfiaaGreat
namespace Go.Proofs.YtahmndacoanfiaaGreat
set_option maxRecDepth 100000
open Go.RowKit
theorem sgI_lt {r : Rat} : rsgI r < 0 ↔ r < 0 := by
 have h := mk_cmp (p := r.num) (s := 0) (q := r.den) (t := 1) r.den_nz (by omega)
 unfold rsgI
 rw [show (r.num * (1 : Nat) - 0 * r.den : Int) = r.num by simp, Rat.mkRat_self] at h
 rw [h, show mkRat 0 1 = (0 : Rat) from rfl]
 unfold rcmpI
 by_cases h1 : r < 0
 · rw [if_pos h1]; exact ⟨fun _ => h1, fun _ => by omega⟩
 · rw [if_neg h1]
   constructor
   · intro h; split at h <;> omega
   · intro h; exact absurd h h1
theorem cmpI_gt0 {r s : Rat} : 0 < rcmpI r s ↔ s < r := by
 unfold rcmpI
 by_cases h : r < s
 · rw [if_pos h]; constructor
   · intro h2; omega
   · intro h2; grind
 · rw [if_neg h]
   by_cases h2 : s < r
   · rw [if_pos h2]; constructor
     · intro _; exact h2
     · intro _; omega
   · rw [if_neg h2]; constructor
     · intro h3; omega
     · intro h3; exact absurd h3 h2
set_option maxHeartbeats 4000000 in
theorem einv_in (f : List Int) (a : Option Addr) (len cap : Nat) (v : Value) (p : Rat) (L : Nat) (w : World) (hI : Ints w a len cap f) (hv : RatV w v p L) (hL : 1 ≤ L) (hm : (L + 40) * 4 ≤ 140737488355328) (hO : OkF f) (k : Nat) (hp : ¬ p < 0) (hp1 : ¬ 1 < p) (hk : IsInv f (p * (f.sum : Rat)) k) :
   Calls Tryz.prog 8 #[.slice a len cap, v] w fun e w' => ∃ v, e = .returned (.tuple #[v, .int .i64 0]) ∧ RatN w.heap.size w' v ((((k : Int) : Rat) - 1/2) + (p * (f.sum : Rat) - (preS f k : Rat)) / (f.getD k 0 : Rat)) ∧ Rsz ((((k : Int) : Rat) - 1/2) + (p * (f.sum : Rat) - (preS f k : Rat)) / (f.getD k 0 : Rat)) (L + 13) ∧ Below w.heap.size w w' := by
 have HI := Lib.hid hI
 have HN := Lib.hid hI.1
 have HR := Lib.hid hv
 obtain ⟨np, dp, hr, hpq⟩ := hv
 obtain ⟨negx, ax', lenx', capx', xsx, ax, lenx, capx, ysx, rfl, -, -, -, -, -, -⟩ := hr
 clear hpq hI
 have HO := Lib.hid (eqE_OkF.2 hO)
 have HF := Lib.hid hO.2.1
 have h61 : len ≤ 61 := by rw [← HN.out]; exact hO.1
 have HS := Lib.hid (show ¬ rsgI p < 0 from fun h => hp (sgI_lt.1 h))
 have HC := Lib.hid (show ¬ 0 < rcmpI p 1 from fun h => hp1 (cmpI_gt0.1 h))
 have hkl : k < len := by rw [← HN.out]; exact hk.1
 obtain ⟨b1, b2, b3, b4⟩ := preS_at hO.2.1 hO.1 k
 have b5 := hO.pos
 have b6 := hO.sum_le
 have b7 := hk.2.1.1
 have HFn := Lib.hid (show (f.getD k 0 : Rat) ≠ 0 from fun h => by have := cast_lt b7; rw [h] at this; exact absurd this (by decide))
 have HMiss := Lib.hid hk.2.2
 have HHit := Lib.hid hk.2.1.2
 have HSc := Lib.hid (preS_succ f k hk.1)
 have HPb := Lib.hid (preS_at hO.2.1 hO.1)
 have HPs := Lib.hid (preS_succ' f)
 have HF0 := Lib.hid hO.2.1
 rw [HSc.out] at HHit
 generalize hfk : f.getD k 0 = fk at *
 have HFk := Lib.hid hfk
 generalize hpk : preS f k = pk at *
 have HPk := Lib.hid hpk
 generalize hsf : f.sum = sf at *
 have HSf := Lib.hid hsf
 clear hO hp hp1 hk hfk hpk hsf HSc
 go_enter Tryz.func8, Tryz.ntmps8
 go_wp2_with fail
 have hbx : Below w.heap.size w ((w.alloc (.cells #[.bool negx, .slice ax' lenx' capx', .slice ax lenx capx] 28)).alloc (.cells #[.bool false, .slice none 0 0, .slice none 0 0] 28)) := (((Below.refl _ _).alloc (Nat.le_refl _) _).alloc (by simp) _)
 generalize hWW : ((w.alloc (.cells #[.bool negx, .slice ax' lenx' capx', .slice ax lenx capx] 28)).alloc (.cells #[.bool false, .slice none 0 0, .slice none 0 0] 28)) = w0 at *
 replace HI := Lib.hid (HI.out.below hbx)
 replace HR := Lib.hid (HR.out.below hbx)
 have cA0 : w0.cell? ⟨w.heap.size, 0, none⟩ = some (.bool negx) := by subst hWW; go_simp
 have cA1 : w0.cell? ⟨w.heap.size, 1, none⟩ = some (.slice ax' lenx' capx') := by subst hWW; go_simp
 have cA2 : w0.cell? ⟨w.heap.size, 2, none⟩ = some (.slice ax lenx capx) := by subst hWW; go_simp
 have ltA : w.heap.size < w0.heap.size := by subst hWW; simp <;> omega
 have cR0 : w0.cell? ⟨w.heap.size + 1, 0, none⟩ = some (.bool false) := by subst hWW; go_simp
 have fR0 : w0.frozen? ⟨w.heap.size + 1, 0, none⟩ = false := by subst hWW; go_simp
 have cR1 : w0.cell? ⟨w.heap.size + 1, 1, none⟩ = some (.slice none 0 0) := by subst hWW; go_simp
 have fR1 : w0.frozen? ⟨w.heap.size + 1, 1, none⟩ = false := by subst hWW; go_simp
 have cR2 : w0.cell? ⟨w.heap.size + 1, 2, none⟩ = some (.slice none 0 0) := by subst hWW; go_simp
 have fR2 : w0.frozen? ⟨w.heap.size + 1, 2, none⟩ = false := by subst hWW; go_simp
 have ltR : w.heap.size + 1 < w0.heap.size := by subst hWW; simp
 have hB := hbx
 clear hbx hWW
 refine (evalid_b f a len cap _ HI.out).mono ?_
 rintro e w1 ⟨rfl, hb⟩
 replace cA0 := bc hb ltA cA0
 replace cA1 := bc hb ltA cA1
 replace cA2 := bc hb ltA cA2
 replace ltA := bl hb ltA
 replace cR0 := bc hb ltR cR0
 replace fR0 := bf hb ltR fR0
 replace cR1 := bc hb ltR cR1
 replace fR1 := bf hb ltR fR1
 replace cR2 := bc hb ltR cR2
 replace fR2 := bf hb ltR fR2
 replace ltR := bl hb ltR
 replace HI := Lib.hid (HI.out.below hb)
 replace HR := Lib.hid (HR.out.below hb)
 replace hB := hB.trans (hb.mono hB.size)
 rw [HO.out]
 clear hb
 go_wp2_with fail
 have eA0 := box_ext (B := w1.heap.size) cA0 ltA
 have eA1 := box_ext (B := w1.heap.size) cA1 ltA
 have eA2 := box_ext (B := w1.heap.size) cA2 ltA
 have eR0 := box_ext (B := w1.heap.size) cR0 ltR
 have eR1 := box_ext (B := w1.heap.size) cR1 ltR
 have eR2 := box_ext (B := w1.heap.size) cR2 ltR
 refine wp_region_sched [(0, false), (1, true), (2, false), (3, false), (4, false), (5, true), (6, true), (7, false), (8, false)] (fun w' => ∃ W : Ext w1.heap.size w1, w' = W.1) (by kernel_rfl) (by kernel_rfl) ⟨⟨w1.drew, (Below.refl _ _).drew⟩, rfl⟩ ?_
 repeat (refine wpSched_calm rfl (fun K hK => ?_); go_simp; refine hK _ ?_; clear hK K)
 have hbx : Below w1.heap.size w1 w1.drew := (Below.refl _ _).drew
 have hM := hbx
 replace cA0 := bc hbx ltA cA0
 replace cA1 := bc hbx ltA cA1
 replace cA2 := bc hbx ltA cA2
 replace ltA := bl hbx ltA
 replace cR0 := bc hbx ltR cR0
 replace fR0 := bf hbx ltR fR0
 replace cR1 := bc hbx ltR cR1
 replace fR1 := bf hbx ltR fR1
 replace cR2 := bc hbx ltR cR2
 replace fR2 := bf hbx ltR fR2
 replace ltR := bl hbx ltR
 replace HI := Lib.hid (HI.out.below hbx)
 replace HR := Lib.hid (HR.out.below hbx)
 replace hB := hB.trans (hbx.mono hB.size)
 clear hbx
 generalize w1.drew = ww1d at *
 refine wpSched_eff rfl rfl (fun K hK => ?_)
 go_simp
 refine (qsign_any _ p L _ HR.out hL).mono ?_
 rintro e w2 ⟨rfl, hb⟩
 replace cA0 := bc hb ltA cA0
 replace cA1 := bc hb ltA cA1
 replace cA2 := bc hb ltA cA2
 replace ltA := bl hb ltA
 replace cR0 := bc hb ltR cR0
 replace fR0 := bf hb ltR fR0
 replace cR1 := bc hb ltR cR1
 replace fR1 := bf hb ltR fR1
 replace cR2 := bc hb ltR cR2
 replace fR2 := bf hb ltR fR2
 replace ltR := bl hb ltR
 replace HI := Lib.hid (HI.out.below hb)
 replace HR := Lib.hid (HR.out.below hb)
 replace hM := hM.trans (hb.mono hM.size)
 replace hB := hB.trans (hb.mono hB.size)
 have hsg := HS.out
 generalize rsgI p = sg at *
 have dsg : decide (sg < 0) = false := by simpa using hsg
 clear hsg HS
 clear hb
 refine hK _ _ ⟨⟨w2, hM⟩, rfl⟩ ?_
 clear hK K
 repeat (refine wpSched_calm rfl (fun K hK => ?_); go_simp; refine hK _ ?_; clear hK K)
 clear eA0 eA1 eA2 eR0 eR1 eR2
 refine wpSched_geff rfl ?_ (fun K hK => ?_)
 · go_simp
 go_simp
 refine (ewhole_any 1 _ (by omega) (by omega)).mono ?_
 rintro e w3 ⟨v3, rfl, hv, hsz, hb⟩
 replace cA0 := bc hb ltA cA0
 replace cA1 := bc hb ltA cA1
 replace cA2 := bc hb ltA cA2
 replace ltA := bl hb ltA
 replace cR0 := bc hb ltR cR0
 replace fR0 := bf hb ltR fR0
 replace cR1 := bc hb ltR cR1
 replace fR1 := bf hb ltR fR1
 replace cR2 := bc hb ltR cR2
 replace fR2 := bf hb ltR fR2
 replace ltR := bl hb ltR
 replace HI := Lib.hid (HI.out.below hb)
 replace HR := Lib.hid (HR.out.below hb)
 replace hM := hM.trans (hb.mono hM.size)
 replace hB := hB.trans (hb.mono hB.size)
 rw [show ((1 : Int) : Rat) = 1 from rfl] at hv hsz
 have HV3 := Lib.hid (hv.raw hsz)
 clear hv hsz
 clear hb
 refine hK _ _ ⟨⟨w3, hM⟩, rfl⟩ ?_
 clear hK K
 refine wpSched_geff rfl ?_ (fun K hK => ?_)
 · go_simp
 go_simp
 refine (qcmp_any _ _ p 1 L 2 _ HR.out HV3.out hL (by omega) (by omega)).mono ?_
 rintro e w4 ⟨rfl, hb⟩
 replace cA0 := bc hb ltA cA0
 replace cA1 := bc hb ltA cA1
 replace cA2 := bc hb ltA cA2
 replace ltA := bl hb ltA
 replace cR0 := bc hb ltR cR0
 replace fR0 := bf hb ltR fR0
 replace cR1 := bc hb ltR cR1
 replace fR1 := bf hb ltR fR1
 replace cR2 := bc hb ltR cR2
 replace fR2 := bf hb ltR fR2
 replace ltR := bl hb ltR
 replace HI := Lib.hid (HI.out.below hb)
 replace HR := Lib.hid (HR.out.below hb)
 replace HV3 := Lib.hid (HV3.out.below hb)
 replace hM := hM.trans (hb.mono hM.size)
 replace hB := hB.trans (hb.mono hB.size)
 have hcm := HC.out
 generalize rcmpI p 1 = cm at *
 have dcm : decide (0 < cm) = false := by simpa using hcm
 clear HC hcm
 clear hb
 refine hK _ _ ⟨⟨w4, hM⟩, rfl⟩ ?_
 clear hK K
 repeat (refine wpSched_calm rfl (fun K hK => ?_); go_simp; refine hK _ ?_; clear hK K)
 refine wpSched_nil ?_
 clear HV3
 go_wp2_with fail
 have SCA0 := Lib.hid cA0
 have SCA1 := Lib.hid cA1
 have SCA2 := Lib.hid cA2
 have SLA := Lib.hid ltA
 have SCR0 := Lib.hid cR0
 have SFR0 := Lib.hid fR0
 have SCR1 := Lib.hid cR1
 have SFR1 := Lib.hid fR1
 have SCR2 := Lib.hid cR2
 have SFR2 := Lib.hid fR2
 have SLR := Lib.hid ltR
 have SHI := Lib.hid HI.out
 have SHR := Lib.hid HR.out
 have SB := Lib.hid hB
 have eA0 := box_ext (B := w4.heap.size) cA0 ltA
 have eA1 := box_ext (B := w4.heap.size) cA1 ltA
 have eA2 := box_ext (B := w4.heap.size) cA2 ltA
 have eR0 := box_ext (B := w4.heap.size) cR0 ltR
 have eR1 := box_ext (B := w4.heap.size) cR1 ltR
 have eR2 := box_ext (B := w4.heap.size) cR2 ltR
 refine wp_region_float 5 [(0, false), (1, false), (2, true), (3, true), (4, true)] [(6, true)] (fun w' => ∃ W : Ext w4.heap.size w4, w' = W.1) _ 7 (.cells #[.bool false, .slice none 0 0, .slice none 0 0] 28) w4.heap.size (by kernel_rfl) rfl rfl rfl (fun a w => by simp [execOp, go_sem]) (fun w ⟨W, e⟩ => e ▸ W.2.size) (fun w ⟨W, e⟩ => ⟨⟨_, (e ▸ W.2).alloc (e ▸ W.2.size) _⟩, rfl⟩) (by kernel_rfl) ⟨⟨w4.drew, (Below.refl _ _).drew⟩, rfl⟩ ?_
 repeat (refine wpFl_calm rfl (fun K hK => ?_); go_simp; refine hK _ ?_; clear hK K)
 clear eA0 eA1 eA2 eR0 eR1 eR2
 have hbx : Below w4.heap.size w4 w4.drew := (Below.refl _ _).drew
 have hM := hbx
 replace cA0 := bc hbx ltA cA0
 replace cA1 := bc hbx ltA cA1
 replace cA2 := bc hbx ltA cA2
 replace ltA := bl hbx ltA
 replace cR0 := bc hbx ltR cR0
 replace fR0 := bf hbx ltR fR0
 replace cR1 := bc hbx ltR cR1
 replace fR1 := bf hbx ltR fR1
 replace cR2 := bc hbx ltR cR2
 replace fR2 := bf hbx ltR fR2
 replace ltR := bl hbx ltR
 replace HI := Lib.hid (HI.out.below hbx)
 replace HR := Lib.hid (HR.out.below hbx)
 replace hB := hB.trans (hbx.mono hB.size)
 clear hbx
 generalize w4.drew = ww4d at *
 refine wpFl_eff rfl rfl (fun wy hC hg K hK => ?_)
 obtain ⟨⟨wz, hE⟩, hwe⟩ := hC
 change wy = wz at hwe
 subst hwe
 replace cA0 := bc hg ltA cA0
 replace cA1 := bc hg ltA cA1
 replace cA2 := bc hg ltA cA2
 replace ltA := bl hg ltA
 replace cR0 := bc hg ltR cR0
 replace fR0 := bf hg ltR fR0
 replace cR1 := bc hg ltR cR1
 replace fR1 := bf hg ltR fR1
 replace cR2 := bc hg ltR cR2
 replace fR2 := bf hg ltR fR2
 replace ltR := bl hg ltR
 replace HI := Lib.hid (HI.out.below hg)
 replace HR := Lib.hid (HR.out.below hg)
 replace hB := hB.trans (hg.mono hB.size)
 replace hM := hE
 clear hE hg
 go_simp
 refine (esum_b f _ len cap _ HI.out HF0.out h61).mono ?_
 rintro e w5 ⟨rfl, hb⟩
 replace cA0 := bc hb ltA cA0
 replace cA1 := bc hb ltA cA1
 replace cA2 := bc hb ltA cA2
 replace ltA := bl hb ltA
 replace cR0 := bc hb ltR cR0
 replace fR0 := bf hb ltR fR0
 replace cR1 := bc hb ltR cR1
 replace fR1 := bf hb ltR fR1
 replace cR2 := bc hb ltR cR2
 replace fR2 := bf hb ltR fR2
 replace ltR := bl hb ltR
 replace HI := Lib.hid (HI.out.below hb)
 replace HR := Lib.hid (HR.out.below hb)
 replace hM := hM.trans (hb.mono hM.size)
 replace hB := hB.trans (hb.mono hB.size)
 rw [HSf.out]
 refine hK _ _ ⟨⟨w5, hM⟩, rfl⟩ hb ?_
 clear hK K hb
 refine wpFl_eff rfl rfl (fun wy hC hg K hK => ?_)
 obtain ⟨⟨wz, hE⟩, hwe⟩ := hC
 change wy = wz at hwe
 subst hwe
 replace cA0 := bc hg ltA cA0
 replace cA1 := bc hg ltA cA1
 replace cA2 := bc hg ltA cA2
 replace ltA := bl hg ltA
 replace cR0 := bc hg ltR cR0
 replace fR0 := bf hg ltR fR0
 replace cR1 := bc hg ltR cR1
 replace fR1 := bf hg ltR fR1
 replace cR2 := bc hg ltR cR2
 replace fR2 := bf hg ltR fR2
 replace ltR := bl hg ltR
 replace HI := Lib.hid (HI.out.below hg)
 replace HR := Lib.hid (HR.out.below hg)
 replace hB := hB.trans (hg.mono hB.size)
 replace hM := hE
 clear hE hg
 go_simp
 refine (ewhole_any sf _ (by omega) (by omega)).mono ?_
 rintro e w6 ⟨v6, rfl, hv, hsz, hb⟩
 replace cA0 := bc hb ltA cA0
 replace cA1 := bc hb ltA cA1
 replace cA2 := bc hb ltA cA2
 replace ltA := bl hb ltA
 replace cR0 := bc hb ltR cR0
 replace fR0 := bf hb ltR fR0
 replace cR1 := bc hb ltR cR1
 replace fR1 := bf hb ltR fR1
 replace cR2 := bc hb ltR cR2
 replace fR2 := bf hb ltR fR2
 replace ltR := bl hb ltR
 replace HI := Lib.hid (HI.out.below hb)
 replace HR := Lib.hid (HR.out.below hb)
 replace hM := hM.trans (hb.mono hM.size)
 replace hB := hB.trans (hb.mono hB.size)
 have HV6 := Lib.hid (hv.raw hsz)
 clear hv hsz
 refine hK _ _ ⟨⟨w6, hM⟩, rfl⟩ hb ?_
 clear hK K hb
 refine wpFl_eff rfl rfl (fun wy hC hg K hK => ?_)
 obtain ⟨⟨wz, hE⟩, hwe⟩ := hC
 change wy = wz at hwe
 subst hwe
 replace cA0 := bc hg ltA cA0
 replace cA1 := bc hg ltA cA1
 replace cA2 := bc hg ltA cA2
 replace ltA := bl hg ltA
 replace cR0 := bc hg ltR cR0
 replace fR0 := bf hg ltR fR0
 replace cR1 := bc hg ltR cR1
 replace fR1 := bf hg ltR fR1
 replace cR2 := bc hg ltR cR2
 replace fR2 := bf hg ltR fR2
 replace ltR := bl hg ltR
 replace HI := Lib.hid (HI.out.below hg)
 replace HR := Lib.hid (HR.out.below hg)
 replace HV6 := Lib.hid (HV6.out.below hg)
 replace hB := hB.trans (hg.mono hB.size)
 replace hM := hE
 clear hE hg
 go_simp
 refine (qmul_any _ _ p (sf : Rat) L 2 _ HR.out HV6.out hL (by omega) (by omega)).mono ?_
 rintro e w7 ⟨v7, rfl, hv, hsz, hb⟩
 replace cA0 := bc hb ltA cA0
 replace cA1 := bc hb ltA cA1
 replace cA2 := bc hb ltA cA2
 replace ltA := bl hb ltA
 replace cR0 := bc hb ltR cR0
 replace fR0 := bf hb ltR fR0
 replace cR1 := bc hb ltR cR1
 replace fR1 := bf hb ltR fR1
 replace cR2 := bc hb ltR cR2
 replace fR2 := bf hb ltR fR2
 replace ltR := bl hb ltR
 replace HI := Lib.hid (HI.out.below hb)
 replace HR := Lib.hid (HR.out.below hb)
 replace HV6 := Lib.hid (HV6.out.below hb)
 replace hM := hM.trans (hb.mono hM.size)
 replace hB := hB.trans (hb.mono hB.size)
 have HV7 := Lib.hid (hv.raw hsz)
 obtain ⟨p7', m7', q7', p7, m7, q7, rfl, -, -, -, -⟩ := hv
 clear hsz
 generalize decide ((p * (sf : Rat) : Rat).num < 0) = d7 at *
 refine hK _ _ ⟨⟨w7, hM⟩, rfl⟩ hb ?_
 clear hK K hb
 clear HV6 HR
 refine wpFl_nil fun gY wy hC hg hBk hge => ?_
 obtain ⟨⟨wz, hE⟩, hwe⟩ := hC
 change wy = wz at hwe
 subst hwe
 replace cA0 := bc hg ltA cA0
 replace cA1 := bc hg ltA cA1
 replace cA2 := bc hg ltA cA2
 replace ltA := bl hg ltA
 replace cR0 := bc hg ltR cR0
 replace fR0 := bf hg ltR fR0
 replace cR1 := bc hg ltR cR1
 replace fR1 := bf hg ltR fR1
 replace cR2 := bc hg ltR cR2
 replace fR2 := bf hg ltR fR2
 replace ltR := bl hg ltR
 replace HI := Lib.hid (HI.out.below hg)
 replace HV7 := Lib.hid (HV7.out.below hg)
 replace hB := hB.trans (hg.mono hB.size)
 replace hM := hE
 clear hE hg
 have z0 := blk_cell hBk 0
 have y0 := blk_free hBk 0
 have z1 := blk_cell hBk 1
 have y1 := blk_free hBk 1
 have z2 := blk_cell hBk 2
 have y2 := blk_free hBk 2
 simp at z0 z1 z2
 have hgl := blk_lt hBk
 refine wpSched_eff rfl rfl (fun K hK => ?_)
 go_simp
 refine hK _ _ ⟨⟨_, (((hM.setCell (p := ⟨gY, 0, none⟩) hge _).setCell (p := ⟨gY, 1, none⟩) hge _).setCell (p := ⟨gY, 2, none⟩) hge _)⟩, rfl⟩ ?_
 clear hK K
 refine wpSched_nil ?_
 have hMn := (((hM.setCell (p := ⟨gY, 0, none⟩) hge (.bool d7)).setCell (p := ⟨gY, 1, none⟩) hge (.slice p7' m7' q7')).setCell (p := ⟨gY, 2, none⟩) hge (.slice p7 m7 q7))
 replace HV7 := Lib.hid (HV7.out.off hBk zRat_no (.bool d7) (.slice p7' m7' q7') (.slice p7 m7 q7))
 replace cA0 := bc hMn SLA.out SCA0.out
 replace cA1 := bc hMn SLA.out SCA1.out
 replace cA2 := bc hMn SLA.out SCA2.out
 replace ltA := bl hMn SLA.out
 replace cR0 := bc hMn SLR.out SCR0.out
 replace fR0 := bf hMn SLR.out SFR0.out
 replace cR1 := bc hMn SLR.out SCR1.out
 replace fR1 := bf hMn SLR.out SFR1.out
 replace cR2 := bc hMn SLR.out SCR2.out
 replace fR2 := bf hMn SLR.out SFR2.out
 replace ltR := bl hMn SLR.out
 replace HI := Lib.hid (SHI.out.below hMn)
 replace HR := Lib.hid (SHR.out.below hMn)
 replace hB := SB.out.trans (hMn.mono SB.out.size)
 have cY0 : (((wy.setCell ⟨gY, 0, none⟩ (.bool d7)).setCell ⟨gY, 1, none⟩ (.slice p7' m7' q7')).setCell ⟨gY, 2, none⟩ (.slice p7 m7 q7)).cell? ⟨gY, 0, none⟩ = some (.bool d7) := by go_simp
 have cY1 : (((wy.setCell ⟨gY, 0, none⟩ (.bool d7)).setCell ⟨gY, 1, none⟩ (.slice p7' m7' q7')).setCell ⟨gY, 2, none⟩ (.slice p7 m7 q7)).cell? ⟨gY, 1, none⟩ = some (.slice p7' m7' q7') := by go_simp
 have cY2 : (((wy.setCell ⟨gY, 0, none⟩ (.bool d7)).setCell ⟨gY, 1, none⟩ (.slice p7' m7' q7')).setCell ⟨gY, 2, none⟩ (.slice p7 m7 q7)).cell? ⟨gY, 2, none⟩ = some (.slice p7 m7 q7) := by go_simp
 have ltY : gY < (((wy.setCell ⟨gY, 0, none⟩ (.bool d7)).setCell ⟨gY, 1, none⟩ (.slice p7' m7' q7')).setCell ⟨gY, 2, none⟩ (.slice p7 m7 q7)).heap.size := by simpa using hgl
 have neYA : w.heap.size < gY := Nat.lt_of_lt_of_le SLA.out hge
 have neYR : w.heap.size + 1 < gY := Nat.lt_of_lt_of_le SLR.out hge
 clear SCA0 SCA1 SCA2 SLA SCR0 SFR0 SCR1 SFR1 SCR2 SFR2 SLR SHI SHR SB
 clear hMn hM hBk hgl z0 y0 z1 y1 z2 y2
 go_wp2_with fail
 generalize (((wy.setCell ⟨gY, 0, none⟩ (.bool d7)).setCell ⟨gY, 1, none⟩ (.slice p7' m7' q7')).setCell ⟨gY, 2, none⟩ (.slice p7 m7 q7)) = w8 at *
 generalize hq : p * (sf : Rat) = q at *
 have HQ := Lib.hid hq
 clear hq
 go_loopw [8, 36] (fun bel i wr => ∃ j : Nat, j ≤ k ∧ i = .int .i64 j ∧ bel = .int .i64 (preS f j) ∧ Below w8.heap.size w8 wr) (fun _ i _ => k + 1 - (intOf i).toNat)
 case atStart => exact ⟨0, by omega, rfl, by rw [preS_zero], Below.refl _ _⟩
 case round =>
   obtain ⟨j, hj, rfl, rfl, hb⟩ := hrel
   have hP := hb
   replace cA0 := bc hb ltA cA0
   replace cA1 := bc hb ltA cA1
   replace cA2 := bc hb ltA cA2
   replace ltA := bl hb ltA
   replace cR0 := bc hb ltR cR0
   replace fR0 := bf hb ltR fR0
   replace cR1 := bc hb ltR cR1
   replace fR1 := bf hb ltR fR1
   replace cR2 := bc hb ltR cR2
   replace fR2 := bf hb ltR fR2
   replace ltR := bl hb ltR
   replace cY0 := bc hb ltY cY0
   replace cY1 := bc hb ltY cY1
   replace cY2 := bc hb ltY cY2
   replace ltY := bl hb ltY
   replace HI := Lib.hid (HI.out.below hb)
   replace HV7 := Lib.hid (HV7.out.below hb)
   replace hB := hB.trans (hb.mono hB.size)
   clear hb
   obtain ⟨c1, c2, c3, c4⟩ := HPb.out j
   by_cases hjk : j < k
   · have hjl : j < len := by omega
     have hM2 := HMiss.out j hjk
     unfold HitB at hM2
     rw [HPs.out j] at hM2
     have HNx := Lib.hid (HPs.out j)
     obtain ⟨bb, off, rfl, hbs, hcc⟩ := HI.out.2.at hjl
     have ec := hcc j hjl _ (Below.refl _ _)
     have ef := box_ext (B := wr.heap.size) ec hbs
     generalize f.getD j 0 = fj at *
     generalize preS f j = pj at *
     clear hcc
     by_cases hf0 : 0 < fj
     · have d0 : decide (0 < fj) = true := by simpa using hf0
       have hq0 : ¬ q ≤ ((pj + fj : Int) : Rat) := fun h => hM2 ⟨hf0, h⟩
       have HC := Lib.hid (show ¬ 0 ≤ rcmpI ((pj + fj : Int) : Rat) q from fun h => hq0 (cmpI_ge.1 h))
       clear hM2 hq0
       have hw : IntKind.i64.wrap (pj + fj) = pj + fj := IntWalk.i64_in _ (by omega)
       go_wp2_with fail
       have eA0 := box_ext (B := wr.heap.size) cA0 ltA
       have eA1 := box_ext (B := wr.heap.size) cA1 ltA
       have eA2 := box_ext (B := wr.heap.size) cA2 ltA
       have eR0 := box_ext (B := wr.heap.size) cR0 ltR
       have eR1 := box_ext (B := wr.heap.size) cR1 ltR
       have eR2 := box_ext (B := wr.heap.size) cR2 ltR
       have eY0 := box_ext (B := wr.heap.size) cY0 ltY
       have eY1 := box_ext (B := wr.heap.size) cY1 ltY
       have eY2 := box_ext (B := wr.heap.size) cY2 ltY
       refine wp_region_sched [(0, false), (1, false), (2, false), (3, false), (4, false), (5, false), (7, false), (6, true), (8, true), (9, false), (10, false)] (fun w' => ∃ W : Ext wr.heap.size wr, w' = W.1) (by kernel_rfl) (by kernel_rfl) ⟨⟨wr.drew, (Below.refl _ _).drew⟩, rfl⟩ ?_
       repeat (refine wpSched_calm rfl (fun K hK => ?_); go_simp; refine hK _ ?_; clear hK K)
       clear eA0 eA1 eA2 eR0 eR1 eR2 eY0 eY1 eY2
       have hbx : Below wr.heap.size wr wr.drew := (Below.refl _ _).drew
       have hM := hbx
       replace cA0 := bc hbx ltA cA0
       replace cA1 := bc hbx ltA cA1
       replace cA2 := bc hbx ltA cA2
       replace ltA := bl hbx ltA
       replace cR0 := bc hbx ltR cR0
       replace fR0 := bf hbx ltR fR0
       replace cR1 := bc hbx ltR cR1
       replace fR1 := bf hbx ltR fR1
       replace cR2 := bc hbx ltR cR2
       replace fR2 := bf hbx ltR fR2
       replace ltR := bl hbx ltR
       replace cY0 := bc hbx ltY cY0
       replace cY1 := bc hbx ltY cY1
       replace cY2 := bc hbx ltY cY2
       replace ltY := bl hbx ltY
       replace HI := Lib.hid (HI.out.below hbx)
       replace HV7 := Lib.hid (HV7.out.below hbx)
       replace hB := hB.trans (hbx.mono hB.size)
       replace hP := hP.trans (hbx.mono hP.size)
       clear hbx
       generalize wr.drew = wwrd at *
       clear ef ec
       refine wpSched_geff rfl ?_ (fun K hK => ?_)
       · go_simp
       go_simp
       refine (ewhole_any (pj + fj) _ (by omega) (by omega)).mono ?_
       rintro e wa ⟨va, rfl, hv, hsz, hb⟩
       replace cA0 := bc hb ltA cA0
       replace cA1 := bc hb ltA cA1
       replace cA2 := bc hb ltA cA2
       replace ltA := bl hb ltA
       replace cR0 := bc hb ltR cR0
       replace fR0 := bf hb ltR fR0
       replace cR1 := bc hb ltR cR1
       replace fR1 := bf hb ltR fR1
       replace cR2 := bc hb ltR cR2
       replace fR2 := bf hb ltR fR2
       replace ltR := bl hb ltR
       replace cY0 := bc hb ltY cY0
       replace cY1 := bc hb ltY cY1
       replace cY2 := bc hb ltY cY2
       replace ltY := bl hb ltY
       replace HI := Lib.hid (HI.out.below hb)
       replace HV7 := Lib.hid (HV7.out.below hb)
       replace hM := hM.trans (hb.mono hM.size)
       replace hB := hB.trans (hb.mono hB.size)
       replace hP := hP.trans (hb.mono hP.size)
       have HVa := Lib.hid (hv.raw hsz)
       clear hv hsz
       clear hw
       clear hb
       refine hK _ _ ⟨⟨wa, hM⟩, rfl⟩ ?_
       clear hK K
       refine wpSched_geff rfl ?_ (fun K hK => ?_)
       · go_simp
       go_simp
       refine (qcmp_any _ _ ((pj + fj : Int) : Rat) q 2 (L + 2) _ HVa.out HV7.out (by omega) (by omega) (by omega)).mono ?_
       rintro e wb ⟨rfl, hb⟩
       replace cA0 := bc hb ltA cA0
       replace cA1 := bc hb ltA cA1
       replace cA2 := bc hb ltA cA2
       replace ltA := bl hb ltA
       replace cR0 := bc hb ltR cR0
       replace fR0 := bf hb ltR fR0
       replace cR1 := bc hb ltR cR1
       replace fR1 := bf hb ltR fR1
       replace cR2 := bc hb ltR cR2
       replace fR2 := bf hb ltR fR2
       replace ltR := bl hb ltR
       replace cY0 := bc hb ltY cY0
       replace cY1 := bc hb ltY cY1
       replace cY2 := bc hb ltY cY2
       replace ltY := bl hb ltY
       replace HI := Lib.hid (HI.out.below hb)
       replace HV7 := Lib.hid (HV7.out.below hb)
       replace HVa := Lib.hid (HVa.out.below hb)
       replace hM := hM.trans (hb.mono hM.size)
       replace hB := hB.trans (hb.mono hB.size)
       replace hP := hP.trans (hb.mono hP.size)
       have hcm := HC.out
       generalize rcmpI ((pj + fj : Int) : Rat) q = cm at *
       have dcm : decide (0 ≤ cm) = false := by simpa using hcm
       clear HC hcm
       clear hb
       refine hK _ _ ⟨⟨wb, hM⟩, rfl⟩ ?_
       clear hK K
       repeat (refine wpSched_calm rfl (fun K hK => ?_); go_simp; refine hK _ ?_; clear hK K)
       refine wpSched_nil ?_
       go_wp2_with fail
       go_roundw
       case rel => exact ⟨j + 1, by omega, by go_num, by rw [HNx.out], hP⟩
       case measure => simp [intOf]; omega
     · have d0 : decide (0 < fj) = false := by simpa using hf0
       have hf1 : fj = 0 := by omega
       subst hf1
       clear hM2
       go_wp2_with fail
       have eA0 := box_ext (B := wr.heap.size) cA0 ltA
       have eA1 := box_ext (B := wr.heap.size) cA1 ltA
       have eA2 := box_ext (B := wr.heap.size) cA2 ltA
       have eR0 := box_ext (B := wr.heap.size) cR0 ltR
       have eR1 := box_ext (B := wr.heap.size) cR1 ltR
       have eR2 := box_ext (B := wr.heap.size) cR2 ltR
       have eY0 := box_ext (B := wr.heap.size) cY0 ltY
       have eY1 := box_ext (B := wr.heap.size) cY1 ltY
       have eY2 := box_ext (B := wr.heap.size) cY2 ltY
       refine wp_region_sched [(0, false), (1, false), (2, false), (3, false), (4, false), (5, false), (7, false), (6, true), (8, true), (9, false), (10, false)] (fun w' => ∃ W : Ext wr.heap.size wr, w' = W.1) (by kernel_rfl) (by kernel_rfl) ⟨⟨wr.drew, (Below.refl _ _).drew⟩, rfl⟩ ?_
       repeat (refine wpSched_calm rfl (fun K hK => ?_); go_simp; refine hK _ ?_; clear hK K)
       clear eA0 eA1 eA2 eR0 eR1 eR2 eY0 eY1 eY2
       have hbx : Below wr.heap.size wr wr.drew := (Below.refl _ _).drew
       have hM := hbx
       replace cA0 := bc hbx ltA cA0
       replace cA1 := bc hbx ltA cA1
       replace cA2 := bc hbx ltA cA2
       replace ltA := bl hbx ltA
       replace cR0 := bc hbx ltR cR0
       replace fR0 := bf hbx ltR fR0
       replace cR1 := bc hbx ltR cR1
       replace fR1 := bf hbx ltR fR1
       replace cR2 := bc hbx ltR cR2
       replace fR2 := bf hbx ltR fR2
       replace ltR := bl hbx ltR
       replace cY0 := bc hbx ltY cY0
       replace cY1 := bc hbx ltY cY1
       replace cY2 := bc hbx ltY cY2
       replace ltY := bl hbx ltY
       replace HI := Lib.hid (HI.out.below hbx)
       replace HV7 := Lib.hid (HV7.out.below hbx)
       replace hB := hB.trans (hbx.mono hB.size)
       replace hP := hP.trans (hbx.mono hP.size)
       clear hbx
       generalize wr.drew = wwrd at *
       clear ef ec
       refine wpSched_skip rfl ?_ ⟨⟨wwrd, hM⟩, rfl⟩ ?_
       · go_simp
       go_simp
       refine wpSched_skip rfl ?_ ⟨⟨wwrd, hM⟩, rfl⟩ ?_
       · go_simp
       go_simp
       repeat (refine wpSched_calm rfl (fun K hK => ?_); go_simp; refine hK _ ?_; clear hK K)
       refine wpSched_nil ?_
       go_wp2_with fail
       go_roundw
       case rel => exact ⟨j + 1, by omega, by go_num, by rw [HNx.out, Int.add_zero], hP⟩
       case measure => simp [intOf]; omega
   · obtain rfl : j = k := by omega
     obtain ⟨bb, off, rfl, hbs, hcc⟩ := HI.out.2.at hkl
     have ec := hcc j hkl _ (Below.refl _ _)
     rw [HFk.out] at ec
     rw [HPk.out]
     have ef := box_ext (B := wr.heap.size) ec hbs
     clear hcc
     have d0 : decide (0 < fk) = true := by simpa using b7
     have HC := Lib.hid (cmpI_ge.2 HHit.out)
     have hw : IntKind.i64.wrap (pk + fk) = pk + fk := IntWalk.i64_in _ (by omega)
     go_wp2_with fail
     have eA0 := box_ext (B := wr.heap.size) cA0 ltA
     have eA1 := box_ext (B := wr.heap.size) cA1 ltA
     have eA2 := box_ext (B := wr.heap.size) cA2 ltA
     have eR0 := box_ext (B := wr.heap.size) cR0 ltR
     have eR1 := box_ext (B := wr.heap.size) cR1 ltR
     have eR2 := box_ext (B := wr.heap.size) cR2 ltR
     have eY0 := box_ext (B := wr.heap.size) cY0 ltY
     have eY1 := box_ext (B := wr.heap.size) cY1 ltY
     have eY2 := box_ext (B := wr.heap.size) cY2 ltY
     refine wp_region_sched [(0, false), (1, false), (2, false), (3, false), (4, false), (5, false), (7, false), (6, true), (8, true), (9, false), (10, false)] (fun w' => ∃ W : Ext wr.heap.size wr, w' = W.1) (by kernel_rfl) (by kernel_rfl) ⟨⟨wr.drew, (Below.refl _ _).drew⟩, rfl⟩ ?_
     repeat (refine wpSched_calm rfl (fun K hK => ?_); go_simp; refine hK _ ?_; clear hK K)
     clear eA0 eA1 eA2 eR0 eR1 eR2 eY0 eY1 eY2
     have hbx : Below wr.heap.size wr wr.drew := (Below.refl _ _).drew
     have hM := hbx
     replace cA0 := bc hbx ltA cA0
     replace cA1 := bc hbx ltA cA1
     replace cA2 := bc hbx ltA cA2
     replace ltA := bl hbx ltA
     replace cR0 := bc hbx ltR cR0
     replace fR0 := bf hbx ltR fR0
     replace cR1 := bc hbx ltR cR1
     replace fR1 := bf hbx ltR fR1
     replace cR2 := bc hbx ltR cR2
     replace fR2 := bf hbx ltR fR2
     replace ltR := bl hbx ltR
     replace cY0 := bc hbx ltY cY0
     replace cY1 := bc hbx ltY cY1
     replace cY2 := bc hbx ltY cY2
     replace ltY := bl hbx ltY
     replace HI := Lib.hid (HI.out.below hbx)
     replace HV7 := Lib.hid (HV7.out.below hbx)
     replace hB := hB.trans (hbx.mono hB.size)
     clear hbx
     generalize wr.drew = wwrd at *
     clear ef
     refine wpSched_geff rfl ?_ (fun K hK => ?_)
     · go_simp
     go_simp
     refine (ewhole_any (pk + fk) _ (by omega) (by omega)).mono ?_
     rintro e wa ⟨va, rfl, hv, hsz, hb⟩
     replace cA0 := bc hb ltA cA0
     replace cA1 := bc hb ltA cA1
     replace cA2 := bc hb ltA cA2
     replace ltA := bl hb ltA
     replace cR0 := bc hb ltR cR0
     replace fR0 := bf hb ltR fR0
     replace cR1 := bc hb ltR cR1
     replace fR1 := bf hb ltR fR1
     replace cR2 := bc hb ltR cR2
     replace fR2 := bf hb ltR fR2
     replace ltR := bl hb ltR
     replace cY0 := bc hb ltY cY0
     replace cY1 := bc hb ltY cY1
     replace cY2 := bc hb ltY cY2
     replace ltY := bl hb ltY
     replace HI := Lib.hid (HI.out.below hb)
     replace HV7 := Lib.hid (HV7.out.below hb)
     replace hM := hM.trans (hb.mono hM.size)
     replace hB := hB.trans (hb.mono hB.size)
     have HVa := Lib.hid (hv.raw hsz)
     clear hv hsz
     clear hw
     clear hb
     refine hK _ _ ⟨⟨wa, hM⟩, rfl⟩ ?_
     clear hK K
     refine wpSched_geff rfl ?_ (fun K hK => ?_)
     · go_simp
     go_simp
     refine (qcmp_any _ _ ((pk + fk : Int) : Rat) q 2 (L + 2) _ HVa.out HV7.out (by omega) (by omega) (by omega)).mono ?_
     rintro e wb ⟨rfl, hb⟩
     replace cA0 := bc hb ltA cA0
     replace cA1 := bc hb ltA cA1
     replace cA2 := bc hb ltA cA2
     replace ltA := bl hb ltA
     replace cR0 := bc hb ltR cR0
     replace fR0 := bf hb ltR fR0
     replace cR1 := bc hb ltR cR1
     replace fR1 := bf hb ltR fR1
     replace cR2 := bc hb ltR cR2
     replace fR2 := bf hb ltR fR2
     replace ltR := bl hb ltR
     replace cY0 := bc hb ltY cY0
     replace cY1 := bc hb ltY cY1
     replace cY2 := bc hb ltY cY2
     replace ltY := bl hb ltY
     replace HI := Lib.hid (HI.out.below hb)
     replace HV7 := Lib.hid (HV7.out.below hb)
     replace HVa := Lib.hid (HVa.out.below hb)
     replace hM := hM.trans (hb.mono hM.size)
     replace hB := hB.trans (hb.mono hB.size)
     have hcm := HC.out
     generalize rcmpI ((pk + fk : Int) : Rat) q = cm at *
     have dcm : decide (0 ≤ cm) = true := by simpa using hcm
     clear HC hcm
     clear hb
     refine hK _ _ ⟨⟨wb, hM⟩, rfl⟩ ?_
     clear hK K
     repeat (refine wpSched_calm rfl (fun K hK => ?_); go_simp; refine hK _ ?_; clear hK K)
     refine wpSched_nil ?_
     clear HVa
     go_wp2_with fail
     have SCA0 := Lib.hid cA0
     have SCA1 := Lib.hid cA1
     have SCA2 := Lib.hid cA2
     have SLA := Lib.hid ltA
     have SCR0 := Lib.hid cR0
     have SFR0 := Lib.hid fR0
     have SCR1 := Lib.hid cR1
     have SFR1 := Lib.hid fR1
     have SCR2 := Lib.hid cR2
     have SFR2 := Lib.hid fR2
     have SLR := Lib.hid ltR
     have SCY0 := Lib.hid cY0
     have SCY1 := Lib.hid cY1
     have SCY2 := Lib.hid cY2
     have SLY := Lib.hid ltY
     have SHI := Lib.hid HI.out
     have SHV7 := Lib.hid HV7.out
     have SB := Lib.hid hB
     have eA0 := box_ext (B := wb.heap.size) cA0 ltA
     have eA1 := box_ext (B := wb.heap.size) cA1 ltA
     have eA2 := box_ext (B := wb.heap.size) cA2 ltA
     have eR0 := box_ext (B := wb.heap.size) cR0 ltR
     have eR1 := box_ext (B := wb.heap.size) cR1 ltR
     have eR2 := box_ext (B := wb.heap.size) cR2 ltR
     have eY0 := box_ext (B := wb.heap.size) cY0 ltY
     have eY1 := box_ext (B := wb.heap.size) cY1 ltY
     have eY2 := box_ext (B := wb.heap.size) cY2 ltY
     refine wp_region_float 10 [(0, false), (1, false), (4, false), (2, true), (3, true), (5, true), (6, true), (7, false), (8, false), (9, false)] [(11, true), (12, false)] (fun w' => ∃ W : Ext wb.heap.size wb, w' = W.1) _ 11 (.cells #[.bool false, .slice none 0 0, .slice none 0 0] 28) wb.heap.size (by kernel_rfl) rfl rfl rfl (fun a w => by simp [execOp, go_sem]) (fun w ⟨W, e⟩ => e ▸ W.2.size) (fun w ⟨W, e⟩ => ⟨⟨_, (e ▸ W.2).alloc (e ▸ W.2.size) _⟩, rfl⟩) (by kernel_rfl) ⟨⟨wb.drew, (Below.refl _ _).drew⟩, rfl⟩ ?_
     repeat (refine wpFl_calm rfl (fun K hK => ?_); go_simp; refine hK _ ?_; clear hK K)
     clear eA0 eA1 eA2 eR0 eR1 eR2 eY0 eY1 eY2
     have hbx : Below wb.heap.size wb wb.drew := (Below.refl _ _).drew
     have hM := hbx
     replace cA0 := bc hbx ltA cA0
     replace cA1 := bc hbx ltA cA1
     replace cA2 := bc hbx ltA cA2
     replace ltA := bl hbx ltA
     replace cR0 := bc hbx ltR cR0
     replace fR0 := bf hbx ltR fR0
     replace cR1 := bc hbx ltR cR1
     replace fR1 := bf hbx ltR fR1
     replace cR2 := bc hbx ltR cR2
     replace fR2 := bf hbx ltR fR2
     replace ltR := bl hbx ltR
     replace cY0 := bc hbx ltY cY0
     replace cY1 := bc hbx ltY cY1
     replace cY2 := bc hbx ltY cY2
     replace ltY := bl hbx ltY
     replace HI := Lib.hid (HI.out.below hbx)
     replace HV7 := Lib.hid (HV7.out.below hbx)
     replace hB := hB.trans (hbx.mono hB.size)
     clear hbx
     generalize wb.drew = wwbd at *
     refine wpFl_eff rfl rfl (fun wy hC hg K hK => ?_)
     obtain ⟨⟨wz, hE⟩, hwe⟩ := hC
     change wy = wz at hwe
     subst hwe
     replace cA0 := bc hg ltA cA0
     replace cA1 := bc hg ltA cA1
     replace cA2 := bc hg ltA cA2
     replace ltA := bl hg ltA
     replace cR0 := bc hg ltR cR0
     replace fR0 := bf hg ltR fR0
     replace cR1 := bc hg ltR cR1
     replace fR1 := bf hg ltR fR1
     replace cR2 := bc hg ltR cR2
     replace fR2 := bf hg ltR fR2
     replace ltR := bl hg ltR
     replace cY0 := bc hg ltY cY0
     replace cY1 := bc hg ltY cY1
     replace cY2 := bc hg ltY cY2
     replace ltY := bl hg ltY
     replace HI := Lib.hid (HI.out.below hg)
     replace HV7 := Lib.hid (HV7.out.below hg)
     replace hB := hB.trans (hg.mono hB.size)
     replace hM := hE
     clear hE hg
     go_simp
     refine (ewhole_any pk _ (by omega) (by omega)).mono ?_
     rintro e wc ⟨vc, rfl, hv, hsz, hb⟩
     replace cA0 := bc hb ltA cA0
     replace cA1 := bc hb ltA cA1
     replace cA2 := bc hb ltA cA2
     replace ltA := bl hb ltA
     replace cR0 := bc hb ltR cR0
     replace fR0 := bf hb ltR fR0
     replace cR1 := bc hb ltR cR1
     replace fR1 := bf hb ltR fR1
     replace cR2 := bc hb ltR cR2
     replace fR2 := bf hb ltR fR2
     replace ltR := bl hb ltR
     replace cY0 := bc hb ltY cY0
     replace cY1 := bc hb ltY cY1
     replace cY2 := bc hb ltY cY2
     replace ltY := bl hb ltY
     replace HI := Lib.hid (HI.out.below hb)
     replace HV7 := Lib.hid (HV7.out.below hb)
     replace hM := hM.trans (hb.mono hM.size)
     replace hB := hB.trans (hb.mono hB.size)
     have HVc := Lib.hid (hv.raw hsz)
     clear hv hsz
     refine hK _ _ ⟨⟨wc, hM⟩, rfl⟩ hb ?_
     clear hK K hb
     refine wpFl_eff rfl rfl (fun wy hC hg K hK => ?_)
     obtain ⟨⟨wz, hE⟩, hwe⟩ := hC
     change wy = wz at hwe
     subst hwe
     replace cA0 := bc hg ltA cA0
     replace cA1 := bc hg ltA cA1
     replace cA2 := bc hg ltA cA2
     replace ltA := bl hg ltA
     replace cR0 := bc hg ltR cR0
     replace fR0 := bf hg ltR fR0
     replace cR1 := bc hg ltR cR1
     replace fR1 := bf hg ltR fR1
     replace cR2 := bc hg ltR cR2
     replace fR2 := bf hg ltR fR2
     replace ltR := bl hg ltR
     replace cY0 := bc hg ltY cY0
     replace cY1 := bc hg ltY cY1
     replace cY2 := bc hg ltY cY2
     replace ltY := bl hg ltY
     replace HI := Lib.hid (HI.out.below hg)
     replace HV7 := Lib.hid (HV7.out.below hg)
     replace HVc := Lib.hid (HVc.out.below hg)
     replace hB := hB.trans (hg.mono hB.size)
     replace hM := hE
     clear hE hg
     go_simp
     refine (qsub_any _ _ q (pk : Rat) (L + 2) 2 _ HV7.out HVc.out (by omega) (by omega) (by omega)).mono ?_
     rintro e we ⟨ve, rfl, hv, hsz, hb⟩
     replace cA0 := bc hb ltA cA0
     replace cA1 := bc hb ltA cA1
     replace cA2 := bc hb ltA cA2
     replace ltA := bl hb ltA
     replace cR0 := bc hb ltR cR0
     replace fR0 := bf hb ltR fR0
     replace cR1 := bc hb ltR cR1
     replace fR1 := bf hb ltR fR1
     replace cR2 := bc hb ltR cR2
     replace fR2 := bf hb ltR fR2
     replace ltR := bl hb ltR
     replace cY0 := bc hb ltY cY0
     replace cY1 := bc hb ltY cY1
     replace cY2 := bc hb ltY cY2
     replace ltY := bl hb ltY
     replace HI := Lib.hid (HI.out.below hb)
     replace HV7 := Lib.hid (HV7.out.below hb)
     replace HVc := Lib.hid (HVc.out.below hb)
     replace hM := hM.trans (hb.mono hM.size)
     replace hB := hB.trans (hb.mono hB.size)
     have HVe := Lib.hid (hv.raw hsz)
     clear hv hsz
     refine hK _ _ ⟨⟨we, hM⟩, rfl⟩ hb ?_
     clear hK K hb
     refine wpFl_eff rfl rfl (fun wy hC hg K hK => ?_)
     obtain ⟨⟨wz, hE⟩, hwe⟩ := hC
     change wy = wz at hwe
     subst hwe
     replace cA0 := bc hg ltA cA0
     replace cA1 := bc hg ltA cA1
     replace cA2 := bc hg ltA cA2
     replace ltA := bl hg ltA
     replace cR0 := bc hg ltR cR0
     replace fR0 := bf hg ltR fR0
     replace cR1 := bc hg ltR cR1
     replace fR1 := bf hg ltR fR1
     replace cR2 := bc hg ltR cR2
     replace fR2 := bf hg ltR fR2
     replace ltR := bl hg ltR
     replace cY0 := bc hg ltY cY0
     replace cY1 := bc hg ltY cY1
     replace cY2 := bc hg ltY cY2
     replace ltY := bl hg ltY
     replace HI := Lib.hid (HI.out.below hg)
     replace HV7 := Lib.hid (HV7.out.below hg)
     replace HVc := Lib.hid (HVc.out.below hg)
     replace HVe := Lib.hid (HVe.out.below hg)
     replace hB := hB.trans (hg.mono hB.size)
     replace hM := hE
     clear hE hg
     go_simp
     refine (ewhole_any fk _ (by omega) (by omega)).mono ?_
     rintro e wg ⟨vg, rfl, hv, hsz, hb⟩
     replace cA0 := bc hb ltA cA0
     replace cA1 := bc hb ltA cA1
     replace cA2 := bc hb ltA cA2
     replace ltA := bl hb ltA
     replace cR0 := bc hb ltR cR0
     replace fR0 := bf hb ltR fR0
     replace cR1 := bc hb ltR cR1
     replace fR1 := bf hb ltR fR1
     replace cR2 := bc hb ltR cR2
     replace fR2 := bf hb ltR fR2
     replace ltR := bl hb ltR
     replace cY0 := bc hb ltY cY0
     replace cY1 := bc hb ltY cY1
     replace cY2 := bc hb ltY cY2
     replace ltY := bl hb ltY
     replace HI := Lib.hid (HI.out.below hb)
     replace HV7 := Lib.hid (HV7.out.below hb)
     replace HVc := Lib.hid (HVc.out.below hb)
     replace HVe := Lib.hid (HVe.out.below hb)
     replace hM := hM.trans (hb.mono hM.size)
     replace hB := hB.trans (hb.mono hB.size)
     have HVg := Lib.hid (hv.raw hsz)
     clear hv hsz
     refine hK _ _ ⟨⟨wg, hM⟩, rfl⟩ hb ?_
     clear hK K hb
     refine wpFl_eff rfl rfl (fun wy hC hg K hK => ?_)
     obtain ⟨⟨wz, hE⟩, hwe⟩ := hC
     change wy = wz at hwe
     subst hwe
     replace cA0 := bc hg ltA cA0
     replace cA1 := bc hg ltA cA1
     replace cA2 := bc hg ltA cA2
     replace ltA := bl hg ltA
     replace cR0 := bc hg ltR cR0
     replace fR0 := bf hg ltR fR0
     replace cR1 := bc hg ltR cR1
     replace fR1 := bf hg ltR fR1
     replace cR2 := bc hg ltR cR2
     replace fR2 := bf hg ltR fR2
     replace ltR := bl hg ltR
     replace cY0 := bc hg ltY cY0
     replace cY1 := bc hg ltY cY1
     replace cY2 := bc hg ltY cY2
     replace ltY := bl hg ltY
     replace HI := Lib.hid (HI.out.below hg)
     replace HV7 := Lib.hid (HV7.out.below hg)
     replace HVc := Lib.hid (HVc.out.below hg)
     replace HVe := Lib.hid (HVe.out.below hg)
     replace HVg := Lib.hid (HVg.out.below hg)
     replace hB := hB.trans (hg.mono hB.size)
     replace hM := hE
     clear hE hg
     go_simp
     refine (qdiv_any _ _ (q - (pk : Rat)) (fk : Rat) (L + 2 + 2 + 1) 2 _ HVe.out HVg.out HFn.out (by omega) (by omega) (by omega)).mono ?_
     rintro e wh ⟨vh, rfl, hv, hsz, hb⟩
     replace cA0 := bc hb ltA cA0
     replace cA1 := bc hb ltA cA1
     replace cA2 := bc hb ltA cA2
     replace ltA := bl hb ltA
     replace cR0 := bc hb ltR cR0
     replace fR0 := bf hb ltR fR0
     replace cR1 := bc hb ltR cR1
     replace fR1 := bf hb ltR fR1
     replace cR2 := bc hb ltR cR2
     replace fR2 := bf hb ltR fR2
     replace ltR := bl hb ltR
     replace cY0 := bc hb ltY cY0
     replace cY1 := bc hb ltY cY1
     replace cY2 := bc hb ltY cY2
     replace ltY := bl hb ltY
     replace HI := Lib.hid (HI.out.below hb)
     replace HV7 := Lib.hid (HV7.out.below hb)
     replace HVc := Lib.hid (HVc.out.below hb)
     replace HVe := Lib.hid (HVe.out.below hb)
     replace HVg := Lib.hid (HVg.out.below hb)
     replace hM := hM.trans (hb.mono hM.size)
     replace hB := hB.trans (hb.mono hB.size)
     have HVh := Lib.hid (hv.raw hsz)
     obtain ⟨ph', mh', qh', ph, mh, qh, rfl, -, -, -, -⟩ := hv
     clear hsz
     generalize decide (((q - (pk : Rat)) / (fk : Rat) : Rat).num < 0) = dh at *
     refine hK _ _ ⟨⟨wh, hM⟩, rfl⟩ hb ?_
     clear hK K hb
     clear HVc HVe HVg HV7
     repeat (refine wpFl_calm rfl (fun K hK => ?_); go_simp; refine hK _ ?_; clear hK K)
     refine wpFl_nil fun gZ wy hC hg hBk hge => ?_
     obtain ⟨⟨wz, hE⟩, hwe⟩ := hC
     change wy = wz at hwe
     subst hwe
     replace cA0 := bc hg ltA cA0
     replace cA1 := bc hg ltA cA1
     replace cA2 := bc hg ltA cA2
     replace ltA := bl hg ltA
     replace cR0 := bc hg ltR cR0
     replace fR0 := bf hg ltR fR0
     replace cR1 := bc hg ltR cR1
     replace fR1 := bf hg ltR fR1
     replace cR2 := bc hg ltR cR2
     replace fR2 := bf hg ltR fR2
     replace ltR := bl hg ltR
     replace cY0 := bc hg ltY cY0
     replace cY1 := bc hg ltY cY1
     replace cY2 := bc hg ltY cY2
     replace ltY := bl hg ltY
     replace HI := Lib.hid (HI.out.below hg)
     replace HVh := Lib.hid (HVh.out.below hg)
     replace hB := hB.trans (hg.mono hB.size)
     replace hM := hE
     clear hE hg
     have z0 := blk_cell hBk 0
     have y0 := blk_free hBk 0
     have z1 := blk_cell hBk 1
     have y1 := blk_free hBk 1
     have z2 := blk_cell hBk 2
     have y2 := blk_free hBk 2
     simp at z0 z1 z2
     have hgl := blk_lt hBk
     refine wpSched_eff rfl rfl (fun K hK => ?_)
     go_simp
     refine hK _ _ ⟨⟨_, (((hM.setCell (p := ⟨gZ, 0, none⟩) hge _).setCell (p := ⟨gZ, 1, none⟩) hge _).setCell (p := ⟨gZ, 2, none⟩) hge _)⟩, rfl⟩ ?_
     clear hK K
     repeat (refine wpSched_calm rfl (fun K hK => ?_); go_simp; refine hK _ ?_; clear hK K)
     refine wpSched_nil ?_
     have hMn := (((hM.setCell (p := ⟨gZ, 0, none⟩) hge (.bool dh)).setCell (p := ⟨gZ, 1, none⟩) hge (.slice ph' mh' qh')).setCell (p := ⟨gZ, 2, none⟩) hge (.slice ph mh qh))
     replace HVh := Lib.hid (HVh.out.off hBk zRat_no (.bool dh) (.slice ph' mh' qh') (.slice ph mh qh))
     replace cA0 := bc hMn SLA.out SCA0.out
     replace cA1 := bc hMn SLA.out SCA1.out
     replace cA2 := bc hMn SLA.out SCA2.out
     replace ltA := bl hMn SLA.out
     replace cR0 := bc hMn SLR.out SCR0.out
     replace fR0 := bf hMn SLR.out SFR0.out
     replace cR1 := bc hMn SLR.out SCR1.out
     replace fR1 := bf hMn SLR.out SFR1.out
     replace cR2 := bc hMn SLR.out SCR2.out
     replace fR2 := bf hMn SLR.out SFR2.out
     replace ltR := bl hMn SLR.out
     replace cY0 := bc hMn SLY.out SCY0.out
     replace cY1 := bc hMn SLY.out SCY1.out
     replace cY2 := bc hMn SLY.out SCY2.out
     replace ltY := bl hMn SLY.out
     replace HI := Lib.hid (SHI.out.below hMn)
     replace HV7 := Lib.hid (SHV7.out.below hMn)
     replace hB := SB.out.trans (hMn.mono SB.out.size)
     have cZ0 : (((wy.setCell ⟨gZ, 0, none⟩ (.bool dh)).setCell ⟨gZ, 1, none⟩ (.slice ph' mh' qh')).setCell ⟨gZ, 2, none⟩ (.slice ph mh qh)).cell? ⟨gZ, 0, none⟩ = some (.bool dh) := by go_simp
     have cZ1 : (((wy.setCell ⟨gZ, 0, none⟩ (.bool dh)).setCell ⟨gZ, 1, none⟩ (.slice ph' mh' qh')).setCell ⟨gZ, 2, none⟩ (.slice ph mh qh)).cell? ⟨gZ, 1, none⟩ = some (.slice ph' mh' qh') := by go_simp
     have cZ2 : (((wy.setCell ⟨gZ, 0, none⟩ (.bool dh)).setCell ⟨gZ, 1, none⟩ (.slice ph' mh' qh')).setCell ⟨gZ, 2, none⟩ (.slice ph mh qh)).cell? ⟨gZ, 2, none⟩ = some (.slice ph mh qh) := by go_simp
     have ltZ : gZ < (((wy.setCell ⟨gZ, 0, none⟩ (.bool dh)).setCell ⟨gZ, 1, none⟩ (.slice ph' mh' qh')).setCell ⟨gZ, 2, none⟩ (.slice ph mh qh)).heap.size := by simpa using hgl
     have neZA : w.heap.size < gZ := Nat.lt_of_lt_of_le SLA.out hge
     have neZR : w.heap.size + 1 < gZ := Nat.lt_of_lt_of_le SLR.out hge
     have neZY : gY < gZ := Nat.lt_of_lt_of_le SLY.out hge
     clear SCA0 SCA1 SCA2 SLA SCR0 SFR0 SCR1 SFR1 SCR2 SFR2 SLR SCY0 SCY1 SCY2 SLY SHI SHV7 SB
     clear hMn hM hBk hgl z0 y0 z1 y1 z2 y2
     go_wp2_with fail
     generalize (((wy.setCell ⟨gZ, 0, none⟩ (.bool dh)).setCell ⟨gZ, 1, none⟩ (.slice ph' mh' qh')).setCell ⟨gZ, 2, none⟩ (.slice ph mh qh)) = wi at *
     have eA0 := Gr.cell (R := w.heap.size + 1) (R2 := w.heap.size + 1) cA0 ltA (by omega) (by omega)
     have eA1 := Gr.cell (R := w.heap.size + 1) (R2 := w.heap.size + 1) cA1 ltA (by omega) (by omega)
     have eA2 := Gr.cell (R := w.heap.size + 1) (R2 := w.heap.size + 1) cA2 ltA (by omega) (by omega)
     have eY0 := Gr.cell (R := w.heap.size + 1) (R2 := w.heap.size + 1) cY0 ltY (by omega) (by omega)
     have eY1 := Gr.cell (R := w.heap.size + 1) (R2 := w.heap.size + 1) cY1 ltY (by omega) (by omega)
     have eY2 := Gr.cell (R := w.heap.size + 1) (R2 := w.heap.size + 1) cY2 ltY (by omega) (by omega)
     have eZ0 := Gr.cell (R := w.heap.size + 1) (R2 := w.heap.size + 1) cZ0 ltZ (by omega) (by omega)
     have eZ1 := Gr.cell (R := w.heap.size + 1) (R2 := w.heap.size + 1) cZ1 ltZ (by omega) (by omega)
     have eZ2 := Gr.cell (R := w.heap.size + 1) (R2 := w.heap.size + 1) cZ2 ltZ (by omega) (by omega)
     refine wp_region_sched [(0, false), (4, false), (1, true), (2, true), (3, true), (5, true), (6, true), (7, false)] (fun w' => ∃ W : Gr (w.heap.size + 1) (w.heap.size + 1) wi, w' = W.1) (by kernel_rfl) (by kernel_rfl) ⟨⟨wi.drew, below_grown (Below.refl _ _).drew⟩, rfl⟩ ?_
     repeat (refine wpSched_calm rfl (fun K hK => ?_); go_simp; refine hK _ ?_; clear hK K)
     clear eA0 eA1 eA2 eY0 eY1 eY2 eZ0 eZ1 eZ2
     have hbx : Below wi.heap.size wi wi.drew := (Below.refl _ _).drew
     have hM := below_grown (R := w.heap.size + 1) (R2 := w.heap.size + 1) hbx
     replace cA0 := bc hbx ltA cA0
     replace cA1 := bc hbx ltA cA1
     replace cA2 := bc hbx ltA cA2
     replace ltA := bl hbx ltA
     replace cR0 := bc hbx ltR cR0
     replace fR0 := bf hbx ltR fR0
     replace cR1 := bc hbx ltR cR1
     replace fR1 := bf hbx ltR fR1
     replace cR2 := bc hbx ltR cR2
     replace fR2 := bf hbx ltR fR2
     replace ltR := bl hbx ltR
     replace cY0 := bc hbx ltY cY0
     replace cY1 := bc hbx ltY cY1
     replace cY2 := bc hbx ltY cY2
     replace ltY := bl hbx ltY
     replace cZ0 := bc hbx ltZ cZ0
     replace cZ1 := bc hbx ltZ cZ1
     replace cZ2 := bc hbx ltZ cZ2
     replace ltZ := bl hbx ltZ
     replace HI := Lib.hid (HI.out.below hbx)
     replace HVh := Lib.hid (HVh.out.below hbx)
     replace hB := hB.trans (hbx.mono hB.size)
     clear hbx
     generalize wi.drew = wwid at *
     refine wpSched_eff rfl rfl (fun K hK => ?_)
     go_simp
     refine (ewhole_any (j : Int) _ (by omega) (by omega)).mono ?_
     rintro e wk ⟨vk, rfl, hv, hsz, hb⟩
     replace cA0 := bc hb ltA cA0
     replace cA1 := bc hb ltA cA1
     replace cA2 := bc hb ltA cA2
     replace ltA := bl hb ltA
     replace cR0 := bc hb ltR cR0
     replace fR0 := bf hb ltR fR0
     replace cR1 := bc hb ltR cR1
     replace fR1 := bf hb ltR fR1
     replace cR2 := bc hb ltR cR2
     replace fR2 := bf hb ltR fR2
     replace ltR := bl hb ltR
     replace cY0 := bc hb ltY cY0
     replace cY1 := bc hb ltY cY1
     replace cY2 := bc hb ltY cY2
     replace ltY := bl hb ltY
     replace cZ0 := bc hb ltZ cZ0
     replace cZ1 := bc hb ltZ cZ1
     replace cZ2 := bc hb ltZ cZ2
     replace ltZ := bl hb ltZ
     replace HI := Lib.hid (HI.out.below hb)
     replace HVh := Lib.hid (HVh.out.below hb)
     replace hM := grown_below hM hb
     replace hB := hB.trans (hb.mono hB.size)
     have HVk := Lib.hid (hv.raw hsz)
     clear hv hsz
     clear hb
     refine hK _ _ ⟨⟨wk, hM⟩, rfl⟩ ?_
     clear hK K
     refine wpSched_eff rfl rfl (fun K hK => ?_)
     go_simp
     refine (ehalf_any _).mono ?_
     rintro e wl ⟨vl, rfl, hv, hsz, hb⟩
     replace cA0 := bc hb ltA cA0
     replace cA1 := bc hb ltA cA1
     replace cA2 := bc hb ltA cA2
     replace ltA := bl hb ltA
     replace cR0 := bc hb ltR cR0
     replace fR0 := bf hb ltR fR0
     replace cR1 := bc hb ltR cR1
     replace fR1 := bf hb ltR fR1
     replace cR2 := bc hb ltR cR2
     replace fR2 := bf hb ltR fR2
     replace ltR := bl hb ltR
     replace cY0 := bc hb ltY cY0
     replace cY1 := bc hb ltY cY1
     replace cY2 := bc hb ltY cY2
     replace ltY := bl hb ltY
     replace cZ0 := bc hb ltZ cZ0
     replace cZ1 := bc hb ltZ cZ1
     replace cZ2 := bc hb ltZ cZ2
     replace ltZ := bl hb ltZ
     replace HI := Lib.hid (HI.out.below hb)
     replace HVh := Lib.hid (HVh.out.below hb)
     replace HVk := Lib.hid (HVk.out.below hb)
     replace hM := grown_below hM hb
     replace hB := hB.trans (hb.mono hB.size)
     have HVl := Lib.hid (hv.raw hsz)
     clear hv hsz
     clear hb
     refine hK _ _ ⟨⟨wl, hM⟩, rfl⟩ ?_
     clear hK K
     refine wpSched_eff rfl rfl (fun K hK => ?_)
     go_simp
     refine (qsub_any _ _ ((j : Int) : Rat) (1/2) 2 2 _ HVk.out HVl.out (by omega) (by omega) (by omega)).mono ?_
     rintro e wm ⟨vm, rfl, hv, hsz, hb⟩
     replace cA0 := bc hb ltA cA0
     replace cA1 := bc hb ltA cA1
     replace cA2 := bc hb ltA cA2
     replace ltA := bl hb ltA
     replace cR0 := bc hb ltR cR0
     replace fR0 := bf hb ltR fR0
     replace cR1 := bc hb ltR cR1
     replace fR1 := bf hb ltR fR1
     replace cR2 := bc hb ltR cR2
     replace fR2 := bf hb ltR fR2
     replace ltR := bl hb ltR
     replace cY0 := bc hb ltY cY0
     replace cY1 := bc hb ltY cY1
     replace cY2 := bc hb ltY cY2
     replace ltY := bl hb ltY
     replace cZ0 := bc hb ltZ cZ0
     replace cZ1 := bc hb ltZ cZ1
     replace cZ2 := bc hb ltZ cZ2
     replace ltZ := bl hb ltZ
     replace HI := Lib.hid (HI.out.below hb)
     replace HVh := Lib.hid (HVh.out.below hb)
     replace HVk := Lib.hid (HVk.out.below hb)
     replace HVl := Lib.hid (HVl.out.below hb)
     replace hM := grown_below hM hb
     replace hB := hB.trans (hb.mono hB.size)
     have HVm := Lib.hid (hv.raw hsz)
     clear hv hsz
     clear hb
     refine hK _ _ ⟨⟨wm, hM⟩, rfl⟩ ?_
     clear hK K
     have hs1 := ltR
     refine wpSched_eff rfl rfl (fun K hK => ?_)
     go_simp
     refine (qadd_any _ _ (((j : Int) : Rat) - 1/2) ((q - (pk : Rat)) / (fk : Rat)) (2 + 2 + 1) (L + 2 + 2 + 1 + 2) _ HVm.out HVh.out (by omega) (by omega) (by omega)).mono ?_
     rintro e wn ⟨vn, rfl, hv, hsz, hb⟩
     replace cA0 := bc hb ltA cA0
     replace cA1 := bc hb ltA cA1
     replace cA2 := bc hb ltA cA2
     replace ltA := bl hb ltA
     replace cR0 := bc hb ltR cR0
     replace fR0 := bf hb ltR fR0
     replace cR1 := bc hb ltR cR1
     replace fR1 := bf hb ltR fR1
     replace cR2 := bc hb ltR cR2
     replace fR2 := bf hb ltR fR2
     replace ltR := bl hb ltR
     replace cY0 := bc hb ltY cY0
     replace cY1 := bc hb ltY cY1
     replace cY2 := bc hb ltY cY2
     replace ltY := bl hb ltY
     replace cZ0 := bc hb ltZ cZ0
     replace cZ1 := bc hb ltZ cZ1
     replace cZ2 := bc hb ltZ cZ2
     replace ltZ := bl hb ltZ
     replace HI := Lib.hid (HI.out.below hb)
     replace HVh := Lib.hid (HVh.out.below hb)
     replace HVk := Lib.hid (HVk.out.below hb)
     replace HVl := Lib.hid (HVl.out.below hb)
     replace HVm := Lib.hid (HVm.out.below hb)
     replace hM := grown_below hM hb
     replace hB := hB.trans (hb.mono hB.size)
     have HZn := Lib.hid (hsz.mono (show 2 + 2 + 1 + (L + 2 + 2 + 1 + 2) + 1 ≤ L + 13 by omega))
     clear hsz
     obtain ⟨pn', mn', qn', pn, mn, qn, rfl, h1, h2, h3, h4⟩ := hv
     have HFin := Lib.hid (rat_store (B := wm.heap.size) (B' := w.heap.size) (g := w.heap.size + 1) (r := ((((j : Int) : Rat) - 1/2) + (q - (pk : Rat)) / (fk : Rat))) ⟨pn', mn', qn', pn, mn, qn, rfl, h1, h2, h3, h4⟩ hs1 (by omega))
     clear h1 h2 h3 h4
     generalize decide ((((((j : Int) : Rat) - 1/2) + (q - (pk : Rat)) / (fk : Rat)) : Rat).num < 0) = dn at *
     clear hb
     refine hK _ _ ⟨⟨wn, hM⟩, rfl⟩ ?_
     clear hK K
     refine wpSched_eff rfl rfl (fun K hK => ?_)
     go_simp
     refine hK _ _ ⟨⟨_, grown_set (grown_set (grown_set hM 0 _) 1 _) 2 _⟩, rfl⟩ ?_
     clear hK K
     repeat (refine wpSched_calm rfl (fun K hK => ?_); go_simp; refine hK _ ?_; clear hK K)
     refine wpSched_nil ?_
     go_wp2_with fail
     exact bodyPost_ret (v := .tuple #[.agg #[.bool dn, .slice pn' mn' qn', .slice pn mn qn], .int .i64 0]) (by simp [results, Tryz.results8, go_sem, cR0, cR1, cR2]) rfl ⟨_, rfl, (by rw [HQ.out]; exact HFin.out), (by rw [HQ.out]; exact HZn.out), ((hB.setCell (p := ⟨w.heap.size + 1, 0, none⟩) (by simp) _).setCell (p := ⟨w.heap.size + 1, 1, none⟩) (by simp) _).setCell (p := ⟨w.heap.size + 1, 2, none⟩) (by simp) _⟩
theorem einv_any (f : List Int) (a : Option Addr) (len cap : Nat) (v : Value) (p : Rat) (L : Nat) (w : World) (hI : Ints w a len cap f) (hv : RatV w v p L) (hL : 1 ≤ L) (hm : (L + 40) * 4 ≤ 140737488355328) (hO : OkF f) (hp : 0 ≤ p) (hp1 : p ≤ 1) :
   Calls Tryz.prog 8 #[.slice a len cap, v] w fun e w' => ∃ v, e = .returned (.tuple #[v, .int .i64 0]) ∧ RatN w.heap.size w' v (invR f (p * (f.sum : Rat))) ∧ Rsz (invR f (p * (f.sum : Rat))) (L + 13) ∧ Below w.heap.size w w' := by
 have hs := cast_lt hO.pos
 have e0 : ((0 : Int) : Rat) = 0 := rfl
 have hq : p * (f.sum : Rat) ≤ (f.sum : Rat) := by
   have := Rat.mul_le_mul_of_nonneg_right hp1 (show (0 : Rat) ≤ (f.sum : Rat) by grind)
   grind
 obtain ⟨k, hk⟩ := inv_ex hO.nn hO.2.2 hq
 rw [invR_eq hk]
 have := einv_in f a len cap v p L w hI hv hL hm hO k (by grind) (by grind) hk
 rw [Rat.intCast_natCast] at this
 exact this
end Go.Proofs.YtahmndacoanfiaaGreat
namespace Go.Proofs.YtahmndacoanfiaaGreat
set_option maxRecDepth 100000
open Go.ChangeShapes Go.WideShapes Go.ChangeAt Go.RowKit
theorem RatV.form {w : World} {v : Value} {r : Rat} {L : Nat} (h : RatV w v r L) : ∃ b a' l' c' a l c, v = .agg #[.bool b, .slice a' l' c', .slice a l c] ∧ l' ≤ 9223372036854775807 ∧ l ≤ 9223372036854775807 := by
 obtain ⟨p, q, ⟨neg, x', m', k', xs, x, m, k, ys, rfl, hx, hp, hlx, hy, hq, hly⟩, hpq⟩ := h
 have h1 := hx.2.2.1
 have h2 := hx.2.2.2.1
 have h3 := hy.2.2.1
 have h4 := hy.2.2.2.1
 unfold maxLen at h2 h4
 exact ⟨neg, x', m', k', x, m, k, rfl, by omega, by omega⟩
def RatAt (w : World) (b off : Nat) (r : Rat) (L : Nat) : Prop := ∃ n a' l' c' a l c, w.cell? ⟨b, off, none⟩ = some (.bool n) ∧ w.cell? ⟨b, off + 1, none⟩ = some (.slice a' l' c') ∧ w.cell? ⟨b, off + 2, none⟩ = some (.slice a l c) ∧ RatV w (.agg #[.bool n, .slice a' l' c', .slice a l c]) r L
def Rats (w : World) (a : Option Addr) (len cap : Nat) (rs : List Rat) (L : Nat) : Prop :=
 rs.length = len ∧ len ≤ cap ∧ cap ≤ maxLen ∧ (len = 0 ∨ ∃ b off, a = some ⟨b, off, none⟩ ∧ b < w.heap.size ∧ ∀ i, i < len → RatAt w b (off + i * 3) (rs.getD i 0) L)
theorem RatAt.below {w w' : World} {b off : Nat} {r : Rat} {L : Nat} (h : RatAt w b off r L) (hlt : b < w.heap.size) (hb : Below w.heap.size w w') : RatAt w' b off r L := by
 obtain ⟨n, a', l', c', a, l, c, h0, h1, h2, h3⟩ := h
 exact ⟨n, a', l', c', a, l, c, by rw [hb.cell (p := ⟨b, off, none⟩) hlt]; exact h0, by rw [hb.cell (p := ⟨b, off + 1, none⟩) hlt]; exact h1, by rw [hb.cell (p := ⟨b, off + 2, none⟩) hlt]; exact h2, h3.below hb⟩
theorem Rats.below {w w' : World} {a : Option Addr} {len cap : Nat} {rs : List Rat} {L : Nat} (h : Rats w a len cap rs L) (hb : Below w.heap.size w w') : Rats w' a len cap rs L := by
 obtain ⟨h1, h2, h3, h4⟩ := h
 refine ⟨h1, h2, h3, ?_⟩
 rcases h4 with h4 | ⟨b, off, rfl, hlt, hc⟩
 · exact .inl h4
 · exact .inr ⟨b, off, rfl, Nat.lt_of_lt_of_le hlt hb.size, fun i hi => (hc i hi).below hlt hb⟩
theorem Rats.at {w : World} {a : Option Addr} {len cap : Nat} {rs : List Rat} {L : Nat} (h : Rats w a len cap rs L) {k : Nat} (hk : k < len) :
   ∃ b off, a = some ⟨b, off, none⟩ ∧ b < w.heap.size ∧ ∀ i, i < len → RatAt w b (off + i * 3) (rs.getD i 0) L := by
 rcases h.2.2.2 with h | ⟨b, off, rfl, hlt, hc⟩
 · omega
 · exact ⟨b, off, rfl, hlt, hc⟩
section
variable {H : Type} {enc : TypeId × Value → H} {W : World}
end
end Go.Proofs.YtahmndacoanfiaaGreat
namespace Go.Proofs.YtahmndacoanfiaaGreat
set_option maxRecDepth 100000
open Go.RowKit
abbrev OwnsK (w : World) (B : Nat) (e : TypeId) (k : Nat) (v : Value) (n : Nat) (cs : List Value) : Prop := w.ownsRow B e k v n cs
theorem OwnsK.nil (w : World) (B : Nat) (e : TypeId) (k : Nat) : OwnsK w B e k (.slice none 0 0) 0 [] := World.ownsRow_nil w B e k
theorem OwnsK.lt {w : World} {B : Nat} {e : TypeId} {k : Nat} {v : Value} {n : Nat} {cs : List Value} (h : OwnsK w B e k v n cs) : ∀ j, v.ownBlock = some j → B ≤ j := fun j hj => (World.ownsRow.lt h j hj).1
theorem OwnsK.in {w : World} {B : Nat} {e : TypeId} {k : Nat} {v : Value} {n : Nat} {cs : List Value} (h : OwnsK w B e k v n cs) : ∀ j, v.ownBlock = some j → j < w.heap.size := fun j hj => (World.ownsRow.lt h j hj).2
theorem OwnsK.later {w w' : World} {B : Nat} {e : TypeId} {k : Nat} {v : Value} {n : Nat} {cs : List Value} (h : OwnsK w B e k v n cs) (hb : Below w.heap.size w w') : OwnsK w' B e k v n cs := by
 refine ⟨h.1, ?_⟩
 rcases h.2 with h2 | ⟨g, cap, cur, hv, hg, hh, r⟩
 · exact .inl h2
 · refine .inr ⟨g, cap, cur, hv, hg, ?_, r⟩
   rw [hb.block g (by rcases Nat.lt_or_ge g w.heap.size with h' | h'; exact h'; rw [Array.getElem?_eq_none h'] at hh; cases hh)]; exact hh
theorem OwnsK.mono {w : World} {B B' : Nat} {e : TypeId} {k : Nat} {v : Value} {n : Nat} {cs : List Value} (h : OwnsK w B e k v n cs) (hB : B' ≤ B) : OwnsK w B' e k v n cs := by
 refine ⟨h.1, ?_⟩
 rcases h.2 with h2 | ⟨g, cap, cur, hv, hg, hh, r⟩
 · exact .inl h2
 · exact .inr ⟨g, cap, cur, hv, by omega, hh, r⟩
theorem OwnsK.keep {w w' : World} {B C : Nat} {e : TypeId} {k : Nat} {v : Value} {n : Nat} {cs : List Value} (h : OwnsK w B e k v n cs) (hb : Below C w w') (hC : ∀ j, v.ownBlock = some j → j < C) : OwnsK w' B e k v n cs := by
 refine ⟨h.1, ?_⟩
 rcases h.2 with h2 | ⟨g, cap, cur, hv, hg, hh, r⟩
 · exact .inl h2
 · refine .inr ⟨g, cap, cur, hv, hg, ?_, r⟩
   rw [hb.block g (hC g (by rw [hv]; rfl))]; exact hh
theorem OwnsK.form {w : World} {B : Nat} {e : TypeId} {k : Nat} {v : Value} {n : Nat} {cs : List Value} (h : OwnsK w B e k v n cs) :
   (v = .slice none 0 0 ∧ n = 0 ∧ cs = []) ∨ ∃ g cap, v = .slice (some ⟨g, 0, none⟩) n cap ∧ n ≤ cap ∧ cap ≤ maxLen ∧ B ≤ g ∧ g < w.heap.size ∧ (∀ j, j < n * k → w.cell? ⟨g, j, none⟩ = some (cs.getD j .nilFunc)) ∧ ∀ j, w.frozen? ⟨g, j, none⟩ = false := by
 have hl := h.1
 rcases h.2 with ⟨rfl, h0⟩ | ⟨g, cap, cur, rfl, hg, hh, hnc, hcm, hcs, htk⟩
 · subst h0; exact .inl ⟨rfl, rfl, List.eq_nil_of_length_eq_zero (by simpa using hl)⟩
 · refine .inr ⟨g, cap, rfl, hnc, hcm, hg, (by rcases Nat.lt_or_ge g w.heap.size with h' | h'; exact h'; rw [Array.getElem?_eq_none h'] at hh; cases hh), fun j hj => ?_, fun j => World.ownsRow.frozenAt h j⟩
   rw [World.ownsRow.cellAt h j hj]
   simp [List.getD, List.getElem?_eq_getElem (show j < cs.length by omega)]
theorem OwnsK.cell {w : World} {B : Nat} {e : TypeId} {k g n m cap : Nat} {cs : List Value} (h : OwnsK w B e k (.slice (some ⟨g, 0, none⟩) m cap) n cs) (j : Nat) (hj : j < n * k) : w.cell? ⟨g, j, none⟩ = some (cs.getD j .nilFunc) := by
 rcases h.form with ⟨h1, -⟩ | ⟨g', cap', h1, -, -, -, -, hc, -⟩
 · cases h1
 · cases h1; exact hc j hj
theorem OwnsK.store {w : World} {B : Nat} {e : TypeId} {k g n cap : Nat} {cs : List Value} (h : OwnsK w B e k (.slice (some ⟨g, 0, none⟩) n cap) n cs) (j : Nat) (u : Value) : OwnsK (w.setCell ⟨g, j, none⟩ u) B e k (.slice (some ⟨g, 0, none⟩) n cap) n (cs.set j u) := (World.ownsRow.stored h j u).1
end Go.Proofs.YtahmndacoanfiaaGreat
namespace Go.Proofs.YtahmndacoanfiaaGreat
set_option maxRecDepth 100000
open Go.RowKit
theorem rank_in {f : List Int} (h : OkF f) (x : Rat) : 0 ≤ rankR f x ∧ rankR f x ≤ 1 := by
 have h1 := cast_lt h.pos
 have e0 : ((0 : Int) : Rat) = 0 := rfl
 obtain ⟨a, b⟩ := rkN_bounds h.nn (x + 1/2)
 unfold rankR
 constructor
 · rw [← Rat.not_lt, Rat.div_lt_iff (by grind)]; grind
 · rw [← Rat.not_lt, Rat.lt_div_iff (by grind)]; grind
noncomputable def scoreR (f g : List Int) (k : Nat) : Rat := invR g (rankR f (k : Rat) * (g.sum : Rat))
set_option maxHeartbeats 4000000 in
theorem escore_any (f g : List Int) (a : Option Addr) (len cap : Nat) (a2 : Option Addr) (len2 cap2 : Nat) (k : Nat) (w : World) (hI : Ints w a len cap f) (hI2 : Ints w a2 len2 cap2 g) (hO : OkF f) (hO2 : OkF g) (hk : k < len) :
   Calls Tryz.prog 14 #[.slice a len cap, .slice a2 len2 cap2, .int .i64 (k : Int)] w fun e w' => ∃ v, e = .returned (.tuple #[v, .int .i64 0]) ∧ RatN w.heap.size w' v (scoreR f g k) ∧ Rsz (scoreR f g k) 28 ∧ Below w.heap.size w w' := by
 have HI := Lib.hid hI
 have HI2 := Lib.hid hI2
 have HN := Lib.hid hI.1
 have hlm : len ≤ 9223372036854775807 := by have h1 := hI.2.1; have h2 := hI.2.2.1; unfold maxLen at h2; omega
 clear hI hI2
 have HO := Lib.hid (eqE_OkF.2 hO)
 have HO2 := Lib.hid (eqE_OkF.2 hO2)
 have HF := Lib.hid hO
 have HF2 := Lib.hid hO2
 have hl61 : len ≤ 61 := by rw [← HN.out]; exact hO.1
 have d0 : decide ((k : Int) < 0) = false := by simp
 have d1 : decide ((len : Int) ≤ (k : Int)) = false := by simp; omega
 clear hO hO2
 go_enter Tryz.func14, Tryz.ntmps14
 go_wp2_with fail
 have hbx : Below w.heap.size w (w.alloc (.cells #[.bool false, .slice none 0 0, .slice none 0 0] 28)) := ((Below.refl _ _).alloc (Nat.le_refl _) _)
 generalize hWW : (w.alloc (.cells #[.bool false, .slice none 0 0, .slice none 0 0] 28)) = w0 at *
 replace HI := Lib.hid (HI.out.below hbx)
 replace HI2 := Lib.hid (HI2.out.below hbx)
 have cR0 : w0.cell? ⟨w.heap.size, 0, none⟩ = some (.bool false) := by subst hWW; go_simp
 have fR0 : w0.frozen? ⟨w.heap.size, 0, none⟩ = false := by subst hWW; go_simp
 have cR1 : w0.cell? ⟨w.heap.size, 1, none⟩ = some (.slice none 0 0) := by subst hWW; go_simp
 have fR1 : w0.frozen? ⟨w.heap.size, 1, none⟩ = false := by subst hWW; go_simp
 have cR2 : w0.cell? ⟨w.heap.size, 2, none⟩ = some (.slice none 0 0) := by subst hWW; go_simp
 have fR2 : w0.frozen? ⟨w.heap.size, 2, none⟩ = false := by subst hWW; go_simp
 have ltR : w.heap.size < w0.heap.size := by subst hWW; simp
 have hB := hbx
 clear hbx hWW
 refine (evalid_b f a len cap _ HI.out).mono ?_
 rintro e w1 ⟨rfl, hb⟩
 replace cR0 := bc hb ltR cR0
 replace fR0 := bf hb ltR fR0
 replace cR1 := bc hb ltR cR1
 replace fR1 := bf hb ltR fR1
 replace cR2 := bc hb ltR cR2
 replace fR2 := bf hb ltR fR2
 replace ltR := bl hb ltR
 replace HI := Lib.hid (HI.out.below hb)
 replace HI2 := Lib.hid (HI2.out.below hb)
 replace hB := hB.trans (hb.mono hB.size)
 rw [HO.out]
 clear hb
 go_wp2_with fail
 refine (evalid_b g a2 len2 cap2 _ HI2.out).mono ?_
 rintro e w2 ⟨rfl, hb⟩
 replace cR0 := bc hb ltR cR0
 replace fR0 := bf hb ltR fR0
 replace cR1 := bc hb ltR cR1
 replace fR1 := bf hb ltR fR1
 replace cR2 := bc hb ltR cR2
 replace fR2 := bf hb ltR fR2
 replace ltR := bl hb ltR
 replace HI := Lib.hid (HI.out.below hb)
 replace HI2 := Lib.hid (HI2.out.below hb)
 replace hB := hB.trans (hb.mono hB.size)
 rw [HO2.out]
 clear hb
 go_wp2_with fail
 refine (ewhole_any (k : Int) _ (by omega) (by omega)).mono ?_
 rintro e w3 ⟨v3, rfl, hv, hsz, hb⟩
 replace cR0 := bc hb ltR cR0
 replace fR0 := bf hb ltR fR0
 replace cR1 := bc hb ltR cR1
 replace fR1 := bf hb ltR fR1
 replace cR2 := bc hb ltR cR2
 replace fR2 := bf hb ltR fR2
 replace ltR := bl hb ltR
 replace HI := Lib.hid (HI.out.below hb)
 replace HI2 := Lib.hid (HI2.out.below hb)
 replace hB := hB.trans (hb.mono hB.size)
 rw [Rat.intCast_natCast] at hv hsz
 have HV3 := Lib.hid (hv.raw hsz)
 clear hv hsz
 clear hb
 go_wp2_with fail
 refine (erank_any f a len cap _ (k : Rat) 2 _ HI.out HV3.out (by omega) (by omega) HF.out).mono ?_
 rintro e w4 ⟨v4, rfl, hv, hsz, hb⟩
 replace cR0 := bc hb ltR cR0
 replace fR0 := bf hb ltR fR0
 replace cR1 := bc hb ltR cR1
 replace fR1 := bf hb ltR fR1
 replace cR2 := bc hb ltR cR2
 replace fR2 := bf hb ltR fR2
 replace ltR := bl hb ltR
 replace HI := Lib.hid (HI.out.below hb)
 replace HI2 := Lib.hid (HI2.out.below hb)
 replace HV3 := Lib.hid (HV3.out.below hb)
 replace hB := hB.trans (hb.mono hB.size)
 have HIn := Lib.hid (rank_in HF.out (k : Rat))
 have HV4 := Lib.hid (hv.raw hsz)
 obtain ⟨p4', m4', q4', p4, m4, q4, rfl, -, -, -, -⟩ := hv
 clear hsz
 generalize decide ((rankR f (k : Rat) : Rat).num < 0) = d4 at *
 clear hb
 clear HV3
 go_wp2_with fail
 have hbx : Below w4.heap.size w4 (w4.alloc (.cells #[.bool d4, .slice p4' m4' q4', .slice p4 m4 q4] 28)) := ((Below.refl _ _).alloc (Nat.le_refl _) _)
 generalize hWW : (w4.alloc (.cells #[.bool d4, .slice p4' m4' q4', .slice p4 m4 q4] 28)) = w4a at *
 replace cR0 := bc hbx ltR cR0
 replace fR0 := bf hbx ltR fR0
 replace cR1 := bc hbx ltR cR1
 replace fR1 := bf hbx ltR fR1
 replace cR2 := bc hbx ltR cR2
 replace fR2 := bf hbx ltR fR2
 replace ltR := bl hbx ltR
 replace HI := Lib.hid (HI.out.below hbx)
 replace HI2 := Lib.hid (HI2.out.below hbx)
 replace HV4 := Lib.hid (HV4.out.below hbx)
 have cY0 : w4a.cell? ⟨w4.heap.size, 0, none⟩ = some (.bool d4) := by subst hWW; go_simp
 have cY1 : w4a.cell? ⟨w4.heap.size, 1, none⟩ = some (.slice p4' m4' q4') := by subst hWW; go_simp
 have cY2 : w4a.cell? ⟨w4.heap.size, 2, none⟩ = some (.slice p4 m4 q4) := by subst hWW; go_simp
 have ltY : w4.heap.size < w4a.heap.size := by subst hWW; simp
 replace hB := hB.trans (hbx.mono hB.size)
 clear hbx hWW
 have hs1 := ltR
 refine (einv_any g a2 len2 cap2 _ (rankR f (k : Rat)) (2 + 13) _ HI2.out HV4.out (by omega) (by omega) HF2.out HIn.out.1 HIn.out.2).mono ?_
 rintro e w5 ⟨v5, rfl, hv, hsz, hb⟩
 replace cR0 := bc hb ltR cR0
 replace fR0 := bf hb ltR fR0
 replace cR1 := bc hb ltR cR1
 replace fR1 := bf hb ltR fR1
 replace cR2 := bc hb ltR cR2
 replace fR2 := bf hb ltR fR2
 replace ltR := bl hb ltR
 replace cY0 := bc hb ltY cY0
 replace cY1 := bc hb ltY cY1
 replace cY2 := bc hb ltY cY2
 replace ltY := bl hb ltY
 replace HI := Lib.hid (HI.out.below hb)
 replace HI2 := Lib.hid (HI2.out.below hb)
 replace HV4 := Lib.hid (HV4.out.below hb)
 replace hB := hB.trans (hb.mono hB.size)
 change RatN _ _ _ (scoreR f g k) at hv
 change Rsz (scoreR f g k) _ at hsz
 have HZ5 := Lib.hid (hsz.mono (show 2 + 13 + 13 ≤ 28 by omega))
 clear hsz
 obtain ⟨p5', m5', q5', p5, m5, q5, rfl, h1, h2, h3, h4⟩ := hv
 have HFin := Lib.hid (rat_store (B := w4a.heap.size) (B' := w.heap.size) (g := w.heap.size) (r := scoreR f g k) ⟨p5', m5', q5', p5, m5, q5, rfl, h1, h2, h3, h4⟩ hs1 (by omega))
 clear h1 h2 h3 h4
 generalize decide ((scoreR f g k : Rat).num < 0) = d5 at *
 clear hb
 go_wp2_with fail
 exact bodyPost_ret (v := .tuple #[.agg #[.bool d5, .slice p5' m5' q5', .slice p5 m5 q5], .int .i64 0]) (by simp [results, Tryz.results14, go_sem, cR0, cR1, cR2]) rfl ⟨_, rfl, HFin.out, HZ5.out, ((hB.setCell (p := ⟨w.heap.size, 0, none⟩) (by simp) _).setCell (p := ⟨w.heap.size, 1, none⟩) (by simp) _).setCell (p := ⟨w.heap.size, 2, none⟩) (by simp) _⟩
end Go.Proofs.YtahmndacoanfiaaGreat
namespace Go.Proofs.YtahmndacoanfiaaGreat
set_option maxRecDepth 100000
open Go.RowKit
theorem infoRatio : (Tryz.prog.info? 28).map (fun i => (i.zero, i.size, i.bytes)) = some (some (.agg #[.bool false, .slice none 0 0, .slice none 0 0]), 3, 56) := by kernel_rfl
theorem wpList_mknK {P : Program} {w : World} {ops : Array Oper} {rest : List Oper} {o : Oper} {a : Act} {Q : Exit → Act → World → Prop} (hgd : o.guard = none) (l c : Operand) (t : TypeId) (hop : o.op = Op.makeSlice t l c)
   (e : TypeId) (z : Value) (k bytes : Nat) (ht : P.underlying t = some (.slice e)) (hi : (P.info? e).map (fun i => (i.zero, i.size, i.bytes)) = some (some z, k, bytes))
   (kl kc : IntKind) (L C : Int) (n : Nat) (hl : a.eval l = .int kl L) (hc : a.eval c = .int kc C) (hL : L = (n : Int)) (hC : C = (n : Int)) (hb : bytes * n ≤ 281474976710656) (hn : n ≤ maxLen)
   (hK : ∀ w', OwnsK w' w.heap.size e k (.slice (some ⟨w.heap.size, 0, none⟩) n n) n (madeCells z.cells (n * k)).toList → Below w.heap.size w w' → wpList P ops Q rest (a.put o.dst (.slice (some ⟨w.heap.size, 0, none⟩) n n)) w') : wpList P ops Q (o :: rest) a w := by
 obtain ⟨i, hi', hz, hsize, hby⟩ := info_parts hi
 exact wpList_make_full w hgd l c t hop w.heap.size e i z k ht hi' hz hsize kl kc L C n hl hc hL hC (by rw [hby]; exact hb) hn (Nat.le_refl _) fun w' h1 h2 => hK w' h1 ((Below.refl _ _).grown h2 (Nat.le_refl _) (by simp))
theorem RatN.offs {B : Nat} {w : World} {b : Bool} {a' a : Option Addr} {n' c' n c : Nat} {r : Rat} (h : RatN B w (.agg #[.bool b, .slice a' n' c', .slice a n c]) r) {g : Nat} {cs : Array Value} {t : TypeId} (hg : w.heap[g]? = some (.cells cs t))
   (hc : ∀ (o : Nat) (n : Int), cs[o]? ≠ some (Value.int .u32 n)) (o0 o1 o2 : Nat) (v0 v1 v2 : Value) : RatN B (((w.setCell ⟨g, o0, none⟩ v0).setCell ⟨g, o1, none⟩ v1).setCell ⟨g, o2, none⟩ v2) (.agg #[.bool b, .slice a' n' c', .slice a n c]) r := by
 obtain ⟨x', l', k', x, l, k, e, hx, hn, hy, hm⟩ := h
 cases e
 have h1 := hx.offBlk hg hc
 have h2 := hy.offBlk hg hc
 exact ⟨a', n', c', a, n, c, rfl, ((hx.off h1 o0 _).off h1 o1 _).off h1 o2 _, hn, ((hy.off h2 o0 _).off h2 o1 _).off h2 o2 _, hm⟩
def RatAtN (w : World) (b off : Nat) (r : Rat) (L : Nat) : Prop := ∃ n a' l' c' a l c, w.cell? ⟨b, off, none⟩ = some (.bool n) ∧ w.cell? ⟨b, off + 1, none⟩ = some (.slice a' l' c') ∧ w.cell? ⟨b, off + 2, none⟩ = some (.slice a l c) ∧ RatN 0 w (.agg #[.bool n, .slice a' l' c', .slice a l c]) r ∧ Rsz r L
theorem RatAtN.below {w w' : World} {b off : Nat} {r : Rat} {L : Nat} (h : RatAtN w b off r L) (hlt : b < w.heap.size) (hb : Below w.heap.size w w') : RatAtN w' b off r L := by
 obtain ⟨n, a', l', c', a, l, c, h0, h1, h2, h3, h4⟩ := h
 exact ⟨n, a', l', c', a, l, c, by rw [hb.cell (p := ⟨b, off, none⟩) hlt]; exact h0, by rw [hb.cell (p := ⟨b, off + 1, none⟩) hlt]; exact h1, by rw [hb.cell (p := ⟨b, off + 2, none⟩) hlt]; exact h2, h3.below hb, h4⟩
def RatsN (w : World) (a : Option Addr) (len cap : Nat) (rs : List Rat) (L : Nat) : Prop :=
 rs.length = len ∧ len ≤ cap ∧ cap ≤ maxLen ∧ (len = 0 ∨ ∃ b off, a = some ⟨b, off, none⟩ ∧ b < w.heap.size ∧ ∀ i, i < len → RatAtN w b (off + i * 3) (rs.getD i 0) L)
theorem RatsN.below {w w' : World} {a : Option Addr} {len cap : Nat} {rs : List Rat} {L : Nat} (h : RatsN w a len cap rs L) (hb : Below w.heap.size w w') : RatsN w' a len cap rs L := by
 obtain ⟨h1, h2, h3, h4⟩ := h
 refine ⟨h1, h2, h3, ?_⟩
 rcases h4 with h4 | ⟨b, off, rfl, hlt, hc⟩
 · exact .inl h4
 · exact .inr ⟨b, off, rfl, Nat.lt_of_lt_of_le hlt hb.size, fun i hi => (hc i hi).below hlt hb⟩
theorem RatsN.at {w : World} {a : Option Addr} {len cap : Nat} {rs : List Rat} {L : Nat} (h : RatsN w a len cap rs L) {k : Nat} (hk : k < len) :
   ∃ b off, a = some ⟨b, off, none⟩ ∧ b < w.heap.size ∧ ∀ i, i < len → RatAtN w b (off + i * 3) (rs.getD i 0) L := by
 rcases h.2.2.2 with h | ⟨b, off, rfl, hlt, hc⟩
 · omega
 · exact ⟨b, off, rfl, hlt, hc⟩
theorem RatsN.rats {w : World} {a : Option Addr} {len cap : Nat} {rs : List Rat} {L : Nat} (h : RatsN w a len cap rs L) : Rats w a len cap rs L := by
 obtain ⟨h1, h2, h3, h4⟩ := h
 refine ⟨h1, h2, h3, ?_⟩
 rcases h4 with h4 | ⟨b, off, rfl, hlt, hc⟩
 · exact .inl h4
 · exact .inr ⟨b, off, rfl, hlt, fun i hi => by
     obtain ⟨n, a', l', c', a, l, c, h0, h1, h2, h3, h4⟩ := hc i hi
     exact ⟨n, a', l', c', a, l, c, h0, h1, h2, h3.raw h4⟩⟩
theorem made_in (m : Nat) (u : Value) (h : u ∈ (madeCells (Value.agg #[.bool false, .slice none 0 0, .slice none 0 0]).cells m).toList) : u = .bool false ∨ u = .slice none 0 0 := by
 unfold madeCells at h
 rw [Array.toList_map, List.mem_map] at h
 obtain ⟨i, -, rfl⟩ := h
 have h3 : i % 3 < 3 := Nat.mod_lt _ (by omega)
 have hs : ∀ j, j < 3 → (#[Value.bool false, .slice none 0 0, .slice none 0 0] : Array Value)[j]! = .bool false ∨ (#[Value.bool false, .slice none 0 0, .slice none 0 0] : Array Value)[j]! = .slice none 0 0 := fun j hj => match j, hj with
   | 0, _ => .inl rfl
   | 1, _ => .inr rfl
   | 2, _ => .inr rfl
 exact hs (i % 3) h3
def RT (w : World) (B b n k : Nat) (rs : List Rat) : Prop := ∃ cs : List Value, OwnsK w B 28 3 (.slice (some ⟨b, 0, none⟩) n n) n cs ∧ (∀ u ∈ cs, ∀ z : Int, u ≠ .int .u32 z) ∧ ∀ i, i < k → RatAtN w b (i * 3) (rs.getD i 0) 28
theorem RT.blk {w : World} {B b n : Nat} {cs : List Value} (h : OwnsK w B 28 3 (.slice (some ⟨b, 0, none⟩) n n) n cs) (hc : ∀ u ∈ cs, ∀ z : Int, u ≠ .int .u32 z) :
   ∃ cur : Array Value, w.heap[b]? = some (.cells cur 28) ∧ (∀ (o : Nat) (z : Int), cur[o]? ≠ some (Value.int .u32 z)) ∧ cur.size = n * 3 := by
 rcases h.2 with ⟨h', -⟩ | ⟨g, c, cur, hv, -, hh, -, -, hcs, htk⟩
 · cases h'
 · cases hv
   have e : cur.toList = cs := by rw [← htk, List.take_of_length_le (by simpa using Nat.le_of_eq hcs)]
   refine ⟨cur, hh, fun o z hoz => ?_, hcs⟩
   have hm : Value.int .u32 z ∈ cur.toList := by
     rw [Array.mem_toList_iff]; exact Array.mem_of_getElem? hoz
   rw [e] at hm
   exact hc _ hm z rfl
theorem RT.in {w : World} {B b n k : Nat} {rs : List Rat} (h : RT w B b n k rs) : b < w.heap.size ∧ B ≤ b := by
 obtain ⟨cs, h1, -, -⟩ := h
 exact ⟨h1.in _ rfl, h1.lt _ rfl⟩
theorem RT.later {w w' : World} {B b n k : Nat} {rs : List Rat} (h : RT w B b n k rs) (hb : Below w.heap.size w w') : RT w' B b n k rs := by
 have hin := h.in.1
 obtain ⟨cs, h1, h2, h3⟩ := h
 exact ⟨cs, h1.later hb, h2, fun i hi => (h3 i hi).below hin hb⟩
theorem RT.cell {w : World} {B b n k : Nat} {rs : List Rat} (h : RT w B b n k rs) {j : Nat} (hj : j < n * 3) : (∃ v, w.cell? ⟨b, j, none⟩ = some v) ∧ w.frozen? ⟨b, j, none⟩ = false := by
 obtain ⟨cs, h1, h2, h3⟩ := h
 refine ⟨⟨_, h1.cell j hj⟩, ?_⟩
 obtain ⟨cur, hh, -, -⟩ := RT.blk h1 h2
 exact blk_free hh j
theorem RT.step {w : World} {B b n k : Nat} {rs : List Rat} (h : RT w B b n k rs) (hk : k < n) {d : Bool} {a' a : Option Addr} {l' c' l c : Nat} (hv : RatN 0 w (.agg #[.bool d, .slice a' l' c', .slice a l c]) (rs.getD k 0)) (hz : Rsz (rs.getD k 0) 28) :
   RT (((w.setCell ⟨b, k * 3, none⟩ (.bool d)).setCell ⟨b, k * 3 + 1, none⟩ (.slice a' l' c')).setCell ⟨b, k * 3 + 2, none⟩ (.slice a l c)) B b n (k + 1) rs := by
 have hcell : ∀ j, j < 3 → ∃ v, w.cell? ⟨b, k * 3 + j, none⟩ = some v := fun j hj => (h.cell (j := k * 3 + j) (by omega)).1
 obtain ⟨cs, h1, h2, h3⟩ := h
 obtain ⟨cur, hh, hno, -⟩ := RT.blk h1 h2
 refine ⟨((cs.set (k * 3) (.bool d)).set (k * 3 + 1) (.slice a' l' c')).set (k * 3 + 2) (.slice a l c), ((h1.store _ _).store _ _).store _ _, fun u hu z => ?_, fun i hi => ?_⟩
 · rcases List.mem_or_eq_of_mem_set hu with hu | rfl
   · rcases List.mem_or_eq_of_mem_set hu with hu | rfl
     · rcases List.mem_or_eq_of_mem_set hu with hu | rfl
       · exact h2 u hu z
       · simp
     · simp
   · simp
 · by_cases hik : i < k
   · obtain ⟨n0, x', m', q', x, m, q, e0, e1, e2, hX, hZ⟩ := h3 i hik
     have key : ∀ o v, o < k * 3 → w.cell? ⟨b, o, none⟩ = some v → (((w.setCell ⟨b, k * 3, none⟩ (.bool d)).setCell ⟨b, k * 3 + 1, none⟩ (.slice a' l' c')).setCell ⟨b, k * 3 + 2, none⟩ (.slice a l c)).cell? ⟨b, o, none⟩ = some v := by
       intro o v ho e
       rw [World.cell?_setCell_other _ _ _ _ (fun h => by cases h; omega), World.cell?_setCell_other _ _ _ _ (fun h => by cases h; omega), World.cell?_setCell_other _ _ _ _ (fun h => by cases h; omega)]
       exact e
     exact ⟨n0, x', m', q', x, m, q, key _ _ (by omega) e0, key _ _ (by omega) e1, key _ _ (by omega) e2, hX.offs hh hno _ _ _ _ _ _, hZ⟩
   · obtain rfl : i = k := by omega
     obtain ⟨u0, q0⟩ := hcell 0 (by omega)
     obtain ⟨u1, q1⟩ := hcell 1 (by omega)
     obtain ⟨u2, q2⟩ := hcell 2 (by omega)
     rw [Nat.add_zero] at q0
     exact ⟨d, a', l', c', a, l, c, by go_simp, by go_simp, by go_simp, hv.offs hh hno _ _ _ _ _ _, hz⟩
theorem RT.rats {w : World} {B b n : Nat} {rs : List Rat} (h : RT w B b n n rs) (hr : rs.length = n) (hn : n ≤ maxLen) : RatsN w (some ⟨b, 0, none⟩) n n rs 28 := by
 have hin := h.in.1
 obtain ⟨cs, h1, h2, h3⟩ := h
 exact ⟨hr, Nat.le_refl _, hn, .inr ⟨b, 0, rfl, hin, fun i hi => by rw [Nat.zero_add]; exact h3 i hi⟩⟩
noncomputable def tableL (f g : List Int) : List Rat := (List.range f.length).map (scoreR f g)
theorem tableL_len (f g : List Int) : (tableL f g).length = f.length := by simp [tableL]
theorem tableL_at (f g : List Int) {k : Nat} (hk : k < f.length) : (tableL f g).getD k 0 = scoreR f g k := by simp [tableL, List.getD, hk]
set_option maxHeartbeats 4000000 in
theorem etable_any (f g : List Int) (a : Option Addr) (len cap : Nat) (a2 : Option Addr) (len2 cap2 : Nat) (w : World) (hI : Ints w a len cap f) (hI2 : Ints w a2 len2 cap2 g) (hO : OkF f) (hO2 : OkF g) :
   Calls Tryz.prog 16 #[.slice a len cap, .slice a2 len2 cap2] w fun e w' => ∃ b, e = .returned (.tuple #[.slice (some ⟨b, 0, none⟩) len len, .int .i64 0]) ∧ RatsN w' (some ⟨b, 0, none⟩) len len (tableL f g) 28 ∧ Below w.heap.size w w' := by
 have HI := Lib.hid hI
 have HI2 := Lib.hid hI2
 have HO := Lib.hid (eqE_OkF.2 hO)
 have HO2 := Lib.hid (eqE_OkF.2 hO2)
 have HF := Lib.hid hO
 have HF2 := Lib.hid hO2
 have HN := Lib.hid hI.1
 have hl61 : len ≤ 61 := by rw [← HN.out]; exact hO.1
 clear hI hI2 hO hO2
 go_enter Tryz.func16, Tryz.ntmps16
 go_wp2_with fail
 refine (evalid_any f a len cap _ HI.out).mono ?_
 rintro e w1 ⟨rfl, rfl⟩
 rw [HO.out]
 go_wp2_with fail
 refine (evalid_any g a2 len2 cap2 _ HI2.out).mono ?_
 rintro e w1 ⟨rfl, rfl⟩
 rw [HO2.out]
 go_wp2_with (at_make; refine wpList_mknK rfl _ _ 37 rfl 28 (.agg #[.bool false, .slice none 0 0, .slice none 0 0]) 3 56 Tryz.underlying37 infoRatio _ _ _ _ len rfl rfl rfl rfl (by omega) (by simp only [maxLen]; omega) fun w1 h1 h2 => ?_)
 have HT0 : Hid (RT w1 w.heap.size w.heap.size len 0 (tableL f g)) := Lib.hid ⟨_, h1, fun u hu z => by
   have : ∀ (m : Nat) (u : Value), u ∈ (madeCells (Value.agg #[.bool false, .slice none 0 0, .slice none 0 0]).cells m).toList → u = .bool false ∨ u = .slice none 0 0 := made_in
   rcases this _ u hu with rfl | rfl <;> simp, fun i hi => by omega⟩
 have HB1 := Lib.hid h2
 clear h1 h2
 go_wp2_with fail
 go_loopw [27] (fun i wr => ∃ k : Nat, k ≤ len ∧ i = .int .i64 k ∧ Hid (RT wr w.heap.size w.heap.size len k (tableL f g)) ∧ Hid (Below w.heap.size w wr)) (fun i _ => len - (intOf i).toNat)
 case atStart => exact ⟨0, by omega, rfl, HT0, HB1⟩
 case round =>
   clear HT0 HB1
   obtain ⟨k, hk, rfl, HT, HB⟩ := hrel
   by_cases hlt : k < len
   · have HTl := Lib.hid (tableL_at f g (k := k) (by rw [HN.out]; exact hlt))
     go_wp2_with fail
     refine (escore_any f g a len cap a2 len2 cap2 k wr (HI.out.below HB.out) (HI2.out.below HB.out) HF.out HF2.out hlt).mono ?_
     rintro e w2 ⟨v2, rfl, hv, hsz, hb⟩
     obtain ⟨x', l', k', x, l, kk, rfl, -⟩ := id hv
     have hba : Below w2.heap.size w2 (w2.alloc (.cells #[.bool (decide ((scoreR f g k).num < 0)), .slice x' l' k', .slice x l kk] 28)) := (Below.refl _ _).alloc (Nat.le_refl _) _
     have HV := Lib.hid ((hv.mono (Nat.zero_le _)).below hba)
     have HZ := Lib.hid hsz
     have HT3 := Lib.hid ((HT.out.later hb).later hba)
     have HB3 := Lib.hid (HB.out.trans ((hb.trans (hba.mono hb.size)).mono HB.out.size))
     clear hv hsz hb hba HT HB
     generalize hdd : decide ((scoreR f g k).num < 0) = dd at *
     rw [← HTl.out] at HV HZ
     have hin := HT3.out.in.1
     have hs3 : k * 3 < len * 3 := by omega
     obtain ⟨⟨o0, c0⟩, f0⟩ := HT3.out.cell (j := k * 3) (by omega)
     obtain ⟨⟨o1, c1⟩, f1⟩ := HT3.out.cell (j := k * 3 + 1) (by omega)
     obtain ⟨⟨o2, c2⟩, f2⟩ := HT3.out.cell (j := k * 3 + 2) (by omega)
     have HT4 := Lib.hid (HT3.out.step hlt HV.out HZ.out)
     have HB4 := Lib.hid (((HB3.out.setCell (p := ⟨w.heap.size, k * 3, none⟩) (Nat.le_refl _) (.bool dd)).setCell (p := ⟨w.heap.size, k * 3 + 1, none⟩) (Nat.le_refl _) (.slice x' l' k')).setCell (p := ⟨w.heap.size, k * 3 + 2, none⟩) (Nat.le_refl _) (.slice x l kk))
     clear hdd HT3 HB3 HV HTl
     go_wp2_with fail
     go_roundw
     case rel => exact ⟨k + 1, by omega, by go_num, HT4, HB4⟩
     case measure => simp [intOf]; omega
   · obtain rfl : k = len := by omega
     have HR := Lib.hid (HT.out.rats (by rw [tableL_len, HN.out]) (by simp only [maxLen]; omega))
     clear HT
     go_wp2_with fail
     go_ret2
     exact ⟨_, rfl, HR.out, HB.out⟩
end Go.Proofs.YtahmndacoanfiaaGreat
