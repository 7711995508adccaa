/- Scales among a law's arguments: large, wide, and opening them. -/
import Derived.Test.YtmahokhgdkdhkaaScl
import Derived.Test.YtmahokhgdkdhkaaRatO
namespace Go.Proofs.Ytmahokhgdkdhkaa
set_option maxRecDepth 100000
open Go.ChangeShapes Go.WideShapes Go.ChangeAt Go.RowKit

def lgN (n' n : Nat) : Bool := decide (20 < n') || decide (20 < n)
theorem lg_no {n' n : Nat} (h : lgN n' n = false) : n' ≤ 20 ∧ n ≤ 20 := by simp [lgN] at h; omega
theorem RatV.small {w : World} {b : Bool} {a' a : Option Addr} {l' c' l c : Nat} {r : Rat} {L : Nat} (h : RatV w (.agg #[.bool b, .slice a' l' c', .slice a l c]) r L) (hn : lgN l' l = false) : RatV w (.agg #[.bool b, .slice a' l' c', .slice a l c]) r 20 := by
  obtain ⟨p, q, ⟨neg, x', m', k', xs, x, m, k, ys, e, hx, hp, hlx, hy, hq, hly⟩, hpq⟩ := h
  cases e
  have := lg_no hn
  exact ⟨p, q, ⟨b, a', l', c', xs, a, l, c, ys, rfl, hx, hp, this.1, hy, hq, this.2⟩, hpq⟩
theorem RatV.form {w : World} {v : Value} {r : Rat} {L : Nat} (h : RatV w v r L) : ∃ b a' l' c' a l c, v = .agg #[.bool b, .slice a' l' c', .slice a l c] ∧ l' ≤ 9223372036854775807 ∧ l ≤ 9223372036854775807 := by
  obtain ⟨p, q, ⟨neg, x', m', k', xs, x, m, k, ys, rfl, hx, hp, hlx, hy, hq, hly⟩, hpq⟩ := h
  have h1 := hx.2.2.1
  have h2 := hx.2.2.2.1
  have h3 := hy.2.2.1
  have h4 := hy.2.2.2.1
  unfold maxLen at h2 h4
  exact ⟨neg, x', m', k', x, m, k, rfl, by omega, by omega⟩

set_option maxHeartbeats 400000 in
theorem large_any (b : Bool) (a' a : Option Addr) (l' c' l c : Nat) (w : World) (h1 : l' ≤ 9223372036854775807) (h2 : l ≤ 9223372036854775807) :
    Calls Try.prog 9 #[.agg #[.bool b, .slice a' l' c', .slice a l c]] w fun e w' => e = .returned (.bool (lgN l' l)) ∧ Below w.heap.size w w' := by
  have hb0 : Below w.heap.size w (w.alloc (.cells #[.bool b, .slice a' l' c', .slice a l c] 27)) := (Below.refl _ _).alloc (Nat.le_refl _) _
  have HW := Lib.hid (show (decide (20 < l') || decide (20 < l)) = lgN l' l from rfl)
  by_cases g1 : 20 < l'
  · have d1 : decide (20 < (l' : Int)) = true := by simp; omega
    go_enter Try.func9, Try.ntmps9
    go_wp2_with fail
    go_ret
    exact ⟨by rw [← HW.out]; simp [g1], hb0⟩
  · have d1 : decide (20 < (l' : Int)) = false := by simp; omega
    by_cases g2 : 20 < l
    · have d2 : decide (20 < (l : Int)) = true := by simp; omega
      go_enter Try.func9, Try.ntmps9
      go_wp2_with fail
      go_ret
      exact ⟨by rw [← HW.out]; simp [g2], hb0⟩
    · have d2 : decide (20 < (l : Int)) = false := by simp; omega
      go_enter Try.func9, Try.ntmps9
      go_wp2_with fail
      go_ret
      exact ⟨by rw [← HW.out]; simp [g1, g2], hb0⟩

set_option maxHeartbeats 400000 in
theorem wide_any (na : Bool) (aa' aa : Option Addr) (la' ca' la ca : Nat) (nb : Bool) (ab' ab : Option Addr) (lb' cb' lb cb : Nat) (lo hi m : Int) (w : World) (h1 : la' ≤ 9223372036854775807) (h2 : la ≤ 9223372036854775807) (h3 : lb' ≤ 9223372036854775807) (h4 : lb ≤ 9223372036854775807) :
    Calls Try.prog 8 #[.agg #[.bool na, .slice aa' la' ca', .slice aa la ca, .bool nb, .slice ab' lb' cb', .slice ab lb cb, .int .i64 lo, .int .i64 hi, .int .i64 m]] w fun e w' => e = .returned (.bool (lgN la' la || lgN lb' lb)) ∧ Below w.heap.size w w' := by
  have hb0 : Below w.heap.size w (w.alloc (.cells #[.bool na, .slice aa' la' ca', .slice aa la ca, .bool nb, .slice ab' lb' cb', .slice ab lb cb, .int .i64 lo, .int .i64 hi, .int .i64 m] 29)) := (Below.refl _ _).alloc (Nat.le_refl _) _
  cases g1 : lgN la' la
  · go_enter Try.func8, Try.ntmps8
    go_wp2_with fail
    refine (large_any _ _ _ _ _ _ _ _ h1 h2).mono ?_
    rintro e w1 ⟨rfl, hb1⟩
    rw [g1]
    have hb01 := hb0.trans (hb1.mono (by simp))
    obtain ⟨hc1, hf1⟩ := bcell hb1 w.heap.size (by simp)
    clear g1
    go_wp2_with fail
    refine (large_any _ _ _ _ _ _ _ _ h3 h4).mono ?_
    rintro e w2 ⟨rfl, hb2⟩
    generalize hgg : lgN lb' lb = gg at *
    have HGg := Lib.hid hgg
    clear hgg
    go_wp2_with fail
    go_ret
    exact ⟨by rw [HGg.out]; rfl, hb01.trans (hb2.mono hb01.size)⟩
  · go_enter Try.func8, Try.ntmps8
    go_wp2_with fail
    refine (large_any _ _ _ _ _ _ _ _ h1 h2).mono ?_
    rintro e w1 ⟨rfl, hb1⟩
    rw [g1]
    clear g1
    go_wp2_with fail
    go_ret
    exact ⟨by simp, hb0.trans (hb1.mono (by simp))⟩

/-- a scale of any size -/
def LinX (w : World) (v : Value) (A B : Rat) (lo hi m : Int) : Prop := ∃ L na aa' la' ca' aa la ca nb ab' lb' cb' ab lb cb, v = .agg #[.bool na, .slice aa' la' ca', .slice aa la ca, .bool nb, .slice ab' lb' cb', .slice ab lb cb, .int .i64 lo, .int .i64 hi, .int .i64 m] ∧ RatV w (.agg #[.bool na, .slice aa' la' ca', .slice aa la ca]) A L ∧ RatV w (.agg #[.bool nb, .slice ab' lb' cb', .slice ab lb cb]) B L

section
variable {H : Type} {enc : TypeId × Value → H} {W : World}
theorem open_linear {base : Nat} {v : Value} {d : DataW H} {ps : List MemPlace} (hv : Value.okWide Try.prog W .any base 29 v) (h : DataW.Trod enc Try.prog W 0 (fun _ => true) true 29 v d ps) :
    ∃ A B lo hi m, LinX W v A B lo hi m := by
  obtain ⟨cs, rfl, hsz⟩ := okWide_struct Try.underlying29 hv
  obtain ⟨mm, hm⟩ := h
  obtain ⟨xs, n, -, -, hl, hx, hf⟩ := DataW.trod_struct Try.underlying29 hm
  have c1 : Try.prog.cellsOf 27 = 3 := by kernel_rfl
  have c2 : Try.prog.cellsOf 3 = 1 := by kernel_rfl
  have c3 : Try.prog.cellsOf 29 = 9 := by kernel_rfl
  rw [c3] at hl
  simp only [Value.cells] at hl hf
  obtain ⟨cs⟩ := cs
  simp only at hl hf
  match cs, hl with
  | [v0, v1, v2, v3, v4, v5, v6, v7, v8], _ =>
  match xs, hx with
  | [y0, y1, y2, y3, y4], _ =>
  have h0 := hf 0 _ rfl
  have h1 := hf 1 _ rfl
  have h2 := hf 2 _ rfl
  have h3 := hf 3 _ rfl
  have h4 := hf 4 _ rfl
  simp [c1, c2] at h0 h1 h2 h3 h4
  obtain ⟨u0, u1, u2, p, q, L, e0, r0, -, -⟩ := ratio_trod h0
  obtain ⟨u3, u4, u5, p', q', L', e1, r1, -, -⟩ := ratio_trod h1
  obtain ⟨lo, e2, -, -⟩ := DataW.trod_int Try.underlying3 h2
  obtain ⟨hi, e3, -, -⟩ := DataW.trod_int Try.underlying3 h3
  obtain ⟨m, e4, -, -⟩ := DataW.trod_int Try.underlying3 h4
  simp at e0 e1 e2 e3 e4
  obtain ⟨rfl, rfl, rfl⟩ := e0
  obtain ⟨rfl, rfl, rfl⟩ := e1
  subst e2 e3 e4
  have s0 : RatV W (.agg #[v0, v1, v2]) (mkRat p q) (max L L') := ⟨p, q, r0.mono (Nat.le_max_left _ _), rfl⟩
  have s1 : RatV W (.agg #[v3, v4, v5]) (mkRat p' q') (max L L') := ⟨p', q', r1.mono (Nat.le_max_right _ _), rfl⟩
  obtain ⟨b, a', l', c', a, l, c, f0, -, -⟩ := s0.form
  obtain ⟨b2, a2', l2', c2', a2, l2, c2, f1, -, -⟩ := s1.form
  cases f0; cases f1
  exact ⟨_, _, lo, hi, m, max L L', b, a', l', c', a, l, c, b2, a2', l2', c2', a2, l2, c2, rfl, s0, s1⟩
end
theorem score_mono {A B x y : Rat} {lo hi m : Int} (hA : 0 < rsgI A) (h : lo ≤ hi) (hxy : x ≤ y) : scoreI A B lo hi m x ≤ scoreI A B lo hi m y := by
  refine clamp_mono h (round_mono m ?_)
  have hA' : 0 < A := by
    unfold rsgI at hA
    rw [Rat.lt_iff]
    simp
    rcases Int.lt_trichotomy A.num 0 with h | h | h
    · rw [Int.sign_eq_neg_one_of_neg h] at hA; omega
    · rw [h] at hA; simp at hA
    · exact h
  have := Rat.mul_le_mul_of_nonneg_left hxy (Rat.le_of_lt hA')
  grind
theorem cmpI_le {r s : Rat} : rcmpI r s ≤ 0 ↔ r ≤ s := by
  unfold rcmpI
  by_cases h : r < s
  · simp [h, Rat.le_of_lt h]
  · rw [if_neg h]
    by_cases h2 : s < r
    · rw [if_pos h2]; simp [Rat.not_le.2 h2]
    · rw [if_neg h2]; simp [Rat.not_lt.1 h2]

end Go.Proofs.Ytmahokhgdkdhkaa
