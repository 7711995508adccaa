/- Rounding in plain numbers: seven modes, and that rounding does not turn an order around. Plain lemmas, no condition. -/
import Derived.Test.YtahmndacoanfiaaGreatRatP
namespace Go.Proofs.YtahmndacoanfiaaGreat
set_option maxRecDepth 100000
open Go.RowKit

/-- the part behind the point -/
def fracR (r : Rat) : Rat := r - r.floor
def oddI (z : Int) : Bool := decide (z.natAbs % 2 = 1)
/-- whether a mode chooses the higher neighbor, by the sign of (part - 1/2) -/
def upM (mode half : Int) (neg odd : Bool) : Bool :=
  bif mode == 6 then false else bif mode == 7 then true else bif mode == 5 then neg else bif mode == 4 then !neg else bif half != 0 then decide (0 < half) else bif mode == 2 then !neg else bif mode == 3 then neg else odd
def upB (mode : Int) (r : Rat) : Bool := bif decide (fracR r = 0) then false else upM mode (rcmpI (fracR r) (mkRat 1 2)) (decide (r < 0)) (oddI r.floor)
def roundI (mode : Int) (r : Rat) : Int := r.floor + (bif upB mode r then 1 else 0)
theorem frac_bd (r : Rat) : 0 ≤ fracR r ∧ fracR r < 1 := by
  unfold fracR
  have h1 := Rat.floor_le r
  have h2 := Rat.lt_floor_add_one r
  rw [Rat.intCast_add] at h2
  constructor
  · grind
  · have : ((1 : Int) : Rat) = 1 := rfl
    grind
theorem neg_floor (r : Rat) : r < 0 ↔ r.floor < 0 := by
  rw [Rat.floor_lt_iff]; rfl
theorem round_ge (mode : Int) (r : Rat) : r.floor ≤ roundI mode r ∧ roundI mode r ≤ r.floor + 1 := by
  unfold roundI; cases upB mode r <;> simp <;> omega
theorem rcmpI_mono {a b c : Rat} (h : a ≤ b) : rcmpI a c ≤ rcmpI b c := by
  unfold rcmpI
  by_cases h1 : a < c <;> by_cases h2 : b < c <;> by_cases h3 : c < a <;> by_cases h4 : c < b <;> simp [h1, h2, h3, h4] <;> grind
theorem upM_mono {mode h1 h2 : Int} {neg odd : Bool} (h : h1 ≤ h2) (hu : upM mode h1 neg odd = true) (hb : -1 ≤ h1 ∧ h1 ≤ 1) (hb2 : -1 ≤ h2 ∧ h2 ≤ 1) : upM mode h2 neg odd = true := by
  unfold upM at *
  generalize (mode == 6) = b6 at *
  generalize (mode == 7) = b7 at *
  generalize (mode == 5) = b5 at *
  generalize (mode == 4) = b4 at *
  generalize (bif mode == 2 then !neg else bif mode == 3 then neg else odd) = z at *
  cases b6
  case true => exact hu
  cases b7
  case true => rfl
  cases b5
  case true => exact hu
  cases b4
  case true => exact hu
  simp only [cond_false] at hu ⊢
  rcases (show h1 = -1 ∨ h1 = 0 ∨ h1 = 1 by omega) with e | e | e
  · subst e; simp at hu
  · rcases (show h2 = 0 ∨ h2 = 1 by omega) with e2 | e2
    · subst e; subst e2; exact hu
    · subst e2; rfl
  · obtain rfl : h2 = 1 := by omega
    rfl
theorem rcmpI_bd (r s : Rat) : -1 ≤ rcmpI r s ∧ rcmpI r s ≤ 1 := by
  unfold rcmpI; split
  · omega
  · split <;> omega
theorem round_mono (mode : Int) {r s : Rat} (h : r ≤ s) : roundI mode r ≤ roundI mode s := by
  have hf := Rat.floor_monotone h
  have h1 := round_ge mode r
  have h2 := round_ge mode s
  rcases Int.lt_or_le r.floor s.floor with hlt | hge
  · omega
  · have he : r.floor = s.floor := by omega
    unfold roundI
    cases hu : upB mode r
    · simp only [cond_false]; cases upB mode s <;> simp <;> omega
    · have hs : upB mode s = true := by
        unfold upB at hu ⊢
        have hfr : fracR r ≤ fracR s := by unfold fracR; rw [he]; grind
        by_cases hz : fracR r = 0
        · simp [hz] at hu
        · have hz2 : fracR s ≠ 0 := by have := (frac_bd r).1; grind
          rw [decide_eq_false hz, cond_false] at hu
          rw [decide_eq_false hz2, cond_false]
          have hn : decide (r < 0) = decide (s < 0) := by
            have a := neg_floor r; have b := neg_floor s
            rw [he] at a
            by_cases hr : r < 0
            · rw [decide_eq_true hr, decide_eq_true (b.2 (a.1 hr))]
            · rw [decide_eq_false hr, decide_eq_false (fun hs => hr (a.2 (b.1 hs)))]
          rw [← hn, ← he]
          exact upM_mono (rcmpI_mono hfr) hu (rcmpI_bd _ _) (rcmpI_bd _ _)
      rw [hs]; simp; omega
theorem frac_mk {p : Int} {q : Nat} (hq : q ≠ 0) : fracR (mkRat p q) = mkRat (p % q) q := by
  unfold fracR
  rw [← mk_floor hq, Rat.mkRat_eq_div, Rat.mkRat_eq_div]
  have h0 : (q : Rat) ≠ 0 := by have : (0 : Rat) < (q : Rat) := Rat.natCast_pos.2 (by omega); grind
  have h1 : p = q * (p / q) + p % q := (Int.mul_ediv_add_emod p q).symm
  have h2 : (p : Rat) = (q : Rat) * ((p / q : Int) : Rat) + ((p % q : Int) : Rat) := by
    have := congrArg (fun z : Int => (z : Rat)) h1
    simp only [Rat.intCast_add, Rat.intCast_mul, Rat.intCast_natCast] at this
    exact this
  grind
theorem frac_zero {p : Int} {q : Nat} (hq : q ≠ 0) : fracR (mkRat p q) = 0 ↔ p % (q : Int) = 0 := by
  rw [frac_mk hq, Rat.mkRat_eq_zero hq]
theorem frac_half {p : Int} {q : Nat} (hq : q ≠ 0) : rcmpI (fracR (mkRat p q)) (mkRat 1 2) = (p % q + p % q - q).sign := by
  rw [frac_mk hq, ← mk_cmp hq (by omega)]
  congr 1
  have : ((2 : Nat) : Int) = 2 := rfl
  rw [this]; omega
theorem neg_mk {p : Int} {q : Nat} (hq : q ≠ 0) : mkRat p q < 0 ↔ p < 0 := by
  have := mk_lt (p := p) (s := 0) (q := q) (t := 1) hq (by omega)
  have e : mkRat 0 1 = 0 := by decide +kernel
  rw [e] at this
  rw [this]; simp

end Go.Proofs.YtahmndacoanfiaaGreat
