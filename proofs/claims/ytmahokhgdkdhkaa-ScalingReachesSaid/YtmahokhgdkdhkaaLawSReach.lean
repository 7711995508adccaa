/- The law ScalingReaches: the index that reaches a score is the least one. No condition. -/
import Derived.Test.YtmahokhgdkdhkaaRch
namespace Go.Proofs.Ytmahokhgdkdhkaa
set_option maxRecDepth 100000
open Go.ChangeShapes Go.WideShapes Go.ChangeAt Go.RowKit

theorem cmpI_gt' {r s : Rat} : 0 < rcmpI r s ↔ s < r := by
  unfold rcmpI
  by_cases h : r < s
  · rw [if_pos h]; constructor
    · intro h2; omega
    · intro h2; exact absurd (Rat.le_of_lt h2) (Rat.not_le.2 h)
  · rw [if_neg h]; split <;> simp_all

set_option maxHeartbeats 2000000 in
theorem much_any (rs : List Rat) (a : Option Addr) (len cap L : Nat) (w : World) (hr : Rats w a len cap rs L) :
    Calls Try.prog 18 #[.slice a len cap] w fun e w' => ∃ b, e = .returned (.bool b) ∧ (b = false → len ≤ 70 → Rats w a len cap rs 20) ∧ Below w.heap.size w w' := by
  have HRs := Lib.hid hr
  have hlm : len ≤ 9223372036854775807 := by have h1 := hr.2.1; have h2 := hr.2.2.1; unfold maxLen at h2; omega
  clear hr
  go_enter Try.func18, Try.ntmps18
  go_wp2_with fail
  go_loopw [3] (fun i wr => ∃ k : Nat, k ≤ len ∧ k ≤ 70 ∧ i = .int .i64 k ∧ Hid (∀ j, j < k → ∀ b off, a = some ⟨b, off, none⟩ → RatAt w b (off + j * 3) (rs.getD j 0) 20) ∧ Below w.heap.size w wr) (fun i _ => len - (intOf i).toNat)
  case atStart => exact ⟨0, by omega, by omega, rfl, Lib.hid (fun j h => by omega), Below.refl _ _⟩
  case round =>
    obtain ⟨k, hk, hk7, rfl, HG, hb⟩ := hrel
    by_cases hlt : k < len
    · by_cases h7 : k < 70
      · obtain ⟨bb, off, rfl, hbs, hcc⟩ := HRs.out.at hlt
        obtain ⟨n, x', l', c', x, l, c, e0, e1, e2, hX⟩ := hcc k hlt
        have HE := Lib.hid (And.intro e0 (And.intro e1 e2))
        replace e0 := (hb.cell (p := ⟨bb, off + k * 3, none⟩) hbs).trans e0
        replace e1 := (hb.cell (p := ⟨bb, off + k * 3 + 1, none⟩) hbs).trans e1
        replace e2 := (hb.cell (p := ⟨bb, off + k * 3 + 2, none⟩) hbs).trans e2
        obtain ⟨_, _, _, _, _, _, _, ee, b1, b2⟩ := hX.form
        cases ee
        have HX := Lib.hid hX
        clear hcc hX
        have d7 : decide ((k : Int) < 70) = true := by simp; omega
        go_wp2_with fail
        refine (large_any _ _ _ _ _ _ _ _ b1 b2).mono ?_
        rintro e w2 ⟨rfl, hb2⟩
        have hbn := hb.trans (hb2.mono hb.size)
        by_cases hg : lgN l' l = true
        · rw [hg]
          clear hg
          go_wp2_with fail
          go_ret
          exact ⟨true, rfl, by simp, hbn⟩
        · have hg' : lgN l' l = false := by simpa using hg
          rw [hg']
          have HG2 := Lib.hid (show ∀ j, j < k + 1 → ∀ b o, some (⟨bb, off, none⟩ : Addr) = some ⟨b, o, none⟩ → RatAt w b (o + j * 3) (rs.getD j 0) 20 from fun j hj b o he => by
            by_cases hjk : j < k
            · exact HG.out j hjk b o he
            · obtain rfl : j = k := by omega
              cases he
              exact ⟨n, x', l', c', x, l, c, HE.out.1, HE.out.2.1, HE.out.2.2, HX.out.small hg'⟩)
          clear hg hg' HG
          go_wp2_with fail
          go_roundw
          case rel => exact ⟨k + 1, by omega, by omega, by go_num, HG2, hbn⟩
          case measure => simp [intOf]; omega
      · have d7 : decide ((k : Int) < 70) = false := by simp; omega
        have hlen7 : ¬ len ≤ 70 := by omega
        go_wp2_with fail
        go_ret
        exact ⟨false, rfl, fun _ h => absurd h hlen7, hb⟩
    · obtain rfl : k = len := by omega
      have HF := Lib.hid (show Rats w a k cap rs 20 from ⟨HRs.out.1, HRs.out.2.1, HRs.out.2.2.1, by
        rcases HRs.out.2.2.2 with h | ⟨b, off, rfl, hlt', -⟩
        · exact .inl h
        · exact .inr ⟨b, off, rfl, hlt', fun i hi => HG.out i hi b off rfl⟩⟩)
      clear HG
      go_wp2_with fail
      go_ret
      exact ⟨false, rfl, fun _ _ => HF.out, hb⟩

set_option maxHeartbeats 2000000 in
theorem reach_err (v : Value) (A B : Rat) (lo hi m s er : Int) (a : Option Addr) (len cap L : Nat) (w : World) (hv : LinV w v A B lo hi m L) (hT : ∀ w', Below w.heap.size w w' → Calls Try.prog 19 #[v, .slice a len cap] w' fun e w'' => e = .returned (.tuple #[.slice none 0 0, .int .i64 er]) ∧ Below w'.heap.size w' w'') (her : er ≠ 0) :
    Calls Try.prog 21 #[v, .slice a len cap, .int .i64 s] w fun e w' => e = .returned (.tuple #[.int .i64 0, .int .i64 er]) ∧ Below w.heap.size w w' := by
  obtain ⟨na, aa', la', ca', aa, la, ca, nb, ab', lb', cb', ab, lb, cb, rfl, -, -⟩ := hv
  have hb0 : Below w.heap.size w (w.alloc (.cells #[.bool na, .slice aa' la' ca', .slice aa la ca, .bool nb, .slice ab' lb' cb', .slice ab lb cb, .int .i64 lo, .int .i64 hi, .int .i64 m] 29)) := (Below.refl _ _).alloc (Nat.le_refl _) _
  have HT := Lib.hid (hT _ hb0)
  have hz : (er == 0) = false := by simpa using her
  clear hT
  go_enter Try.func21, Try.ntmps21
  go_wp2_with fail
  refine HT.out.mono ?_
  rintro e w1 ⟨rfl, hb1⟩
  have hb01 := hb0.trans (hb1.mono (by simp))
  clear HT
  go_wp2_with fail
  go_ret2
  exact ⟨rfl, hb01⟩

set_option maxHeartbeats 4000000 in
theorem sReach_walk (na : Bool) (aa' aa : Option Addr) (la' ca' la ca : Nat) (nb : Bool) (ab' ab : Option Addr) (lb' cb' lb cb : Nat) (lo hi m s : Int) (rs : List Rat) (a : Option Addr) (len cap : Nat) (A B : Rat) (L M : Nat) (w : World) (hA : RatV w (.agg #[.bool na, .slice aa' la' ca', .slice aa la ca]) A L) (hB0 : RatV w (.agg #[.bool nb, .slice ab' lb' cb', .slice ab lb cb]) B L) (hR : Rats w a len cap rs M) :
    Calls Try.prog 7 #[.agg #[.bool na, .slice aa' la' ca', .slice aa la ca, .bool nb, .slice ab' lb' cb', .slice ab lb cb, .int .i64 lo, .int .i64 hi, .int .i64 m], .slice a len cap, .int .i64 s] w fun e w' => e = .returned (.bool true) ∧ Below w.heap.size w w' := by
  obtain ⟨_, _, _, _, _, _, _, e1, b1, b2⟩ := hA.form
  obtain ⟨_, _, _, _, _, _, _, e2, b3, b4⟩ := hB0.form
  cases e1; cases e2
  have hlm : len ≤ 9223372036854775807 := by have h1 := hR.2.1; have h2 := hR.2.2.1; unfold maxLen at h2; omega
  have HRl := Lib.hid hR.1
  have HSl := Lib.hid (show (scoresL A B lo hi m rs).length = len by rw [scoresL_length, hR.1])
  have HA := Lib.hid hA
  have HB0 := Lib.hid hB0
  have HR := Lib.hid hR
  clear hA hB0 hR
  go_enter Try.func7, Try.ntmps7
  go_wp2_with fail
  have hbx : Below w.heap.size w (w.alloc (.cells #[.bool na, .slice aa' la' ca', .slice aa la ca, .bool nb, .slice ab' lb' cb', .slice ab lb cb, .int .i64 lo, .int .i64 hi, .int .i64 m] 29)) := ((Below.refl _ _).alloc (Nat.le_refl _) _)
  replace HA := Lib.hid (HA.out.below hbx)
  replace HB0 := Lib.hid (HB0.out.below hbx)
  replace HR := Lib.hid (HR.out.below hbx)
  have cK0 : (w.alloc (.cells #[.bool na, .slice aa' la' ca', .slice aa la ca, .bool nb, .slice ab' lb' cb', .slice ab lb cb, .int .i64 lo, .int .i64 hi, .int .i64 m] 29)).cell? ⟨w.heap.size, 0, none⟩ = some (.bool na) := by go_simp
  have cK1 : (w.alloc (.cells #[.bool na, .slice aa' la' ca', .slice aa la ca, .bool nb, .slice ab' lb' cb', .slice ab lb cb, .int .i64 lo, .int .i64 hi, .int .i64 m] 29)).cell? ⟨w.heap.size, 1, none⟩ = some (.slice aa' la' ca') := by go_simp
  have cK2 : (w.alloc (.cells #[.bool na, .slice aa' la' ca', .slice aa la ca, .bool nb, .slice ab' lb' cb', .slice ab lb cb, .int .i64 lo, .int .i64 hi, .int .i64 m] 29)).cell? ⟨w.heap.size, 2, none⟩ = some (.slice aa la ca) := by go_simp
  have cK3 : (w.alloc (.cells #[.bool na, .slice aa' la' ca', .slice aa la ca, .bool nb, .slice ab' lb' cb', .slice ab lb cb, .int .i64 lo, .int .i64 hi, .int .i64 m] 29)).cell? ⟨w.heap.size, 3, none⟩ = some (.bool nb) := by go_simp
  have cK4 : (w.alloc (.cells #[.bool na, .slice aa' la' ca', .slice aa la ca, .bool nb, .slice ab' lb' cb', .slice ab lb cb, .int .i64 lo, .int .i64 hi, .int .i64 m] 29)).cell? ⟨w.heap.size, 4, none⟩ = some (.slice ab' lb' cb') := by go_simp
  have cK5 : (w.alloc (.cells #[.bool na, .slice aa' la' ca', .slice aa la ca, .bool nb, .slice ab' lb' cb', .slice ab lb cb, .int .i64 lo, .int .i64 hi, .int .i64 m] 29)).cell? ⟨w.heap.size, 5, none⟩ = some (.slice ab lb cb) := by go_simp
  have cK6 : (w.alloc (.cells #[.bool na, .slice aa' la' ca', .slice aa la ca, .bool nb, .slice ab' lb' cb', .slice ab lb cb, .int .i64 lo, .int .i64 hi, .int .i64 m] 29)).cell? ⟨w.heap.size, 6, none⟩ = some (.int .i64 lo) := by go_simp
  have cK7 : (w.alloc (.cells #[.bool na, .slice aa' la' ca', .slice aa la ca, .bool nb, .slice ab' lb' cb', .slice ab lb cb, .int .i64 lo, .int .i64 hi, .int .i64 m] 29)).cell? ⟨w.heap.size, 7, none⟩ = some (.int .i64 hi) := by go_simp
  have cK8 : (w.alloc (.cells #[.bool na, .slice aa' la' ca', .slice aa la ca, .bool nb, .slice ab' lb' cb', .slice ab lb cb, .int .i64 lo, .int .i64 hi, .int .i64 m] 29)).cell? ⟨w.heap.size, 8, none⟩ = some (.int .i64 m) := by go_simp
  have ltK : w.heap.size < (w.alloc (.cells #[.bool na, .slice aa' la' ca', .slice aa la ca, .bool nb, .slice ab' lb' cb', .slice ab lb cb, .int .i64 lo, .int .i64 hi, .int .i64 m] 29)).heap.size := by simp
  have hB := hbx
  generalize (w.alloc (.cells #[.bool na, .slice aa' la' ca', .slice aa la ca, .bool nb, .slice ab' lb' cb', .slice ab lb cb, .int .i64 lo, .int .i64 hi, .int .i64 m] 29)) = w0 at *
  clear hbx
  refine (wide_any _ _ _ _ _ _ _ _ _ _ _ _ _ _ lo hi m _ b1 b2 b3 b4).mono ?_
  rintro e w1 ⟨rfl, hb⟩
  replace cK0 := ((bcell hb (w.heap.size) ltK).1 0).trans cK0
  replace cK1 := ((bcell hb (w.heap.size) ltK).1 1).trans cK1
  replace cK2 := ((bcell hb (w.heap.size) ltK).1 2).trans cK2
  replace cK3 := ((bcell hb (w.heap.size) ltK).1 3).trans cK3
  replace cK4 := ((bcell hb (w.heap.size) ltK).1 4).trans cK4
  replace cK5 := ((bcell hb (w.heap.size) ltK).1 5).trans cK5
  replace cK6 := ((bcell hb (w.heap.size) ltK).1 6).trans cK6
  replace cK7 := ((bcell hb (w.heap.size) ltK).1 7).trans cK7
  replace cK8 := ((bcell hb (w.heap.size) ltK).1 8).trans cK8
  replace ltK := Nat.lt_of_lt_of_le ltK hb.size
  replace HA := Lib.hid (HA.out.below hb)
  replace HB0 := Lib.hid (HB0.out.below hb)
  replace HR := Lib.hid (HR.out.below hb)
  replace hB := hB.trans (hb.mono hB.size)
  clear hb
  by_cases hg : (lgN la' la || lgN lb' lb) = true
  · rw [hg]
    clear hg
    go_wp2_with fail
    go_ret
    exact ⟨rfl, hB⟩
  have hg' : (lgN la' la || lgN lb' lb) = false := by simpa using hg
  rw [hg']
  simp at hg'
  have HV := Lib.hid (show LinV w1 (.agg #[.bool na, .slice aa' la' ca', .slice aa la ca, .bool nb, .slice ab' lb' cb', .slice ab lb cb, .int .i64 lo, .int .i64 hi, .int .i64 m]) A B lo hi m 20 from ⟨na, aa', la', ca', aa, la, ca, nb, ab', lb', cb', ab, lb, cb, rfl, HA.out.small hg'.1, HB0.out.small hg'.2⟩)
  clear hg hg' HA HB0
  go_wp2_with fail
  refine (much_any rs a len cap M _ HR.out).mono ?_
  rintro e w2 ⟨b, rfl, hQ, hb⟩
  replace cK0 := ((bcell hb (w.heap.size) ltK).1 0).trans cK0
  replace cK1 := ((bcell hb (w.heap.size) ltK).1 1).trans cK1
  replace cK2 := ((bcell hb (w.heap.size) ltK).1 2).trans cK2
  replace cK3 := ((bcell hb (w.heap.size) ltK).1 3).trans cK3
  replace cK4 := ((bcell hb (w.heap.size) ltK).1 4).trans cK4
  replace cK5 := ((bcell hb (w.heap.size) ltK).1 5).trans cK5
  replace cK6 := ((bcell hb (w.heap.size) ltK).1 6).trans cK6
  replace cK7 := ((bcell hb (w.heap.size) ltK).1 7).trans cK7
  replace cK8 := ((bcell hb (w.heap.size) ltK).1 8).trans cK8
  replace ltK := Nat.lt_of_lt_of_le ltK hb.size
  replace HV := Lib.hid (HV.out.below hb)
  replace HR := Lib.hid (HR.out.below hb)
  replace hB := hB.trans (hb.mono hB.size)
  have HQ := Lib.hid (fun h1 h2 => (hQ h1 h2).below hb)
  clear hQ
  clear hb
  by_cases hg : b = true
  · subst hg
    clear HQ
    go_wp2_with fail
    go_ret
    exact ⟨rfl, hB⟩
  obtain rfl : b = false := by simpa using hg
  clear hg
  by_cases h70 : 70 < len
  · have d7 : decide (70 < (len : Int)) = true := by simp; omega
    go_wp2_with fail
    go_ret
    exact ⟨rfl, hB⟩
  have d7 : decide (70 < (len : Int)) = false := by simp; omega
  clear HR
  have HR := Lib.hid (HQ.out rfl (by omega))
  clear HQ
  by_cases her : ∃ er : Int, er ≠ 0 ∧ Hid (∀ w', Below w2.heap.size w2 w' → Calls Try.prog 19 #[.agg #[.bool na, .slice aa' la' ca', .slice aa la ca, .bool nb, .slice ab' lb' cb', .slice ab lb cb, .int .i64 lo, .int .i64 hi, .int .i64 m], .slice a len cap] w' fun e w'' => e = .returned (.tuple #[.slice none 0 0, .int .i64 er]) ∧ Below w'.heap.size w' w'')
  · obtain ⟨er, hz0, HT⟩ := her
    have hz : (er == 0) = false := by simpa using hz0
    go_wp2_with fail
    refine (HT.out _ (Below.refl _ _)).mono ?_
    rintro e w3 ⟨rfl, hb⟩
    replace cK0 := ((bcell hb (w.heap.size) ltK).1 0).trans cK0
    replace cK1 := ((bcell hb (w.heap.size) ltK).1 1).trans cK1
    replace cK2 := ((bcell hb (w.heap.size) ltK).1 2).trans cK2
    replace cK3 := ((bcell hb (w.heap.size) ltK).1 3).trans cK3
    replace cK4 := ((bcell hb (w.heap.size) ltK).1 4).trans cK4
    replace cK5 := ((bcell hb (w.heap.size) ltK).1 5).trans cK5
    replace cK6 := ((bcell hb (w.heap.size) ltK).1 6).trans cK6
    replace cK7 := ((bcell hb (w.heap.size) ltK).1 7).trans cK7
    replace cK8 := ((bcell hb (w.heap.size) ltK).1 8).trans cK8
    replace ltK := Nat.lt_of_lt_of_le ltK hb.size
    replace HV := Lib.hid (HV.out.below hb)
    replace hB := hB.trans (hb.mono hB.size)
    have HT3 := Lib.hid (fun w' (h : Below w3.heap.size w3 w') => HT.out w' (hb.trans (h.mono hb.size)))
    clear HT hb
    go_wp2_with fail
    refine (reach_err _ A B lo hi m s er a len cap 20 _ HV.out HT3.out hz0).mono ?_
    rintro e w4 ⟨rfl, hb⟩
    replace hB := hB.trans (hb.mono hB.size)
    clear HT3
    go_wp2_with fail
    go_ret
    exact ⟨rfl, hB⟩
  have hv0 : validE A lo hi m = 0 := by
    by_cases h : validE A lo hi m = 0
    · exact h
    · exact absurd ⟨_, h, Lib.hid fun w' h' => table_no _ A B lo hi m a len cap 20 w' (HV.out.below h') (by omega) h⟩ her
  have h61 : len ≤ 61 := by
    by_cases h : len ≤ 61
    · exact h
    · exact absurd ⟨5, by omega, Lib.hid fun w' h' => table_long _ A B lo hi m a len cap 20 w' (HV.out.below h') (by omega) hv0 (by omega) (by omega)⟩ her
  clear her h70
  have HV0 := Lib.hid hv0
  clear hv0
  go_wp2_with fail
  refine (table_any _ A B lo hi m rs a len cap 20 _ HV.out HR.out (by omega) (by omega) HV0.out h61).mono ?_
  rintro e w3 ⟨a2, c2, rfl, hI, hb⟩
  replace cK0 := ((bcell hb (w.heap.size) ltK).1 0).trans cK0
  replace cK1 := ((bcell hb (w.heap.size) ltK).1 1).trans cK1
  replace cK2 := ((bcell hb (w.heap.size) ltK).1 2).trans cK2
  replace cK3 := ((bcell hb (w.heap.size) ltK).1 3).trans cK3
  replace cK4 := ((bcell hb (w.heap.size) ltK).1 4).trans cK4
  replace cK5 := ((bcell hb (w.heap.size) ltK).1 5).trans cK5
  replace cK6 := ((bcell hb (w.heap.size) ltK).1 6).trans cK6
  replace cK7 := ((bcell hb (w.heap.size) ltK).1 7).trans cK7
  replace cK8 := ((bcell hb (w.heap.size) ltK).1 8).trans cK8
  replace ltK := Nat.lt_of_lt_of_le ltK hb.size
  replace HV := Lib.hid (HV.out.below hb)
  replace HR := Lib.hid (HR.out.below hb)
  replace hB := hB.trans (hb.mono hB.size)
  have HI := Lib.hid hI
  clear hI
  clear hb
  go_wp2_with fail
  refine (reach_any _ A B lo hi m s rs a len cap 20 _ HV.out HR.out (by omega) (by omega) HV0.out h61).mono ?_
  rintro e w4 ⟨rfl, hb⟩
  replace cK0 := ((bcell hb (w.heap.size) ltK).1 0).trans cK0
  replace cK1 := ((bcell hb (w.heap.size) ltK).1 1).trans cK1
  replace cK2 := ((bcell hb (w.heap.size) ltK).1 2).trans cK2
  replace cK3 := ((bcell hb (w.heap.size) ltK).1 3).trans cK3
  replace cK4 := ((bcell hb (w.heap.size) ltK).1 4).trans cK4
  replace cK5 := ((bcell hb (w.heap.size) ltK).1 5).trans cK5
  replace cK6 := ((bcell hb (w.heap.size) ltK).1 6).trans cK6
  replace cK7 := ((bcell hb (w.heap.size) ltK).1 7).trans cK7
  replace cK8 := ((bcell hb (w.heap.size) ltK).1 8).trans cK8
  replace ltK := Nat.lt_of_lt_of_le ltK hb.size
  replace HV := Lib.hid (HV.out.below hb)
  replace HR := Lib.hid (HR.out.below hb)
  replace HI := Lib.hid (HI.out.below hb)
  replace hB := hB.trans (hb.mono hB.size)
  clear hb
  generalize scoresL A B lo hi m rs = sl at *
  have HN1 := Lib.hid (reach_bad (rs := rs) (l := sl) (s := s))
  have HN2 := Lib.hid (fun k => reach_found (rs := rs) (l := sl) (s := s) (k := k))
  have HN3 := Lib.hid (reach_none (rs := rs) (l := sl) (s := s))
  generalize reachI rs sl s = ri at *
  generalize reachE rs sl s = re at *
  clear HV HV0
  go_wp2_with fail
  go_loopw [11] (fun i wr => ∃ k : Nat, 1 ≤ k ∧ (k ≤ len ∨ k = 1) ∧ i = .int .i64 k ∧ Hid (∀ j, 1 ≤ j → j < k → rs.getD (j - 1) 0 ≤ rs.getD j 0) ∧ Below w4.heap.size w4 wr) (fun i _ => len - (intOf i).toNat)
  case atStart => exact ⟨1, by omega, by omega, rfl, Lib.hid (fun j h1 h2 => by omega), Below.refl _ _⟩
  case round =>
    obtain ⟨k, hk1, hk2, rfl, HG, hb⟩ := hrel
    have hb0r := hB.trans (hb.mono hB.size)
    by_cases hlt : k < len
    · obtain ⟨bb, off, rfl, hbs, hcc⟩ := HR.out.at hlt
      obtain ⟨n, x', l', c', x, l, c, e0, e1, e2, hX⟩ := (hcc k hlt).below hbs hb
      obtain ⟨n2, y', p', d', y, p, d, u0, u1, u2, hY⟩ := (hcc (k - 1) (by omega)).below hbs hb
      have HX := Lib.hid hX
      have HY := Lib.hid hY
      have HBad := Lib.hid (show rs.getD k 0 < rs.getD (k - 1) 0 → ¬ Rises rs from fun h1 h2 => by
        have := h2 k hk1 (by rw [HRl.out]; exact hlt)
        exact Rat.not_le.2 h1 this)
      generalize hrk : rs.getD k 0 = rk at *
      generalize hrj : rs.getD (k - 1) 0 = rj at *
      have HRk := Lib.hid hrk
      have HRj := Lib.hid hrj
      clear hrk hrj
      obtain ⟨j, hkj⟩ : ∃ j, k - 1 = j := ⟨_, rfl⟩
      rw [hkj] at u0 u1 u2
      have hjl : j < len := by omega
      have hsub : (k : Int) - 1 = (j : Int) := by omega
      have hwj : IntKind.i64.wrap (j : Int) = (j : Int) := IntWalk.i64_in _ (by omega)
      clear hkj
      have hbe : bb < wr.heap.size := Nat.lt_of_lt_of_le hbs hb.size
      have g0 := box_ext (B := wr.heap.size) e0 hbe
      have g1 := box_ext (B := wr.heap.size) e1 hbe
      have g2 := box_ext (B := wr.heap.size) e2 hbe
      have p0 := box_ext (B := wr.heap.size) u0 hbe
      have p1 := box_ext (B := wr.heap.size) u1 hbe
      have p2 := box_ext (B := wr.heap.size) u2 hbe
      clear hcc hX hY e0 e1 e2 u0 u1 u2
      go_wp2_with fail
      refine wp_region_sched [(0, false), (1, false), (2, false), (3, false), (4, false), (5, false), (6, false), (7, false), (8, false), (9, true), (10, false)] (fun w' => ∃ W : Ext wr.heap.size wr, w' = W.1) (by kernel_rfl) (by kernel_rfl) ⟨⟨wr.drew, (Below.refl _ _).drew⟩, rfl⟩ ?_
      repeat (refine wpSched_calm rfl (fun K hK => ?_); go_simp; refine hK _ ?_; clear hK K)
      refine wpSched_eff rfl rfl (fun K hK => ?_)
      go_simp
      refine (qcmp_any _ _ rj rk 20 20 _ (HY.out.below (Below.refl _ _).drew) (HX.out.below (Below.refl _ _).drew) (by omega) (by omega) (by omega)).mono ?_
      rintro e w5 ⟨rfl, hb2⟩
      have hM := ((Below.refl wr.heap.size wr).drew).trans (hb2.mono (by simp))
      have hbn := hb.trans (hM.mono hb.size)
      refine hK _ _ ⟨⟨w5, hM⟩, rfl⟩ ?_
      clear hK K hb2
      have HC := Lib.hid (cmpI_gt' (r := rj) (s := rk))
      generalize rcmpI rj rk = cc at *
      repeat (refine wpSched_calm rfl (fun K hK => ?_); go_simp; refine hK _ ?_; clear hK K)
      refine wpSched_nil ?_
      by_cases hc : 0 < cc
      · obtain ⟨rfl, rfl⟩ := HN1.out (HBad.out (HC.out.1 hc))
        clear HN1 HN2 HN3
        go_wp2_with fail
        go_ret
        exact ⟨rfl, hB.trans (hbn.mono hB.size)⟩
      · have HG2 := Lib.hid (show ∀ j', 1 ≤ j' → j' < k + 1 → rs.getD (j' - 1) 0 ≤ rs.getD j' 0 from fun j' h1 h2 => by
          by_cases hj : j' < k
          · exact HG.out j' h1 hj
          · obtain rfl : j' = k := by omega
            rw [HRk.out, HRj.out]; exact Rat.not_lt.1 (fun h => hc (HC.out.2 h)))
        go_wp2_with fail
        go_roundw
        case rel => exact ⟨k + 1, by omega, by omega, by go_num, HG2, hbn⟩
        case measure => simp [intOf]; omega
    · have HRi := Lib.hid (show Rises rs from fun j h1 h2 => HG.out j h1 (by rw [HRl.out] at h2; omega))
      clear HG
      have HI2 := Lib.hid (HI.out.below hb)
      clear HI
      go_wp2_with fail
      clear hlt hk1 hk2 hb hB HR
      go_loopw [12] (fun i wq => ∃ k : Nat, k ≤ len ∧ i = .int .i64 k ∧ Hid (∀ j, j < k → ¬ s ≤ sl.getD j 0) ∧ wr = wq) (fun i _ => len - (intOf i).toNat)
      case atStart => exact ⟨0, by omega, rfl, Lib.hid (fun j h => by omega), rfl⟩
      case round =>
        obtain ⟨k2, hk2, rfl, HG, rfl⟩ := hrel
        by_cases hlt : k2 < len
        · obtain ⟨bb, off, rfl, hbs, hcc⟩ := HI2.out.2.at hlt
          have e0 := hcc k2 hlt _ (Below.refl _ _)
          generalize hv : sl.getD k2 0 = v at *
          have HV2 := Lib.hid hv
          clear hcc hv
          by_cases hs : s ≤ v
          · obtain ⟨rfl, rfl⟩ := HN2.out k2 HRi.out (fI_at (k := k2) (by rw [HSl.out]; exact hlt) (by rw [HV2.out]; exact hs) HG.out) (by rw [HSl.out]; exact hlt)
            clear HN1 HN2 HN3
            go_wp2_with fail
            go_ret
            exact ⟨rfl, hb0r⟩
          · have HG2 := Lib.hid (show ∀ j', j' < k2 + 1 → ¬ s ≤ sl.getD j' 0 from fun j' h2 => by
              by_cases hj : j' < k2
              · exact HG.out j' hj
              · obtain rfl : j' = k2 := by omega
                rw [HV2.out]; exact hs)
            go_wp2_with fail
            go_roundw
            case rel => exact ⟨k2 + 1, by omega, by go_num, HG2, trivial⟩
            case measure => simp [intOf]; omega
        · obtain ⟨rfl, rfl⟩ := HN3.out HRi.out (fI_none (fun j hj => HG.out j (by rw [HSl.out] at hj; omega)))
          clear HN1 HN2 HN3
          go_wp2_with fail
          go_ret
          exact ⟨rfl, hb0r⟩

theorem scalingReaches_walk {H : Type} {enc : TypeId × Value → H} (W : World) (base : Nat) (args : Array Value) (ds gs : List (DataW H)) (before : List MemPlace)
    (hval : ∀ (j : Nat) t v, Try.f7.params[j]? = some t → args[j]? = some v → Value.okWide Try.prog W .any base t v)
    (hW : DataW.Whole enc Try.prog Try.f7.params.toList Rows.scalingReachesSpec.vars false W args.toList ds gs before)
    (_hsz : (DataW.weightsEach Try.prog (Try.f7.params.toList ++ Rows.scalingReachesSpec.plain.varTypes Try.prog) (ds ++ gs)).all (· ≤ reachBytes) = true) :
    Calls Try.prog 7 args W fun e w' => e = .returned (.bool true) ∧ Below W.heap.size W w' := by
  obtain ⟨p, q, hA, hV, -, -, -⟩ := hW
  obtain ⟨rfl, -⟩ := trodVars_none hV
  rw [Try.params7] at hA hval
  obtain ⟨v0, v1, v2, d0, d1, d2, p0, p1, p2, rfl, rfl, rfl, h0, h1, h2⟩ := trodAll_three hA
  obtain ⟨A, B, lo, hi, m, hX⟩ := open_linear (hval 0 _ _ rfl rfl) h0
  obtain ⟨a, len, cap, rs, M, rfl, hR⟩ := open_rats (hval 1 _ _ rfl rfl) h1
  obtain ⟨s, rfl⟩ := okWide_int Try.underlying3 (hval 2 _ _ rfl rfl)
  obtain ⟨L, na, aa', la', ca', aa, la, ca, nb, ab', lb', cb', ab, lb, cb, rfl, hA', hB'⟩ := hX
  exact sReach_walk na aa' aa la' ca' la ca nb ab' ab lb' cb' lb cb lo hi m s rs a len cap A B L M W hA' hB' hR

set_option maxRecDepth 100000 in
theorem scalingReaches_lifted (os : Os) (started : os.Started) (H : Type) (enc : TypeId × Value → H) :
    ReturnsInHanded {} Try.checked os 7 .any (Rows.scalingReachesSpec.pre6 enc Try.prog Try.f7 Rows.scalingReachesRow.domain false) (Rows.scalingReachesSpec.post enc Try.prog Try.f7 false true false false) := by
  refine returnsInHanded_of_change_sized (C := Try.checked) own started (by kernel_rfl) Try.func7
    (ChangeSpec.witness6 (enc := enc) (C := Try.checked) false ⟨#[], #[.agg #[.bool false, .slice none 0 0, .slice none 0 0, .bool false, .slice none 0 0, .slice none 0 0, .int .i64 0, .int .i64 0, .int .i64 0], .slice none 0 0, .int .i64 0], []⟩ 8 (by kernel_rfl) (by kernel_rfl) (by kernel_rfl) (by kernel_rfl)) ?_
  intro W base args ds gs before hval hW _ hsz _
  exact law_post rfl (by kernel_rfl) (by kernel_rfl) (fun ds h => match ds, h with | [d0, d1, d2], _ => ⟨rfl, rfl, rfl⟩) hW (scalingReaches_walk W base args ds gs before hval hW hsz)

theorem scalingReaches_over : Rows.scalingReachesRow.holds Try.pinned (OpenSpec.ofChange Rows.scalingReachesSpec) :=
  OpenClaim.holds_of_wide 7 Try.f7 rfl rfl rfl rfl rfl rfl rfl ⟨rfl, rfl, rfl, rfl, rfl⟩ rfl rfl rfl rfl rfl (by kernel_rfl) Try.func7 (by kernel_rfl)
    (of_decide_eq_true (by kernel_rfl)) (by unfold Func.isWrapper; first | (rw [if_pos (by decide +kernel)]; kernel_rfl) | (rw [if_neg (by decide +kernel)]; exact ⟨rfl, rfl⟩))
    (fun os started H enc _ => scalingReaches_lifted os started H enc)

theorem scalingReaches_proved : Rows.ScalingReachesSaid := scalingReaches_over

end Go.Proofs.Ytmahokhgdkdhkaa
