/- Scales: what scaling.Table returns where it refuses, and scaling.Reach. -/
import Derived.Test.YtmahokhgdkdhkaaRats
namespace Go.Proofs.Ytmahokhgdkdhkaa
set_option maxRecDepth 100000
open Go.RowKit

set_option maxHeartbeats 2000000 in
theorem table_no (v : Value) (A B : Rat) (lo hi m : Int) (a : Option Addr) (len cap L : Nat) (w : World) (hv : LinV w v A B lo hi m L) (hL : 1 ≤ L) (ho : validE A lo hi m ≠ 0) :
    Calls Try.prog 19 #[v, .slice a len cap] w fun e w' => e = .returned (.tuple #[.slice none 0 0, .int .i64 (validE A lo hi m)]) ∧ Below w.heap.size w w' := by
  have HV := Lib.hid hv
  have hz : (validE A lo hi m == 0) = false := by simpa using ho
  obtain ⟨na, aa', la', ca', aa, la, ca, nb, ab', lb', cb', ab, lb, cb, rfl, -, -⟩ := hv
  have hb0 : Below w.heap.size w (w.alloc (.cells #[.bool na, .slice aa' la' ca', .slice aa la ca, .bool nb, .slice ab' lb' cb', .slice ab lb cb, .int .i64 lo, .int .i64 hi, .int .i64 m] 29)) := (Below.refl _ _).alloc (Nat.le_refl _) _
  clear ho
  go_enter Try.func19, Try.ntmps19
  go_wp2_with fail
  refine (svalid_any _ A B lo hi m L _ (HV.out.below hb0) hL).mono ?_
  rintro e w1 ⟨rfl, hb1⟩
  have hb01 := hb0.trans (hb1.mono (by simp))
  generalize hev : validE A lo hi m = ev at *
  have HEv := Lib.hid hev
  clear hev
  go_wp2_with fail
  go_ret2
  exact ⟨by rw [HEv.out]; rfl, hb01⟩

set_option maxHeartbeats 2000000 in
theorem table_long (v : Value) (A B : Rat) (lo hi m : Int) (a : Option Addr) (len cap L : Nat) (w : World) (hv : LinV w v A B lo hi m L) (hL : 1 ≤ L) (ho : validE A lo hi m = 0) (hlen : 61 < len) (hlm : len ≤ 9223372036854775807) :
    Calls Try.prog 19 #[v, .slice a len cap] w fun e w' => e = .returned (.tuple #[.slice none 0 0, .int .i64 5]) ∧ Below w.heap.size w w' := by
  have HV := Lib.hid hv
  have HO := Lib.hid ho
  have d61 : decide (61 < (len : Int)) = true := by simp; omega
  obtain ⟨na, aa', la', ca', aa, la, ca, nb, ab', lb', cb', ab, lb, cb, rfl, -, -⟩ := hv
  have hb0 : Below w.heap.size w (w.alloc (.cells #[.bool na, .slice aa' la' ca', .slice aa la ca, .bool nb, .slice ab' lb' cb', .slice ab lb cb, .int .i64 lo, .int .i64 hi, .int .i64 m] 29)) := (Below.refl _ _).alloc (Nat.le_refl _) _
  clear ho
  go_enter Try.func19, Try.ntmps19
  go_wp2_with fail
  refine (svalid_any _ A B lo hi m L _ (HV.out.below hb0) hL).mono ?_
  rintro e w1 ⟨rfl, hb1⟩
  rw [HO.out]
  have hb01 := hb0.trans (hb1.mono (by simp))
  go_wp2_with fail
  go_ret2
  exact ⟨rfl, hb01⟩

def Rises (rs : List Rat) : Prop := ∀ j, 1 ≤ j → j < rs.length → rs.getD (j - 1) 0 ≤ rs.getD j 0
/-- the first index whose score is at least s -/
def fI (l : List Int) (s : Int) : Nat := l.findIdx (fun x => decide (s ≤ x))
theorem fI_at {l : List Int} {s : Int} {k : Nat} (hk : k < l.length) (h : s ≤ l.getD k 0) (hb : ∀ j, j < k → ¬ s ≤ l.getD j 0) : fI l s = k := by
  unfold fI
  rw [List.findIdx_eq hk]
  refine ⟨by simpa [List.getD, hk] using h, fun j hj => ?_⟩
  have := hb j hj
  simpa [List.getD, show j < l.length by omega] using this
theorem fI_none {l : List Int} {s : Int} (hb : ∀ j, j < l.length → ¬ s ≤ l.getD j 0) : fI l s = l.length := by
  unfold fI
  rw [List.findIdx_eq_length]
  intro x hx
  obtain ⟨j, hj, rfl⟩ := List.getElem_of_mem hx
  have := hb j hj
  simpa [List.getD, hj] using this
open Classical in
noncomputable def reachI (rs : List Rat) (l : List Int) (s : Int) : Int := if Rises rs then (if fI l s < l.length then (fI l s : Int) else 0) else 0
open Classical in
noncomputable def reachE (rs : List Rat) (l : List Int) (s : Int) : Int := if Rises rs then (if fI l s < l.length then 0 else 6) else 23
theorem reach_bad {rs : List Rat} {l : List Int} {s : Int} (h : ¬ Rises rs) : reachI rs l s = 0 ∧ reachE rs l s = 23 := by
  unfold reachI reachE; rw [if_neg h, if_neg h]; exact ⟨rfl, rfl⟩
theorem reach_found {rs : List Rat} {l : List Int} {s : Int} {k : Nat} (h : Rises rs) (hf : fI l s = k) (hk : k < l.length) : reachI rs l s = (k : Int) ∧ reachE rs l s = 0 := by
  unfold reachI reachE; rw [if_pos h, if_pos h, hf, if_pos hk, if_pos hk]; exact ⟨rfl, rfl⟩
theorem reach_none {rs : List Rat} {l : List Int} {s : Int} (h : Rises rs) (hf : fI l s = l.length) : reachI rs l s = 0 ∧ reachE rs l s = 6 := by
  unfold reachI reachE; rw [if_pos h, if_pos h, hf, if_neg (Nat.lt_irrefl _), if_neg (Nat.lt_irrefl _)]; exact ⟨rfl, rfl⟩
theorem cmpI_lt' {r s : Rat} : rcmpI r s < 0 ↔ r < s := by
  unfold rcmpI
  by_cases h : r < s
  · simp [h]
  · rw [if_neg h]; split <;> simp [h]

set_option maxHeartbeats 4000000 in
theorem reach_any (v : Value) (A B : Rat) (lo hi m s : Int) (rs : List Rat) (a : Option Addr) (len cap L : Nat) (w : World) (hv : LinV w v A B lo hi m L) (hr : Rats w a len cap rs L) (hL : 1 ≤ L) (hm : (3 * L + 5) * 4 ≤ 140737488355328) (ho : validE A lo hi m = 0) (hlen : len ≤ 61) :
    Calls Try.prog 21 #[v, .slice a len cap, .int .i64 s] w fun e w' => e = .returned (.tuple #[.int .i64 (reachI rs (scoresL A B lo hi m rs) s), .int .i64 (reachE rs (scoresL A B lo hi m rs) s)]) ∧ Below w.heap.size w w' := by
  have HV := Lib.hid hv
  have HRs := Lib.hid hr
  have HRl := Lib.hid hr.1
  have HSl := Lib.hid (show (scoresL A B lo hi m rs).length = len by rw [scoresL_length, hr.1])
  obtain ⟨na, aa', la', ca', aa, la, ca, nb, ab', lb', cb', ab, lb, cb, rfl, -, -⟩ := hv
  have hb0 : Below w.heap.size w (w.alloc (.cells #[.bool na, .slice aa' la' ca', .slice aa la ca, .bool nb, .slice ab' lb' cb', .slice ab lb cb, .int .i64 lo, .int .i64 hi, .int .i64 m] 29)) := (Below.refl _ _).alloc (Nat.le_refl _) _
  have HT := Lib.hid (table_any _ A B lo hi m rs a len cap L _ (HV.out.below hb0) (HRs.out.below hb0) hL hm ho hlen)
  clear ho hr
  go_enter Try.func21, Try.ntmps21
  go_wp2_with fail
  refine HT.out.mono ?_
  rintro e w1 ⟨a2, c2, rfl, hI, hb1⟩
  have hb01 := hb0.trans (hb1.mono (by simp))
  have HI := Lib.hid hI
  have HR1 := Lib.hid (HRs.out.below hb01)
  clear hI hb1 HT
  generalize hsl : scoresL A B lo hi m rs = sl at *
  have HSle := Lib.hid hsl
  clear hsl
  go_wp2_with fail
  go_loopw [10] (fun i wr => ∃ k : Nat, 1 ≤ k ∧ (k ≤ len ∨ k = 1) ∧ i = .int .i64 k ∧ Hid (∀ j, 1 ≤ j → j < k → rs.getD (j - 1) 0 ≤ rs.getD j 0) ∧ Below w1.heap.size w1 wr) (fun i _ => len - (intOf i).toNat)
  case atStart => exact ⟨1, by omega, by omega, rfl, Lib.hid (fun j h1 h2 => by omega), Below.refl _ _⟩
  case round =>
    obtain ⟨k, hk1, hk2, rfl, HG, hb⟩ := hrel
    have hb0r := hb01.trans (hb.mono hb01.size)
    by_cases hlt : k < len
    · obtain ⟨bb, off, rfl, hbs, hcc⟩ := HR1.out.at hlt
      obtain ⟨n, x', l', c', x, l, c, e0, e1, e2, hX⟩ := (hcc k hlt).below hbs hb
      obtain ⟨n2, y', p', d', y, p, d, u0, u1, u2, hY⟩ := (hcc (k - 1) (by omega)).below hbs hb
      have HX := Lib.hid hX
      have HY := Lib.hid hY
      have HBad := Lib.hid (show rs.getD k 0 < rs.getD (k - 1) 0 → ¬ Rises rs from fun h1 h2 => by
        have := h2 k hk1 (by rw [HRl.out]; exact hlt)
        exact Rat.not_le.2 h1 this)
      generalize hrk : rs.getD k 0 = rk at *
      generalize hrj : rs.getD (k - 1) 0 = rj at *
      have HRk := Lib.hid hrk
      have HRj := Lib.hid hrj
      clear hrk hrj
      obtain ⟨j, hkj⟩ : ∃ j, k - 1 = j := ⟨_, rfl⟩
      rw [hkj] at u0 u1 u2
      have hjl : j < len := by omega
      have hsub : (k : Int) - 1 = (j : Int) := by omega
      have hwj : IntKind.i64.wrap (j : Int) = (j : Int) := IntWalk.i64_in _ (by omega)
      clear hkj
      have hbe : bb < wr.heap.size := Nat.lt_of_lt_of_le hbs hb.size
      have g0 := box_ext (B := wr.heap.size) e0 hbe
      have g1 := box_ext (B := wr.heap.size) e1 hbe
      have g2 := box_ext (B := wr.heap.size) e2 hbe
      have p0 := box_ext (B := wr.heap.size) u0 hbe
      have p1 := box_ext (B := wr.heap.size) u1 hbe
      have p2 := box_ext (B := wr.heap.size) u2 hbe
      clear hcc hX hY e0 e1 e2 u0 u1 u2
      go_wp2_with fail
      refine wp_region_sched [(0, false), (1, false), (2, false), (3, false), (4, false), (5, false), (6, false), (7, false), (8, false), (9, true), (10, false)] (fun w' => ∃ W : Ext wr.heap.size wr, w' = W.1) (by kernel_rfl) (by kernel_rfl) ⟨⟨wr.drew, (Below.refl _ _).drew⟩, rfl⟩ ?_
      repeat (refine wpSched_calm rfl (fun K hK => ?_); go_simp; refine hK _ ?_; clear hK K)
      refine wpSched_eff rfl rfl (fun K hK => ?_)
      go_simp
      refine (qcmp_any _ _ rk rj L L _ (HX.out.below (Below.refl _ _).drew) (HY.out.below (Below.refl _ _).drew) hL hL (by omega)).mono ?_
      rintro e w2 ⟨rfl, hb2⟩
      have hM := ((Below.refl wr.heap.size wr).drew).trans (hb2.mono (by simp))
      have hbn := hb.trans (hM.mono hb.size)
      refine hK _ _ ⟨⟨w2, hM⟩, rfl⟩ ?_
      clear hK K hb2
      have HC := Lib.hid (cmpI_lt' (r := rk) (s := rj))
      generalize rcmpI rk rj = cc at *
      repeat (refine wpSched_calm rfl (fun K hK => ?_); go_simp; refine hK _ ?_; clear hK K)
      refine wpSched_nil ?_
      by_cases hc : cc < 0
      · have HN := Lib.hid (reach_bad (l := sl) (s := s) (HBad.out (HC.out.1 hc)))
        go_wp2_with fail
        go_ret2
        refine ⟨?_, hb01.trans (hbn.mono hb01.size)⟩
        rw [HSle.out, HN.out.1, HN.out.2]; rfl
      · have HG2 := Lib.hid (show ∀ j', 1 ≤ j' → j' < k + 1 → rs.getD (j' - 1) 0 ≤ rs.getD j' 0 from fun j' h1 h2 => by
          by_cases hj : j' < k
          · exact HG.out j' h1 hj
          · obtain rfl : j' = k := by omega
            rw [HRk.out, HRj.out]; exact Rat.not_lt.1 (fun h => hc (HC.out.2 h)))
        go_wp2_with fail
        go_roundw
        case rel => exact ⟨k + 1, by omega, by omega, by go_num, HG2, hbn⟩
        case measure => simp [intOf]; omega
    · have HRi := Lib.hid (show Rises rs from fun j h1 h2 => HG.out j h1 (by rw [HRl.out] at h2; omega))
      clear HG
      go_wp2_with fail
      have HI2 := Lib.hid (HI.out.below hb)
      clear HI
      have hb0r' := hb0r
      clear hlt hk1 hk2 hb hb01 HR1 hb0r
      go_loopw [41] (fun i wq => ∃ k : Nat, k ≤ len ∧ i = .int .i64 k ∧ Hid (∀ j, j < k → ¬ s ≤ sl.getD j 0) ∧ wr = wq) (fun i _ => len - (intOf i).toNat)
      case atStart => exact ⟨0, by omega, rfl, Lib.hid (fun j h => by omega), rfl⟩
      case round =>
        obtain ⟨k2, hk2, rfl, HG, rfl⟩ := hrel
        by_cases hlt : k2 < len
        · obtain ⟨bb, off, rfl, hbs, hcc⟩ := HI2.out.2.at hlt
          have e0 := hcc k2 hlt _ (Below.refl _ _)
          generalize hv : sl.getD k2 0 = v at *
          have HV2 := Lib.hid hv
          clear hcc hv
          by_cases hs : s ≤ v
          · have HN := Lib.hid (reach_found (s := s) HRi.out (fI_at (k := k2) (by rw [HSl.out]; exact hlt) (by rw [HV2.out]; exact hs) HG.out) (by rw [HSl.out]; exact hlt))
            go_wp2_with fail
            go_ret2
            refine ⟨?_, hb0r'⟩
            rw [HSle.out, HN.out.1, HN.out.2]; rfl
          · have HG2 := Lib.hid (show ∀ j', j' < k2 + 1 → ¬ s ≤ sl.getD j' 0 from fun j' h2 => by
              by_cases hj : j' < k2
              · exact HG.out j' hj
              · obtain rfl : j' = k2 := by omega
                rw [HV2.out]; exact hs)
            go_wp2_with fail
            go_roundw
            case rel => exact ⟨k2 + 1, by omega, by go_num, HG2, trivial⟩
            case measure => simp [intOf]; omega
        · have HN := Lib.hid (reach_none (s := s) HRi.out (fI_none (fun j hj => HG.out j (by rw [HSl.out] at hj; omega))))
          go_wp2_with fail
          go_ret2
          refine ⟨?_, hb0r'⟩
          rw [HSle.out, HN.out.1, HN.out.2]; rfl

end Go.Proofs.Ytmahokhgdkdhkaa
