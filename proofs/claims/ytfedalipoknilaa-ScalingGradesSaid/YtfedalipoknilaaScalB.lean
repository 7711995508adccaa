/- The bands of scores: what scaling.Band and the reference's Band return, for every slice of cut scores and every score. -/
import Derived.Test.YtfedalipoknilaaBase
import Derived.Test.YtfedalipoknilaaProg
namespace Go.Proofs.Ytfedalipoknilaa
open Go.RowKit

/-! ### Plain -/
def rising : List Int → Bool
  | a :: b :: r => decide (a < b) && rising (b :: r)
  | _ => true
def count (xs : List Int) (s : Int) : Nat := (xs.filter fun c => decide (c ≤ s)).length
/-- the band, and the error -/
def bandOf (xs : List Int) (s : Int) : Int × Int := if 60 < xs.length then (0, 5) else if rising xs then (count xs s, 0) else (0, 23)

theorem rising_cons (xs : List Int) (k : Nat) (h : k + 1 < xs.length) : rising (xs.drop k) = (decide (xs.getD k 0 < xs.getD (k + 1) 0) && rising (xs.drop (k + 1))) := by
  rw [drop_cons xs k 0 (by omega), drop_cons xs (k + 1) 0 h, rising]
theorem rising_end (xs : List Int) (k : Nat) (h : xs.length ≤ k + 1) : rising (xs.drop k) = true := by
  have : (xs.drop k).length ≤ 1 := by simp; omega
  match hx : xs.drop k, this with
  | [], _ => rfl
  | [_], _ => rfl
theorem count_snoc (xs : List Int) (s : Int) (k : Nat) (h : k < xs.length) : count (xs.take (k + 1)) s = count (xs.take k) s + if xs.getD k 0 ≤ s then 1 else 0 := by
  unfold count
  rw [take_snoc xs k 0 h, List.filter_append, List.length_append]
  generalize xs.getD k 0 = x
  by_cases hc : x ≤ s <;> simp [hc]
theorem count_le (xs : List Int) (s : Int) : count xs s ≤ xs.length := List.length_filter_le _ _

/-! ### The program -/
set_option maxHeartbeats 400000 in
theorem band_any (zs : List Int) (a : Option Addr) (len cap : Nat) (s : Int) (w : World) (h : Row .i64 w a len cap zs) :
    Calls Try.prog 11 #[.slice a len cap, .int .i64 s] w fun e w' => e = .returned (.tuple #[.int .i64 (bandOf zs s).1, .int .i64 (bandOf zs s).2]) ∧ Below w.heap.size w w' := by
  obtain ⟨hl, hwf, hcell⟩ := h
  have hm := hcell.2.1; have hlc := hcell.1
  unfold maxLen at hm
  have HL := Lib.hid hl; clear hl
  have HC := Lib.hid hcell; clear hcell
  clear hwf
  by_cases h60 : 60 < len
  · have HF := Lib.hid (show bandOf zs s = (0, 5) by simp [bandOf, HL.out, h60])
    go_enter Try.func11, Try.ntmps11
    go_wp2
    go_ret2
    exact ⟨ret_pair HF.out, Below.refl _ _⟩
  · go_enter Try.func11, Try.ntmps11
    go_wp2
    go_loopw [6] (fun i wr => ∃ k : Nat, (k + 1 ≤ len ∨ k = 0) ∧ i = .int .i64 (k + 1) ∧ Hid (rising zs = rising (zs.drop k)) ∧ Below w.heap.size w wr) (fun i _ => len - (intOf i).toNat)
    case atStart => exact ⟨0, by omega, rfl, by simp [Hid], Below.refl _ _⟩
    case round =>
      obtain ⟨k, hk, rfl, HR, hb⟩ := hrel
      by_cases hlt : k + 1 < len
      · obtain ⟨b, off, rfl, hbs, hcc⟩ := HC.out.at hlt
        have c1 := hcc (k + 1) hlt wr hb
        have c2 := hcc k (by omega) wr hb
        have HS := Lib.hid (rising_cons zs k (by rw [HL.out]; omega))
        clear hcc
        generalize zs.getD (k + 1) 0 = x at *
        generalize zs.getD k 0 = y at *
        by_cases hxy : x ≤ y
        · have HF := Lib.hid (show bandOf zs s = (0, 23) by simp [bandOf, HL.out, h60, HR.out, HS.out]; omega)
          go_wp2
          go_quiet (fail)
          go_wp2
          go_ret2
          exact ⟨ret_pair HF.out, below_drewN hb _⟩
        · go_wp2
          go_quiet (fail)
          go_wp2
          go_roundw
          case rel => exact ⟨k + 1, by omega, by go_num, by unfold Hid; rw [HR.out, HS.out]; simp; omega, below_drewN hb _⟩
          case measure => simp [intOf]; omega
      · have HE := Lib.hid (show rising zs = true by rw [HR.out]; exact rising_end zs k (by rw [HL.out]; omega))
        clear HR
        go_wp2
        obtain ⟨w1, rfl⟩ : ∃ w1 : World, w1 = wr := ⟨_, rfl⟩
        go_loop [7, 31] (fun n i => ∃ j : Nat, j ≤ len ∧ i = .int .i64 j ∧ n = .int .i64 (count (zs.take j) s : Nat)) (fun _ i => len - (intOf i).toNat)
        case atStart => exact ⟨0, by omega, rfl, rfl⟩
        case round =>
          obtain ⟨j, hj, rfl, rfl⟩ := hrel
          have hcl := count_le (zs.take j) s
          have hcl' : (zs.take j).length ≤ j := List.length_take_le _ _
          by_cases hlt2 : j < len
          · obtain ⟨b, off, rfl, hbs, hcc⟩ := HC.out.at hlt2
            have c1 := hcc j hlt2 w1 hb
            have HS := Lib.hid (count_snoc zs s j (by rw [HL.out]; omega))
            clear hcc
            generalize zs.getD j 0 = x at *
            go_wp2
            · go_round
              case rel => exact ⟨j + 1, by omega, by go_num, by rw [HS.out, if_pos ‹_›]; go_num⟩
              case measure => simp [intOf]; omega
            · go_round
              case rel => exact ⟨j + 1, by omega, by go_num, by rw [HS.out, if_neg (by omega)]; go_num⟩
              case measure => simp [intOf]; omega
          · have HF := Lib.hid (show bandOf zs s = (((count (zs.take j) s : Nat) : Int), 0) by rw [List.take_of_length_le (by rw [HL.out]; omega)]; simp [bandOf, HL.out, h60, HE.out])
            go_wp2
            go_ret2
            exact ⟨ret_pair HF.out, hb⟩

/-! ### The reference -/
set_option maxHeartbeats 400000 in
theorem ref_band_any (zs : List Int) (a : Option Addr) (len cap : Nat) (s : Int) (w : World) (h : Row .i64 w a len cap zs) :
    Calls Try.prog 12 #[.slice a len cap, .int .i64 s] w fun e w' => e = .returned (.tuple #[.int .i64 (bandOf zs s).1, .int .i64 (bandOf zs s).2]) ∧ Below w.heap.size w w' := by
  obtain ⟨hl, hwf, hcell⟩ := h
  have hm := hcell.2.1; have hlc := hcell.1
  unfold maxLen at hm
  have HL := Lib.hid hl; clear hl
  have HC := Lib.hid hcell; clear hcell
  clear hwf
  by_cases h60 : 60 < len
  · have HF := Lib.hid (show bandOf zs s = (0, 5) by simp [bandOf, HL.out, h60])
    go_enter Try.func12, Try.ntmps12
    go_wp2
    go_ret2
    exact ⟨ret_pair HF.out, Below.refl _ _⟩
  · go_enter Try.func12, Try.ntmps12
    go_wp2
    go_loopw [6, 7] (fun n i wr => ∃ k : Nat, k ≤ len ∧ i = .int .i64 k ∧ n = .int .i64 (count (zs.take k) s : Nat) ∧ Hid (rising zs = rising (zs.drop (k - 1))) ∧ Below w.heap.size w wr) (fun _ i _ => len - (intOf i).toNat)
    case atStart => exact ⟨0, by omega, rfl, rfl, by simp [Hid], Below.refl _ _⟩
    case round =>
      obtain ⟨k, hk, rfl, rfl, HR, hb⟩ := hrel
      have hcl := count_le (zs.take k) s
      have hcl' : (zs.take k).length ≤ k := List.length_take_le _ _
      by_cases hlt : k < len
      · obtain ⟨b, off, rfl, hbs, hcc⟩ := HC.out.at hlt
        have c1 := hcc k hlt wr hb
        have HS := Lib.hid (count_snoc zs s k (by rw [HL.out]; omega))
        by_cases hk0 : 0 < k
        rotate_left
        · have hd : decide (0 < (k : Int)) = false := by simpa using hk0
          clear hcc
          generalize zs.getD k 0 = x at *
          go_wp2
          go_quiet (fail)
          go_wp2
          · go_roundw
            case rel => exact ⟨k + 1, by omega, by go_num, by rw [HS.out, if_pos ‹_›]; go_num, by rw [show k + 1 - 1 = k - 1 by omega]; exact HR, below_drewN hb _⟩
            case measure => simp [intOf]; omega
          · go_roundw
            case rel => exact ⟨k + 1, by omega, by go_num, by rw [HS.out, if_neg (by omega)]; go_num, by rw [show k + 1 - 1 = k - 1 by omega]; exact HR, below_drewN hb _⟩
            case measure => simp [intOf]; omega
        · obtain ⟨j, rfl⟩ : ∃ j, k = j + 1 := ⟨k - 1, by omega⟩
          have c2 := hcc j (by omega) wr hb
          have HT := Lib.hid (rising_cons zs j (by rw [HL.out]; omega))
          clear hcc
          generalize zs.getD (j + 1) 0 = x at *
          generalize zs.getD j 0 = y at *
          by_cases hxy : x ≤ y
          · have HF := Lib.hid (show bandOf zs s = (0, 23) by have := HR.out; simp at this; simp [bandOf, HL.out, h60, this, HT.out]; omega)
            go_wp2
            go_quiet (fail)
            go_wp2
            go_ret2
            exact ⟨ret_pair HF.out, below_drewN hb _⟩
          · go_wp2
            go_quiet (fail)
            go_wp2
            · go_roundw
              case rel => exact ⟨j + 1 + 1, by omega, by go_num, by rw [HS.out, if_pos ‹_›]; go_num, by unfold Hid; rw [HR.out]; simp [HT.out]; omega, below_drewN hb _⟩
              case measure => simp [intOf]; omega
            · go_roundw
              case rel => exact ⟨j + 1 + 1, by omega, by go_num, by rw [HS.out, if_neg (by omega)]; go_num, by unfold Hid; rw [HR.out]; simp [HT.out]; omega, below_drewN hb _⟩
              case measure => simp [intOf]; omega
      · have HF := Lib.hid (show bandOf zs s = (((count (zs.take k) s : Nat) : Int), 0) by rw [List.take_of_length_le (by rw [HL.out]; omega)]; simp [bandOf, HL.out, h60, HR.out, rising_end zs (k - 1) (by rw [HL.out]; omega)])
        go_wp2
        go_ret2
        exact ⟨ret_pair HF.out, hb⟩

end Go.Proofs.Ytfedalipoknilaa
