/- The notation of digests: what digest.Parse, digest.Hex and the reference's return. -/
import Derived.Test.YtffngmoelkabjaaDigR
namespace Go.Proofs.Ytffngmoelkabjaa
open Go.RowKit

/-! ### Plain -/
def hexOf (c : UInt8) : Option Nat := if 48 ≤ c.toNat ∧ c.toNat ≤ 57 then some (c.toNat - 48) else if 97 ≤ c.toNat ∧ c.toNat ≤ 102 then some (c.toNat - 87) else none
def parseL : UInt64 → List UInt8 → Option UInt64
  | u, [] => some u
  | u, c :: r => match hexOf c with
    | some n => parseL (u * 16 + UInt64.ofNat n) r
    | none => none
/-- the number and the error -/
def parseOf (l : List UInt8) : UInt64 × Int := if l.length = 16 then match parseL 0 l with
    | some h => (h, 0)
    | none => (0, 2)
  else (0, 2)
def hexDigit (n : Nat) : UInt8 := if n < 10 then UInt8.ofNat (48 + n) else UInt8.ofNat (87 + n)
/-- digit i of sixteen -/
def hexAt (h : UInt64) (i : Nat) : UInt8 := hexDigit (h.toNat / 2 ^ (60 - 4 * i) % 16)
def hexL (h : UInt64) : List UInt8 := (List.range 16).map (hexAt h)

theorem getD_bytes (s : ByteArray) (k : Nat) (hk : k < s.size) : s.data.toList.getD k 0 = s[k] := by
  have h : k < s.data.size := hk
  have e1 : s.data[k]? = some s.data[k] := Array.getElem?_eq_getElem h
  simp [List.getD, e1]
  rfl
theorem or_nibble (u : UInt64) (n : Nat) (h : n < 16) : bits .or .u64 (IntKind.u64.wrap ((u.toNat : Int) * 16)) (n : Int) = ((u * 16 + UInt64.ofNat n).toNat : Int) := by
  rw [show (16 : Int) = ((16 : UInt64).toNat : Int) from rfl, wrap_mul_u64, bits_or_u64_nat _ _ (u * 16).toNat_lt (by omega)]
  have h1 : (u * 16).toNat = 2 ^ 4 * (u.toNat % 2 ^ 60) := by rw [UInt64.toNat_mul]; simp; omega
  have h2 : (UInt64.ofNat n).toNat = n := by rw [UInt64.toNat_ofNat']; omega
  rw [UInt64.toNat_add, h1, h2, ← Nat.two_pow_add_eq_or_of_lt (by omega)]
  have : u.toNat % 2 ^ 60 < 2 ^ 60 := Nat.mod_lt _ (by decide)
  congr 1; omega
theorem add_nibble (u : UInt64) (n : Nat) (h : n < 16) : IntKind.u64.wrap (IntKind.u64.wrap ((u.toNat : Int) * 16) + (n : Int)) = ((u * 16 + UInt64.ofNat n).toNat : Int) := by
  have h2 : (UInt64.ofNat n).toNat = n := by rw [UInt64.toNat_ofNat']; omega
  rw [show (16 : Int) = ((16 : UInt64).toNat : Int) from rfl, wrap_mul_u64]
  have := wrap_add_u64 (u * 16) (UInt64.ofNat n)
  rw [h2] at this; exact this
theorem wrap_wrap (a b c : Int) : IntKind.u64.wrap (IntKind.u64.wrap (a + b) + c) = IntKind.u64.wrap (a + (b + c)) := by
  rw [IntKind.wrap_u64, IntKind.wrap_u64, IntKind.wrap_u64]; omega
theorem parse_step (u : UInt64) (l : List UInt8) (k : Nat) (hk : k < l.length) (n : Nat) (h : hexOf (l.getD k 0) = some n) : parseL u (l.drop k) = parseL (u * 16 + UInt64.ofNat n) (l.drop (k + 1)) := by
  rw [drop_cons l k 0 hk, parseL, h]
theorem parse_bad (u : UInt64) (l : List UInt8) (k : Nat) (hk : k < l.length) (h : hexOf (l.getD k 0) = none) : parseL u (l.drop k) = none := by
  rw [drop_cons l k 0 hk, parseL, h]

/-! ### The program -/
set_option maxHeartbeats 1000000 in
theorem parse_any (s : ByteArray) (w : World) (hm : s.size ≤ maxLen) :
    Calls Try.prog 13 #[.string s] w fun e w' => e = .returned (.tuple #[.int .u64 (parseOf s.data.toList).1.toNat, .int .i64 (parseOf s.data.toList).2]) ∧ w = w' := by
  unfold maxLen at hm
  have hl0 : s.data.toList.length = s.size := by simp
  by_cases hs : s.size = 16
  rotate_left
  · have h16 : ((s.size : Int) != 16) = true := by rw [bne_iff_ne]; omega
    have HF := Lib.hid (show parseOf s.data.toList = (0, 2) by unfold parseOf; rw [if_neg (by rw [hl0]; exact hs)])
    clear hs hl0
    go_enter Try.func13, Try.ntmps13
    go_wp2_with fail
    go_ret2
    exact ⟨by rw [HF.out]; rfl, rfl⟩
  have h16 : ((s.size : Int) != 16) = false := by rw [hs]; rfl
  have hs1 : s.size ≤ 16 := by omega
  have hs2 : 16 ≤ s.size := by omega
  have HL := Lib.hid (hl0.trans hs)
  have HS := Lib.hid hs
  clear hs hl0
  go_enter Try.func13, Try.ntmps13
  go_wp2_with fail
  go_loop [4, 5] (fun g i => ∃ (k : Nat) (u : UInt64), k ≤ 16 ∧ i = .int .i64 k ∧ g = .int .u64 u.toNat ∧ Hid (parseL 0 s.data.toList = parseL u (s.data.toList.drop k))) (fun _ i => 16 - (intOf i).toNat)
  case atStart => exact ⟨0, 0, by omega, rfl, rfl, by simp [Hid]⟩
  case round =>
    obtain ⟨k, u, hk, rfl, rfl, HP⟩ := hrel
    by_cases hlt : k < 16
    · have hks : k < s.size := by omega
      have HG := Lib.hid (getD_bytes s k hks)
      have HST := Lib.hid (fun n h => parse_step u s.data.toList k (by rw [HL.out]; exact hlt) n h)
      have HBD := Lib.hid (fun h => parse_bad u s.data.toList k (by rw [HL.out]; exact hlt) h)
      have hx := s[k].toNat_lt
      by_cases hd : 48 ≤ s[k].toNat ∧ s[k].toNat ≤ 57
      · have HX := Lib.hid (HST.out (s[k].toNat - 48) (by rw [HG.out]; unfold hexOf; rw [if_pos hd]))
        obtain ⟨t1, t2⟩ := hd
        go_wp2_with fail
        go_round
        case rel => exact ⟨k + 1, u * 16 + UInt64.ofNat (s[k].toNat - 48), by omega, by go_num, int_eq (by rw [← or_nibble u (s[k].toNat - 48) (by omega)]; congr 1; omega), by unfold Hid; rw [HP.out, HX.out]⟩
        case measure => simp [intOf]; omega
      · by_cases ha : 97 ≤ s[k].toNat ∧ s[k].toNat ≤ 102
        · have HX := Lib.hid (HST.out (s[k].toNat - 87) (by rw [HG.out]; unfold hexOf; rw [if_neg hd, if_pos ha]))
          obtain ⟨t1, t2⟩ := ha
          clear hd
          go_wp2_with fail
          go_round
          case rel => exact ⟨k + 1, u * 16 + UInt64.ofNat (s[k].toNat - 87), by omega, by go_num, int_eq (by rw [← or_nibble u (s[k].toNat - 87) (by omega)]; congr 1; omega), by unfold Hid; rw [HP.out, HX.out]⟩
          case measure => simp [intOf]; omega
        · have HX := Lib.hid (HBD.out (by rw [HG.out]; unfold hexOf; rw [if_neg hd, if_neg ha]))
          have HF := Lib.hid (show parseOf s.data.toList = (0, 2) by unfold parseOf; rw [if_pos HL.out, HP.out, HX.out])
          have HD := Lib.hid hd
          have HA := Lib.hid ha
          clear hd ha
          go_wp2_with fail
          all_goals first
            | (exfalso; have := HD.out; have := HA.out; omega)
            | (go_ret2; exact ⟨by rw [HF.out]; rfl, rfl⟩)
    · have HF := Lib.hid (show parseOf s.data.toList = (u, 0) by unfold parseOf; rw [if_pos HL.out, HP.out, List.drop_of_length_le (by rw [HL.out]; omega)]; rfl)
      go_wp2_with fail
      go_ret2
      exact ⟨by rw [HF.out]; rfl, rfl⟩

/-! ### The reference -/
set_option maxHeartbeats 1000000 in
theorem ref_parse_any (s : ByteArray) (w : World) (hm : s.size ≤ maxLen) :
    Calls Try.prog 14 #[.string s] w fun e w' => e = .returned (.tuple #[.int .u64 (parseOf s.data.toList).1.toNat, .int .i64 (parseOf s.data.toList).2]) ∧ w = w' := by
  unfold maxLen at hm
  have hl0 : s.data.toList.length = s.size := by simp
  by_cases hs : s.size = 16
  rotate_left
  · have h16 : ((s.size : Int) != 16) = true := by rw [bne_iff_ne]; omega
    have HF := Lib.hid (show parseOf s.data.toList = (0, 2) by unfold parseOf; rw [if_neg (by rw [hl0]; exact hs)])
    clear hs hl0
    go_enter Try.func14, Try.ntmps14
    go_wp2_with fail
    go_ret2
    exact ⟨by rw [HF.out]; rfl, rfl⟩
  have h16 : ((s.size : Int) != 16) = false := by rw [hs]; rfl
  have hs1 : s.size ≤ 16 := by omega
  have hs2 : 16 ≤ s.size := by omega
  have HL := Lib.hid (hl0.trans hs)
  have HS := Lib.hid hs
  clear hs hl0
  go_enter Try.func14, Try.ntmps14
  go_wp2_with fail
  go_loop [4, 5] (fun g i => ∃ (k : Nat) (u : UInt64), k ≤ 16 ∧ i = .int .i64 k ∧ g = .int .u64 u.toNat ∧ Hid (parseL 0 s.data.toList = parseL u (s.data.toList.drop k))) (fun _ i => 16 - (intOf i).toNat)
  case atStart => exact ⟨0, 0, by omega, rfl, rfl, by simp [Hid]⟩
  case round =>
    obtain ⟨k, u, hk, rfl, rfl, HP⟩ := hrel
    by_cases hlt : k < 16
    · have hks : k < s.size := by omega
      have HG := Lib.hid (getD_bytes s k hks)
      have HST := Lib.hid (fun n h => parse_step u s.data.toList k (by rw [HL.out]; exact hlt) n h)
      have HBD := Lib.hid (fun h => parse_bad u s.data.toList k (by rw [HL.out]; exact hlt) h)
      have hx := s[k].toNat_lt
      by_cases hd : 48 ≤ s[k].toNat ∧ s[k].toNat ≤ 57
      · have HX := Lib.hid (HST.out (s[k].toNat - 48) (by rw [HG.out]; unfold hexOf; rw [if_pos hd]))
        obtain ⟨t1, t2⟩ := hd
        go_wp2_with fail
        go_round
        case rel => exact ⟨k + 1, u * 16 + UInt64.ofNat (s[k].toNat - 48), by omega, by go_num, int_eq (by rw [← add_nibble u (s[k].toNat - 48) (by omega)]; congr 1; omega), by unfold Hid; rw [HP.out, HX.out]⟩
        case measure => simp [intOf]; omega
      · by_cases ha : 97 ≤ s[k].toNat ∧ s[k].toNat ≤ 102
        · have HX := Lib.hid (HST.out (s[k].toNat - 87) (by rw [HG.out]; unfold hexOf; rw [if_neg hd, if_pos ha]))
          obtain ⟨t1, t2⟩ := ha
          clear hd
          go_wp2_with fail
          go_round
          case rel => exact ⟨k + 1, u * 16 + UInt64.ofNat (s[k].toNat - 87), by omega, by go_num, int_eq (by rw [wrap_wrap, ← add_nibble u (s[k].toNat - 87) (by omega)]; congr 1; omega), by unfold Hid; rw [HP.out, HX.out]⟩
          case measure => simp [intOf]; omega
        · have HX := Lib.hid (HBD.out (by rw [HG.out]; unfold hexOf; rw [if_neg hd, if_neg ha]))
          have HF := Lib.hid (show parseOf s.data.toList = (0, 2) by unfold parseOf; rw [if_pos HL.out, HP.out, HX.out])
          have HD := Lib.hid hd
          have HA := Lib.hid ha
          clear hd ha
          go_wp2_with fail
          all_goals first
            | (exfalso; have := HD.out; have := HA.out; omega)
            | (go_ret2; exact ⟨by rw [HF.out]; rfl, rfl⟩)
    · have HF := Lib.hid (show parseOf s.data.toList = (u, 0) by unfold parseOf; rw [if_pos HL.out, HP.out, List.drop_of_length_le (by rw [HL.out]; omega)]; rfl)
      go_wp2_with fail
      go_ret2
      exact ⟨by rw [HF.out]; rfl, rfl⟩

theorem hexL_length (h : UInt64) : (hexL h).length = 16 := by simp [hexL]
theorem and15 (a : Nat) (ha : a < 18446744073709551616) : bits .and .u64 ((a : Nat) : Int) 15 = ((a % 16 : Nat) : Int) := by
  have := bits_and_u64_nat a 15 ha (by decide)
  rw [show (15 : Int) = ((15 : Nat) : Int) from rfl, this, show 15 = 2 ^ 4 - 1 from rfl, Nat.and_two_pow_sub_one_eq_mod]
theorem nib_form (h : UInt64) (e : Nat) : bits .and .u64 ((h.toNat : Int) / 2 ^ e) 15 = ((h.toNat / 2 ^ e % 16 : Nat) : Int) := by
  have e1 : ((h.toNat : Int) / 2 ^ e) = ((h.toNat / 2 ^ e : Nat) : Int) := by simp
  rw [e1, and15 _ (Nat.lt_of_le_of_lt (Nat.div_le_self _ _) h.toNat_lt)]

theorem hexTab (n : Nat) (hn : n < 16) : (⟨#[48, 49, 50, 51, 52, 53, 54, 55, 56, 57, 97, 98, 99, 100, 101, 102]⟩ : ByteArray)[n]'(hn) = hexDigit n := by
  have h : n = 0 ∨ n = 1 ∨ n = 2 ∨ n = 3 ∨ n = 4 ∨ n = 5 ∨ n = 6 ∨ n = 7 ∨ n = 8 ∨ n = 9 ∨ n = 10 ∨ n = 11 ∨ n = 12 ∨ n = 13 ∨ n = 14 ∨ n = 15 := by omega
  rcases h with rfl | rfl | rfl | rfl | rfl | rfl | rfl | rfl | rfl | rfl | rfl | rfl | rfl | rfl | rfl | rfl <;> rfl
theorem hexL_at (h : UInt64) (k : Nat) (hk : k < 16) : (hexL h).getD k 0 = hexAt h k := by simp [hexL, List.getD, hk]

set_option maxHeartbeats 1000000 in
theorem hex_any (h : UInt64) (w : World) :
    Calls Try.prog 15 #[.int .u64 h.toNat] w fun e w' => e = .returned (.string ⟨(hexL h).toArray⟩) ∧ Below w.heap.size w w' := by
  go_enter Try.func15, Try.ntmps15
  go_wp2_with fail
  go_loopw [5] (fun i wr => ∃ k : Nat, k ≤ 16 ∧ i = .int .i64 k ∧ Hid (Owns wr w.heap.size 45 (.slice (some ⟨w.heap.size, 0, none⟩) 16 16) (bvs ((hexL h).take k ++ List.replicate (16 - k) 0))) ∧ Below w.heap.size w wr) (fun i _ => 16 - (intOf i).toNat)
  case atStart => exact ⟨0, by omega, rfl, World.ownsRow_lit w (bvs (List.replicate 16 0)).toArray 16 (Nat.le_refl _) (by simp only [maxLen]; omega) rfl, (Below.refl _ _).alloc (Nat.le_refl _) _⟩
  case round =>
    obtain ⟨k, hk, rfl, HO, hb⟩ := hrel
    by_cases hlt : k < 16
    · have c1 := HO.out.cell k hlt
      have c2 := HO.out.free k
      have hN := nib_form h (60 - 4 * k)
      have hlt16 : h.toNat / 2 ^ (60 - 4 * k) % 16 < 16 := Nat.mod_lt _ (by omega)
      have hT := hexTab _ hlt16
      have hS := HO.out.store k (bv (hexAt h k))
      have hF := set_fill ((hexL h).take k) (16 - (k + 1)) (hexAt h k)
      rw [List.length_take, hexL_length, Nat.min_eq_left (by omega), show 16 - (k + 1) + 1 = 16 - k by omega, ← hexL_at h k hlt, ← take_snoc (hexL h) k 0 (by rw [hexL_length]; exact hlt), hexL_at h k hlt] at hF
      rw [bvs_set, hF] at hS
      have HS := Lib.hid hS
      clear hS hF
      have HA := Lib.hid (show hexDigit (h.toNat / 2 ^ (60 - 4 * k) % 16) = hexAt h k from rfl)
      generalize h.toNat / 2 ^ (60 - 4 * k) % 16 = n at *
      generalize (bvs ((hexL h).take k ++ List.replicate (16 - k) 0)).getD k .nilFunc = old at *
      have HT := Lib.hid hT
      clear hT
      go_wp2_with fail
      rw [HT.out, HA.out]
      exact ⟨⟨k + 1, by omega, by go_num, HS.out, hb.setCell (Nat.le_refl _) _⟩, by simp [intOf]; omega⟩
    · have hk16 : k = 16 := by omega
      subst hk16
      have hB : Bytes wr (some ⟨w.heap.size, 0, none⟩) 16 16 (hexL h) := by
        have := HO.out
        rw [List.take_of_length_le (by rw [hexL_length]; omega)] at this
        simp only [Nat.sub_self, List.replicate_zero, List.append_nil] at this
        obtain ⟨a', n', c', hv', hb'⟩ := this.bytes
        cases hv'; exact hb'
      have hC : ∀ j (hj : j < (hexL h).length), wr.cell? ((⟨w.heap.size, 0, none⟩ : Addr).add j) = some (.int .u8 ((hexL h)[j].toNat : Int)) := by
        intro j hj
        rw [hexL_length] at hj
        obtain ⟨b, off, hbo, _, hcc⟩ := hB.2.at hj
        cases hbo
        rw [addr_add, hcc j hj wr (Below.refl _ _)]
        simp [List.getD, hexL_length, hj]
      have hR := run_convert_bytes_back (P := Try.prog) wr 35 9 5 ⟨w.heap.size, 0, none⟩ 16 (hexL h) Try.underlying35 Try.underlying5 Try.underlying9 hC
      rw [hexL_length] at hR
      clear hB hC
      go_wp2_with fail
      go_ret
      exact ⟨rfl, hb⟩

theorem hexAt_form (h : UInt64) (j : Nat) (hj : j < 16) : hexAt h (15 - j) = hexDigit (h.toNat / 2 ^ (4 * j) % 16) := by
  unfold hexAt; rw [show 60 - 4 * (15 - j) = 4 * j by omega]

/-! ### The reference's Hex -/
theorem hexCut (n : Nat) (hn : n < 16) : (⟨#[48, 49, 50, 51, 52, 53, 54, 55, 56, 57, 97, 98, 99, 100, 101, 102]⟩ : ByteArray).extract n (n + 1) = ⟨#[hexDigit n]⟩ := by
  have h : n = 0 ∨ n = 1 ∨ n = 2 ∨ n = 3 ∨ n = 4 ∨ n = 5 ∨ n = 6 ∨ n = 7 ∨ n = 8 ∨ n = 9 ∨ n = 10 ∨ n = 11 ∨ n = 12 ∨ n = 13 ∨ n = 14 ∨ n = 15 := by omega
  rcases h with rfl | rfl | rfl | rfl | rfl | rfl | rfl | rfl | rfl | rfl | rfl | rfl | rfl | rfl | rfl | rfl <;> rfl
theorem hexL_snoc (h : UInt64) (k : Nat) (hk : k < 16) : (hexL h).take (k + 1) = (hexL h).take k ++ [hexAt h k] := by
  rw [take_snoc (hexL h) k 0 (by rw [hexL_length]; exact hk), hexL_at h k hk]

set_option maxHeartbeats 1000000 in
theorem ref_hex_any (h : UInt64) (w : World) :
    Calls Try.prog 16 #[.int .u64 h.toNat] w fun e w' => e = .returned (.string ⟨(hexL h).toArray⟩) ∧ w = w' := by
  go_enter Try.func16, Try.ntmps16
  go_wp2_with fail
  go_loop [3, 4] (fun s i => ∃ k : Nat, k ≤ 16 ∧ i = .int .i64 ((k : Int) - 1) ∧ s = .string ⟨((hexL h).take (16 - k)).toArray⟩) (fun _ i => (1 + intOf i).toNat)
  case atStart => exact ⟨16, by omega, rfl, by simp⟩
  case round =>
    obtain ⟨k, hk, rfl, rfl⟩ := hrel
    cases k with
    | succ j =>
      rw [show (((j + 1 : Nat) : Int) - 1) = (j : Int) by omega]
      have hN := nib_form h (4 * j)
      have hlt16 : h.toNat / 2 ^ (4 * j) % 16 < 16 := Nat.mod_lt _ (by omega)
      have HA := Lib.hid (hexAt_form h j (by omega))
      have HSn := Lib.hid (hexL_snoc h (15 - j) (by omega))
      generalize h.toNat / 2 ^ (4 * j) % 16 = n at *
      go_wp2_with fail
      refine ⟨⟨j, by omega, rfl, congrArg Value.string ?_⟩, by simp [intOf]; omega⟩
      rw [show 16 - j = 15 - j + 1 by omega, HSn.out, HA.out, hexCut n hlt16]
      apply ByteArray.ext
      simp
    | zero =>
      go_wp2_with fail
      go_ret
      exact ⟨by simp [hexL_length, List.take_of_length_le], rfl⟩

end Go.Proofs.Ytffngmoelkabjaa
