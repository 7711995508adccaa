/- Journals: the example of the chapter. -/
import Derived.Test.YthbfmioikbphgaaDoorJoS
namespace Go.Proofs.YthbfmioikbphgaaDoor
set_option maxRecDepth 100000
open Go.RowKit

def tJ : NodeT := .mk 1 1 5 [] []
theorem encJx : encT tJ = [1, 1, 10] := by
  show encT (.mk 1 1 5 [] []) = _
  simp only [encT]
  show vEnc 1 ++ (_ :: vEnc 10) = _
  rw [vEnc_small (by decide), vEnc_small (by decide)]; rfl
theorem okJ : okT tJ = true := by
  unfold okT mesB; rw [encJx]; decide
theorem i64J : i64T tJ := by
  show i64T (.mk 1 1 5 [] [])
  simp [i64T, i64L, I64]
theorem bodyJ_ex : bodyE tJ = [0, 0, 0, 3, 1, 1, 10] := by unfold bodyE; rw [encJx]; rfl
def exL : List UInt8 := entE tJ (digOf [])
theorem exL_form : exL = [0, 0, 0, 3, 1, 1, 10] ++ be8 (digChain (digOf []) [0, 0, 0, 3, 1, 1, 10]) := by unfold exL entE; rw [bodyJ_ex]
theorem exL_len : exL.length = 15 := by unfold exL; rw [entE_len, encJx]; rfl
theorem exL_take : exL.take 7 = [0, 0, 0, 3, 1, 1, 10] := by rw [exL_form]; rfl
theorem exL_app : appJ [] tJ = .ok exL := by
  unfold appJ
  rw [if_neg (by rw [rd_nil]; decide), if_neg (by rw [okJ]; decide), if_neg (by rw [encJx, rd_nil]; decide)]
  rfl
theorem exL_read : rdJ exL = ⟨[tJ], 15, digChain (digOf []) [0, 0, 0, 3, 1, 1, 10], 0⟩ := by
  have h := rd_snoc (log := []) (t := tJ) (by rw [rd_nil]) okJ i64J (by rw [encJx]; decide) (by rw [rd_nil]; decide)
  rw [rd_nil] at h
  rw [encJx, bodyJ_ex] at h
  exact h
theorem exL_cut : rdJ (exL.take 14) = ⟨[], 0, digOf [], 4⟩ := by
  have hl : (exL.take 14).length = 14 := by rw [List.length_take, exL_len]; rfl
  have h4 : (exL.take 14).take 4 = [0, 0, 0, 3] := by rw [List.take_take, exL_form]; rfl
  refine frJ_err (by intro e; rw [e] at hl; simp at hl) ?_
  unfold entJ
  rw [if_neg (by omega), if_neg (by omega), h4, if_neg (by decide), if_pos (by rw [hl]; decide)]

theorem bytes_lit49 (w : World) (xs : List UInt8) (h : xs.length ≤ maxLen) : Bytes (w.alloc (.cells (bvs xs).toArray 5)) (some ⟨w.heap.size, 0, none⟩) xs.length xs.length xs := by
  have hO := owns_lit w 0 5 (bvs xs) (by rw [bvs_length]; exact h) (Nat.zero_le _)
  obtain ⟨a, n, c, e, hB⟩ := hO.bytes
  rw [bvs_length] at e
  cases e
  exact hB
theorem kid_n {w : World} {a : Option Addr} {c : Nat} (h : Kids w a 1 c [tJ]) : ∃ b off, a = some ⟨b, off, none⟩ ∧ b < w.heap.size ∧ w.cell? ⟨b, off + 2, none⟩ = some (.int .i64 5) := by
  obtain ⟨b, off, rfl, hlt, tag, kind, n, s, a', len', cap', kids, ht, c0, c1, c2, -⟩ := h.at (i := 0) (by omega)
  simp [tJ] at ht
  obtain ⟨-, -, rfl, -⟩ := ht
  exact ⟨b, off, rfl, hlt, by simpa using c2⟩
set_option maxHeartbeats 16000000 in
theorem awake49_any (w : World) (hg : ErrT w) : Calls Tryd.prog 14 #[] w fun e w' => e = .returned (.bool true) ∧ Below w.heap.size w w' := by
  have HG := Lib.hid hg
  clear hg
  have hnil : Bytes w none 0 0 [] := ⟨rfl, Nat.le_refl _, by simp [maxLen], fun _ => rfl, .inl rfl⟩
  have hleaf : NodeIn w tJ (.agg #[.int .i64 1, .int .i64 1, .int .i64 5, .string ⟨#[]⟩, .slice none 0 0]) := leaf_in w 1 1 5 [] (by simp)
  have HR := Lib.hid exL_read
  have HC := Lib.hid exL_cut
  have HL := Lib.hid exL_len
  have HT := Lib.hid exL_take
  have HA := Lib.hid exL_app
  go_enter Tryd.func14, Tryd.ntmps14
  go_wp2_with fail
  refine (append_ok HA.out _ _ _ _ _ hnil hleaf i64J HG.out).mono ?_
  generalize exL = L at *
  rw [HL.out]
  rintro e w1 ⟨bL, cL, rfl, hB, hb1⟩
  have HB := Lib.hid hB
  have hlc := hB.2.1
  have HG1 := Lib.hid (HG.out.below hb1)
  have HP7 := Lib.hid (show Bytes w1 bL 7 cL [0, 0, 0, 3, 1, 1, 10] by rw [← HT.out]; exact hB.pre 7 (by omega))
  clear hB
  go_wp2_with fail
  have hba : Below w1.heap.size w1 (w1.alloc (.cells #[.int .u8 0, .int .u8 0, .int .u8 0, .int .u8 3, .int .u8 1, .int .u8 1, .int .u8 10] 5)) := (Below.refl _ _).alloc (Nat.le_refl _) _
  have HY := Lib.hid (show Bytes (w1.alloc (.cells #[.int .u8 0, .int .u8 0, .int .u8 0, .int .u8 3, .int .u8 1, .int .u8 1, .int .u8 10] 5)) (some ⟨w1.heap.size, 0, none⟩) 7 7 [0, 0, 0, 3, 1, 1, 10] from bytes_lit49 w1 [0, 0, 0, 3, 1, 1, 10] (by simp [maxLen]))
  refine (leq_t [0, 0, 0, 3, 1, 1, 10] _ _ _ _ _ _ (HP7.out.below hba) HY.out).mono ?_
  rintro e w2 ⟨rfl, hb2⟩
  have hb12 := hba.trans (hb2.mono hba.size)
  have HB2 := Lib.hid (HB.out.below hb12)
  have HG2 := Lib.hid (HG1.out.below hb12)
  have hb02 := hb1.trans (hb12.mono hb1.size)
  clear HY hb2
  go_wp2_with fail
  refine (read_fix HR.out (k := 1) rfl _ _ _ _ HB2.out HG2.out).mono ?_
  rintro e w3 ⟨b3, c3, rfl, hK3, hb3⟩
  obtain ⟨g3, o3, rfl, hg3, hn3⟩ := kid_n hK3
  have hlc3 : 1 ≤ c3 := hK3.2.1
  have HB3 := Lib.hid (HB2.out.below hb3)
  have HC3 := Lib.hid (HB3.out.pre 14 (by omega))
  have HG3 := Lib.hid (HG2.out.below hb3)
  have hb03 := hb02.trans (hb3.mono hb02.size)
  clear hK3
  go_wp2_with fail
  refine (read_fix HC.out (k := 0) rfl _ _ _ _ HC3.out HG3.out).mono ?_
  rintro e w4 ⟨b4, c4, rfl, hK4, hb4⟩
  have HB4 := Lib.hid (HB3.out.below hb4)
  have HG4 := Lib.hid (HG3.out.below hb4)
  have hn4 := bc hb4 hg3 hn3
  have hg4 := Nat.lt_of_lt_of_le hg3 hb4.size
  have hb04 := hb03.trans (hb4.mono hb03.size)
  clear hK4 hn3
  go_wp2_with fail
  refine (last_ok HR.out _ _ _ _ HB4.out HG4.out).mono ?_
  rintro e w5 ⟨rfl, hb5⟩
  have HB5 := Lib.hid (HB4.out.below hb5)
  have HP5 := Lib.hid (show Bytes w5 bL 7 cL [0, 0, 0, 3, 1, 1, 10] by rw [← HT.out]; exact HB5.out.pre 7 (by omega))
  have HQ5 := Lib.hid (HB5.out.pre 3 (by omega))
  have HG5 := Lib.hid (HG4.out.below hb5)
  have hn5 := bc hb5 hg4 hn4
  have hg5 := Nat.lt_of_lt_of_le hg4 hb5.size
  have hb05 := hb04.trans (hb5.mono hb04.size)
  have hpre : decide (L.take 3 <+: L) = true := decide_eq_true (List.take_prefix 3 L)
  clear hn4
  have e0 : ∀ W : Ext w5.heap.size w5, W.val.cell? ⟨g3, o3 + 2, none⟩ = some (.int .i64 5) := fun W => (W.prop.cell (p := ⟨g3, _, none⟩) hg5).trans hn5
  have q1 : ∀ W : Ext w5.heap.size w5, Calls Tryd.prog 24 #[.slice none 0 0] W.val fun e w'' => e = .returned (.int .u64 (digOf []).toNat) ∧ ∃ W' : Ext w5.heap.size w5, w'' = W'.val := fun W => Calls.ext W ((of_any [] none 0 0 W.val ⟨rfl, Nat.le_refl _, by simp [maxLen], fun _ => rfl, .inl rfl⟩).mono fun e w1 ⟨h1, h2⟩ => ⟨h1, h2 ▸ Below.refl _ _⟩)
  have q2 : ∀ W : Ext w5.heap.size w5, Calls Tryd.prog 20 #[.int .u64 (digOf []).toNat, .slice bL 7 cL] W.val fun e w'' => e = .returned (.int .u64 (digChain (digOf []) [0, 0, 0, 3, 1, 1, 10]).toNat) ∧ ∃ W' : Ext w5.heap.size w5, w'' = W'.val := fun W => Calls.ext W ((chain_any (digOf []) _ _ _ _ W.val (HP5.out.below W.prop)).mono fun e w1 ⟨h1, h2⟩ => ⟨h1, h2 ▸ Below.refl _ _⟩)
  have q3 : ∀ W : Ext w5.heap.size w5, Calls Tryd.prog 12 #[.slice bL 15 cL, .slice bL 3 cL] W.val fun e w'' => e = .returned (.bool true) ∧ ∃ W' : Ext w5.heap.size w5, w'' = W'.val := fun W => Calls.ext W ((extends_any L (L.take 3) _ _ _ _ _ _ W.val (HB5.out.below W.prop) (HQ5.out.below W.prop)).mono fun e w1 ⟨h1, h2⟩ => ⟨h1.trans (by rw [hpre]), h2 ▸ Below.refl _ _⟩)
  have q4 : ∀ W : Ext w5.heap.size w5, Calls Tryd.prog 23 #[.slice bL 15 cL] W.val fun e w'' => e = .returned (.int .i64 1) ∧ ∃ W' : Ext w5.heap.size w5, w'' = W'.val := fun W => Calls.ext W (count_fix HR.out (k := 1) rfl _ _ _ W.val (HB5.out.below W.prop) (HG5.out.below W.prop))
  generalize digChain (digOf []) [0, 0, 0, 3, 1, 1, 10] = D at *
  go_wp2_with fail
  clear hn5
  refine wp_region_ext w5.heap.size w5 (by kernel_rfl) (by kernel_rfl) (Below.refl _ _) ?_
  repeat (first | go_big_quiet_step (first
    | with_reducible exact q1 _
    | with_reducible exact q2 _
    | with_reducible exact q3 _
    | with_reducible exact q4 _))
  refine wpQuiet_nil ?_
  intro W
  have hb6 : Below w.heap.size w W.val := hb05.trans (W.prop.mono hb05.size)
  generalize W.val = w6 at *
  go_wp2_with fail
  go_ret
  exact ⟨rfl, hb6⟩
end Go.Proofs.YthbfmioikbphgaaDoor
