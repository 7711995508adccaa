/- The cipher: what the reference's functions return. -/
import Derived.Test.YtfedalipoknilaaCiphS
import Derived.Test.YtfedalipoknilaaDigR
namespace Go.Proofs.Ytfedalipoknilaa
open Go.RowKit

theorem bvs_set (xs : List UInt8) (j : Nat) (y : UInt8) : (bvs xs).set j (bv y) = bvs (xs.set j y) := by simp [bvs, List.map_set]
theorem be_fill (n : UInt64) (j : Nat) (hj : j < 8) : (List.replicate (j + 1) 0 ++ (be8 n).drop (j + 1)).set j (byteAt n (7 - j)) = List.replicate j 0 ++ (be8 n).drop j := by
  match j, hj with
  | 0, _ | 1, _ | 2, _ | 3, _ | 4, _ | 5, _ | 6, _ | 7, _ => simp [be8, beList, List.replicate]
theorem tdiv_256 (n : UInt64) (m : Nat) : IntKind.u64.wrap (((n.toNat : Int) / 2 ^ (8 * m)).tdiv 256) = (n.toNat : Int) / 2 ^ (8 * (m + 1)) := by
  have e1 : ((n.toNat : Int) / 2 ^ (8 * m)) = ((n.toNat / 2 ^ (8 * m) : Nat) : Int) := by simp
  have e2 : ((n.toNat : Int) / 2 ^ (8 * (m + 1))) = ((n.toNat / 2 ^ (8 * m) / 256 : Nat) : Int) := by
    rw [Nat.div_div_eq_div_mul, show 8 * (m + 1) = 8 * m + 8 by omega, Int.pow_add]; simp
  rw [e1, e2, IntKind.wrap_u64]
  have h := n.toNat_lt
  have h2 : n.toNat / 2 ^ (8 * m) ≤ n.toNat := Nat.div_le_self _ _
  generalize n.toNat / 2 ^ (8 * m) = x at *
  rw [Int.tdiv_eq_ediv_of_nonneg (by omega)]
  omega

set_option maxHeartbeats 400000 in
theorem ref_eight_any (n : UInt64) (w : World) :
    Calls Try.prog 30 #[.int .u64 n.toNat] w fun e w' => ∃ v, e = .returned v ∧ Owns w' w.heap.size 5 v (bvs (be8 n)) ∧ Below w.heap.size w w' := by
  go_enter Try.func30, Try.ntmps30
  go_wp2_with (at_make; refine wpList_mkn rfl _ _ 31 rfl 5 (.int .u8 0) 1 Try.underlying31 infoByte rfl _ _ _ _ 8 rfl rfl rfl rfl (by omega) (by simp only [maxLen]; omega) fun w1 h1 h2 => ?_)
  have HO := Lib.hid h1
  have HB := Lib.hid h2
  clear h1 h2
  go_loopw [0, 4] (fun u i wr => ∃ k : Nat, k ≤ 8 ∧ i = .int .i64 ((k : Int) - 1) ∧ u = .int .u64 ((n.toNat : Int) / 2 ^ (8 * (8 - k))) ∧ Hid (Owns wr w.heap.size 5 (.slice (some ⟨w.heap.size, 0, none⟩) 8 8) (bvs (List.replicate k 0 ++ (be8 n).drop k))) ∧ Below w.heap.size w wr) (fun _ i _ => (1 + intOf i).toNat)
  case atStart => exact ⟨8, by omega, rfl, by simp, by exact HO.out, HB.out⟩
  case round =>
    obtain ⟨k, hk, rfl, rfl, HOr, hb⟩ := hrel
    cases k with
    | succ j =>
      rw [show (((j + 1 : Nat) : Int) - 1) = (j : Int) by omega]
      have c1 := HOr.out.cell j (by omega)
      have c2 := HOr.out.free j
      have HS := Lib.hid (HOr.out.store j (bv (byteAt n (7 - j))))
      rw [bvs_set, be_fill n j (by omega)] at HS
      rw [show 8 - (j + 1) = 7 - j by omega]
      have hq0 : 0 ≤ (n.toNat : Int) / 2 ^ (8 * (7 - j)) := by exact Int.ediv_nonneg (by omega) (by exact Int.pow_nonneg (by decide))
      generalize (bvs (List.replicate (j + 1) 0 ++ (be8 n).drop (j + 1))).getD j .nilFunc = old at *
      go_wp2
      rw [byteAt_mod]
      refine ⟨⟨j, by omega, rfl, int_eq ?_, HS.out, hb.setCell (Nat.le_refl _) _⟩, by simp [intOf]; omega⟩
      rw [tdiv_256, show 7 - j + 1 = 8 - j by omega]
    | zero =>
      go_wp2
      go_ret
      exact ⟨_, rfl, by simpa using HOr.out, hb⟩

set_option maxHeartbeats 400000 in
theorem ref_number_any (xs : List UInt8) (a : Option Addr) (len cap : Nat) (w : World) (hx : Bytes w a len cap xs) (h8 : len = 8) :
    Calls Try.prog 34 #[.slice a len cap] w fun e w' => e = .returned (.int .u64 (beVal xs).toNat) ∧ w = w' := by
  subst h8
  have HL := Lib.hid hx.1
  have HC := Lib.hid hx.2
  clear hx
  go_enter Try.func34, Try.ntmps34
  go_wp2
  go_loop [3, 4] (fun g i => ∃ (k : Nat) (u : UInt64), k ≤ 8 ∧ i = .int .i64 k ∧ g = .int .u64 u.toNat ∧ Hid (beVal xs = (xs.drop k).foldl (fun n c => n * 256 + c.toUInt64) u)) (fun _ i => 8 - (intOf i).toNat)
  case atStart => exact ⟨0, 0, by omega, rfl, rfl, by simp [Hid, beVal]⟩
  case round =>
    obtain ⟨k, u, hk, rfl, rfl, HD⟩ := hrel
    by_cases hlt : k < 8
    · obtain ⟨b, off, rfl, _, hcc⟩ := HC.out.at hlt
      have c1 := hcc k hlt w (Below.refl _ _)
      have HS := Lib.hid (drop_cons xs k 0 (by rw [HL.out]; omega))
      clear hcc
      generalize xs.getD k 0 = x at *
      go_wp2
      go_round
      case rel =>
        refine ⟨k + 1, u * 256 + x.toUInt64, by omega, by go_num, int_eq ?_, by unfold Hid; rw [HD.out, HS.out]; rfl⟩
        rw [wrap_u64_u8, show IntKind.u64.wrap ((u.toNat : Int) * 256) = ((u * 256).toNat : Int) from wrap_mul_u64 u 256]
        exact wrap_add_u64 _ _
      case measure => simp [intOf]; omega
    · have HF := Lib.hid (show beVal xs = u by rw [HD.out, List.drop_of_length_le (by rw [HL.out]; omega)]; rfl)
      go_wp2
      go_ret
      exact ⟨ret_int (by rw [HF.out]), rfl⟩

theorem ref_step_any (d : UInt64) (w : World) :
    Calls Try.prog 41 #[.int .u64 d.toNat] w fun e w' => e = .returned (.int .u64 (dnext d).toNat) ∧ w = w' := by
  go_enter Try.func41, Try.ntmps41
  go_wp2_with fail
  go_ret
  exact ⟨ret_int (dnext_form d), rfl⟩
theorem ref_new_any (d : UInt64) (w : World) :
    Calls Try.prog 39 #[.int .u64 d.toNat] w fun e w' => e = .returned (.int .u64 (dnext d).toNat) ∧ w = w' := by
  go_enter Try.func39, Try.ntmps39
  go_wp2_with fail
  refine (ref_step_any d _).mono ?_
  rintro e w1 ⟨rfl, rfl⟩
  go_wp2_with fail
  go_ret
  exact ⟨rfl, rfl⟩
theorem ref_next_any (d : UInt64) (w : World) :
    Calls Try.prog 40 #[.int .u64 d.toNat] w fun e w' => e = .returned (.tuple #[.int .u32 (w32 (dnext d) : Nat), .int .u64 (dnext d).toNat]) ∧ w = w' := by
  go_enter Try.func40, Try.ntmps40
  go_wp2_with fail
  refine (ref_step_any d _).mono ?_
  rintro e w1 ⟨rfl, rfl⟩
  go_wp2_with fail
  go_ret2
  exact ⟨ret_two (int_eq (w32_form _)) rfl, rfl⟩

/-- so many bytes of the keystream -/
def ksL (d : UInt64) (n : Nat) : List UInt8 := (List.range n).map (ks d)
theorem ksL_length (d : UInt64) (n : Nat) : (ksL d n).length = n := by simp [ksL]
theorem ksL_take (d : UInt64) (n m : Nat) (h : m ≤ n) : (ksL d n).take m = ksL d m := by
  unfold ksL; rw [← List.map_take, List.take_range, Nat.min_eq_left h]
theorem ksL_four (d : UInt64) (j : Nat) : ksL d (4 * (j + 1)) = ksL d (4 * j) ++ [UInt8.ofNat (w32 (dnextN (j + 1) d) / 2 ^ 24), UInt8.ofNat (w32 (dnextN (j + 1) d) / 2 ^ 16), UInt8.ofNat (w32 (dnextN (j + 1) d) / 2 ^ 8), UInt8.ofNat (w32 (dnextN (j + 1) d))] := by
  unfold ksL
  rw [show 4 * (j + 1) = 4 * j + 1 + 1 + 1 + 1 by omega]
  simp only [List.range_succ, List.map_append, List.map_cons, List.map_nil, List.append_assoc, List.cons_append, List.nil_append]
  refine congrArg (fun l => List.map (ks d) (List.range (4 * j)) ++ l) ?_
  unfold ks
  rw [show (4 * j) / 4 = j by omega, show (4 * j) % 4 = 0 by omega, show (4 * j + 1) / 4 = j by omega, show (4 * j + 1) % 4 = 1 by omega, show (4 * j + 1 + 1) / 4 = j by omega, show (4 * j + 1 + 1) % 4 = 2 by omega, show (4 * j + 1 + 1 + 1) / 4 = j by omega, show (4 * j + 1 + 1 + 1) % 4 = 3 by omega]
  simp

set_option maxHeartbeats 400000 in
theorem ref_stream_any (key nonce : UInt64) (many : Nat) (w : World) (hm : many ≤ 1000000000) :
    Calls Try.prog 38 #[.int .u64 key.toNat, .int .u64 nonce.toNat, .int .i64 many] w fun e w' => ∃ a cap, e = .returned (.slice a many cap) ∧ Bytes w' a many cap (ksL (kstate key nonce) many) ∧ Below w.heap.size w w' := by
  go_enter Try.func38, Try.ntmps38
  go_wp2_with fail
  refine (ref_eight_any nonce w).mono ?_
  rintro e w1 ⟨v1, rfl, ho1, hb1⟩
  obtain ⟨a1, n1, c1, rfl, hx1⟩ := ho1.bytes
  have HX1 := Lib.hid hx1; clear hx1 ho1
  go_wp2_with fail
  refine (ref_chain_any key _ _ _ _ _ HX1.out).mono ?_
  rintro e w2 ⟨rfl, rfl⟩
  go_wp2_with fail
  refine (ref_new_any _ _).mono ?_
  rintro e w2 ⟨rfl, rfl⟩
  go_wp2_with fail
  go_loopw [7, 8] (fun d u wr => ∃ (j : Nat), 4 * j < many + 4 ∧ d = .int .u64 (dnextN j (kstate key nonce)).toNat ∧ Hid (Owns wr w.heap.size 5 u (bvs (ksL (kstate key nonce) (4 * j)))) ∧ Below w.heap.size w wr) (fun _ u _ => many + 4 - lenOf u)
  case atStart => exact ⟨0, by omega, rfl, Owns.nil _ _ _, hb1⟩
  case round =>
    obtain ⟨j, hj, rfl, HOr, hb⟩ := hrel
    have hl4 : (bvs (ksL (kstate key nonce) (4 * j))).length = 4 * j := by rw [bvs_length, ksL_length]
    have HLn := Lib.hid (show ((bvs (ksL (kstate key nonce) (4 * j))).length + 4) * 1 ≤ 140737488355328 ∧ (bvs (ksL (kstate key nonce) (4 * j))).length + 4 ≤ maxLen by rw [hl4]; simp only [maxLen]; omega)
    by_cases hlt : 4 * j < many
    · obtain ⟨ad, cap, hv, -⟩ := HOr.out.form
      rw [hl4] at hv
      subst hv
      clear hl4
      have HK := Lib.hid (ksL_four (kstate key nonce) j)
      have hsz : w.heap.size ≤ wr.heap.size := hb.size
      go_wp2_with fail
      refine (ref_next_any _ _).mono ?_
      rintro e w3 ⟨rfl, rfl⟩
      go_wp2_with (at_builtin; go_must (refine wpList_appL rfl _ _ 31 rfl w.heap.size 5 (.int .u8 0) 1 Try.underlying31 infoByte rfl (.slice ad (4 * j) cap) _ rfl _ ?hy HOr.out 4 rfl rfl HLn.out.1 HLn.out.2 hsz fun v' w' h1 h2 => ?_))
      case hy => intro y hy; simp at hy; rcases hy with rfl | rfl | rfl | rfl <;> rfl
      have hl' : lenOf v' = 4 * j + 4 := by
        obtain ⟨ad', cap', rfl, -⟩ := h1.form
        simp [lenOf, bvs_length, ksL_length]
      refine ⟨⟨j + 1, by omega, rfl, ?_, hb.trans (h2.below hsz HOr.out.lt)⟩, by rw [hl']; simp only [lenOf]; omega⟩
      unfold Hid
      rw [HK.out, bvs_append]
      have e : ∀ x : Nat, bvs [UInt8.ofNat (x / 2 ^ 24), UInt8.ofNat (x / 2 ^ 16), UInt8.ofNat (x / 2 ^ 8), UInt8.ofNat x] = [Value.int .u8 ((x : Int) / 16777216 % 256), .int .u8 ((x : Int) / 65536 % 256), .int .u8 ((x : Int) / 256 % 256), .int .u8 ((x : Int) % 256)] := by
        intro x; simp [bvs, bv, UInt8.toNat_ofNat']
      rw [e]
      exact h1
    · rcases HOr.out.form2 with ⟨rfl, hnil⟩ | ⟨g, cap, hv, hlc, hcm, hg, hgs⟩
      · have h0 : many = 0 := by rw [hnil] at hl4; simp at hl4; omega
        subst h0
        go_wp2
        go_ret
        exact ⟨none, 0, rfl, bytes_nil _, hb⟩
      · rw [hl4] at hv hlc
        subst hv
        have hmc : many ≤ cap := by omega
        have HY : Hid (Bytes wr (some ⟨g, 0, none⟩) (4 * j) cap (ksL (kstate key nonce) (4 * j))) := by
          obtain ⟨a', n', c', hv', hb'⟩ := HOr.out.bytes
          cases hv'; exact hb'
        have hY2 := HY.out.pre many (by omega)
        rw [ksL_take _ _ _ (by omega)] at hY2
        have HY2 := Lib.hid hY2
        clear hY2
        go_wp2
        go_ret
        exact ⟨_, _, rfl, HY2.out, hb⟩

theorem set_fill (l : List UInt8) (m : Nat) (y : UInt8) : (l ++ List.replicate (m + 1) 0).set l.length y = (l ++ [y]) ++ List.replicate m 0 := by
  rw [List.set_append_right _ _ (Nat.le_refl _)]; simp [List.replicate_succ]

set_option maxHeartbeats 400000 in
theorem ref_mix_any (key nonce : UInt64) (data : List UInt8) (a : Option Addr) (len cap : Nat) (w : World) (hdata : Bytes w a len cap data) (hm : len ≤ 1000000000) :
    Calls Try.prog 31 #[.int .u64 key.toNat, .int .u64 nonce.toNat, .slice a len cap] w fun e w' => ∃ v, e = .returned v ∧ Owns w' w.heap.size 5 v (bvs (mixed key nonce data)) ∧ Below w.heap.size w w' := by
  have HL := Lib.hid hdata.1
  have HD := Lib.hid hdata; clear hdata
  go_enter Try.func31, Try.ntmps31
  go_wp2_with fail
  refine (ref_stream_any key nonce len w hm).mono ?_
  rintro e w1 ⟨a1, c1, rfl, hk1, hb1⟩
  have HK1 := Lib.hid hk1
  have HD1 := Lib.hid (HD.out.below hb1)
  clear hk1
  go_wp2_with (at_make; refine wpList_mkn rfl _ _ 31 rfl 5 (.int .u8 0) 1 Try.underlying31 infoByte rfl _ _ _ _ len rfl rfl rfl rfl (by omega) (by simp only [maxLen]; omega) fun w2 h1 h2 => ?_)
  have HO := Lib.hid (h1.mono hb1.size)
  have HK2 := Lib.hid (HK1.out.below h2)
  have HD2 := Lib.hid (HD1.out.below h2)
  have hb2 := hb1.trans (h2.mono hb1.size)
  have hg : w.heap.size ≤ w1.heap.size := hb1.size
  have HUk := Lib.hid HK1.out.under
  have HUd := Lib.hid HD1.out.under
  have hsz2 : w1.heap.size ≤ w2.heap.size := h2.size
  clear h1 h2 hb1
  go_wp2_with fail
  go_loopw [9] (fun i wr => ∃ k : Nat, k ≤ len ∧ i = .int .i64 k ∧ Hid (Owns wr w.heap.size 5 (.slice (some ⟨w1.heap.size, 0, none⟩) len len) (bvs (mixL (kstate key nonce) 0 (data.take k) ++ List.replicate (len - k) 0))) ∧
      Hid (Bytes wr a1 len c1 (ksL (kstate key nonce) len)) ∧ Hid (Bytes wr a len cap data) ∧ Below w.heap.size w wr ∧ w1.heap.size ≤ wr.heap.size) (fun i _ => len - (intOf i).toNat)
  case atStart => exact ⟨0, by omega, rfl, by simpa [Hid, mixL, bvs, bv] using HO.out, HK2, HD2, hb2, hsz2⟩
  case round =>
    obtain ⟨k, hk, rfl, HOr, HKr, HDr, hb, hsz⟩ := hrel
    by_cases hlt : k < len
    · obtain ⟨b, off, rfl, hbs, hcc⟩ := HDr.out.2.at hlt
      have c2 := hcc k hlt wr (Below.refl _ _)
      obtain ⟨b', off', rfl, hbs', hcc'⟩ := HKr.out.2.at hlt
      have c3 := hcc' k hlt wr (Below.refl _ _)
      have c4 := HOr.out.cell k hlt
      have c5 := HOr.out.free k
      clear hcc hcc'
      have hks : (ksL (kstate key nonce) len).getD k 0 = ks (kstate key nonce) k := by simp [ksL, List.getD, hlt]
      rw [hks] at c3
      clear hks
      have HMT := Lib.hid (mixL_take (kstate key nonce) data k (by rw [HL.out]; omega))
      have hlk : (mixL (kstate key nonce) 0 (data.take k)).length = k := by rw [mixL_length, List.length_take, HL.out]; omega
      have hS := HOr.out.store k (bv (data.getD k 0 ^^^ ks (kstate key nonce) k))
      have hF := set_fill (mixL (kstate key nonce) 0 (data.take k)) (len - (k + 1)) (data.getD k 0 ^^^ ks (kstate key nonce) k)
      rw [hlk, show len - (k + 1) + 1 = len - k by omega, ← HMT.out] at hF
      rw [bvs_set, hF] at hS
      have hBs : ∀ v, Below w1.heap.size wr (wr.setCell ⟨w1.heap.size, k, none⟩ v).drew := fun v => ((Below.refl w1.heap.size wr).setCell (p := ⟨w1.heap.size, k, none⟩) (Nat.le_refl _) v).drew
      have HS := Lib.hid hS
      have HBs := Lib.hid hBs
      clear hlk hS hF hBs HMT
      generalize (bvs (mixL (kstate key nonce) 0 (data.take k) ++ List.replicate (len - k) 0)).getD k .nilFunc = old at *
      generalize data.getD k 0 = x at *
      go_wp2
      go_region
      rw [xor_u8]
      go_wp2
      refine ⟨⟨k + 1, by omega, by go_num, World.ownsRow.drew HS.out, HKr.out.keep (HBs.out _) HUk.out, HDr.out.keep (HBs.out _) HUd.out, hb.trans ((HBs.out _).mono hg), Nat.le_trans hsz (HBs.out _).size⟩, by simp [intOf]; omega⟩
    · go_wp2
      go_ret
      refine ⟨_, rfl, ?_, hb⟩
      have := HOr.out
      rw [List.take_of_length_le (by rw [HL.out]; omega), show len - k = 0 by omega] at this
      simpa [mixed] using this

set_option maxHeartbeats 1000000 in
theorem ref_seal_long (key nonce : UInt64) (a : Option Addr) (len cap : Nat) (w : World) (hlong : 1048576 < len) (hm : len ≤ 9223372036854775807) :
    Calls Try.prog 17 #[.int .u64 key.toNat, .int .u64 nonce.toNat, .slice a len cap] w fun e w' => e = .returned (.tuple #[.slice none 0 0, .int .i64 5]) ∧ w = w' := by
  go_enter Try.func17, Try.ntmps17
  go_wp2_with fail
  go_ret2
  exact ⟨rfl, rfl⟩

set_option maxHeartbeats 1000000 in
theorem ref_seal_any (key nonce : UInt64) (data : List UInt8) (a : Option Addr) (len cap : Nat) (w : World) (hdata : Bytes w a len cap data) (hlen : len ≤ 1048576) :
    Calls Try.prog 17 #[.int .u64 key.toNat, .int .u64 nonce.toNat, .slice a len cap] w fun e w' => ∃ v, e = .returned (.tuple #[v, .int .i64 0]) ∧ Owns w' w.heap.size 5 v (bvs (sealL key nonce data)) ∧ Below w.heap.size w w' := by
  have HL := Lib.hid hdata.1
  have HD := Lib.hid hdata; clear hdata
  go_enter Try.func17, Try.ntmps17
  go_wp2_with fail
  refine (ref_eight_any nonce w).mono ?_
  rintro e w1 ⟨v1, rfl, ho1, hb1⟩
  have HO1 := Lib.hid ho1
  have hs1 : w.heap.size ≤ w1.heap.size := hb1.size
  clear ho1
  go_wp2_with fail
  refine (ref_mix_any key nonce data a len cap w1 (HD.out.below hb1) (by omega)).mono ?_
  rintro e w2 ⟨v2, rfl, ho2, hb2⟩
  have HO1' := Lib.hid (HO1.out.later hb2)
  have hb12 := hb1.trans (hb2.mono hs1)
  have hs2 : w.heap.size ≤ w2.heap.size := hb12.size
  obtain ⟨ad, n2, c2, hv2, hx2⟩ := ho2.bytes
  have HLb := Lib.hid (show (mixed key nonce data).length = len by rw [mixed, mixL_length, HL.out])
  have HX2 := Lib.hid (show n2 = len ∧ (bvs (mixed key nonce data)).length = n2 ∧ Cells w2 ad n2 c2 (fun i => (bvs (mixed key nonce data)).getD i .nilFunc) by
    refine ⟨by rw [← hx2.1, HLb.out], by rw [bvs_length, hx2.1], ?_⟩
    obtain ⟨ad', c', hv', hc'⟩ := ho2.form
    rw [hv2] at hv'; cases hv'; exact hc')
  have hn2 : n2 ≤ 1048576 := by rw [HX2.out.1]; omega
  subst hv2
  clear hx2 ho2 hb2
  go_wp2_with (at_builtin; go_must (refine wpList_app rfl _ _ 31 rfl w.heap.size 5 (.int .u8 0) 1 Try.underlying31 infoByte rfl v1 _ rfl HO1'.out ad n2 c2 _ rfl HX2.out.2.1 HX2.out.2.2 (bvs_one _) (by rw [bvs_length, be8_length]; omega) (by rw [bvs_length, be8_length]; simp only [maxLen]; omega) hs2 fun v3 w3 h1 h2 => ?_))
  have hb3 := hb12.trans (h2.below hs2 HO1'.out.lt)
  have hs3 : w.heap.size ≤ w3.heap.size := hb3.size
  rw [← bvs_append] at h1
  have HO3 := Lib.hid (show Owns w3 w.heap.size 5 v3 (bvs (bodyL key nonce data)) from h1)
  clear h1 h2
  obtain ⟨a3, n3, c3, hv3, hx3⟩ := HO3.out.bytes
  have HX3 := Lib.hid hx3
  subst hv3
  clear hx3
  go_wp2_with fail
  refine (ref_chain_any key _ _ _ _ _ HX3.out).mono ?_
  rintro e w4 ⟨rfl, rfl⟩
  go_wp2_with fail
  refine (ref_eight_any _ _).mono ?_
  rintro e w5 ⟨v5, rfl, ho5, hb5⟩
  have HO3' := Lib.hid (HO3.out.later hb5)
  have hb35 := hb3.trans (hb5.mono hs3)
  have hs5 : w.heap.size ≤ w5.heap.size := hb35.size
  obtain ⟨ad5, n5, c5, hv5, hx5⟩ := ho5.bytes
  have HX5 := Lib.hid (show n5 = 8 ∧ (bvs (be8 (digChain key (bodyL key nonce data)))).length = n5 ∧ Cells w5 ad5 n5 c5 (fun i => (bvs (be8 (digChain key (bodyL key nonce data)))).getD i .nilFunc) by
    refine ⟨by rw [← hx5.1, be8_length], by rw [bvs_length, hx5.1], ?_⟩
    obtain ⟨ad', c', hv', hc'⟩ := ho5.form
    rw [hv5] at hv'; cases hv'; exact hc')
  have hn5 : n5 ≤ 8 := by rw [HX5.out.1]; omega
  have hl3 : (bvs (bodyL key nonce data)).length ≤ 1048584 := by rw [bvs_length, bodyL_length, HL.out]; omega
  have HL3 := Lib.hid hl3
  subst hv5
  clear hx5 ho5 hb5 hl3
  go_wp2_with (at_builtin; go_must (refine wpList_app rfl _ _ 31 rfl w.heap.size 5 (.int .u8 0) 1 Try.underlying31 infoByte rfl (.slice a3 n3 c3) _ rfl HO3'.out ad5 n5 c5 _ rfl HX5.out.2.1 HX5.out.2.2 (bvs_one _) (by have := HL3.out; omega) (by have := HL3.out; simp only [maxLen]; omega) hs5 fun v6 w6 h1 h2 => ?_))
  go_ret2
  refine ⟨v6, rfl, ?_, hb35.trans (h2.below hs5 HO3'.out.lt)⟩
  rw [sealL, bvs_append]; exact h1

theorem ref_open_short (key : UInt64) (a : Option Addr) (len cap : Nat) (w : World) (h : len < 16) :
    Calls Try.prog 20 #[.int .u64 key.toNat, .slice a len cap] w fun e w' => e = .returned (.tuple #[.slice none 0 0, .int .u64 0, .int .i64 4]) ∧ w = w' := by
  go_enter Try.func20, Try.ntmps20
  go_wp2_with fail
  go_ret3
  exact ⟨rfl, rfl⟩
theorem ref_open_long (key : UInt64) (a : Option Addr) (len cap : Nat) (w : World) (h : 1048592 < len) (hm : len ≤ 9223372036854775807) :
    Calls Try.prog 20 #[.int .u64 key.toNat, .slice a len cap] w fun e w' => e = .returned (.tuple #[.slice none 0 0, .int .u64 0, .int .i64 5]) ∧ w = w' := by
  go_enter Try.func20, Try.ntmps20
  go_wp2_with fail
  go_ret3
  exact ⟨rfl, rfl⟩

set_option maxHeartbeats 1000000 in
theorem ref_open_bad (key : UInt64) (xs : List UInt8) (a : Option Addr) (len cap : Nat) (w : World) (hx : Bytes w a len cap xs) (h16 : 16 ≤ len) (hlen : len ≤ 1048592)
    (hbad : beVal (xs.drop (len - 8)) ≠ digChain key (xs.take (len - 8))) :
    Calls Try.prog 20 #[.int .u64 key.toNat, .slice a len cap] w fun e w' => e = .returned (.tuple #[.slice none 0 0, .int .u64 0, .int .i64 12]) ∧ Below w.heap.size w w' := by
  have HN : (((digChain key (xs.take (len - 8))).toNat : Int) != ((beVal (xs.drop (len - 8))).toNat : Int)) = true := by
    rw [bne_iff_ne]; intro h; exact hbad (UInt64.toNat_inj.1 (by omega))
  obtain ⟨b, off, rfl, hbs, _⟩ := hx.2.at (k := 0) (by omega)
  have hlc := hx.2.1
  have HX := Lib.hid (fun nq => hx.below (below_drewN (Below.refl w.heap.size w) nq)); clear hx hbad
  have hn0 : (0 : Int) ≤ (len : Int) - 8 := by omega
  go_enter Try.func20, Try.ntmps20
  go_wp2_with fail
  go_quiet (first | (go_at_call 32; exact Calls.quiet_of_same ((ref_chain_any key _ _ _ _ _ ((HX.out _).pre (len - 8) (by omega))).mono fun _ _ ⟨h1, h2⟩ => ⟨h1, h2.symm⟩)) | (go_at_call 34; exact Calls.quiet_of_same ((ref_number_any _ _ _ _ _ ((HX.out _).suf (len - 8) (by omega)) (by omega)).mono fun _ _ ⟨h1, h2⟩ => ⟨h1, h2.symm⟩)))
  go_wp2_with fail
  go_ret3
  exact ⟨rfl, below_drewN (Below.refl _ _) _⟩

set_option maxHeartbeats 1000000 in
theorem ref_open_good (key : UInt64) (xs : List UInt8) (a : Option Addr) (len cap : Nat) (w : World) (hx : Bytes w a len cap xs) (h16 : 16 ≤ len) (hlen : len ≤ 1048592)
    (hgood : beVal (xs.drop (len - 8)) = digChain key (xs.take (len - 8))) :
    Calls Try.prog 20 #[.int .u64 key.toNat, .slice a len cap] w fun e w' => ∃ v, e = .returned (.tuple #[v, .int .u64 (beVal (xs.take 8)).toNat, .int .i64 0]) ∧
      Owns w' w.heap.size 5 v (bvs (mixed key (beVal (xs.take 8)) ((xs.take (len - 8)).drop 8))) ∧ Below w.heap.size w w' := by
  have HN : (((digChain key (xs.take (len - 8))).toNat : Int) != ((beVal (xs.drop (len - 8))).toNat : Int)) = false := by rw [hgood]; simp
  obtain ⟨b, off, rfl, hbs, _⟩ := hx.2.at (k := 0) (by omega)
  have hlc := hx.2.1
  have HX := Lib.hid (fun nq => hx.below (below_drewN (Below.refl w.heap.size w) nq)); clear hx hgood
  have hn0 : (0 : Int) ≤ (len : Int) - 8 := by omega
  go_enter Try.func20, Try.ntmps20
  go_wp2_with fail
  go_quiet (first | (go_at_call 32; exact Calls.quiet_of_same ((ref_chain_any key _ _ _ _ _ ((HX.out _).pre (len - 8) (by omega))).mono fun _ _ ⟨h1, h2⟩ => ⟨h1, h2.symm⟩)) | (go_at_call 34; exact Calls.quiet_of_same ((ref_number_any _ _ _ _ _ ((HX.out _).suf (len - 8) (by omega)) (by omega)).mono fun _ _ ⟨h1, h2⟩ => ⟨h1, h2.symm⟩)))
  go_wp2_with fail
  refine (ref_number_any _ _ _ _ _ ((HX.out _).pre 8 (by omega)) rfl).mono ?_
  rintro e w1 ⟨rfl, rfl⟩
  go_wp2_with fail
  refine (ref_mix_any key _ _ _ _ _ _ (((HX.out _).pre (len - 8) (by omega)).suf 8 (by omega)) (by omega)).mono ?_
  rintro e w2 ⟨v2, rfl, ho2, hb2⟩
  go_wp2_with fail
  go_ret3
  exact ⟨v2, rfl, ho2, (below_drewN (Below.refl _ _) _).trans hb2⟩

end Go.Proofs.Ytfedalipoknilaa
