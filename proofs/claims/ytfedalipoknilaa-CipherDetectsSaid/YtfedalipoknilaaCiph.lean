/- The cipher: plain functions, and what the program's functions return: appendWord, word, draws.New, draws.Next, appendMixed. -/
import Derived.Test.YtfedalipoknilaaDig
namespace Go.Proofs.Ytfedalipoknilaa
open Go.RowKit

/-! ### Plain -/
def dnext (d : UInt64) : UInt64 := d * 6364136223846793005 + 1442695040888963407
def dnextN : Nat → UInt64 → UInt64
  | 0, d => d
  | n + 1, d => dnext (dnextN n d)
/-- the upper half of a state -/
def w32 (d : UInt64) : Nat := d.toNat / 4294967296
theorem w32_lt (d : UInt64) : w32 d < 4294967296 := by unfold w32; have := d.toNat_lt; omega
theorem w32_form (d : UInt64) : (d.toNat : Int) / 4294967296 % 4294967296 = ((w32 d : Nat) : Int) := by unfold w32; have := d.toNat_lt; omega
/-- byte i of the keystream that begins in the state d -/
def ks (d : UInt64) (i : Nat) : UInt8 := UInt8.ofNat (w32 (dnextN (i / 4 + 1) d) / 2 ^ (24 - 8 * (i % 4)))
def mixL (d : UInt64) : Nat → List UInt8 → List UInt8
  | _, [] => []
  | i, c :: r => (c ^^^ ks d i) :: mixL d (i + 1) r
def kstate (key nonce : UInt64) : UInt64 := dnext (digChain key (be8 nonce))
def mixed (key nonce : UInt64) (data : List UInt8) : List UInt8 := mixL (kstate key nonce) 0 data
def bv (x : UInt8) : Value := .int .u8 (x.toNat : Int)
def bvs (xs : List UInt8) : List Value := xs.map bv

theorem mixL_snoc (d : UInt64) (x : UInt8) : ∀ (xs : List UInt8) (i : Nat), mixL d i (xs ++ [x]) = mixL d i xs ++ [x ^^^ ks d (i + xs.length)]
  | [], i => by simp [mixL]
  | y :: ys, i => by simp [mixL, mixL_snoc d x ys (i + 1), Nat.add_assoc, Nat.add_comm 1]
theorem mixL_length (d : UInt64) : ∀ (xs : List UInt8) (i : Nat), (mixL d i xs).length = xs.length
  | [], _ => rfl
  | x :: xs, i => by simp [mixL, mixL_length d xs (i + 1)]
theorem mixL_take (d : UInt64) (data : List UInt8) (k : Nat) (h : k < data.length) : mixL d 0 (data.take (k + 1)) = mixL d 0 (data.take k) ++ [data.getD k 0 ^^^ ks d k] := by
  rw [take_snoc data k 0 h, mixL_snoc, Nat.zero_add, List.length_take, Nat.min_eq_left (by omega)]
theorem beList_length (n : UInt64) : ∀ k, (beList n k).length = k
  | 0 => rfl
  | k + 1 => by simp [beList, beList_length n k]
theorem be8_length (n : UInt64) : (be8 n).length = 8 := beList_length n 8
theorem bvs_length (xs : List UInt8) : (bvs xs).length = xs.length := by simp [bvs]
theorem bvs_append (xs ys : List UInt8) : bvs (xs ++ ys) = bvs xs ++ bvs ys := by simp [bvs]
theorem bvs_one (xs : List UInt8) : ∀ u ∈ bvs xs, u.oneCell' = true := by intro u hu; simp [bvs] at hu; obtain ⟨x, _, rfl⟩ := hu; rfl

theorem xor_u8 (a b : UInt8) : bits .xor .u8 (a.toNat : Int) (b.toNat : Int) = ((a ^^^ b).toNat : Int) := by
  have ha := a.toNat_lt
  have hb := b.toNat_lt
  have hx : a.toNat ^^^ b.toNat < 2 ^ 8 := Nat.xor_lt_two_pow (by omega) (by omega)
  have h1 : (BitVec.ofInt 8 (a.toNat : Int)).toNat = a.toNat := by rw [BitVec.ofInt_natCast, BitVec.toNat_ofNat]; exact Nat.mod_eq_of_lt (by omega)
  have h2 : (BitVec.ofInt 8 (b.toNat : Int)).toNat = b.toNat := by rw [BitVec.ofInt_natCast, BitVec.toNat_ofNat]; exact Nat.mod_eq_of_lt (by omega)
  show IntKind.u8.wrap ((BitVec.ofInt 8 (a.toNat : Int) ^^^ BitVec.ofInt 8 (b.toNat : Int)).toNat : Int) = _
  rw [BitVec.toNat_xor, h1, h2, UInt8.toNat_xor]
  simp only [IntKind.wrap, IntKind.bits, IntKind.signed]
  simp
  omega

/-- bytes that the call owns, as bytes that are read -/
theorem Owns.bytes {w : World} {B : Nat} {e : TypeId} {v : Value} {xs : List UInt8} (h : Owns w B e v (bvs xs)) : ∃ a n cap, v = .slice a n cap ∧ Bytes w a n cap xs := by
  obtain ⟨a, cap, rfl, hc⟩ := h.form
  rw [bvs_length] at hc ⊢
  refine ⟨a, xs.length, cap, rfl, rfl, hc.congr fun i hi => ?_⟩
  simp [bvs, bv, List.getD, hi]

theorem infoByte : (Try.prog.info? 5).map (fun i => (i.zero, i.size, i.bytes)) = some (some (.int .u8 0), 1, 1) := by kernel_rfl

/-! ### The program -/
set_option maxHeartbeats 400000 in
theorem appendWord_any (v : Value) (xs : List UInt8) (n : UInt64) (w : World) (B : Nat) (hown : Owns w B 5 v (bvs xs)) (hB : B ≤ w.heap.size) (hl : xs.length ≤ 1000000000000) :
    Calls Try.prog 27 #[v, .int .u64 n.toNat] w fun e w' => ∃ v', e = .returned v' ∧ Owns w' B 5 v' (bvs (xs ++ be8 n)) ∧ Grew w w' v v' := by
  have HO := Lib.hid hown; clear hown
  go_enter Try.func27, Try.ntmps27
  go_wp2
  go_loopw [0, 5] (fun u i wr => ∃ (k : Nat) (ys : List UInt8), k ≤ 8 ∧ i = .int .i64 (8 * k - 8) ∧ ys.length + k ≤ 1000000000008 ∧ Hid (xs ++ be8 n = ys ++ beList n k) ∧ Hid (Owns wr B 5 u (bvs ys)) ∧ Grew w wr v u) (fun _ i _ => (8 + intOf i).toNat)
  case atStart => exact ⟨8, xs, by omega, rfl, by omega, rfl, HO, Grew.refl _ _⟩
  case round =>
    obtain ⟨k, ys, hk, rfl, hyl, HY, HOr, hg⟩ := hrel
    have hBr : B ≤ wr.heap.size := Nat.le_trans hB hg.1.size
    cases k with
    | succ j =>
      rw [show (8 * ((j + 1 : Nat) : Int) - 8) = ((8 * j : Nat) : Int) by omega]
      have HG := Lib.hid hg; clear hg
      go_wp2_with (at_builtin; refine wpList_app1 rfl _ _ 31 rfl B 5 (.int .u8 0) 1 Try.underlying31 infoByte rfl u0 (bvs ys) rfl _ rfl HOr.out rfl ?_ ?_ ?_ fun v' w' h1 h2 => ?_)
      · rw [bvs_length]; omega
      · rw [bvs_length]; simp only [maxLen]; omega
      · exact hBr
      · refine ⟨⟨j, ys ++ [byteAt n j], by omega, rfl, by simp; omega, ?_, ?_, HG.out.trans h2⟩, by simp [intOf]; omega⟩
        · unfold Hid; rw [HY.out]; simp [beList]
        · unfold Hid; rw [bvs_append]; rw [byteAt_mod] at h1; exact h1
    | zero =>
      go_wp2
      go_ret
      refine ⟨u0, rfl, ?_, hg⟩
      rw [HY.out]; simpa [beList] using HOr.out

/-- the number of bytes, the most significant one first -/
def beVal (xs : List UInt8) : UInt64 := xs.foldl (fun n c => n * 256 + c.toUInt64) 0
theorem or_byte (n : UInt64) (x : UInt8) : bits .or .u64 (IntKind.u64.wrap ((n.toNat : Int) * 256)) (IntKind.u64.wrap (x.toNat : Int)) = ((n * 256 + x.toUInt64).toNat : Int) := by
  rw [wrap_u64_u8, show (256 : Int) = ((256 : UInt64).toNat : Int) from rfl, wrap_mul_u64, bits_or_u64_nat _ _ (n * 256).toNat_lt x.toUInt64.toNat_lt]
  have h1 : (n * 256).toNat = 2 ^ 8 * (n.toNat % 2 ^ 56) := by rw [UInt64.toNat_mul]; simp; omega
  have hx := x.toNat_lt
  have h2 : x.toUInt64.toNat = x.toNat := by simp
  rw [UInt64.toNat_add, h1, h2, ← Nat.two_pow_add_eq_or_of_lt (by omega)]
  have : n.toNat % 2 ^ 56 < 2 ^ 56 := Nat.mod_lt _ (by decide)
  congr 1; omega

set_option maxHeartbeats 400000 in
theorem word_any (xs : List UInt8) (a : Option Addr) (len cap : Nat) (w : World) (hx : Bytes w a len cap xs) :
    Calls Try.prog 33 #[.slice a len cap] w fun e w' => e = .returned (.int .u64 (beVal xs).toNat) ∧ w = w' := by
  have hm : len ≤ 9223372036854775807 := by have h1 := hx.2.1; have h2 := hx.2.2.1; unfold maxLen at h2; omega
  have HL := Lib.hid hx.1
  have HC := Lib.hid hx.2
  clear hx
  go_enter Try.func33, Try.ntmps33
  go_wp2
  go_loop [3, 8] (fun g i => ∃ (k : Nat) (u : UInt64), k ≤ len ∧ i = .int .i64 k ∧ g = .int .u64 u.toNat ∧ Hid (beVal xs = (xs.drop k).foldl (fun n c => n * 256 + c.toUInt64) u)) (fun _ i => len - (intOf i).toNat)
  case atStart => exact ⟨0, 0, by omega, rfl, rfl, by simp [Hid, beVal]⟩
  case round =>
    obtain ⟨k, u, hk, rfl, rfl, HD⟩ := hrel
    by_cases hlt : k < len
    · obtain ⟨b, off, rfl, _, hcc⟩ := HC.out.at hlt
      have c1 := hcc k hlt w (Below.refl _ _)
      have HS := Lib.hid (drop_cons xs k 0 (by rw [HL.out]; omega))
      clear hcc
      generalize xs.getD k 0 = x at *
      go_wp2
      go_round
      case rel => exact ⟨k + 1, u * 256 + x.toUInt64, by omega, by go_num, int_eq (or_byte u x), by unfold Hid; rw [HD.out, HS.out]; rfl⟩
      case measure => simp [intOf]; omega
    · have HF := Lib.hid (show beVal xs = u by rw [HD.out, List.drop_of_length_le (by rw [HL.out]; omega)]; rfl)
      go_wp2
      go_ret
      exact ⟨ret_int (by rw [HF.out]), rfl⟩

theorem dnext_form (d : UInt64) : IntKind.u64.wrap (IntKind.u64.wrap ((d.toNat : Int) * 6364136223846793005) + 1442695040888963407) = ((dnext d).toNat : Int) := by
  rw [show IntKind.u64.wrap ((d.toNat : Int) * 6364136223846793005) = ((d * 6364136223846793005).toNat : Int) from wrap_mul_u64 d 6364136223846793005]
  exact wrap_add_u64 _ 1442695040888963407

theorem new_any (d : UInt64) (w : World) :
    Calls Try.prog 36 #[.int .u64 d.toNat] w fun e w' => e = .returned (.int .u64 (dnext d).toNat) ∧ w = w' := by
  go_enter Try.func36, Try.ntmps36
  go_wp2_with fail
  go_ret
  exact ⟨ret_int (dnext_form d), rfl⟩

theorem next_any (d : UInt64) (w : World) :
    Calls Try.prog 37 #[.int .u64 d.toNat] w fun e w' => e = .returned (.tuple #[.int .u32 (w32 (dnext d) : Nat), .int .u64 (dnext d).toNat]) ∧ w = w' := by
  go_enter Try.func37, Try.ntmps37
  go_wp2_with fail
  refine (new_any d _).mono ?_
  rintro e w1 ⟨rfl, rfl⟩
  go_wp2_with fail
  go_ret2
  exact ⟨ret_two (int_eq (w32_form _)) rfl, rfl⟩

theorem ks_form (d : UInt64) (i : Nat) : IntKind.u8.wrap (((w32 (dnextN (i / 4 + 1) d) : Nat) : Int) / 2 ^ (24 - 8 * (i % 4))) = ((ks d i).toNat : Int) := by
  unfold ks
  rw [UInt8.toNat_ofNat']
  simp [IntKind.wrap, IntKind.bits, IntKind.signed]

theorem ks_mod (d : UInt64) (i : Nat) : ((w32 (dnextN (i / 4 + 1) d) : Nat) : Int) / 2 ^ (24 - 8 * (i % 4)) % 256 = ((ks d i).toNat : Int) := by
  rw [← ks_form]; simp [IntKind.wrap, IntKind.bits, IntKind.signed]

set_option maxHeartbeats 1000000 in
theorem appendMixed_any (v : Value) (xs : List UInt8) (key nonce : UInt64) (data : List UInt8) (a : Option Addr) (len cap : Nat) (w : World) (B : Nat)
    (hown : Owns w B 5 v (bvs xs)) (hB : B ≤ w.heap.size) (hl : xs.length + len ≤ 1000000000000) (hdata : Bytes w a len cap data) (hab : Under a len B) :
    Calls Try.prog 28 #[v, .int .u64 key.toNat, .int .u64 nonce.toNat, .slice a len cap] w fun e w' => ∃ v', e = .returned v' ∧ Owns w' B 5 v' (bvs (xs ++ mixed key nonce data)) ∧ Grew w w' v v' := by
  have HL := Lib.hid hdata.1
  have HD := Lib.hid hdata; clear hdata
  have HO := Lib.hid hown; clear hown
  go_enter Try.func28, Try.ntmps28
  go_wp2_with fail
  refine (appendWord_any _ [] nonce w w.heap.size (Owns.nil _ _ _) (Nat.le_refl _) (by simp)).mono ?_
  rintro e w1 ⟨v1, rfl, ho1, hg1⟩
  obtain ⟨a1, n1, c1, rfl, hb1⟩ := ho1.bytes
  have hbel1 := hg1.below (Nat.le_refl _) (by simp [Value.ownBlock])
  have HO1 := Lib.hid (HO.out.later hbel1)
  have HD1 := Lib.hid (HD.out.below hbel1)
  have HB1 := Lib.hid hb1
  clear hb1 ho1
  go_wp2_with fail
  refine (chain_any key _ a1 _ c1 _ HB1.out).mono ?_
  rintro e w2 ⟨rfl, rfl⟩
  go_wp2_with fail
  refine (new_any _ _).mono ?_
  rintro e w2 ⟨rfl, rfl⟩
  clear HB1
  go_wp2_with fail
  go_loopw [0, 9, 10, 20] (fun u d s i wr => ∃ (k st : Nat), k ≤ len ∧ i = .int .i64 k ∧ d = .int .u64 (dnextN ((k + 3) / 4) (kstate key nonce)).toNat ∧ s = .int .u32 st ∧ st < 4294967296 ∧
    Hid (k % 4 ≠ 0 → st = w32 (dnextN (k / 4 + 1) (kstate key nonce))) ∧ Hid (Owns wr B 5 u (bvs (xs ++ mixL (kstate key nonce) 0 (data.take k)))) ∧ Hid (Bytes wr a len cap data) ∧ Hid (Grew w wr v u)) (fun _ _ _ i _ => len - (intOf i).toNat)
  case atStart => exact ⟨0, 0, by omega, rfl, rfl, rfl, by omega, by simp [Hid], by simpa [Hid, mixL] using HO1.out, HD1, Grew.after hbel1 rfl (Grew.refl _ _)⟩
  case round =>
    obtain ⟨k, st, hk, rfl, rfl, rfl, hst, HS, HOr, HDr, HG⟩ := hrel
    have hBr : B ≤ wr.heap.size := Nat.le_trans hB HG.out.1.size
    by_cases hlt : k < len
    · obtain ⟨b, off, rfl, hbs, hcc⟩ := HDr.out.2.at hlt
      have c2 := hcc k hlt wr (Below.refl _ _)
      have HM2 := Lib.hid (mixL_take (kstate key nonce) data k (by rw [HL.out]; omega))
      have hlk : (mixL (kstate key nonce) 0 (data.take k)).length = k := by rw [mixL_length, List.length_take, HL.out]; omega
      have HLn := Lib.hid (show ((bvs (xs ++ mixL (kstate key nonce) 0 (data.take k))).length + 1) * 1 ≤ 140737488355328 ∧ (bvs (xs ++ mixL (kstate key nonce) 0 (data.take k))).length + 1 ≤ maxLen by
        rw [bvs_length, List.length_append, hlk]; simp only [maxLen]; omega)
      clear hcc hg1 hbel1 hlk
      by_cases hmod : k % 4 = 0
      · have hq : ((k : Int) % 4 == 0) = true := by simp; omega
        rw [show (k + 3) / 4 = k / 4 by omega]
        have HM := Lib.hid hmod; clear hmod
        generalize hx : data.getD k 0 = x at *
        have HX := Lib.hid hx; clear hx
        go_wp2_with fail
        refine (next_any _ _).mono ?_
        rintro e w2 ⟨rfl, rfl⟩
        go_wp2_with (at_builtin; refine wpList_app1 rfl _ _ 31 rfl B 5 (.int .u8 0) 1 Try.underlying31 infoByte rfl u0 _ rfl _ rfl HOr.out rfl HLn.out.1 HLn.out.2 hBr fun v' w' h1 h2 => ?_)
        · have HDr' : Hid (Bytes w' (some ⟨b, off, none⟩) len cap data) := HDr.out.keep (h2.below hBr HOr.out.lt) hab
          refine ⟨⟨k + 1, _, by omega, by go_num, ?_, rfl, w32_lt _, ?_, ?_, HDr', HG.out.trans h2⟩, by simp [intOf]; omega⟩
          · rw [show (k + 1 + 3) / 4 = k / 4 + 1 by omega]; rfl
          · intro _; have := HM.out; rw [show (k + 1) / 4 = k / 4 by omega]; rfl
          · unfold Hid
            rw [HM2.out, ← List.append_assoc, bvs_append]
            have e := ks_mod (kstate key nonce) k
            rw [show dnextN (k / 4 + 1) (kstate key nonce) = dnext (dnextN (k / 4) (kstate key nonce)) from rfl] at e
            rw [e, xor_u8] at h1
            exact h1
      · have hq : ((k : Int) % 4 == 0) = false := by simp; omega
        have e0 : st = w32 (dnextN (k / 4 + 1) (kstate key nonce)) := HS.out hmod
        subst e0
        rw [show (k + 3) / 4 = k / 4 + 1 by omega]
        have HM := Lib.hid hmod; clear hmod
        generalize hx : data.getD k 0 = x at *
        clear hx
        go_wp2_with (at_builtin; refine wpList_app1 rfl _ _ 31 rfl B 5 (.int .u8 0) 1 Try.underlying31 infoByte rfl u0 _ rfl _ rfl HOr.out rfl HLn.out.1 HLn.out.2 hBr fun v' w' h1 h2 => ?_)
        · have HDr' : Hid (Bytes w' (some ⟨b, off, none⟩) len cap data) := HDr.out.keep (h2.below hBr HOr.out.lt) hab
          refine ⟨⟨k + 1, _, by omega, by go_num, ?_, rfl, w32_lt _, ?_, ?_, HDr', HG.out.trans h2⟩, by simp [intOf]; omega⟩
          · rw [show (k + 1 + 3) / 4 = k / 4 + 1 by have := HM.out; omega]
          · intro h; have := HM.out; rw [show (k + 1) / 4 = k / 4 by omega]
          · unfold Hid
            rw [HM2.out, ← List.append_assoc, bvs_append]
            rw [ks_mod, xor_u8] at h1
            exact h1
    · have HF := Lib.hid (show mixed key nonce data = mixL (kstate key nonce) 0 (data.take k) by rw [List.take_of_length_le (by rw [HL.out]; omega)]; rfl)
      go_wp2
      go_ret
      exact ⟨u0, rfl, by rw [HF.out]; exact HOr.out, HG.out⟩

end Go.Proofs.Ytfedalipoknilaa
