/- The cipher: what cipher.Seal and cipher.Open return. -/
import Derived.Test.YtfedalipoknilaaCiph
namespace Go.Proofs.Ytfedalipoknilaa
open Go.RowKit

def bodyL (key nonce : UInt64) (data : List UInt8) : List UInt8 := be8 nonce ++ mixed key nonce data
def sealL (key nonce : UInt64) (data : List UInt8) : List UInt8 := bodyL key nonce data ++ be8 (digChain key (bodyL key nonce data))
theorem bodyL_length (key nonce : UInt64) (data : List UInt8) : (bodyL key nonce data).length = data.length + 8 := by simp [bodyL, be8_length, mixed, mixL_length]; omega
theorem sealL_length (key nonce : UInt64) (data : List UInt8) : (sealL key nonce data).length = data.length + 16 := by simp [sealL, bodyL_length, be8_length]

set_option maxHeartbeats 1000000 in
theorem seal_long (key nonce : UInt64) (a : Option Addr) (len cap : Nat) (w : World) (hlong : 1048576 < len) (hm : len ≤ 9223372036854775807) :
    Calls Try.prog 16 #[.int .u64 key.toNat, .int .u64 nonce.toNat, .slice a len cap] w fun e w' => e = .returned (.tuple #[.slice none 0 0, .int .i64 5]) ∧ w = w' := by
  go_enter Try.func16, Try.ntmps16
  go_wp2_with fail
  go_ret2
  exact ⟨rfl, rfl⟩

set_option maxHeartbeats 1000000 in
theorem seal_any (key nonce : UInt64) (data : List UInt8) (a : Option Addr) (len cap : Nat) (w : World) (hdata : Bytes w a len cap data) (hlen : len ≤ 1048576) :
    Calls Try.prog 16 #[.int .u64 key.toNat, .int .u64 nonce.toNat, .slice a len cap] w fun e w' => ∃ v, e = .returned (.tuple #[v, .int .i64 0]) ∧ Owns w' w.heap.size 5 v (bvs (sealL key nonce data)) ∧ Below w.heap.size w w' := by
  have HL := Lib.hid hdata.1
  have HD := Lib.hid hdata
  have HA := Lib.hid hdata.under; clear hdata
  go_enter Try.func16, Try.ntmps16
  go_wp2_with (at_make; refine wpList_mk0 rfl _ _ 31 rfl 5 (.int .u8 0) 1 Try.underlying31 infoByte _ _ _ (len + 16) rfl rfl (by omega) (by omega) (by simp only [maxLen]; omega) fun w1 h1 h2 => ?_)
  have HO := Lib.hid h1
  have HB1 := Lib.hid h2
  have hs1 : w.heap.size ≤ w1.heap.size := h2.size
  clear h1 h2
  refine (appendWord_any _ [] nonce w1 w.heap.size HO.out hs1 (by simp)).mono ?_
  rintro e w2 ⟨v2, rfl, ho2, hg2⟩
  have hbel2 := hg2.below hs1 HO.out.lt
  have HB2 := Lib.hid (HB1.out.trans hbel2)
  have HO2 := Lib.hid ho2
  have hs2 : w.heap.size ≤ w2.heap.size := Nat.le_trans hs1 hbel2.size
  clear ho2 hg2 hbel2
  go_wp2_with fail
  refine (appendMixed_any v2 _ key nonce data a len cap w2 w.heap.size HO2.out hs2 (by simp [be8_length]; omega) (HD.out.keep HB2.out HA.out) HA.out).mono ?_
  rintro e w3 ⟨v3, rfl, ho3, hg3⟩
  have hbel3 := hg3.below hs2 HO2.out.lt
  have HB3 := Lib.hid (HB2.out.trans hbel3)
  have HO3 := Lib.hid ho3
  have hs3 : w.heap.size ≤ w3.heap.size := Nat.le_trans hs2 hbel3.size
  clear ho3 hg3 hbel3
  obtain ⟨a3, n3, c3, hv3, hb3⟩ := HO3.out.bytes
  have HB3b := Lib.hid hb3; clear hb3
  subst hv3
  go_wp2_with fail
  refine (chain_any key _ a3 _ c3 _ HB3b.out).mono ?_
  rintro e w4 ⟨rfl, rfl⟩
  go_wp2_with fail
  refine (appendWord_any _ _ _ _ w.heap.size HO3.out hs3 (by simp [be8_length, mixed, mixL_length, HL.out]; omega)).mono ?_
  rintro e w5 ⟨v5, rfl, ho5, hg5⟩
  have hbel5 := hg5.below hs3 HO3.out.lt
  go_wp2_with fail
  go_ret2
  exact ⟨v5, rfl, by simpa [sealL, bodyL] using ho5, HB3.out.trans hbel5⟩

theorem open_short (key : UInt64) (a : Option Addr) (len cap : Nat) (w : World) (h : len < 16) :
    Calls Try.prog 19 #[.int .u64 key.toNat, .slice a len cap] w fun e w' => e = .returned (.tuple #[.slice none 0 0, .int .u64 0, .int .i64 4]) ∧ w = w' := by
  go_enter Try.func19, Try.ntmps19
  go_wp2_with fail
  go_ret3
  exact ⟨rfl, rfl⟩
theorem open_long (key : UInt64) (a : Option Addr) (len cap : Nat) (w : World) (h : 1048592 < len) (hm : len ≤ 9223372036854775807) :
    Calls Try.prog 19 #[.int .u64 key.toNat, .slice a len cap] w fun e w' => e = .returned (.tuple #[.slice none 0 0, .int .u64 0, .int .i64 5]) ∧ w = w' := by
  go_enter Try.func19, Try.ntmps19
  go_wp2_with fail
  go_ret3
  exact ⟨rfl, rfl⟩

set_option maxHeartbeats 1000000 in
theorem open_bad (key : UInt64) (xs : List UInt8) (a : Option Addr) (len cap : Nat) (w : World) (hx : Bytes w a len cap xs) (h16 : 16 ≤ len) (hlen : len ≤ 1048592)
    (hbad : beVal (xs.drop (len - 8)) ≠ digChain key (xs.take (len - 8))) :
    Calls Try.prog 19 #[.int .u64 key.toNat, .slice a len cap] w fun e w' => e = .returned (.tuple #[.slice none 0 0, .int .u64 0, .int .i64 12]) ∧ Below w.heap.size w w' := by
  have HN : (((beVal (xs.drop (len - 8))).toNat : Int) != ((digChain key (xs.take (len - 8))).toNat : Int)) = true := by
    rw [bne_iff_ne]; intro h; exact hbad (UInt64.toNat_inj.1 (by omega))
  obtain ⟨b, off, rfl, hbs, _⟩ := hx.2.at (k := 0) (by omega)
  have hlc := hx.2.1
  have HX := Lib.hid (fun nq => hx.below (below_drewN (Below.refl w.heap.size w) nq)); clear hx hbad
  go_enter Try.func19, Try.ntmps19
  go_wp2_with fail
  go_quiet (fail)
  go_wp2_with fail
  refine (word_any _ _ _ _ _ ((HX.out _).suf (len - 8) (by omega))).mono ?_
  rintro e w1 ⟨rfl, rfl⟩
  go_wp2_with fail
  refine (chain_any key _ _ _ _ _ ((HX.out _).pre (len - 8) (by omega))).mono ?_
  rintro e w1 ⟨rfl, rfl⟩
  go_wp2_with fail
  go_ret3
  exact ⟨rfl, below_drewN (Below.refl _ _) _⟩

set_option maxHeartbeats 1000000 in
theorem open_good (key : UInt64) (xs : List UInt8) (a : Option Addr) (len cap : Nat) (w : World) (hx : Bytes w a len cap xs) (h16 : 16 ≤ len) (hlen : len ≤ 1048592)
    (hgood : beVal (xs.drop (len - 8)) = digChain key (xs.take (len - 8))) :
    Calls Try.prog 19 #[.int .u64 key.toNat, .slice a len cap] w fun e w' => ∃ v, e = .returned (.tuple #[v, .int .u64 (beVal (xs.take 8)).toNat, .int .i64 0]) ∧
      Owns w' w.heap.size 5 v (bvs (mixed key (beVal (xs.take 8)) ((xs.take (len - 8)).drop 8))) ∧ Below w.heap.size w w' := by
  have HE := Lib.hid (show ((digChain key (xs.take (len - 8))).toNat : Int) = ((beVal (xs.drop (len - 8))).toNat : Int) by rw [hgood])
  obtain ⟨b, off, rfl, hbs, _⟩ := hx.2.at (k := 0) (by omega)
  have hlc := hx.2.1
  have HX := Lib.hid (fun nq => hx.below (below_drewN (Below.refl w.heap.size w) nq))
  have HX0 := Lib.hid hx; clear hx hgood
  go_enter Try.func19, Try.ntmps19
  go_wp2_with fail
  go_quiet (fail)
  go_wp2_with fail
  refine (word_any _ _ _ _ _ ((HX.out _).suf (len - 8) (by omega))).mono ?_
  rintro e w1 ⟨rfl, rfl⟩
  go_wp2_with fail
  refine (chain_any key _ _ _ _ _ ((HX.out _).pre (len - 8) (by omega))).mono ?_
  rintro e w1 ⟨rfl, rfl⟩
  rw [HE.out]
  go_wp2_with fail
  refine (word_any _ _ _ _ _ (((HX.out _).pre (len - 8) (by omega)).pre 8 (by omega))).mono ?_
  rintro e w1 ⟨rfl, rfl⟩
  go_wp2_with fail
  refine (appendMixed_any _ [] key _ _ _ _ _ _ _ (Owns.nil _ _ _) (Nat.le_refl _) (by simp; omega) (((HX.out _).pre (len - 8) (by omega)).suf 8 (by omega)) (((HX.out _).pre (len - 8) (by omega)).suf 8 (by omega)).under).mono ?_
  rintro e w2 ⟨v2, rfl, ho2, hg2⟩
  have hb2 := hg2.below (Nat.le_refl _) (by simp [Value.ownBlock])
  go_wp2_with fail
  go_ret3
  refine ⟨v2, ?_, ?_, (below_drewN (Below.refl _ _) _).trans hb2⟩
  · rw [show (xs.take 8) = (xs.take (len - 8)).take 8 by rw [List.take_take, Nat.min_eq_left (by omega)]]; rfl
  · rw [show (xs.take 8) = (xs.take (len - 8)).take 8 by rw [List.take_take, Nat.min_eq_left (by omega)]]; exact ho2

end Go.Proofs.Ytfedalipoknilaa
