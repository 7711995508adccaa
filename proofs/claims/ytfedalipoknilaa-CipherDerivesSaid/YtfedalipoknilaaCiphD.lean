/- What cipher.Derive and the reference's Derive return. -/
import Derived.Test.YtfedalipoknilaaDigR
namespace Go.Proofs.Ytfedalipoknilaa
open Go.RowKit

theorem bytes_nil (w : World) : Bytes w none 0 0 [] := ⟨rfl, by omega, by simp [maxLen], by simp, .inl rfl⟩

set_option maxHeartbeats 400000 in
theorem derive_any (key : UInt64) (s : ByteArray) (w : World) (hs : s.size ≤ maxLen) :
    Calls Try.prog 13 #[.int .u64 key.toNat, .string s] w fun e w' => e = .returned (.int .u64 (digAdd (digNum (digOf []) key) s.data.toList).toNat) ∧ Below w.heap.size w w' := by
  go_enter Try.func13, Try.ntmps13
  go_wp2_with fail
  refine (of_any [] none 0 0 _ (bytes_nil _)).mono ?_
  rintro e w1 ⟨rfl, rfl⟩
  go_wp2_with fail
  refine (num_any _ _ _).mono ?_
  rintro e w1 ⟨rfl, rfl⟩
  go_wp2_with (refine wpList_tobytes rfl _ 9 31 5 rfl Try.underlying9 Try.underlying31 Try.underlying5 s rfl hs fun ad cap w' hb hw => ?_)
  refine (add_any _ _ _ _ _ _ hb).mono ?_
  rintro e w1 ⟨rfl, rfl⟩
  go_wp2_with fail
  go_ret
  exact ⟨rfl, hw⟩

set_option maxHeartbeats 400000 in
theorem ref_derive_any (key : UInt64) (s : ByteArray) (w : World) (hs : s.size ≤ maxLen) :
    Calls Try.prog 14 #[.int .u64 key.toNat, .string s] w fun e w' => e = .returned (.int .u64 (digAdd (digNum (digOf []) key) s.data.toList).toNat) ∧ Below w.heap.size w w' := by
  go_enter Try.func14, Try.ntmps14
  go_wp2_with fail
  refine (ref_of_any [] none 0 0 _ (bytes_nil _)).mono ?_
  rintro e w1 ⟨rfl, rfl⟩
  go_wp2_with fail
  refine (ref_num_any _ _ _).mono ?_
  rintro e w1 ⟨rfl, rfl⟩
  go_wp2_with (refine wpList_tobytes rfl _ 9 31 5 rfl Try.underlying9 Try.underlying31 Try.underlying5 s rfl hs fun ad cap w' hb hw => ?_)
  refine (ref_add_any _ _ _ _ _ _ hb).mono ?_
  rintro e w1 ⟨rfl, rfl⟩
  go_wp2_with fail
  go_ret
  exact ⟨rfl, hw⟩

end Go.Proofs.Ytfedalipoknilaa
