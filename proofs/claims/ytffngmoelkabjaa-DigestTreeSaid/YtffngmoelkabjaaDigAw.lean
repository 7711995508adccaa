/- The examples that each statement about digests asks for: awake returns true. -/
import Derived.Test.YtffngmoelkabjaaDigT
import Derived.Test.YtffngmoelkabjaaDigRt
namespace Go.Proofs.Ytffngmoelkabjaa
open Go.RowKit

def foobar : UInt64 := 0x85944171f73967e8
theorem aw1 : parseOf [56, 53, 57, 52, 52, 49, 55, 49, 102, 55, 51, 57, 54, 55, 101, 56] = (foobar, 0) := by decide +kernel
theorem aw2 : parseOf [56, 53, 57, 52, 52, 49, 55, 49, 70, 55, 51, 57, 54, 55, 69, 56] = (0, 2) := by decide +kernel
theorem aw3 : hexL (digOf [97]) = [97, 102, 54, 51, 100, 99, 52, 99, 56, 54, 48, 49, 101, 99, 56, 99] := by decide +kernel
theorem aw4 : digOf [102, 111, 111, 98, 97, 114] = foobar := by decide +kernel
theorem aw5 : rootL [7] = 7 := by decide +kernel
theorem aw6 : ((digOf []).toNat : Int) = 14695981039346656037 := by decide +kernel

set_option maxHeartbeats 1000000 in
theorem awake_any (w : World) : Calls Try.prog 12 #[] w fun e w' => e = .returned (.bool true) ∧ Below w.heap.size w w' := by
  go_enter Try.func12, Try.ntmps12
  go_wp2_with fail
  refine (parse_any _ _ (by decide)).mono ?_
  rintro e w1 ⟨rfl, rfl⟩
  rw [aw1]
  go_wp2_with fail
  refine (parse_any _ _ (by decide)).mono ?_
  rintro e w1 ⟨rfl, rfl⟩
  rw [aw2]
  go_wp2_with fail
  refine (of_any [] none 0 0 _ (bytes_nil _)).mono ?_
  rintro e w1 ⟨rfl, rfl⟩
  rw [aw6]
  go_wp2_with fail
  refine (of_any [97] _ 1 1 _ (bytes_lit w 5 [97] (by decide))).mono ?_
  rintro e w1 ⟨rfl, rfl⟩
  go_wp2_with fail
  refine (hex_any _ _).mono ?_
  rintro e w2 ⟨rfl, hb2⟩
  rw [aw3]
  have hb2' : Below w.heap.size w w2 := ((Below.refl _ _).alloc (Nat.le_refl _) _).trans (hb2.mono (by simp))
  clear hb2
  go_wp2_with fail
  refine (of_any [102, 111, 111, 98, 97, 114] _ 6 6 _ (bytes_lit w2 5 _ (by decide))).mono ?_
  rintro e w3 ⟨rfl, rfl⟩
  rw [aw4]
  have hb3 : Below w.heap.size w (w2.alloc (.cells (bvs [102, 111, 111, 98, 97, 114]).toArray 5)) := hb2'.alloc hb2'.size _
  generalize w2.alloc (.cells (bvs [102, 111, 111, 98, 97, 114]).toArray 5) = w3 at *
  go_wp2_with fail
  refine (root_any [7] _ 1 1 _ (words_lit w3 23 [7] (by decide)) (by decide)).mono ?_
  rintro e w4 ⟨rfl, hb4⟩
  rw [aw5]
  have hb4' : Below w.heap.size w w4 := (hb3.alloc hb3.size _).trans (hb4.mono (Nat.le_trans hb3.size (by simp)))
  clear hb4
  go_wp2_with fail
  go_ret
  exact ⟨rfl, hb4'⟩

end Go.Proofs.Ytffngmoelkabjaa
