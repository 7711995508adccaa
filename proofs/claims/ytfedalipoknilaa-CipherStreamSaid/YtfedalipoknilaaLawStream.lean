/- CipherStream: with the same key and nonce the exclusive or of two sealed texts is that of the plain ones, as far as both reach: the law returns true. No condition. -/
import Derived.Test.YtfedalipoknilaaFrame
import Derived.Test.YtfedalipoknilaaCiphS
namespace Go.Proofs.Ytfedalipoknilaa
open Go.ChangeShapes Go.WideShapes Go.ChangeAt Go.RowKit

theorem mixL_at (d : UInt64) : ∀ (xs : List UInt8) (i j : Nat), j < xs.length → (mixL d i xs).getD j 0 = xs.getD j 0 ^^^ ks d (i + j)
  | [], _, _, h => by simp at h
  | x :: xs, i, 0, _ => by simp [mixL]
  | x :: xs, i, j + 1, h => by
    have := mixL_at d xs (i + 1) j (by simpa using h)
    simp only [mixL, List.getD_cons_succ]
    rw [this, show i + 1 + j = i + (j + 1) by omega]
theorem sealL_at (key nonce : UInt64) (data : List UInt8) (i : Nat) (h : i < data.length) : (sealL key nonce data).getD (8 + i) 0 = data.getD i 0 ^^^ ks (kstate key nonce) i := by
  have h1 := mixL_at (kstate key nonce) data 0 i h
  have h2 := be8_length nonce
  have h3 : (mixed key nonce data).length = data.length := by rw [mixed, mixL_length]
  rw [Nat.zero_add] at h1
  rw [← h1]
  unfold sealL bodyL
  rw [List.append_assoc]
  simp only [List.getD]
  rw [List.getElem?_append_right (by omega), List.getElem?_append_left (by omega), h2, show 8 + i - 8 = i by omega]
  rfl

set_option maxHeartbeats 2000000 in
set_option maxRecDepth 100000 in
theorem stream_calls (key nonce : UInt64) (xs ys : List UInt8) (a a' : Option Addr) (len cap len' cap' : Nat) (w : World) (hx : Bytes w a len cap xs) (hy : Bytes w a' len' cap' ys) :
    Calls Try.prog 7 #[.int .u64 key.toNat, .int .u64 nonce.toNat, .slice a len cap, .slice a' len' cap'] w fun e w' => e = .returned (.bool true) ∧ Below w.heap.size w w' := by
  have hm : len ≤ 9223372036854775807 := by have h1 := hx.2.1; have h2 := hx.2.2.1; unfold maxLen at h2; omega
  have hm' : len' ≤ 9223372036854775807 := by have h1 := hy.2.1; have h2 := hy.2.2.1; unfold maxLen at h2; omega
  have HX := Lib.hid hx
  have HY := Lib.hid hy
  have HL := Lib.hid hx.1
  have HL' := Lib.hid hy.1
  clear hx hy
  by_cases hl : 4000 < len
  · have d1 : decide (4000 < (len : Int)) = true := by simp; omega
    go_enter Try.func7, Try.ntmps7
    go_wp2_with fail
    go_ret
    exact ⟨rfl, Below.refl _ _⟩
  have d1 : decide (4000 < (len : Int)) = false := by simp; omega
  by_cases hl' : 4000 < len'
  · have d2 : decide (4000 < (len' : Int)) = true := by simp; omega
    go_enter Try.func7, Try.ntmps7
    go_wp2_with fail
    go_ret
    exact ⟨rfl, Below.refl _ _⟩
  have d2 : decide (4000 < (len' : Int)) = false := by simp; omega
  go_enter Try.func7, Try.ntmps7
  go_wp2_with fail
  refine (seal_any key nonce xs a len cap _ HX.out (by omega)).mono ?_
  rintro e w1 ⟨v1, rfl, ho1, hb1⟩
  have HO1 := Lib.hid ho1; clear ho1
  go_wp2_with fail
  refine (seal_any key nonce ys a' len' cap' _ (HY.out.below hb1) (by omega)).mono ?_
  rintro e w2 ⟨v2, rfl, ho2, hb2⟩
  obtain ⟨a1, n1, c1, rfl, hx1⟩ := (HO1.out.later hb2).bytes
  obtain ⟨a2, n2, c2, rfl, hx2⟩ := ho2.bytes
  obtain rfl : n1 = len + 16 := by rw [← hx1.1, sealL_length, HL.out]
  obtain rfl : n2 = len' + 16 := by rw [← hx2.1, sealL_length, HL'.out]
  have HX1 := Lib.hid hx1
  have HX2 := Lib.hid hx2
  have hb12 := hb1.trans (hb2.mono hb1.size)
  have HX' := Lib.hid (HX.out.below hb12)
  have HY' := Lib.hid (HY.out.below hb12)
  clear ho2 hx1 hx2
  go_wp2_with fail
  go_loopw [13] (fun i wr => ∃ k : Nat, k ≤ len ∧ k ≤ len' ∧ i = .int .i64 k ∧ Below w2.heap.size w2 wr) (fun i _ => len - (intOf i).toNat)
  case atStart => exact ⟨0, by omega, by omega, rfl, Below.refl _ _⟩
  case round =>
    obtain ⟨k, hk, hk', rfl, hb⟩ := hrel
    by_cases hlt : k < len
    · have d3 : decide ((k : Int) < (len : Int)) = true := by simp; omega
      by_cases hlt' : k < len'
      · have d4 : decide ((k : Int) < (len' : Int)) = true := by simp; omega
        obtain ⟨b, off, rfl, hbs, hcc⟩ := HX'.out.2.at hlt
        have e1 := hcc k hlt wr hb
        obtain ⟨b', off', rfl, hbs', hcc'⟩ := HY'.out.2.at hlt'
        have e2 := hcc' k hlt' wr hb
        obtain ⟨b1, off1, rfl, hbs1, hcc1⟩ := HX1.out.2.at (k := 8 + k) (by omega)
        have e3 := hcc1 (8 + k) (by omega) wr hb
        obtain ⟨b2, off2, rfl, hbs2, hcc2⟩ := HX2.out.2.at (k := 8 + k) (by omega)
        have e4 := hcc2 (8 + k) (by omega) wr hb
        rw [sealL_at _ _ _ _ (by rw [HL.out]; omega)] at e3
        rw [sealL_at _ _ _ _ (by rw [HL'.out]; omega)] at e4
        have HXor : ∀ x y z : UInt8, (bits .xor .u8 ((x ^^^ z).toNat : Int) ((y ^^^ z).toNat : Int) != bits .xor .u8 (x.toNat : Int) (y.toNat : Int)) = false := by
          intro x y z
          rw [xor_u8, xor_u8]
          have : (x ^^^ z) ^^^ (y ^^^ z) = x ^^^ y := by
            rw [UInt8.xor_comm y z, UInt8.xor_assoc, ← UInt8.xor_assoc z z y, UInt8.xor_self, UInt8.zero_xor]
          rw [this]; simp
        clear hcc hcc' hcc1 hcc2
        generalize xs.getD k 0 = x at *
        generalize ys.getD k 0 = y at *
        generalize ks (kstate key nonce) k = z at *
        have h5 := HXor x y z
        generalize hp : ((x ^^^ z).toNat : Int) = p at *
        generalize hq : ((y ^^^ z).toNat : Int) = q at *
        clear HXor hp hq
        go_wp2_with fail
        go_quiet (fail)
        go_wp2_with fail
        go_roundw
        case rel => exact ⟨k + 1, by omega, by omega, by go_num, below_drewN hb _⟩
        case measure => simp [intOf]; omega
      · have d4 : decide ((k : Int) < (len' : Int)) = false := by simp; omega
        go_wp2_with fail
        go_ret
        exact ⟨rfl, hb12.trans (hb.mono hb12.size)⟩
    · have d3 : decide ((k : Int) < (len : Int)) = false := by simp; omega
      go_wp2_with fail
      go_ret
      exact ⟨rfl, hb12.trans (hb.mono hb12.size)⟩

theorem cipherStream_walk {H : Type} {enc : TypeId × Value → H} (W : World) (base : Nat) (args : Array Value) (ds gs : List (DataW H)) (before : List MemPlace)
    (hval : ∀ (j : Nat) t v, Try.f7.params[j]? = some t → args[j]? = some v → Value.okWide Try.prog W .any base t v)
    (hW : DataW.Whole enc Try.prog Try.f7.params.toList Rows.cipherStreamSpec.vars false W args.toList ds gs before)
    (_hsz : (DataW.weightsEach Try.prog (Try.f7.params.toList ++ Rows.cipherStreamSpec.plain.varTypes Try.prog) (ds ++ gs)).all (· ≤ reachBytes) = true) :
    Calls Try.prog 7 args W fun e w' => e = .returned (.bool true) ∧ Below W.heap.size W w' := by
  obtain ⟨p, q, hA, hV, -, -, -⟩ := hW
  obtain ⟨rfl, -⟩ := trodVars_none hV
  rw [Try.params7] at hA hval
  obtain ⟨v0, v1, v2, v3, d0, d1, d2, d3, p0, p1, p2, p3, rfl, rfl, rfl, h0, h1, h2, h3⟩ := trodAll_four hA
  obtain ⟨n, rfl, -, wn⟩ := open_num Try.underlying28 (hval 0 _ _ rfl rfl) h0
  obtain ⟨key, rfl⟩ := u64_of n wn
  obtain ⟨m, rfl, -, wm⟩ := open_num Try.underlying28 (hval 1 _ _ rfl rfl) h1
  obtain ⟨nonce, rfl⟩ := u64_of m wm
  obtain ⟨a, len, cap, xs, rfl, hr, -⟩ := open_row Try.underlying31 Try.underlying5 (by kernel_rfl) (hval 2 _ _ rfl rfl) h2
  obtain ⟨ys, -, hy⟩ := bytes_of rfl hr
  obtain ⟨a', len', cap', xs', rfl, hr', -⟩ := open_row Try.underlying31 Try.underlying5 (by kernel_rfl) (hval 3 _ _ rfl rfl) h3
  obtain ⟨ys', -, hy'⟩ := bytes_of rfl hr'
  exact stream_calls key nonce ys ys' a a' len cap len' cap' W hy hy'

set_option maxRecDepth 100000 in
theorem cipherStream_lifted (os : Os) (started : os.Started) (H : Type) (enc : TypeId × Value → H) :
    ReturnsInHanded {} Try.checked os 7 .any (Rows.cipherStreamSpec.pre6 enc Try.prog Try.f7 Rows.cipherStreamRow.domain false) (Rows.cipherStreamSpec.post enc Try.prog Try.f7 false true false false) := by
  refine returnsInHanded_of_change_sized (C := Try.checked) own started (by kernel_rfl) Try.func7
    (ChangeSpec.witness6 (enc := enc) (C := Try.checked) false ⟨#[], #[.int .u64 0, .int .u64 0, .slice none 0 0, .slice none 0 0], []⟩ 8 (by kernel_rfl) (by kernel_rfl) (by kernel_rfl) (by kernel_rfl)) ?_
  intro W base args ds gs before hval hW _ hsz _
  exact law_post rfl (by kernel_rfl) (by kernel_rfl) (fun ds h => match ds, h with | [d0, d1, d2, d3], _ => ⟨rfl, rfl, rfl⟩) hW (cipherStream_walk W base args ds gs before hval hW hsz)

theorem cipherStream_over : Rows.cipherStreamRow.holds Try.pinned (OpenSpec.ofChange Rows.cipherStreamSpec) :=
  OpenClaim.holds_of_wide 7 Try.f7 rfl rfl rfl rfl rfl rfl rfl ⟨rfl, rfl, rfl, rfl, rfl⟩ rfl rfl rfl rfl rfl (by kernel_rfl) Try.func7 (by kernel_rfl)
    (of_decide_eq_true (by kernel_rfl)) (by unfold Func.isWrapper; first | (rw [if_pos (by decide +kernel)]; kernel_rfl) | (rw [if_neg (by decide +kernel)]; exact ⟨rfl, rfl⟩))
    (fun os started H enc _ => cipherStream_lifted os started H enc)

theorem cipherStream_proved : Rows.CipherStreamSaid := cipherStream_over

end Go.Proofs.Ytfedalipoknilaa
