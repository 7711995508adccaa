/- The law CodecCanonical: what is decoded is a valid node, and the bytes that were read are its encoding. No condition. -/
import Derived.Test.YtcgeipofpdckmaaCoL
import Derived.Test.YtcgeipofpdckmaaFrame
namespace Go.Proofs.Ytcgeipofpdckmaa
set_option maxRecDepth 100000
open Go.ChangeShapes Go.WideShapes Go.ChangeAt Go.RowKit

theorem vDec_err {e : Int} : ∀ {l : List UInt8} {i acc : Nat} {x : Int}, vDec e i acc l = .error x → x = e ∨ x = 2
  | [], _, _, _, h => by simp [vDec] at h; exact .inl h.symm
  | c :: l, i, acc, x, h => by
    simp only [vDec] at h
    split at h
    · cases h; exact .inr rfl
    · split at h
      · cases h
      · exact vDec_err h
theorem rep_err {g : List UInt8 → Except Int (NodeT × List UInt8)} {P : Int → Prop} (hg : ∀ l x, g l = .error x → P x) : ∀ {k : Nat} {l : List UInt8} {x : Int}, repD g k l = .error x → P x
  | 0, _, _, h => by simp [repD] at h
  | k + 1, l, x, h => by
    simp only [repD] at h
    split at h
    · rename_i y hy; cases h; exact hg _ _ hy
    · split at h
      · rename_i y hy; cases h; exact rep_err hg hy
      · cases h
theorem nodeD_err {e : Int} : ∀ {f : Nat} {l : List UInt8} {x : Int}, nodeD e f l = .error x → x = e ∨ x = 2 ∨ x = 3 ∨ x = 5
  | 0, _, _, h => by simp [nodeD] at h; omega
  | f + 1, l, x, h => by
    simp only [nodeD] at h
    split at h
    · rename_i y hy; cases h; rcases vDec_err hy with h1 | h1 <;> omega
    split at h
    · cases h; omega
    split at h
    · cases h; omega
    split at h
    · cases h; omega
    split at h
    · rename_i y hy; cases h; rcases vDec_err hy with h1 | h1 <;> omega
    unfold bodyD at h
    split at h
    · cases h
    split at h
    · split at h
      · cases h; omega
      split at h
      · cases h; omega
      · cases h
    split at h
    · cases h; omega
    split at h
    · rename_i y hy; cases h; exact rep_err (P := fun x => x = e ∨ x = 2 ∨ x = 3 ∨ x = 5) (fun l x hx => nodeD_err hx) hy
    · cases h
theorem decR_err {bs : List UInt8} {x : Int} (h : decR bs = .error x) : x ≠ 0 := by
  unfold decR at h
  have := nodeD_err h
  split at this <;> omega
theorem encT_pos (t : NodeT) : 1 ≤ (encT t).length := by
  obtain ⟨tag, kind, n, s, kids⟩ := t
  simp only [encT, List.length_append, List.length_cons]
  omega
theorem decR_ok {bs l : List UInt8} {t : NodeT} (h : decR bs = .ok (t, l)) : okT t = true ∧ i64T t ∧ bs.take 1048576 = encT t ++ l ∧ min bs.length 1048576 - l.length = (encT t).length ∧ bs.take (encT t).length = encT t ∧ (encT t).length ≤ bs.length := by
  unfold decR at h
  obtain ⟨h1, h2, h3⟩ := node_made _ 8 _ _ _ (by omega) h
  have hl := congrArg List.length h3
  rw [List.length_take, List.length_append] at hl
  have hlen : (encT t).length ≤ 1048576 := by omega
  refine ⟨?_, h2, h3, by omega, ?_, by omega⟩
  · unfold okT mesB; rw [h1]; simpa using hlen
  · have h4 := congrArg (List.take (encT t).length) h3
    rw [List.take_take, Nat.min_eq_left hlen, List.take_left'] at h4
    · exact h4
    · rfl

set_option maxHeartbeats 8000000 in
theorem canonical_calls (bs : List UInt8) (a : Option Addr) (len cap : Nat) (w : World) (hb : Bytes w a len cap bs) :
    Calls Try.prog 5 #[.slice a len cap] w fun e w' => e = .returned (.bool true) ∧ Below w.heap.size w w' := by
  have HB := Lib.hid hb
  have hbl : bs.length = len := hb.1
  have hlc := hb.2.1
  clear hb
  cases hq : decR bs with
  | error x =>
    have hx := decR_err hq
    have HD := Lib.hid hq
    clear hq
    have hx0 : (x == 0) = false := by simpa using hx
    clear hx
    go_enter Try.func5, Try.ntmps5
    go_wp2_with fail
    refine (decode_err HD.out a len cap w HB.out).mono ?_
    rintro e w1 ⟨rfl, hb1⟩
    have hb2 := hb1.trans ((((Below.refl _ _).alloc (Nat.le_refl _) (.cells #[.int .i64 0, .int .i64 0, .int .i64 0, .string ⟨#[]⟩, .slice none 0 0] 24)) : Below w1.heap.size w1 _).mono hb1.size)
    go_wp2_with fail
    generalize w1.alloc (.cells #[.int .i64 0, .int .i64 0, .int .i64 0, .string ⟨#[]⟩, .slice none 0 0] 24) = w2 at *
    refine (awake_any w2).mono ?_
    rintro e w3 ⟨rfl, hb3⟩
    have hb4 := hb2.trans (hb3.mono hb2.size)
    clear hb1 hb2 hb3
    go_wp2_with fail
    go_ret
    exact ⟨rfl, hb4⟩
  | ok r =>
    obtain ⟨t, l⟩ := r
    obtain ⟨hok, hi, htk, hat, htake, hlt⟩ := decR_ok hq
    have HD := Lib.hid hq
    have HI := Lib.hid hi
    have HOk := Lib.hid hok
    have hpos := encT_pos t
    have HT := Lib.hid htake
    rw [hbl] at hat hlt
    clear hq hi hok htk htake
    go_enter Try.func5, Try.ntmps5
    go_wp2_with fail
    refine (decode_ok HD.out a len cap w HB.out).mono ?_
    rintro e w1 ⟨nv, rfl, hN, hb1⟩
    rw [hat]
    obtain ⟨xt, xk, xn, xs, xa, xl, xc, rfl⟩ := hN.vals
    have hba : Below w1.heap.size w1 (w1.alloc (.cells #[.int .i64 xt, .int .i64 xk, .int .i64 xn, .string ⟨xs.toArray⟩, .slice xa xl xc] 24)) := (Below.refl _ _).alloc (Nat.le_refl _) _
    have hnb := heap_alloc_new w1 (.cells #[.int .i64 xt, .int .i64 xk, .int .i64 xn, .string ⟨xs.toArray⟩, .slice xa xl xc] 24)
    have d0 : decide (((encT t).length : Int) < 1) = false := by simp; omega
    have d1 : decide ((len : Int) < ((encT t).length : Int)) = false := by simp; omega
    clear hat
    generalize hL : (encT t).length = L at *
    go_wp2_with fail
    have HN := Lib.hid (hN.in.below hba)
    generalize w1.alloc (.cells #[.int .i64 xt, .int .i64 xk, .int .i64 xn, .string ⟨xs.toArray⟩, .slice xa xl xc] 24) = w2 at *
    have H2 := Lib.hid (hb1.trans (hba.mono hb1.size))
    have hlN := blk_lt hnb
    have HNb := Lib.hid hnb
    clear hnb hba hb1 hN
    generalize w1.heap.size = bN at *
    refine (valid_any t _ w2 HN.out HI.out).mono ?_
    rintro e w3 ⟨rfl, hb3⟩
    rw [HOk.out]
    have hn3 := (hb3.block bN hlN).trans HNb.out
    have m0 := blk_cell hn3 0
    have m1 := blk_cell hn3 1
    have m2 := blk_cell hn3 2
    have m3 := blk_cell hn3 3
    have m4 := blk_cell hn3 4
    simp at m0 m1 m2 m3 m4
    have H3 := Lib.hid (H2.out.trans (hb3.mono H2.out.size))
    have HN3 := Lib.hid (HN.out.below hb3)
    clear hb3 hn3
    go_wp2_with fail
    refine (encode_ok t _ w3 HN3.out HI.out HOk.out).mono ?_
    rintro e w4 ⟨a4, n4, c4, rfl, hO4, hb4⟩
    have H4 := Lib.hid (H3.out.trans (hb4.mono H3.out.size))
    obtain ⟨b4, x4, d4, hv4, hby4⟩ := hO4.bytes
    cases hv4
    have hpre := (HB.out.below H4.out).pre L (by omega)
    rw [HT.out] at hpre
    have HY := Lib.hid hby4
    have HP := Lib.hid hpre
    clear m0 m1 m2 m3 m4 hO4 hby4 hpre hb4
    have q0 : ∀ W : Ext w4.heap.size w4, (convert 25 9 (.slice a4 n4 c4)).run Try.prog W.val = .ok (.string ⟨(encT t).toArray⟩) W.val := fun W => str_of (HY.out.below W.prop)
    have q1 : ∀ W : Ext w4.heap.size w4, (convert 25 9 (.slice a L cap)).run Try.prog W.val = .ok (.string ⟨(encT t).toArray⟩) W.val := fun W => str_of (HP.out.below W.prop)
    have q2 : ∀ W : Ext w4.heap.size w4, Calls Try.prog 12 #[] W.val fun e w'' => e = .returned (.bool true) ∧ ∃ W' : Ext w4.heap.size w4, w'' = W'.val := fun W => Calls.ext W (awake_any W.val)
    go_wp2_with fail
    refine wp_region_ext w4.heap.size w4 (by kernel_rfl) (by kernel_rfl) (Below.refl _ _) ?_
    repeat (first | go_big_quiet_step (first
      | with_reducible exact q2 _))
    refine wpQuiet_nil ?_
    intro W
    have hb5 : Below w.heap.size w W.val := H4.out.trans (W.prop.mono H4.out.size)
    generalize W.val = w5 at *
    go_wp2_with fail
    go_ret
    exact ⟨rfl, hb5⟩

theorem codecCanonical_walk {H : Type} {enc : TypeId × Value → H} (W : World) (base : Nat) (args : Array Value) (ds gs : List (DataW H)) (before : List MemPlace)
    (hval : ∀ (j : Nat) t v, Try.f5.params[j]? = some t → args[j]? = some v → Value.okWide Try.prog W .any base t v)
    (hW : DataW.Whole enc Try.prog Try.f5.params.toList Rows.codecCanonicalSpec.vars false W args.toList ds gs before)
    (_hsz : (DataW.weightsEach Try.prog (Try.f5.params.toList ++ Rows.codecCanonicalSpec.plain.varTypes Try.prog) (ds ++ gs)).all (· ≤ reachBytes) = true) :
    Calls Try.prog 5 args W fun e w' => e = .returned (.bool true) ∧ Below W.heap.size W w' := by
  obtain ⟨p, q, hA, hV, -, -, -⟩ := hW
  obtain ⟨rfl, -⟩ := trodVars_none hV
  rw [Try.params5] at hA hval
  obtain ⟨v0, d0, rfl, rfl, h0⟩ := trodAll_one hA
  obtain ⟨a, len, cap, xs, rfl, hrow, -⟩ := open_row Try.underlying25 Try.underlying5 (by kernel_rfl) (hval 0 _ _ rfl rfl) h0
  obtain ⟨bs, -, hb⟩ := bytes_of rfl hrow
  exact canonical_calls bs a len cap W hb

set_option maxRecDepth 100000 in
theorem codecCanonical_lifted (os : Os) (started : os.Started) (H : Type) (enc : TypeId × Value → H) :
    ReturnsInHanded {} Try.checked os 5 .any (Rows.codecCanonicalSpec.pre6 enc Try.prog Try.f5 Rows.codecCanonicalRow.domain false) (Rows.codecCanonicalSpec.post enc Try.prog Try.f5 false true false false) := by
  refine returnsInHanded_of_change_sized (C := Try.checked) own started (by kernel_rfl) Try.func5
    (ChangeSpec.witness6 (enc := enc) (C := Try.checked) false ⟨#[], #[.slice none 0 0], []⟩ 8 (by kernel_rfl) (by kernel_rfl) (by kernel_rfl) (by kernel_rfl)) ?_
  intro W base args ds gs before hval hW _ hsz _
  exact law_post rfl (by kernel_rfl) (by kernel_rfl) (fun ds h => match ds, h with | [d0], _ => ⟨rfl, rfl, rfl⟩) hW (codecCanonical_walk W base args ds gs before hval hW hsz)

theorem codecCanonical_over : Rows.codecCanonicalRow.holds Try.pinned (OpenSpec.ofChange Rows.codecCanonicalSpec) :=
  OpenClaim.holds_of_wide 5 Try.f5 rfl rfl rfl rfl rfl rfl rfl ⟨rfl, rfl, rfl, rfl, rfl⟩ rfl rfl rfl rfl rfl (by kernel_rfl) Try.func5 (by kernel_rfl)
    (of_decide_eq_true (by kernel_rfl)) (by unfold Func.isWrapper; first | (rw [if_pos (by decide +kernel)]; kernel_rfl) | (rw [if_neg (by decide +kernel)]; exact ⟨rfl, rfl⟩))
    (fun os started H enc _ => codecCanonical_lifted os started H enc)

theorem codecCanonical_proved : Rows.CodecCanonicalSaid := codecCanonical_over

end Go.Proofs.Ytcgeipofpdckmaa
