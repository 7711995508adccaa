/- Slices of fractions that are only read, and opening them among a law's arguments. -/
import Derived.Test.YtmahokhgdkdhkaaSclO
import Derived.Test.YtmahokhgdkdhkaaInts
namespace Go.Proofs.Ytmahokhgdkdhkaa
set_option maxRecDepth 100000
open Go.ChangeShapes Go.WideShapes Go.ChangeAt Go.RowKit

/-- the fraction in three cells from off on -/
def RatAt (w : World) (b off : Nat) (r : Rat) (L : Nat) : Prop := ∃ n a' l' c' a l c, w.cell? ⟨b, off, none⟩ = some (.bool n) ∧ w.cell? ⟨b, off + 1, none⟩ = some (.slice a' l' c') ∧ w.cell? ⟨b, off + 2, none⟩ = some (.slice a l c) ∧ RatV w (.agg #[.bool n, .slice a' l' c', .slice a l c]) r L
/-- a slice of fractions -/
def Rats (w : World) (a : Option Addr) (len cap : Nat) (rs : List Rat) (L : Nat) : Prop :=
  rs.length = len ∧ len ≤ cap ∧ cap ≤ maxLen ∧ (len = 0 ∨ ∃ b off, a = some ⟨b, off, none⟩ ∧ b < w.heap.size ∧ ∀ i, i < len → RatAt w b (off + i * 3) (rs.getD i 0) L)
theorem RatAt.below {w w' : World} {b off : Nat} {r : Rat} {L : Nat} (h : RatAt w b off r L) (hlt : b < w.heap.size) (hb : Below w.heap.size w w') : RatAt w' b off r L := by
  obtain ⟨n, a', l', c', a, l, c, h0, h1, h2, h3⟩ := h
  exact ⟨n, a', l', c', a, l, c, by rw [hb.cell (p := ⟨b, off, none⟩) hlt]; exact h0, by rw [hb.cell (p := ⟨b, off + 1, none⟩) hlt]; exact h1, by rw [hb.cell (p := ⟨b, off + 2, none⟩) hlt]; exact h2, h3.below hb⟩
theorem Rats.below {w w' : World} {a : Option Addr} {len cap : Nat} {rs : List Rat} {L : Nat} (h : Rats w a len cap rs L) (hb : Below w.heap.size w w') : Rats w' a len cap rs L := by
  obtain ⟨h1, h2, h3, h4⟩ := h
  refine ⟨h1, h2, h3, ?_⟩
  rcases h4 with h4 | ⟨b, off, rfl, hlt, hc⟩
  · exact .inl h4
  · exact .inr ⟨b, off, rfl, Nat.lt_of_lt_of_le hlt hb.size, fun i hi => (hc i hi).below hlt hb⟩
theorem Rats.at {w : World} {a : Option Addr} {len cap : Nat} {rs : List Rat} {L : Nat} (h : Rats w a len cap rs L) {k : Nat} (hk : k < len) :
    ∃ b off, a = some ⟨b, off, none⟩ ∧ b < w.heap.size ∧ ∀ i, i < len → RatAt w b (off + i * 3) (rs.getD i 0) L := by
  rcases h.2.2.2 with h | ⟨b, off, rfl, hlt, hc⟩
  · omega
  · exact ⟨b, off, rfl, hlt, hc⟩

section
variable {H : Type} {enc : TypeId × Value → H} {W : World}
theorem rats_trod {fuel : Nat} {cs : List Value} {x : DataW H × List MemPlace} (h : DataW.trod enc Try.prog W 0 (fun _ => true) true fuel 46 cs = some x) :
    ∃ a len cap rs L, cs = [.slice a len cap] ∧ Rats W a len cap rs L := by
  have c3 : Try.prog.cellsOf 27 = 3 := by kernel_rfl
  rcases DataW.trod_slice Try.underlying46 h with ⟨rfl, -⟩ | ⟨ad, len, cap, elems, rest, n, -, rfl, -, hb, hl, hm, hlen, hel, -, -⟩
  · exact ⟨none, 0, 0, [], 0, rfl, rfl, Nat.le_refl _, by simp [maxLen], .inl rfl⟩
  · obtain ⟨b, off, spot⟩ := ad
    by_cases h0 : len = 0
    · subst h0
      exact ⟨some ⟨b, off, spot⟩, 0, cap, [], 0, rfl, rfl, hl, hm, .inl rfl⟩
    have key0 : ∀ i, i < len → ∃ cs', W.cells? 0 ((⟨b, off, spot⟩ : Addr).add (i * 3)) 3 = some cs' ∧ ∃ v0 v1 v2 p q L, cs' = [v0, v1, v2] ∧ RatR W (.agg #[v0, v1, v2]) p q L := by
      intro i hi
      have hE := hel i hi
      rw [c3, List.getElem?_eq_getElem (by omega), Option.bind_eq_some_iff] at hE
      obtain ⟨cs', hc, hE⟩ := hE
      obtain ⟨v0, v1, v2, p, q, L, e, hR, -, -⟩ := ratio_trod hE
      exact ⟨cs', hc, v0, v1, v2, p, q, L, e, hR⟩
    have hspot : spot = none := by
      obtain ⟨cs', hc, v0, v1, v2, p, q, L, rfl, -⟩ := key0 0 (by omega)
      obtain ⟨-, -, hcell⟩ := World.cells?_some hc
      have q0 := hcell 0 (by omega)
      have := World.cell?_spot (v := v0) (by simpa using q0)
      simpa [Addr.add] using this
    subst hspot
    have key : ∀ i, i < len → ∃ r L, b < W.heap.size ∧ RatAt W b (off + i * 3) r L := by
      intro i hi
      obtain ⟨cs', hc, v0, v1, v2, p, q, L, rfl, hR⟩ := key0 i hi
      obtain ⟨-, -, hcell⟩ := World.cells?_some hc
      have q0 := hcell 0 (by omega)
      have q1 := hcell 1 (by omega)
      have q2 := hcell 2 (by omega)
      rw [addr_add, addr_add] at q0 q1 q2
      simp at q0 q1 q2
      have hV : RatV W (.agg #[v0, v1, v2]) (mkRat p q) L := ⟨p, q, hR, rfl⟩
      obtain ⟨n, a', l', c', a, l, c, e, -, -⟩ := hV.form
      cases e
      refine ⟨mkRat p q, L, ?_, n, a', l', c', a, l, c, q0, q1, q2, hV⟩
      simp only [World.cell?] at q0
      rcases Nat.lt_or_ge b W.heap.size with hlt' | hge
      · exact hlt'
      · rw [Array.getElem?_eq_none hge] at q0; cases q0
    have hex : ∃ (rs : List Rat) (M : Nat), rs.length = len ∧ ∀ i, i < len → b < W.heap.size ∧ RatAt W b (off + i * 3) (rs.getD i 0) M := by
      clear hel hlen hl hm h h0 key0
      induction len with
      | zero => exact ⟨[], 0, rfl, fun i hi => by omega⟩
      | succ l ih =>
        obtain ⟨rs, M, h1, h2⟩ := ih fun i hi => key i (by omega)
        obtain ⟨r, L, k2, k3⟩ := key l (by omega)
        have up : ∀ {o : Nat} {r : Rat} {N N' : Nat}, N ≤ N' → RatAt W b o r N → RatAt W b o r N' := fun hN ⟨n, a', l', c', a, l, c, h0, h1, h2, h3⟩ => ⟨n, a', l', c', a, l, c, h0, h1, h2, h3.mono hN⟩
        refine ⟨rs ++ [r], max M L, by simp [h1], fun i hi => ?_⟩
        by_cases hil : i < l
        · have : (rs ++ [r]).getD i 0 = rs.getD i 0 := by simp [List.getD, List.getElem?_append_left (by omega : i < rs.length)]
          rw [this]; exact ⟨k2, up (Nat.le_max_left _ _) (h2 i hil).2⟩
        · obtain rfl : i = l := by omega
          have : (rs ++ [r]).getD i 0 = r := by simp [List.getD, ← h1]
          rw [this]; exact ⟨k2, up (Nat.le_max_right _ _) k3⟩
    obtain ⟨rs, M, h1, h2⟩ := hex
    exact ⟨some ⟨b, off, none⟩, len, cap, rs, M, rfl, h1, hl, hm, .inr ⟨b, off, rfl, (h2 0 (by omega)).1, fun i hi => (h2 i hi).2⟩⟩
theorem open_rats {base : Nat} {v : Value} {d : DataW H} {ps : List MemPlace} (hv : Value.okWide Try.prog W .any base 46 v) (h : DataW.Trod enc Try.prog W 0 (fun _ => true) true 46 v d ps) :
    ∃ a len cap rs L, v = .slice a len cap ∧ Rats W a len cap rs L := by
  obtain ⟨a, len, cap, rfl⟩ := okWide_slice Try.underlying46 hv
  obtain ⟨m, hm⟩ := h
  obtain ⟨a', len', cap', rs, L, e, hR⟩ := rats_trod hm
  simp [Value.cells] at e
  obtain ⟨rfl, rfl, rfl⟩ := e
  exact ⟨a, len, cap, rs, L, rfl, hR⟩
end

/-- the scores of several abilities -/
def scoresL (A B : Rat) (lo hi m : Int) (rs : List Rat) : List Int := rs.map (scoreI A B lo hi m)
theorem scoresL_length (A B : Rat) (lo hi m : Int) (rs : List Rat) : (scoresL A B lo hi m rs).length = rs.length := by simp [scoresL]
theorem scores_set (A B : Rat) (lo hi m : Int) (rs : List Rat) (k : Nat) (h : k < rs.length) :
    (scoresL A B lo hi m (rs.take k) ++ List.replicate (rs.length - k) 0).set k (scoreI A B lo hi m (rs.getD k 0)) = scoresL A B lo hi m (rs.take (k + 1)) ++ List.replicate (rs.length - (k + 1)) 0 := by
  obtain ⟨j, hj⟩ : ∃ j, rs.length = k + 1 + j := ⟨rs.length - k - 1, by omega⟩
  have h1 := iset_fill (scoresL A B lo hi m (rs.take k)) j (scoreI A B lo hi m (rs.getD k 0))
  rw [scoresL_length, List.length_take, Nat.min_eq_left (by omega)] at h1
  rw [show rs.length - k = j + 1 by omega, h1, show rs.length - (k + 1) = j by omega]
  rw [take_snoc rs k 0 h]
  simp [scoresL]

set_option maxHeartbeats 2000000 in
theorem table_any (v : Value) (A B : Rat) (lo hi m : Int) (rs : List Rat) (a : Option Addr) (len cap L : Nat) (w : World) (hv : LinV w v A B lo hi m L) (hr : Rats w a len cap rs L) (hL : 1 ≤ L) (hm : (3 * L + 5) * 4 ≤ 140737488355328) (ho : validE A lo hi m = 0) (hlen : len ≤ 61) :
    Calls Try.prog 19 #[v, .slice a len cap] w fun e w' => ∃ a2 c2, e = .returned (.tuple #[.slice a2 len c2, .int .i64 0]) ∧ Ints w' a2 len c2 (scoresL A B lo hi m rs) ∧ Below w.heap.size w w' := by
  have HV := Lib.hid hv
  have HO := Lib.hid ho
  have HRl := Lib.hid hr.1
  obtain ⟨-, k1, k2, k3, k4, k5⟩ := valid_ok ho
  obtain ⟨na, aa', la', ca', aa, la, ca, nb, ab', lb', cb', ab, lb, cb, rfl, -, -⟩ := hv
  have hb0 : Below w.heap.size w (w.alloc (.cells #[.bool na, .slice aa' la' ca', .slice aa la ca, .bool nb, .slice ab' lb' cb', .slice ab lb cb, .int .i64 lo, .int .i64 hi, .int .i64 m] 29)) := (Below.refl _ _).alloc (Nat.le_refl _) _
  have HRs := Lib.hid hr
  have d61 : decide (61 < (len : Int)) = false := by simp; omega
  clear ho hr
  go_enter Try.func19, Try.ntmps19
  go_wp2_with fail
  refine (svalid_any _ A B lo hi m L _ (HV.out.below hb0) hL).mono ?_
  rintro e w1 ⟨rfl, hb1⟩
  rw [HO.out]
  have hb01 := hb0.trans (hb1.mono (by simp))
  have cK := fun o => (bcell hb1 w.heap.size (by simp)).1 o
  have q0 : w1.cell? ⟨w.heap.size, 0, none⟩ = some (.bool na) := by rw [cK]; go_simp
  have q1 : w1.cell? ⟨w.heap.size, 1, none⟩ = some (.slice aa' la' ca') := by rw [cK]; go_simp
  have q2 : w1.cell? ⟨w.heap.size, 2, none⟩ = some (.slice aa la ca) := by rw [cK]; go_simp
  have q3 : w1.cell? ⟨w.heap.size, 3, none⟩ = some (.bool nb) := by rw [cK]; go_simp
  have q4 : w1.cell? ⟨w.heap.size, 4, none⟩ = some (.slice ab' lb' cb') := by rw [cK]; go_simp
  have q5 : w1.cell? ⟨w.heap.size, 5, none⟩ = some (.slice ab lb cb) := by rw [cK]; go_simp
  have q6 : w1.cell? ⟨w.heap.size, 6, none⟩ = some (.int .i64 lo) := by rw [cK]; go_simp
  have q7 : w1.cell? ⟨w.heap.size, 7, none⟩ = some (.int .i64 hi) := by rw [cK]; go_simp
  have q8 : w1.cell? ⟨w.heap.size, 8, none⟩ = some (.int .i64 m) := by rw [cK]; go_simp
  have HQ := Lib.hid (And.intro q0 (And.intro q1 (And.intro q2 (And.intro q3 (And.intro q4 (And.intro q5 (And.intro q6 (And.intro q7 q8))))))))
  have hlt1 : w.heap.size < w1.heap.size := by have := hb1.size; simp at this; omega
  clear hb1 cK q0 q1 q2 q3 q4 q5 q6 q7 q8
  go_wp2_with (refine wpList_mkn rfl _ _ 48 rfl 3 (.int .i64 0) 8 Try.underlying48 infoInt rfl .i64 .i64 _ _ len rfl rfl rfl rfl (by omega) (by unfold maxLen; omega) fun w2 ho2 hb2 => ?_)
  rw [ivs_replicate] at ho2
  have HO2 := Lib.hid ho2
  clear ho2
  go_wp2_with fail
  go_loopw [25] (fun i wr => ∃ k : Nat, k ≤ len ∧ i = .int .i64 k ∧ Hid (Owns wr w1.heap.size 3 (.slice (some ⟨w1.heap.size, 0, none⟩) len len) (ivs (scoresL A B lo hi m (rs.take k) ++ List.replicate (rs.length - k) 0))) ∧ Below w1.heap.size w1 wr) (fun i _ => len - (intOf i).toNat)
  case atStart => exact ⟨0, by omega, rfl, Lib.hid (by rw [HRl.out]; simpa [scoresL] using HO2.out), hb2⟩
  case round =>
    clear HO2 hb2
    obtain ⟨k, hk, rfl, HOk, hb⟩ := hrel
    have hb0r := hb01.trans (hb.mono hb01.size)
    by_cases hlt : k < len
    · obtain ⟨bb, off, rfl, hbs, hcc⟩ := HRs.out.at hlt
      obtain ⟨n, x', l', c', x, l, c, e0, e1, e2, hX⟩ := (hcc k hlt).below hbs hb0r
      have HX := Lib.hid hX
      have HSet := Lib.hid (scores_set A B lo hi m rs k (by rw [HRl.out]; exact hlt))
      have hgw : w1.heap.size < wr.heap.size := Owns.in HOk.out _ rfl
      have hbx : Below wr.heap.size wr (wr.alloc (.cells #[.bool n, .slice x' l' c', .slice x l c] 27)) := (Below.refl _ _).alloc (Nat.le_refl _) _
      have hbw : Below w1.heap.size w1 (wr.alloc (.cells #[.bool n, .slice x' l' c', .slice x l c] 27)) := hb.trans (hbx.mono hb.size)
      obtain ⟨q0, q1, q2, q3, q4, q5, q6, q7, q8⟩ := HQ.out
      have cW := fun o => (bcell hb w.heap.size hlt1).1 o
      have hltr : w.heap.size < wr.heap.size := by omega
      have k0 : wr.cell? ⟨w.heap.size, 0, none⟩ = some (.bool na) := by rw [cW]; exact q0
      have k1' : wr.cell? ⟨w.heap.size, 1, none⟩ = some (.slice aa' la' ca') := by rw [cW]; exact q1
      have k2' : wr.cell? ⟨w.heap.size, 2, none⟩ = some (.slice aa la ca) := by rw [cW]; exact q2
      have k3' : wr.cell? ⟨w.heap.size, 3, none⟩ = some (.bool nb) := by rw [cW]; exact q3
      have k4' : wr.cell? ⟨w.heap.size, 4, none⟩ = some (.slice ab' lb' cb') := by rw [cW]; exact q4
      have k5' : wr.cell? ⟨w.heap.size, 5, none⟩ = some (.slice ab lb cb) := by rw [cW]; exact q5
      have k6 : wr.cell? ⟨w.heap.size, 6, none⟩ = some (.int .i64 lo) := by rw [cW]; exact q6
      have k7 : wr.cell? ⟨w.heap.size, 7, none⟩ = some (.int .i64 hi) := by rw [cW]; exact q7
      have k8 : wr.cell? ⟨w.heap.size, 8, none⟩ = some (.int .i64 m) := by rw [cW]; exact q8
      have HVw := Lib.hid (HV.out.below (hb0r.trans (hbx.mono hb0r.size)))
      have HXw := Lib.hid (HX.out.below hbx)
      generalize rs.getD k 0 = xk at *
      clear hcc hX q0 q1 q2 q3 q4 q5 q6 q7 q8 cW
      go_wp2_with fail
      refine (score_any _ _ A B xk lo hi m L _ HVw.out HXw.out hL hm k4 k5 k1 k2).mono ?_
      rintro e w3 ⟨rfl, hb3⟩
      have hbr3 := hbx.trans (hb3.mono hbx.size)
      have HO3 := Lib.hid (HOk.out.later hbr3)
      have c3 := HO3.out.cell k hlt
      have f3 := HO3.out.free k
      have hb13 := hb.trans (hbr3.mono hb.size)
      have HSt := Lib.hid (HO3.out.store k (iv (scoreI A B lo hi m xk)))
      rw [ivs_set, HSet.out] at HSt
      unfold iv at HSt
      generalize (ivs (scoresL A B lo hi m (rs.take k) ++ List.replicate (rs.length - k) 0)).getD k .nilFunc = old at *
      generalize scoreI A B lo hi m xk = sc at *
      clear hb3
      go_wp2_with fail
      go_roundw
      case rel => exact ⟨k + 1, by omega, by go_num, HSt, hb13.setCell (Nat.le_refl _) _⟩
      case measure => simp [intOf]; omega
    · obtain rfl : k = len := by omega
      have HI := Lib.hid (show Ints wr (some ⟨w1.heap.size, 0, none⟩) k k (scoresL A B lo hi m rs) by
        have := HOk.out.ints'
        rw [List.take_of_length_le (by rw [HRl.out]; omega), show rs.length - k = 0 by rw [HRl.out]; omega] at this
        simpa using this)
      clear HOk
      go_wp2_with fail
      go_ret2
      exact ⟨_, _, rfl, HI.out, hb0r⟩

end Go.Proofs.Ytmahokhgdkdhkaa
