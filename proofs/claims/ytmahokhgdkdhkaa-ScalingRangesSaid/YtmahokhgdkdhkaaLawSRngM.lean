/- The law ScalingRanges: the scores of the ends of an interval, or the error, are those of the reference. No condition. -/
import Derived.Test.YtmahokhgdkdhkaaBase
import Derived.Test.YtmahokhgdkdhkaaProg
import Derived.Test.YtmahokhgdkdhkaaSclO
import Derived.Test.YtmahokhgdkdhkaaRScl
namespace Go.Proofs.Ytmahokhgdkdhkaa
set_option maxRecDepth 100000
open Go.RowKit

theorem infoInt : (Try.prog.info? 3).map (fun i => (i.zero, i.size, i.bytes)) = some (some (.int .i64 0), 1, 8) := by kernel_rfl
def iv (x : Int) : Value := .int .i64 x
def ivs (xs : List Int) : List Value := xs.map iv
theorem ivs_length (xs : List Int) : (ivs xs).length = xs.length := by simp [ivs]
theorem ivs_append (xs ys : List Int) : ivs (xs ++ ys) = ivs xs ++ ivs ys := by simp [ivs]
theorem ivs_one (xs : List Int) : ∀ u ∈ ivs xs, u.oneCell' = true := by intro u hu; simp [ivs] at hu; obtain ⟨x, _, rfl⟩ := hu; rfl
theorem ivs_set (xs : List Int) (j : Nat) (y : Int) : (ivs xs).set j (iv y) = ivs (xs.set j y) := by simp [ivs, List.map_set]
theorem ivs_at (xs : List Int) (j : Nat) (h : j < xs.length) : (ivs xs).getD j .nilFunc = iv (xs.getD j 0) := by simp [ivs, List.getD, h]
/-- a slice of ints that is only read -/
def Ints (w : World) (a : Option Addr) (len cap : Nat) (xs : List Int) : Prop := xs.length = len ∧ Cells w a len cap (fun i => .int .i64 (xs.getD i 0))
theorem Ints.below {w w' : World} {a : Option Addr} {len cap : Nat} {xs : List Int} (h : Ints w a len cap xs) (hb : Below w.heap.size w w') : Ints w' a len cap xs := ⟨h.1, h.2.below hb⟩
theorem Row.ints {w : World} {a : Option Addr} {len cap : Nat} {xs : List Int} (h : Row .i64 w a len cap xs) : Ints w a len cap xs := ⟨h.1, h.2.2⟩
theorem ints_nil (w : World) : Ints w none 0 0 [] := ⟨rfl, by omega, by simp [maxLen], by simp, .inl rfl⟩
theorem Owns.ints {w : World} {B : Nat} {e : TypeId} {v : Value} {xs : List Int} (h : Owns w B e v (ivs xs)) : ∃ a n cap, v = .slice a n cap ∧ Ints w a n cap xs := by
  obtain ⟨a, cap, rfl, hc⟩ := h.form
  rw [ivs_length] at hc ⊢
  refine ⟨a, xs.length, cap, rfl, rfl, hc.congr fun i hi => ?_⟩
  rw [ivs_at xs i hi]; rfl
theorem Owns.ints' {w : World} {B : Nat} {e : TypeId} {a : Option Addr} {n cap : Nat} {xs : List Int} (h : Owns w B e (.slice a n cap) (ivs xs)) : Ints w a n cap xs := by
  obtain ⟨a', n', cap', hv, hi⟩ := h.ints
  cases hv; exact hi
theorem ints_lit (w : World) (e : TypeId) (xs : List Int) (hl : xs.length ≤ maxLen) : Ints (w.alloc (.cells (ivs xs).toArray e)) (some ⟨w.heap.size, 0, none⟩) xs.length xs.length xs := by
  have h := cells_lit w e (ivs xs) (by rw [ivs_length]; exact hl)
  rw [ivs_length] at h
  exact ⟨rfl, h.congr fun i hi => by rw [ivs_at xs i hi]; rfl⟩
theorem iset_fill (l : List Int) (m : Nat) (y : Int) : (l ++ List.replicate (m + 1) 0).set l.length y = (l ++ [y]) ++ List.replicate m 0 := by
  rw [List.set_append_right _ _ (Nat.le_refl _)]; simp [List.replicate_succ]
theorem ivs_replicate (n : Nat) : List.replicate n (Value.int .i64 0) = ivs (List.replicate n 0) := by simp [ivs, iv]

end Go.Proofs.Ytmahokhgdkdhkaa

namespace Go.Proofs.Ytmahokhgdkdhkaa
set_option maxRecDepth 100000
open Go.ChangeShapes Go.WideShapes Go.ChangeAt Go.RowKit

/-- the fraction in three cells from off on -/
def RatAt (w : World) (b off : Nat) (r : Rat) (L : Nat) : Prop := ∃ n a' l' c' a l c, w.cell? ⟨b, off, none⟩ = some (.bool n) ∧ w.cell? ⟨b, off + 1, none⟩ = some (.slice a' l' c') ∧ w.cell? ⟨b, off + 2, none⟩ = some (.slice a l c) ∧ RatV w (.agg #[.bool n, .slice a' l' c', .slice a l c]) r L
/-- a slice of fractions -/
def Rats (w : World) (a : Option Addr) (len cap : Nat) (rs : List Rat) (L : Nat) : Prop :=
  rs.length = len ∧ len ≤ cap ∧ cap ≤ maxLen ∧ (len = 0 ∨ ∃ b off, a = some ⟨b, off, none⟩ ∧ b < w.heap.size ∧ ∀ i, i < len → RatAt w b (off + i * 3) (rs.getD i 0) L)
theorem RatAt.below {w w' : World} {b off : Nat} {r : Rat} {L : Nat} (h : RatAt w b off r L) (hlt : b < w.heap.size) (hb : Below w.heap.size w w') : RatAt w' b off r L := by
  obtain ⟨n, a', l', c', a, l, c, h0, h1, h2, h3⟩ := h
  exact ⟨n, a', l', c', a, l, c, by rw [hb.cell (p := ⟨b, off, none⟩) hlt]; exact h0, by rw [hb.cell (p := ⟨b, off + 1, none⟩) hlt]; exact h1, by rw [hb.cell (p := ⟨b, off + 2, none⟩) hlt]; exact h2, h3.below hb⟩
theorem Rats.below {w w' : World} {a : Option Addr} {len cap : Nat} {rs : List Rat} {L : Nat} (h : Rats w a len cap rs L) (hb : Below w.heap.size w w') : Rats w' a len cap rs L := by
  obtain ⟨h1, h2, h3, h4⟩ := h
  refine ⟨h1, h2, h3, ?_⟩
  rcases h4 with h4 | ⟨b, off, rfl, hlt, hc⟩
  · exact .inl h4
  · exact .inr ⟨b, off, rfl, Nat.lt_of_lt_of_le hlt hb.size, fun i hi => (hc i hi).below hlt hb⟩
theorem Rats.at {w : World} {a : Option Addr} {len cap : Nat} {rs : List Rat} {L : Nat} (h : Rats w a len cap rs L) {k : Nat} (hk : k < len) :
    ∃ b off, a = some ⟨b, off, none⟩ ∧ b < w.heap.size ∧ ∀ i, i < len → RatAt w b (off + i * 3) (rs.getD i 0) L := by
  rcases h.2.2.2 with h | ⟨b, off, rfl, hlt, hc⟩
  · omega
  · exact ⟨b, off, rfl, hlt, hc⟩

section
variable {H : Type} {enc : TypeId × Value → H} {W : World}
theorem rats_trod {fuel : Nat} {cs : List Value} {x : DataW H × List MemPlace} (h : DataW.trod enc Try.prog W 0 (fun _ => true) true fuel 46 cs = some x) :
    ∃ a len cap rs L, cs = [.slice a len cap] ∧ Rats W a len cap rs L := by
  have c3 : Try.prog.cellsOf 27 = 3 := by kernel_rfl
  rcases DataW.trod_slice Try.underlying46 h with ⟨rfl, -⟩ | ⟨ad, len, cap, elems, rest, n, -, rfl, -, hb, hl, hm, hlen, hel, -, -⟩
  · exact ⟨none, 0, 0, [], 0, rfl, rfl, Nat.le_refl _, by simp [maxLen], .inl rfl⟩
  · obtain ⟨b, off, spot⟩ := ad
    by_cases h0 : len = 0
    · subst h0
      exact ⟨some ⟨b, off, spot⟩, 0, cap, [], 0, rfl, rfl, hl, hm, .inl rfl⟩
    have key0 : ∀ i, i < len → ∃ cs', W.cells? 0 ((⟨b, off, spot⟩ : Addr).add (i * 3)) 3 = some cs' ∧ ∃ v0 v1 v2 p q L, cs' = [v0, v1, v2] ∧ RatR W (.agg #[v0, v1, v2]) p q L := by
      intro i hi
      have hE := hel i hi
      rw [c3, List.getElem?_eq_getElem (by omega), Option.bind_eq_some_iff] at hE
      obtain ⟨cs', hc, hE⟩ := hE
      obtain ⟨v0, v1, v2, p, q, L, e, hR, -, -⟩ := ratio_trod hE
      exact ⟨cs', hc, v0, v1, v2, p, q, L, e, hR⟩
    have hspot : spot = none := by
      obtain ⟨cs', hc, v0, v1, v2, p, q, L, rfl, -⟩ := key0 0 (by omega)
      obtain ⟨-, -, hcell⟩ := World.cells?_some hc
      have q0 := hcell 0 (by omega)
      have := World.cell?_spot (v := v0) (by simpa using q0)
      simpa [Addr.add] using this
    subst hspot
    have key : ∀ i, i < len → ∃ r L, b < W.heap.size ∧ RatAt W b (off + i * 3) r L := by
      intro i hi
      obtain ⟨cs', hc, v0, v1, v2, p, q, L, rfl, hR⟩ := key0 i hi
      obtain ⟨-, -, hcell⟩ := World.cells?_some hc
      have q0 := hcell 0 (by omega)
      have q1 := hcell 1 (by omega)
      have q2 := hcell 2 (by omega)
      rw [addr_add, addr_add] at q0 q1 q2
      simp at q0 q1 q2
      have hV : RatV W (.agg #[v0, v1, v2]) (mkRat p q) L := ⟨p, q, hR, rfl⟩
      obtain ⟨n, a', l', c', a, l, c, e, -, -⟩ := hV.form
      cases e
      refine ⟨mkRat p q, L, ?_, n, a', l', c', a, l, c, q0, q1, q2, hV⟩
      simp only [World.cell?] at q0
      rcases Nat.lt_or_ge b W.heap.size with hlt' | hge
      · exact hlt'
      · rw [Array.getElem?_eq_none hge] at q0; cases q0
    have hex : ∃ (rs : List Rat) (M : Nat), rs.length = len ∧ ∀ i, i < len → b < W.heap.size ∧ RatAt W b (off + i * 3) (rs.getD i 0) M := by
      clear hel hlen hl hm h h0 key0
      induction len with
      | zero => exact ⟨[], 0, rfl, fun i hi => by omega⟩
      | succ l ih =>
        obtain ⟨rs, M, h1, h2⟩ := ih fun i hi => key i (by omega)
        obtain ⟨r, L, k2, k3⟩ := key l (by omega)
        have up : ∀ {o : Nat} {r : Rat} {N N' : Nat}, N ≤ N' → RatAt W b o r N → RatAt W b o r N' := fun hN ⟨n, a', l', c', a, l, c, h0, h1, h2, h3⟩ => ⟨n, a', l', c', a, l, c, h0, h1, h2, h3.mono hN⟩
        refine ⟨rs ++ [r], max M L, by simp [h1], fun i hi => ?_⟩
        by_cases hil : i < l
        · have : (rs ++ [r]).getD i 0 = rs.getD i 0 := by simp [List.getD, List.getElem?_append_left (by omega : i < rs.length)]
          rw [this]; exact ⟨k2, up (Nat.le_max_left _ _) (h2 i hil).2⟩
        · obtain rfl : i = l := by omega
          have : (rs ++ [r]).getD i 0 = r := by simp [List.getD, ← h1]
          rw [this]; exact ⟨k2, up (Nat.le_max_right _ _) k3⟩
    obtain ⟨rs, M, h1, h2⟩ := hex
    exact ⟨some ⟨b, off, none⟩, len, cap, rs, M, rfl, h1, hl, hm, .inr ⟨b, off, rfl, (h2 0 (by omega)).1, fun i hi => (h2 i hi).2⟩⟩
theorem open_rats {base : Nat} {v : Value} {d : DataW H} {ps : List MemPlace} (hv : Value.okWide Try.prog W .any base 46 v) (h : DataW.Trod enc Try.prog W 0 (fun _ => true) true 46 v d ps) :
    ∃ a len cap rs L, v = .slice a len cap ∧ Rats W a len cap rs L := by
  obtain ⟨a, len, cap, rfl⟩ := okWide_slice Try.underlying46 hv
  obtain ⟨m, hm⟩ := h
  obtain ⟨a', len', cap', rs, L, e, hR⟩ := rats_trod hm
  simp [Value.cells] at e
  obtain ⟨rfl, rfl, rfl⟩ := e
  exact ⟨a, len, cap, rs, L, rfl, hR⟩
end

/-- the scores of several abilities -/
def scoresL (A B : Rat) (lo hi m : Int) (rs : List Rat) : List Int := rs.map (scoreI A B lo hi m)
theorem scoresL_length (A B : Rat) (lo hi m : Int) (rs : List Rat) : (scoresL A B lo hi m rs).length = rs.length := by simp [scoresL]
theorem scores_set (A B : Rat) (lo hi m : Int) (rs : List Rat) (k : Nat) (h : k < rs.length) :
    (scoresL A B lo hi m (rs.take k) ++ List.replicate (rs.length - k) 0).set k (scoreI A B lo hi m (rs.getD k 0)) = scoresL A B lo hi m (rs.take (k + 1)) ++ List.replicate (rs.length - (k + 1)) 0 := by
  obtain ⟨j, hj⟩ : ∃ j, rs.length = k + 1 + j := ⟨rs.length - k - 1, by omega⟩
  have h1 := iset_fill (scoresL A B lo hi m (rs.take k)) j (scoreI A B lo hi m (rs.getD k 0))
  rw [scoresL_length, List.length_take, Nat.min_eq_left (by omega)] at h1
  rw [show rs.length - k = j + 1 by omega, h1, show rs.length - (k + 1) = j by omega]
  rw [take_snoc rs k 0 h]
  simp [scoresL]

set_option maxHeartbeats 2000000 in
theorem table_any (v : Value) (A B : Rat) (lo hi m : Int) (rs : List Rat) (a : Option Addr) (len cap L : Nat) (w : World) (hv : LinV w v A B lo hi m L) (hr : Rats w a len cap rs L) (hL : 1 ≤ L) (hm : (3 * L + 5) * 4 ≤ 140737488355328) (ho : validE A lo hi m = 0) (hlen : len ≤ 61) :
    Calls Try.prog 19 #[v, .slice a len cap] w fun e w' => ∃ a2 c2, e = .returned (.tuple #[.slice a2 len c2, .int .i64 0]) ∧ Ints w' a2 len c2 (scoresL A B lo hi m rs) ∧ Below w.heap.size w w' := by
  have HV := Lib.hid hv
  have HO := Lib.hid ho
  have HRl := Lib.hid hr.1
  obtain ⟨-, k1, k2, k3, k4, k5⟩ := valid_ok ho
  obtain ⟨na, aa', la', ca', aa, la, ca, nb, ab', lb', cb', ab, lb, cb, rfl, -, -⟩ := hv
  have hb0 : Below w.heap.size w (w.alloc (.cells #[.bool na, .slice aa' la' ca', .slice aa la ca, .bool nb, .slice ab' lb' cb', .slice ab lb cb, .int .i64 lo, .int .i64 hi, .int .i64 m] 29)) := (Below.refl _ _).alloc (Nat.le_refl _) _
  have HRs := Lib.hid hr
  have d61 : decide (61 < (len : Int)) = false := by simp; omega
  clear ho hr
  go_enter Try.func19, Try.ntmps19
  go_wp2_with fail
  refine (svalid_any _ A B lo hi m L _ (HV.out.below hb0) hL).mono ?_
  rintro e w1 ⟨rfl, hb1⟩
  rw [HO.out]
  have hb01 := hb0.trans (hb1.mono (by simp))
  have cK := fun o => (bcell hb1 w.heap.size (by simp)).1 o
  have q0 : w1.cell? ⟨w.heap.size, 0, none⟩ = some (.bool na) := by rw [cK]; go_simp
  have q1 : w1.cell? ⟨w.heap.size, 1, none⟩ = some (.slice aa' la' ca') := by rw [cK]; go_simp
  have q2 : w1.cell? ⟨w.heap.size, 2, none⟩ = some (.slice aa la ca) := by rw [cK]; go_simp
  have q3 : w1.cell? ⟨w.heap.size, 3, none⟩ = some (.bool nb) := by rw [cK]; go_simp
  have q4 : w1.cell? ⟨w.heap.size, 4, none⟩ = some (.slice ab' lb' cb') := by rw [cK]; go_simp
  have q5 : w1.cell? ⟨w.heap.size, 5, none⟩ = some (.slice ab lb cb) := by rw [cK]; go_simp
  have q6 : w1.cell? ⟨w.heap.size, 6, none⟩ = some (.int .i64 lo) := by rw [cK]; go_simp
  have q7 : w1.cell? ⟨w.heap.size, 7, none⟩ = some (.int .i64 hi) := by rw [cK]; go_simp
  have q8 : w1.cell? ⟨w.heap.size, 8, none⟩ = some (.int .i64 m) := by rw [cK]; go_simp
  have HQ := Lib.hid (And.intro q0 (And.intro q1 (And.intro q2 (And.intro q3 (And.intro q4 (And.intro q5 (And.intro q6 (And.intro q7 q8))))))))
  have hlt1 : w.heap.size < w1.heap.size := by have := hb1.size; simp at this; omega
  clear hb1 cK q0 q1 q2 q3 q4 q5 q6 q7 q8
  go_wp2_with (refine wpList_mkn rfl _ _ 48 rfl 3 (.int .i64 0) 8 Try.underlying48 infoInt rfl .i64 .i64 _ _ len rfl rfl rfl rfl (by omega) (by unfold maxLen; omega) fun w2 ho2 hb2 => ?_)
  rw [ivs_replicate] at ho2
  have HO2 := Lib.hid ho2
  clear ho2
  go_wp2_with fail
  go_loopw [25] (fun i wr => ∃ k : Nat, k ≤ len ∧ i = .int .i64 k ∧ Hid (Owns wr w1.heap.size 3 (.slice (some ⟨w1.heap.size, 0, none⟩) len len) (ivs (scoresL A B lo hi m (rs.take k) ++ List.replicate (rs.length - k) 0))) ∧ Below w1.heap.size w1 wr) (fun i _ => len - (intOf i).toNat)
  case atStart => exact ⟨0, by omega, rfl, Lib.hid (by rw [HRl.out]; simpa [scoresL] using HO2.out), hb2⟩
  case round =>
    clear HO2 hb2
    obtain ⟨k, hk, rfl, HOk, hb⟩ := hrel
    have hb0r := hb01.trans (hb.mono hb01.size)
    by_cases hlt : k < len
    · obtain ⟨bb, off, rfl, hbs, hcc⟩ := HRs.out.at hlt
      obtain ⟨n, x', l', c', x, l, c, e0, e1, e2, hX⟩ := (hcc k hlt).below hbs hb0r
      have HX := Lib.hid hX
      have HSet := Lib.hid (scores_set A B lo hi m rs k (by rw [HRl.out]; exact hlt))
      have hgw : w1.heap.size < wr.heap.size := Owns.in HOk.out _ rfl
      have hbx : Below wr.heap.size wr (wr.alloc (.cells #[.bool n, .slice x' l' c', .slice x l c] 27)) := (Below.refl _ _).alloc (Nat.le_refl _) _
      have hbw : Below w1.heap.size w1 (wr.alloc (.cells #[.bool n, .slice x' l' c', .slice x l c] 27)) := hb.trans (hbx.mono hb.size)
      obtain ⟨q0, q1, q2, q3, q4, q5, q6, q7, q8⟩ := HQ.out
      have cW := fun o => (bcell hb w.heap.size hlt1).1 o
      have hltr : w.heap.size < wr.heap.size := by omega
      have k0 : wr.cell? ⟨w.heap.size, 0, none⟩ = some (.bool na) := by rw [cW]; exact q0
      have k1' : wr.cell? ⟨w.heap.size, 1, none⟩ = some (.slice aa' la' ca') := by rw [cW]; exact q1
      have k2' : wr.cell? ⟨w.heap.size, 2, none⟩ = some (.slice aa la ca) := by rw [cW]; exact q2
      have k3' : wr.cell? ⟨w.heap.size, 3, none⟩ = some (.bool nb) := by rw [cW]; exact q3
      have k4' : wr.cell? ⟨w.heap.size, 4, none⟩ = some (.slice ab' lb' cb') := by rw [cW]; exact q4
      have k5' : wr.cell? ⟨w.heap.size, 5, none⟩ = some (.slice ab lb cb) := by rw [cW]; exact q5
      have k6 : wr.cell? ⟨w.heap.size, 6, none⟩ = some (.int .i64 lo) := by rw [cW]; exact q6
      have k7 : wr.cell? ⟨w.heap.size, 7, none⟩ = some (.int .i64 hi) := by rw [cW]; exact q7
      have k8 : wr.cell? ⟨w.heap.size, 8, none⟩ = some (.int .i64 m) := by rw [cW]; exact q8
      have HVw := Lib.hid (HV.out.below (hb0r.trans (hbx.mono hb0r.size)))
      have HXw := Lib.hid (HX.out.below hbx)
      generalize rs.getD k 0 = xk at *
      clear hcc hX q0 q1 q2 q3 q4 q5 q6 q7 q8 cW
      go_wp2_with fail
      refine (score_any _ _ A B xk lo hi m L _ HVw.out HXw.out hL hm k4 k5 k1 k2).mono ?_
      rintro e w3 ⟨rfl, hb3⟩
      have hbr3 := hbx.trans (hb3.mono hbx.size)
      have HO3 := Lib.hid (HOk.out.later hbr3)
      have c3 := HO3.out.cell k hlt
      have f3 := HO3.out.free k
      have hb13 := hb.trans (hbr3.mono hb.size)
      have HSt := Lib.hid (HO3.out.store k (iv (scoreI A B lo hi m xk)))
      rw [ivs_set, HSet.out] at HSt
      unfold iv at HSt
      generalize (ivs (scoresL A B lo hi m (rs.take k) ++ List.replicate (rs.length - k) 0)).getD k .nilFunc = old at *
      generalize scoreI A B lo hi m xk = sc at *
      clear hb3
      go_wp2_with fail
      go_roundw
      case rel => exact ⟨k + 1, by omega, by go_num, HSt, hb13.setCell (Nat.le_refl _) _⟩
      case measure => simp [intOf]; omega
    · obtain rfl : k = len := by omega
      have HI := Lib.hid (show Ints wr (some ⟨w1.heap.size, 0, none⟩) k k (scoresL A B lo hi m rs) by
        have := HOk.out.ints'
        rw [List.take_of_length_le (by rw [HRl.out]; omega), show rs.length - k = 0 by rw [HRl.out]; omega] at this
        simpa using this)
      clear HOk
      go_wp2_with fail
      go_ret2
      exact ⟨_, _, rfl, HI.out, hb0r⟩

end Go.Proofs.Ytmahokhgdkdhkaa

namespace Go.Proofs.Ytmahokhgdkdhkaa
set_option maxRecDepth 100000
open Go.RowKit

set_option maxHeartbeats 2000000 in
theorem table_no (v : Value) (A B : Rat) (lo hi m : Int) (a : Option Addr) (len cap L : Nat) (w : World) (hv : LinV w v A B lo hi m L) (hL : 1 ≤ L) (ho : validE A lo hi m ≠ 0) :
    Calls Try.prog 19 #[v, .slice a len cap] w fun e w' => e = .returned (.tuple #[.slice none 0 0, .int .i64 (validE A lo hi m)]) ∧ Below w.heap.size w w' := by
  have HV := Lib.hid hv
  have hz : (validE A lo hi m == 0) = false := by simpa using ho
  obtain ⟨na, aa', la', ca', aa, la, ca, nb, ab', lb', cb', ab, lb, cb, rfl, -, -⟩ := hv
  have hb0 : Below w.heap.size w (w.alloc (.cells #[.bool na, .slice aa' la' ca', .slice aa la ca, .bool nb, .slice ab' lb' cb', .slice ab lb cb, .int .i64 lo, .int .i64 hi, .int .i64 m] 29)) := (Below.refl _ _).alloc (Nat.le_refl _) _
  clear ho
  go_enter Try.func19, Try.ntmps19
  go_wp2_with fail
  refine (svalid_any _ A B lo hi m L _ (HV.out.below hb0) hL).mono ?_
  rintro e w1 ⟨rfl, hb1⟩
  have hb01 := hb0.trans (hb1.mono (by simp))
  generalize hev : validE A lo hi m = ev at *
  have HEv := Lib.hid hev
  clear hev
  go_wp2_with fail
  go_ret2
  exact ⟨by rw [HEv.out]; rfl, hb01⟩

set_option maxHeartbeats 2000000 in
theorem table_long (v : Value) (A B : Rat) (lo hi m : Int) (a : Option Addr) (len cap L : Nat) (w : World) (hv : LinV w v A B lo hi m L) (hL : 1 ≤ L) (ho : validE A lo hi m = 0) (hlen : 61 < len) (hlm : len ≤ 9223372036854775807) :
    Calls Try.prog 19 #[v, .slice a len cap] w fun e w' => e = .returned (.tuple #[.slice none 0 0, .int .i64 5]) ∧ Below w.heap.size w w' := by
  have HV := Lib.hid hv
  have HO := Lib.hid ho
  have d61 : decide (61 < (len : Int)) = true := by simp; omega
  obtain ⟨na, aa', la', ca', aa, la, ca, nb, ab', lb', cb', ab, lb, cb, rfl, -, -⟩ := hv
  have hb0 : Below w.heap.size w (w.alloc (.cells #[.bool na, .slice aa' la' ca', .slice aa la ca, .bool nb, .slice ab' lb' cb', .slice ab lb cb, .int .i64 lo, .int .i64 hi, .int .i64 m] 29)) := (Below.refl _ _).alloc (Nat.le_refl _) _
  clear ho
  go_enter Try.func19, Try.ntmps19
  go_wp2_with fail
  refine (svalid_any _ A B lo hi m L _ (HV.out.below hb0) hL).mono ?_
  rintro e w1 ⟨rfl, hb1⟩
  rw [HO.out]
  have hb01 := hb0.trans (hb1.mono (by simp))
  go_wp2_with fail
  go_ret2
  exact ⟨rfl, hb01⟩

def Rises (rs : List Rat) : Prop := ∀ j, 1 ≤ j → j < rs.length → rs.getD (j - 1) 0 ≤ rs.getD j 0
/-- the first index whose score is at least s -/
def fI (l : List Int) (s : Int) : Nat := l.findIdx (fun x => decide (s ≤ x))
theorem fI_at {l : List Int} {s : Int} {k : Nat} (hk : k < l.length) (h : s ≤ l.getD k 0) (hb : ∀ j, j < k → ¬ s ≤ l.getD j 0) : fI l s = k := by
  unfold fI
  rw [List.findIdx_eq hk]
  refine ⟨by simpa [List.getD, hk] using h, fun j hj => ?_⟩
  have := hb j hj
  simpa [List.getD, show j < l.length by omega] using this
theorem fI_none {l : List Int} {s : Int} (hb : ∀ j, j < l.length → ¬ s ≤ l.getD j 0) : fI l s = l.length := by
  unfold fI
  rw [List.findIdx_eq_length]
  intro x hx
  obtain ⟨j, hj, rfl⟩ := List.getElem_of_mem hx
  have := hb j hj
  simpa [List.getD, hj] using this
open Classical in
noncomputable def reachI (rs : List Rat) (l : List Int) (s : Int) : Int := if Rises rs then (if fI l s < l.length then (fI l s : Int) else 0) else 0
open Classical in
noncomputable def reachE (rs : List Rat) (l : List Int) (s : Int) : Int := if Rises rs then (if fI l s < l.length then 0 else 6) else 23
theorem reach_bad {rs : List Rat} {l : List Int} {s : Int} (h : ¬ Rises rs) : reachI rs l s = 0 ∧ reachE rs l s = 23 := by
  unfold reachI reachE; rw [if_neg h, if_neg h]; exact ⟨rfl, rfl⟩
theorem reach_found {rs : List Rat} {l : List Int} {s : Int} {k : Nat} (h : Rises rs) (hf : fI l s = k) (hk : k < l.length) : reachI rs l s = (k : Int) ∧ reachE rs l s = 0 := by
  unfold reachI reachE; rw [if_pos h, if_pos h, hf, if_pos hk, if_pos hk]; exact ⟨rfl, rfl⟩
theorem reach_none {rs : List Rat} {l : List Int} {s : Int} (h : Rises rs) (hf : fI l s = l.length) : reachI rs l s = 0 ∧ reachE rs l s = 6 := by
  unfold reachI reachE; rw [if_pos h, if_pos h, hf, if_neg (Nat.lt_irrefl _), if_neg (Nat.lt_irrefl _)]; exact ⟨rfl, rfl⟩
theorem cmpI_lt' {r s : Rat} : rcmpI r s < 0 ↔ r < s := by
  unfold rcmpI
  by_cases h : r < s
  · simp [h]
  · rw [if_neg h]; split <;> simp [h]

set_option maxHeartbeats 4000000 in
theorem reach_any (v : Value) (A B : Rat) (lo hi m s : Int) (rs : List Rat) (a : Option Addr) (len cap L : Nat) (w : World) (hv : LinV w v A B lo hi m L) (hr : Rats w a len cap rs L) (hL : 1 ≤ L) (hm : (3 * L + 5) * 4 ≤ 140737488355328) (ho : validE A lo hi m = 0) (hlen : len ≤ 61) :
    Calls Try.prog 21 #[v, .slice a len cap, .int .i64 s] w fun e w' => e = .returned (.tuple #[.int .i64 (reachI rs (scoresL A B lo hi m rs) s), .int .i64 (reachE rs (scoresL A B lo hi m rs) s)]) ∧ Below w.heap.size w w' := by
  have HV := Lib.hid hv
  have HRs := Lib.hid hr
  have HRl := Lib.hid hr.1
  have HSl := Lib.hid (show (scoresL A B lo hi m rs).length = len by rw [scoresL_length, hr.1])
  obtain ⟨na, aa', la', ca', aa, la, ca, nb, ab', lb', cb', ab, lb, cb, rfl, -, -⟩ := hv
  have hb0 : Below w.heap.size w (w.alloc (.cells #[.bool na, .slice aa' la' ca', .slice aa la ca, .bool nb, .slice ab' lb' cb', .slice ab lb cb, .int .i64 lo, .int .i64 hi, .int .i64 m] 29)) := (Below.refl _ _).alloc (Nat.le_refl _) _
  have HT := Lib.hid (table_any _ A B lo hi m rs a len cap L _ (HV.out.below hb0) (HRs.out.below hb0) hL hm ho hlen)
  clear ho hr
  go_enter Try.func21, Try.ntmps21
  go_wp2_with fail
  refine HT.out.mono ?_
  rintro e w1 ⟨a2, c2, rfl, hI, hb1⟩
  have hb01 := hb0.trans (hb1.mono (by simp))
  have HI := Lib.hid hI
  have HR1 := Lib.hid (HRs.out.below hb01)
  clear hI hb1 HT
  generalize hsl : scoresL A B lo hi m rs = sl at *
  have HSle := Lib.hid hsl
  clear hsl
  go_wp2_with fail
  go_loopw [10] (fun i wr => ∃ k : Nat, 1 ≤ k ∧ (k ≤ len ∨ k = 1) ∧ i = .int .i64 k ∧ Hid (∀ j, 1 ≤ j → j < k → rs.getD (j - 1) 0 ≤ rs.getD j 0) ∧ Below w1.heap.size w1 wr) (fun i _ => len - (intOf i).toNat)
  case atStart => exact ⟨1, by omega, by omega, rfl, Lib.hid (fun j h1 h2 => by omega), Below.refl _ _⟩
  case round =>
    obtain ⟨k, hk1, hk2, rfl, HG, hb⟩ := hrel
    have hb0r := hb01.trans (hb.mono hb01.size)
    by_cases hlt : k < len
    · obtain ⟨bb, off, rfl, hbs, hcc⟩ := HR1.out.at hlt
      obtain ⟨n, x', l', c', x, l, c, e0, e1, e2, hX⟩ := (hcc k hlt).below hbs hb
      obtain ⟨n2, y', p', d', y, p, d, u0, u1, u2, hY⟩ := (hcc (k - 1) (by omega)).below hbs hb
      have HX := Lib.hid hX
      have HY := Lib.hid hY
      have HBad := Lib.hid (show rs.getD k 0 < rs.getD (k - 1) 0 → ¬ Rises rs from fun h1 h2 => by
        have := h2 k hk1 (by rw [HRl.out]; exact hlt)
        exact Rat.not_le.2 h1 this)
      generalize hrk : rs.getD k 0 = rk at *
      generalize hrj : rs.getD (k - 1) 0 = rj at *
      have HRk := Lib.hid hrk
      have HRj := Lib.hid hrj
      clear hrk hrj
      obtain ⟨j, hkj⟩ : ∃ j, k - 1 = j := ⟨_, rfl⟩
      rw [hkj] at u0 u1 u2
      have hjl : j < len := by omega
      have hsub : (k : Int) - 1 = (j : Int) := by omega
      have hwj : IntKind.i64.wrap (j : Int) = (j : Int) := IntWalk.i64_in _ (by omega)
      clear hkj
      have hbe : bb < wr.heap.size := Nat.lt_of_lt_of_le hbs hb.size
      have g0 := box_ext (B := wr.heap.size) e0 hbe
      have g1 := box_ext (B := wr.heap.size) e1 hbe
      have g2 := box_ext (B := wr.heap.size) e2 hbe
      have p0 := box_ext (B := wr.heap.size) u0 hbe
      have p1 := box_ext (B := wr.heap.size) u1 hbe
      have p2 := box_ext (B := wr.heap.size) u2 hbe
      clear hcc hX hY e0 e1 e2 u0 u1 u2
      go_wp2_with fail
      refine wp_region_sched [(0, false), (1, false), (2, false), (3, false), (4, false), (5, false), (6, false), (7, false), (8, false), (9, true), (10, false)] (fun w' => ∃ W : Ext wr.heap.size wr, w' = W.1) (by kernel_rfl) (by kernel_rfl) ⟨⟨wr.drew, (Below.refl _ _).drew⟩, rfl⟩ ?_
      repeat (refine wpSched_calm rfl (fun K hK => ?_); go_simp; refine hK _ ?_; clear hK K)
      refine wpSched_eff rfl rfl (fun K hK => ?_)
      go_simp
      refine (qcmp_any _ _ rk rj L L _ (HX.out.below (Below.refl _ _).drew) (HY.out.below (Below.refl _ _).drew) hL hL (by omega)).mono ?_
      rintro e w2 ⟨rfl, hb2⟩
      have hM := ((Below.refl wr.heap.size wr).drew).trans (hb2.mono (by simp))
      have hbn := hb.trans (hM.mono hb.size)
      refine hK _ _ ⟨⟨w2, hM⟩, rfl⟩ ?_
      clear hK K hb2
      have HC := Lib.hid (cmpI_lt' (r := rk) (s := rj))
      generalize rcmpI rk rj = cc at *
      repeat (refine wpSched_calm rfl (fun K hK => ?_); go_simp; refine hK _ ?_; clear hK K)
      refine wpSched_nil ?_
      by_cases hc : cc < 0
      · have HN := Lib.hid (reach_bad (l := sl) (s := s) (HBad.out (HC.out.1 hc)))
        go_wp2_with fail
        go_ret2
        refine ⟨?_, hb01.trans (hbn.mono hb01.size)⟩
        rw [HSle.out, HN.out.1, HN.out.2]; rfl
      · have HG2 := Lib.hid (show ∀ j', 1 ≤ j' → j' < k + 1 → rs.getD (j' - 1) 0 ≤ rs.getD j' 0 from fun j' h1 h2 => by
          by_cases hj : j' < k
          · exact HG.out j' h1 hj
          · obtain rfl : j' = k := by omega
            rw [HRk.out, HRj.out]; exact Rat.not_lt.1 (fun h => hc (HC.out.2 h)))
        go_wp2_with fail
        go_roundw
        case rel => exact ⟨k + 1, by omega, by omega, by go_num, HG2, hbn⟩
        case measure => simp [intOf]; omega
    · have HRi := Lib.hid (show Rises rs from fun j h1 h2 => HG.out j h1 (by rw [HRl.out] at h2; omega))
      clear HG
      go_wp2_with fail
      have HI2 := Lib.hid (HI.out.below hb)
      clear HI
      have hb0r' := hb0r
      clear hlt hk1 hk2 hb hb01 HR1 hb0r
      go_loopw [41] (fun i wq => ∃ k : Nat, k ≤ len ∧ i = .int .i64 k ∧ Hid (∀ j, j < k → ¬ s ≤ sl.getD j 0) ∧ wr = wq) (fun i _ => len - (intOf i).toNat)
      case atStart => exact ⟨0, by omega, rfl, Lib.hid (fun j h => by omega), rfl⟩
      case round =>
        obtain ⟨k2, hk2, rfl, HG, rfl⟩ := hrel
        by_cases hlt : k2 < len
        · obtain ⟨bb, off, rfl, hbs, hcc⟩ := HI2.out.2.at hlt
          have e0 := hcc k2 hlt _ (Below.refl _ _)
          generalize hv : sl.getD k2 0 = v at *
          have HV2 := Lib.hid hv
          clear hcc hv
          by_cases hs : s ≤ v
          · have HN := Lib.hid (reach_found (s := s) HRi.out (fI_at (k := k2) (by rw [HSl.out]; exact hlt) (by rw [HV2.out]; exact hs) HG.out) (by rw [HSl.out]; exact hlt))
            go_wp2_with fail
            go_ret2
            refine ⟨?_, hb0r'⟩
            rw [HSle.out, HN.out.1, HN.out.2]; rfl
          · have HG2 := Lib.hid (show ∀ j', j' < k2 + 1 → ¬ s ≤ sl.getD j' 0 from fun j' h2 => by
              by_cases hj : j' < k2
              · exact HG.out j' hj
              · obtain rfl : j' = k2 := by omega
                rw [HV2.out]; exact hs)
            go_wp2_with fail
            go_roundw
            case rel => exact ⟨k2 + 1, by omega, by go_num, HG2, trivial⟩
            case measure => simp [intOf]; omega
        · have HN := Lib.hid (reach_none (s := s) HRi.out (fI_none (fun j hj => HG.out j (by rw [HSl.out] at hj; omega))))
          go_wp2_with fail
          go_ret2
          refine ⟨?_, hb0r'⟩
          rw [HSle.out, HN.out.1, HN.out.2]; rfl

end Go.Proofs.Ytmahokhgdkdhkaa

namespace Go.Proofs.Ytmahokhgdkdhkaa
set_option maxRecDepth 100000
open Go.RowKit

set_option maxHeartbeats 2000000 in
theorem rtable_no (v : Value) (A B : Rat) (lo hi m : Int) (a : Option Addr) (len cap L : Nat) (w : World) (hv : LinV w v A B lo hi m L) (hL : 1 ≤ L) (hm : (6 * L + 12) * 4 ≤ 140737488355328) (ho : validE A lo hi m ≠ 0) :
    Calls Try.prog 20 #[v, .slice a len cap] w fun e w' => e = .returned (.tuple #[.slice none 0 0, .int .i64 (validE A lo hi m)]) ∧ Below w.heap.size w w' := by
  have HV := Lib.hid hv
  have hz : (validE A lo hi m == 0) = false := by simpa using ho
  obtain ⟨na, aa', la', ca', aa, la, ca, nb, ab', lb', cb', ab, lb, cb, rfl, -, -⟩ := hv
  have hb0 : Below w.heap.size w (w.alloc (.cells #[.bool na, .slice aa' la' ca', .slice aa la ca, .bool nb, .slice ab' lb' cb', .slice ab lb cb, .int .i64 lo, .int .i64 hi, .int .i64 m] 29)) := (Below.refl _ _).alloc (Nat.le_refl _) _
  clear ho
  go_enter Try.func20, Try.ntmps20
  go_wp2_with fail
  refine (rvalid_any _ A B lo hi m L _ (HV.out.below hb0) (by omega)).mono ?_
  rintro e w1 ⟨rfl, hb1⟩
  have hb01 := hb0.trans (hb1.mono (by simp))
  generalize hev : validE A lo hi m = ev at *
  have HEv := Lib.hid hev
  clear hev
  go_wp2_with fail
  go_ret2
  exact ⟨by rw [HEv.out]; rfl, hb01⟩

set_option maxHeartbeats 2000000 in
theorem rtable_long (v : Value) (A B : Rat) (lo hi m : Int) (a : Option Addr) (len cap L : Nat) (w : World) (hv : LinV w v A B lo hi m L) (hL : 1 ≤ L) (hm : (6 * L + 12) * 4 ≤ 140737488355328) (ho : validE A lo hi m = 0) (hlen : 61 < len) (hlm : len ≤ 9223372036854775807) :
    Calls Try.prog 20 #[v, .slice a len cap] w fun e w' => e = .returned (.tuple #[.slice none 0 0, .int .i64 5]) ∧ Below w.heap.size w w' := by
  have HV := Lib.hid hv
  have HO := Lib.hid ho
  have d61 : decide (61 < (len : Int)) = true := by simp; omega
  obtain ⟨na, aa', la', ca', aa, la, ca, nb, ab', lb', cb', ab, lb, cb, rfl, -, -⟩ := hv
  have hb0 : Below w.heap.size w (w.alloc (.cells #[.bool na, .slice aa' la' ca', .slice aa la ca, .bool nb, .slice ab' lb' cb', .slice ab lb cb, .int .i64 lo, .int .i64 hi, .int .i64 m] 29)) := (Below.refl _ _).alloc (Nat.le_refl _) _
  clear ho
  go_enter Try.func20, Try.ntmps20
  go_wp2_with fail
  refine (rvalid_any _ A B lo hi m L _ (HV.out.below hb0) (by omega)).mono ?_
  rintro e w1 ⟨rfl, hb1⟩
  rw [HO.out]
  have hb01 := hb0.trans (hb1.mono (by simp))
  go_wp2_with fail
  go_ret2
  exact ⟨rfl, hb01⟩

theorem scores_snoc (A B : Rat) (lo hi m : Int) (rs : List Rat) (k : Nat) (h : k < rs.length) : scoresL A B lo hi m (rs.take (k + 1)) = scoresL A B lo hi m (rs.take k) ++ [scoreI A B lo hi m (rs.getD k 0)] := by
  rw [take_snoc rs k 0 h]; simp [scoresL]
theorem scores_take_length (A B : Rat) (lo hi m : Int) (rs : List Rat) (k : Nat) (h : k ≤ rs.length) : (scoresL A B lo hi m (rs.take k)).length = k := by
  rw [scoresL_length, List.length_take]; omega

set_option maxHeartbeats 4000000 in
theorem rtable_any (v : Value) (A B : Rat) (lo hi m : Int) (rs : List Rat) (a : Option Addr) (len cap L : Nat) (w : World) (hv : LinV w v A B lo hi m L) (hr : Rats w a len cap rs L) (hL : 1 ≤ L) (hm : (6 * L + 12) * 4 ≤ 140737488355328) (ho : validE A lo hi m = 0) (hlen : len ≤ 61) :
    Calls Try.prog 20 #[v, .slice a len cap] w fun e w' => ∃ a2 c2, e = .returned (.tuple #[.slice a2 len c2, .int .i64 0]) ∧ Ints w' a2 len c2 (scoresL A B lo hi m rs) ∧ Below w.heap.size w w' := by
  have HV := Lib.hid hv
  have HO := Lib.hid ho
  have HRl := Lib.hid hr.1
  obtain ⟨na, aa', la', ca', aa, la, ca, nb, ab', lb', cb', ab, lb, cb, rfl, -, -⟩ := hv
  have hb0 : Below w.heap.size w (w.alloc (.cells #[.bool na, .slice aa' la' ca', .slice aa la ca, .bool nb, .slice ab' lb' cb', .slice ab lb cb, .int .i64 lo, .int .i64 hi, .int .i64 m] 29)) := (Below.refl _ _).alloc (Nat.le_refl _) _
  have HRs := Lib.hid hr
  have d61 : decide (61 < (len : Int)) = false := by simp; omega
  clear ho hr
  go_enter Try.func20, Try.ntmps20
  go_wp2_with fail
  refine (rvalid_any _ A B lo hi m L _ (HV.out.below hb0) (by omega)).mono ?_
  rintro e w1 ⟨rfl, hb1⟩
  rw [HO.out]
  have hb01 := hb0.trans (hb1.mono (by simp))
  have cK := fun o => (bcell hb1 w.heap.size (by simp)).1 o
  have q0 : w1.cell? ⟨w.heap.size, 0, none⟩ = some (.bool na) := by rw [cK]; go_simp
  have q1 : w1.cell? ⟨w.heap.size, 1, none⟩ = some (.slice aa' la' ca') := by rw [cK]; go_simp
  have q2 : w1.cell? ⟨w.heap.size, 2, none⟩ = some (.slice aa la ca) := by rw [cK]; go_simp
  have q3 : w1.cell? ⟨w.heap.size, 3, none⟩ = some (.bool nb) := by rw [cK]; go_simp
  have q4 : w1.cell? ⟨w.heap.size, 4, none⟩ = some (.slice ab' lb' cb') := by rw [cK]; go_simp
  have q5 : w1.cell? ⟨w.heap.size, 5, none⟩ = some (.slice ab lb cb) := by rw [cK]; go_simp
  have q6 : w1.cell? ⟨w.heap.size, 6, none⟩ = some (.int .i64 lo) := by rw [cK]; go_simp
  have q7 : w1.cell? ⟨w.heap.size, 7, none⟩ = some (.int .i64 hi) := by rw [cK]; go_simp
  have q8 : w1.cell? ⟨w.heap.size, 8, none⟩ = some (.int .i64 m) := by rw [cK]; go_simp
  have HQ := Lib.hid (And.intro q0 (And.intro q1 (And.intro q2 (And.intro q3 (And.intro q4 (And.intro q5 (And.intro q6 (And.intro q7 q8))))))))
  have hlt1 : w.heap.size < w1.heap.size := by have := hb1.size; simp at this; omega
  clear hb1 cK q0 q1 q2 q3 q4 q5 q6 q7 q8
  go_wp2_with fail
  go_loopw [7, 8] (fun u i wr => ∃ k : Nat, k ≤ len ∧ i = .int .i64 k ∧ Hid (Owns wr w1.heap.size 3 u (ivs (scoresL A B lo hi m (rs.take k)))) ∧ Below w1.heap.size w1 wr) (fun _ i _ => len - (intOf i).toNat)
  case atStart => exact ⟨0, by omega, rfl, Lib.hid (by simpa [scoresL, ivs] using Owns.nil w1 w1.heap.size 3), Below.refl _ _⟩
  case round =>
    obtain ⟨k, hk, rfl, HOk, hb⟩ := hrel
    have hb0r := hb01.trans (hb.mono hb01.size)
    by_cases hlt : k < len
    · obtain ⟨bb, off, rfl, hbs, hcc⟩ := HRs.out.at hlt
      obtain ⟨n, x', l', c', x, l, c, e0, e1, e2, hX⟩ := (hcc k hlt).below hbs hb0r
      have HX := Lib.hid hX
      have HSn := Lib.hid (scores_snoc A B lo hi m rs k (by rw [HRl.out]; exact hlt))
      have HLn := Lib.hid (scores_take_length A B lo hi m rs k (by rw [HRl.out]; omega))
      obtain ⟨q0, q1, q2, q3, q4, q5, q6, q7, q8⟩ := HQ.out
      have cW := fun o => (bcell hb w.heap.size hlt1).1 o
      have hltr : w.heap.size < wr.heap.size := Nat.lt_of_lt_of_le hlt1 hb.size
      have hbe : bb < wr.heap.size := Nat.lt_of_lt_of_le hbs hb0r.size
      have g0 := box_ext (B := wr.heap.size) (show wr.cell? ⟨w.heap.size, 0, none⟩ = some (.bool na) by rw [cW]; exact q0) hltr
      have g1 := box_ext (B := wr.heap.size) (show wr.cell? ⟨w.heap.size, 1, none⟩ = some (.slice aa' la' ca') by rw [cW]; exact q1) hltr
      have g2 := box_ext (B := wr.heap.size) (show wr.cell? ⟨w.heap.size, 2, none⟩ = some (.slice aa la ca) by rw [cW]; exact q2) hltr
      have g3 := box_ext (B := wr.heap.size) (show wr.cell? ⟨w.heap.size, 3, none⟩ = some (.bool nb) by rw [cW]; exact q3) hltr
      have g4 := box_ext (B := wr.heap.size) (show wr.cell? ⟨w.heap.size, 4, none⟩ = some (.slice ab' lb' cb') by rw [cW]; exact q4) hltr
      have g5 := box_ext (B := wr.heap.size) (show wr.cell? ⟨w.heap.size, 5, none⟩ = some (.slice ab lb cb) by rw [cW]; exact q5) hltr
      have g6 := box_ext (B := wr.heap.size) (show wr.cell? ⟨w.heap.size, 6, none⟩ = some (.int .i64 lo) by rw [cW]; exact q6) hltr
      have g7 := box_ext (B := wr.heap.size) (show wr.cell? ⟨w.heap.size, 7, none⟩ = some (.int .i64 hi) by rw [cW]; exact q7) hltr
      have g8 := box_ext (B := wr.heap.size) (show wr.cell? ⟨w.heap.size, 8, none⟩ = some (.int .i64 m) by rw [cW]; exact q8) hltr
      have p0 := box_ext (B := wr.heap.size) e0 hbe
      have p1 := box_ext (B := wr.heap.size) e1 hbe
      have p2 := box_ext (B := wr.heap.size) e2 hbe
      have HVw := Lib.hid (HV.out.below hb0r)
      generalize rs.getD k 0 = xk at *
      clear hcc hX q0 q1 q2 q3 q4 q5 q6 q7 q8 cW e0 e1 e2
      go_wp2_with fail
      refine wp_region_sched [(0, false), (1, false), (2, false), (3, false), (4, false), (5, true), (6, false), (7, false), (8, false), (9, false), (10, false)] (fun w' => ∃ W : Ext wr.heap.size wr, w' = W.1) (by kernel_rfl) (by kernel_rfl) ⟨⟨wr.drew, (Below.refl _ _).drew⟩, rfl⟩ ?_
      repeat (refine wpSched_calm rfl (fun K hK => ?_); go_simp; refine hK _ ?_; clear hK K)
      refine wpSched_eff rfl rfl (fun K hK => ?_)
      go_simp
      refine (rScore_any _ _ A B xk lo hi m L _ (HVw.out.below (Below.refl _ _).drew) (HX.out.below (Below.refl _ _).drew) hL hm HO.out).mono ?_
      rintro e w2 ⟨rfl, hb2⟩
      have hM := ((Below.refl wr.heap.size wr).drew).trans (hb2.mono (by simp))
      have hbn := hb.trans (hM.mono hb.size)
      refine hK _ _ ⟨⟨w2, hM⟩, rfl⟩ ?_
      clear hK K hb2
      have HO2 := Lib.hid (HOk.out.later hM)
      generalize scoreI A B lo hi m xk = sc at *
      repeat (refine wpSched_calm rfl (fun K hK => ?_); go_simp; refine hK _ ?_; clear hK K)
      refine wpSched_nil ?_
      have HN := Lib.hid (show ((ivs (scoresL A B lo hi m (rs.take k))).length + 1) * 8 ≤ 140737488355328 ∧ (ivs (scoresL A B lo hi m (rs.take k))).length + 1 ≤ maxLen by rw [ivs_length, HLn.out]; simp only [maxLen]; omega)
      have hsz2 := hbn.size
      generalize scoresL A B lo hi m (rs.take k) = cur at *
      clear g0 g1 g2 g3 g4 g5 g6 g7 g8 p0 p1 p2
      go_wp2_with (at_builtin; go_must (refine wpList_app1 rfl _ _ 48 rfl w1.heap.size 3 (.int .i64 0) 8 Try.underlying48 infoInt rfl u7 (ivs cur) rfl (.int .i64 sc) rfl HO2.out rfl HN.out.1 HN.out.2 hsz2 fun v' w' h1 h2 => ?_))
      have hbm := hbn.trans (h2.below hsz2 HO2.out.lt)
      have HO3 := Lib.hid (show Owns w' w1.heap.size 3 v' (ivs (scoresL A B lo hi m (rs.take (k + 1)))) by rw [HSn.out, ivs_append]; exact h1)
      clear h1 h2
      go_wp2_with fail
      go_roundw
      case rel => exact ⟨k + 1, by omega, by go_num, HO3, hbm⟩
      case measure => simp [intOf]; omega
    · obtain rfl : k = len := by omega
      obtain ⟨a2, n2, c2, rfl, hI⟩ := HOk.out.ints
      rw [List.take_of_length_le (by rw [HRl.out]; omega)] at hI
      obtain rfl : k = n2 := by have := hI.1; rw [scoresL_length, HRl.out] at this; exact this
      have HI := Lib.hid hI
      clear HOk hI
      go_wp2_with fail
      go_ret2
      exact ⟨_, _, rfl, HI.out, hb0r⟩

set_option maxHeartbeats 4000000 in
theorem rreach_any (v : Value) (A B : Rat) (lo hi m s : Int) (rs : List Rat) (a : Option Addr) (len cap L : Nat) (w : World) (hv : LinV w v A B lo hi m L) (hr : Rats w a len cap rs L) (hL : 1 ≤ L) (hm : (6 * L + 12) * 4 ≤ 140737488355328) (ho : validE A lo hi m = 0) (hlen : len ≤ 61) :
    Calls Try.prog 22 #[v, .slice a len cap, .int .i64 s] w fun e w' => e = .returned (.tuple #[.int .i64 (reachI rs (scoresL A B lo hi m rs) s), .int .i64 (reachE rs (scoresL A B lo hi m rs) s)]) ∧ Below w.heap.size w w' := by
  have HV := Lib.hid hv
  have HRs := Lib.hid hr
  have HRl := Lib.hid hr.1
  have HSl := Lib.hid (show (scoresL A B lo hi m rs).length = len by rw [scoresL_length, hr.1])
  obtain ⟨na, aa', la', ca', aa, la, ca, nb, ab', lb', cb', ab, lb, cb, rfl, -, -⟩ := hv
  have hb0 : Below w.heap.size w (w.alloc (.cells #[.bool na, .slice aa' la' ca', .slice aa la ca, .bool nb, .slice ab' lb' cb', .slice ab lb cb, .int .i64 lo, .int .i64 hi, .int .i64 m] 29)) := (Below.refl _ _).alloc (Nat.le_refl _) _
  have HT := Lib.hid (rtable_any _ A B lo hi m rs a len cap L _ (HV.out.below hb0) (HRs.out.below hb0) hL hm ho hlen)
  clear ho hr
  go_enter Try.func22, Try.ntmps22
  go_wp2_with fail
  refine HT.out.mono ?_
  rintro e w1 ⟨a2, c2, rfl, hI, hb1⟩
  have hb01 := hb0.trans (hb1.mono (by simp))
  have HI := Lib.hid hI
  have HR1 := Lib.hid (HRs.out.below hb01)
  clear hI hb1 HT
  generalize hsl : scoresL A B lo hi m rs = sl at *
  have HSle := Lib.hid hsl
  clear hsl
  go_wp2_with fail
  go_loopw [10] (fun i wr => ∃ k : Nat, 1 ≤ k ∧ (k ≤ len ∨ k = 1) ∧ i = .int .i64 k ∧ Hid (∀ j, 1 ≤ j → j < k → rs.getD (j - 1) 0 ≤ rs.getD j 0) ∧ Below w1.heap.size w1 wr) (fun i _ => len - (intOf i).toNat)
  case atStart => exact ⟨1, by omega, by omega, rfl, Lib.hid (fun j h1 h2 => by omega), Below.refl _ _⟩
  case round =>
    obtain ⟨k, hk1, hk2, rfl, HG, hb⟩ := hrel
    have hb0r := hb01.trans (hb.mono hb01.size)
    by_cases hlt : k < len
    · obtain ⟨bb, off, rfl, hbs, hcc⟩ := HR1.out.at hlt
      obtain ⟨n, x', l', c', x, l, c, e0, e1, e2, hX⟩ := (hcc k hlt).below hbs hb
      obtain ⟨n2, y', p', d', y, p, d, u0, u1, u2, hY⟩ := (hcc (k - 1) (by omega)).below hbs hb
      have HX := Lib.hid hX
      have HY := Lib.hid hY
      have HBad := Lib.hid (show rs.getD k 0 < rs.getD (k - 1) 0 → ¬ Rises rs from fun h1 h2 => by
        have := h2 k hk1 (by rw [HRl.out]; exact hlt)
        exact Rat.not_le.2 h1 this)
      generalize hrk : rs.getD k 0 = rk at *
      generalize hrj : rs.getD (k - 1) 0 = rj at *
      have HRk := Lib.hid hrk
      have HRj := Lib.hid hrj
      clear hrk hrj
      obtain ⟨j, hkj⟩ : ∃ j, k - 1 = j := ⟨_, rfl⟩
      rw [hkj] at u0 u1 u2
      have hjl : j < len := by omega
      have hsub : (k : Int) - 1 = (j : Int) := by omega
      have hwj : IntKind.i64.wrap (j : Int) = (j : Int) := IntWalk.i64_in _ (by omega)
      clear hkj
      have hbe : bb < wr.heap.size := Nat.lt_of_lt_of_le hbs hb.size
      have g0 := box_ext (B := wr.heap.size) e0 hbe
      have g1 := box_ext (B := wr.heap.size) e1 hbe
      have g2 := box_ext (B := wr.heap.size) e2 hbe
      have p0 := box_ext (B := wr.heap.size) u0 hbe
      have p1 := box_ext (B := wr.heap.size) u1 hbe
      have p2 := box_ext (B := wr.heap.size) u2 hbe
      clear hcc hX hY e0 e1 e2 u0 u1 u2
      go_wp2_with fail
      refine wp_region_sched [(0, false), (1, false), (2, false), (3, false), (4, false), (5, false), (6, false), (7, false), (8, false), (9, true), (10, false)] (fun w' => ∃ W : Ext wr.heap.size wr, w' = W.1) (by kernel_rfl) (by kernel_rfl) ⟨⟨wr.drew, (Below.refl _ _).drew⟩, rfl⟩ ?_
      repeat (refine wpSched_calm rfl (fun K hK => ?_); go_simp; refine hK _ ?_; clear hK K)
      refine wpSched_eff rfl rfl (fun K hK => ?_)
      go_simp
      refine (kcmp_any _ _ rk rj L L _ (HX.out.below (Below.refl _ _).drew) (HY.out.below (Below.refl _ _).drew) hL hL (by omega)).mono ?_
      rintro e w2 ⟨rfl, hb2⟩
      have hM := ((Below.refl wr.heap.size wr).drew).trans (hb2.mono (by simp))
      have hbn := hb.trans (hM.mono hb.size)
      refine hK _ _ ⟨⟨w2, hM⟩, rfl⟩ ?_
      clear hK K hb2
      have HC := Lib.hid (cmpI_lt' (r := rk) (s := rj))
      generalize rcmpI rk rj = cc at *
      repeat (refine wpSched_calm rfl (fun K hK => ?_); go_simp; refine hK _ ?_; clear hK K)
      refine wpSched_nil ?_
      by_cases hc : cc < 0
      · have HN := Lib.hid (reach_bad (l := sl) (s := s) (HBad.out (HC.out.1 hc)))
        go_wp2_with fail
        go_ret2
        refine ⟨?_, hb01.trans (hbn.mono hb01.size)⟩
        rw [HSle.out, HN.out.1, HN.out.2]; rfl
      · have HG2 := Lib.hid (show ∀ j', 1 ≤ j' → j' < k + 1 → rs.getD (j' - 1) 0 ≤ rs.getD j' 0 from fun j' h1 h2 => by
          by_cases hj : j' < k
          · exact HG.out j' h1 hj
          · obtain rfl : j' = k := by omega
            rw [HRk.out, HRj.out]; exact Rat.not_lt.1 (fun h => hc (HC.out.2 h)))
        go_wp2_with fail
        go_roundw
        case rel => exact ⟨k + 1, by omega, by omega, by go_num, HG2, hbn⟩
        case measure => simp [intOf]; omega
    · have HRi := Lib.hid (show Rises rs from fun j h1 h2 => HG.out j h1 (by rw [HRl.out] at h2; omega))
      clear HG
      go_wp2_with fail
      have HI2 := Lib.hid (HI.out.below hb)
      clear HI
      have hb0r' := hb0r
      clear hlt hk1 hk2 hb hb01 HR1 hb0r
      go_loopw [11] (fun i wq => ∃ k : Nat, k ≤ len ∧ i = .int .i64 k ∧ Hid (∀ j, j < k → ¬ s ≤ sl.getD j 0) ∧ wr = wq) (fun i _ => len - (intOf i).toNat)
      case atStart => exact ⟨0, by omega, rfl, Lib.hid (fun j h => by omega), rfl⟩
      case round =>
        obtain ⟨k2, hk2, rfl, HG, rfl⟩ := hrel
        by_cases hlt : k2 < len
        · obtain ⟨bb, off, rfl, hbs, hcc⟩ := HI2.out.2.at hlt
          have e0 := hcc k2 hlt _ (Below.refl _ _)
          generalize hv : sl.getD k2 0 = v at *
          have HV2 := Lib.hid hv
          clear hcc hv
          by_cases hs : s ≤ v
          · have HN := Lib.hid (reach_found (s := s) HRi.out (fI_at (k := k2) (by rw [HSl.out]; exact hlt) (by rw [HV2.out]; exact hs) HG.out) (by rw [HSl.out]; exact hlt))
            go_wp2_with fail
            go_ret2
            refine ⟨?_, hb0r'⟩
            rw [HSle.out, HN.out.1, HN.out.2]; rfl
          · have HG2 := Lib.hid (show ∀ j', j' < k2 + 1 → ¬ s ≤ sl.getD j' 0 from fun j' h2 => by
              by_cases hj : j' < k2
              · exact HG.out j' hj
              · obtain rfl : j' = k2 := by omega
                rw [HV2.out]; exact hs)
            go_wp2_with fail
            go_roundw
            case rel => exact ⟨k2 + 1, by omega, by go_num, HG2, trivial⟩
            case measure => simp [intOf]; omega
        · have HN := Lib.hid (reach_none (s := s) HRi.out (fI_none (fun j hj => HG.out j (by rw [HSl.out] at hj; omega))))
          go_wp2_with fail
          go_ret2
          refine ⟨?_, hb0r'⟩
          rw [HSle.out, HN.out.1, HN.out.2]; rfl

set_option maxHeartbeats 2000000 in
theorem rreach_err (v : Value) (A B : Rat) (lo hi m s er : Int) (a : Option Addr) (len cap L : Nat) (w : World) (hv : LinV w v A B lo hi m L) (hT : ∀ w', Below w.heap.size w w' → Calls Try.prog 20 #[v, .slice a len cap] w' fun e w'' => e = .returned (.tuple #[.slice none 0 0, .int .i64 er]) ∧ Below w'.heap.size w' w'') (her : er ≠ 0) :
    Calls Try.prog 22 #[v, .slice a len cap, .int .i64 s] w fun e w' => e = .returned (.tuple #[.int .i64 0, .int .i64 er]) ∧ Below w.heap.size w w' := by
  obtain ⟨na, aa', la', ca', aa, la, ca, nb, ab', lb', cb', ab, lb, cb, rfl, -, -⟩ := hv
  have hb0 : Below w.heap.size w (w.alloc (.cells #[.bool na, .slice aa' la' ca', .slice aa la ca, .bool nb, .slice ab' lb' cb', .slice ab lb cb, .int .i64 lo, .int .i64 hi, .int .i64 m] 29)) := (Below.refl _ _).alloc (Nat.le_refl _) _
  have HT := Lib.hid (hT _ hb0)
  have hz : (er == 0) = false := by simpa using her
  clear hT
  go_enter Try.func22, Try.ntmps22
  go_wp2_with fail
  refine HT.out.mono ?_
  rintro e w1 ⟨rfl, hb1⟩
  have hb01 := hb0.trans (hb1.mono (by simp))
  clear HT
  go_wp2_with fail
  go_ret2
  exact ⟨rfl, hb01⟩

end Go.Proofs.Ytmahokhgdkdhkaa

namespace Go.Proofs.Ytmahokhgdkdhkaa
set_option maxRecDepth 100000
open Go.ChangeShapes Go.WideShapes Go.ChangeAt Go.RowKit

theorem rats_two {w : World} {b : Nat} {n n2 : Bool} {x' x y' y : Option Addr} {l' c' l c k' d' k d : Nat} {r s : Rat} {L : Nat} (hlt : b < w.heap.size) (h0 : w.cell? ⟨b, 0, none⟩ = some (.bool n)) (h1 : w.cell? ⟨b, 1, none⟩ = some (.slice x' l' c')) (h2 : w.cell? ⟨b, 2, none⟩ = some (.slice x l c)) (h3 : w.cell? ⟨b, 3, none⟩ = some (.bool n2)) (h4 : w.cell? ⟨b, 4, none⟩ = some (.slice y' k' d')) (h5 : w.cell? ⟨b, 5, none⟩ = some (.slice y k d))
    (hX : RatV w (.agg #[.bool n, .slice x' l' c', .slice x l c]) r L) (hY : RatV w (.agg #[.bool n2, .slice y' k' d', .slice y k d]) s L) : Rats w (some ⟨b, 0, none⟩) 2 2 [r, s] L :=
  ⟨rfl, Nat.le_refl _, by simp [maxLen], .inr ⟨b, 0, rfl, hlt, fun i hi => by
    match i, hi with
    | 0, _ => exact ⟨n, x', l', c', x, l, c, h0, h1, h2, hX⟩
    | 1, _ => exact ⟨n2, y', k', d', y, k, d, h3, h4, h5, hY⟩⟩⟩

set_option maxHeartbeats 4000000 in
theorem range_k (na : Bool) (aa' aa : Option Addr) (la' ca' la ca : Nat) (nb : Bool) (ab' ab : Option Addr) (lb' cb' lb cb : Nat) (lo hi m : Int) (nx : Bool) (ax' ax : Option Addr) (lx' cx' lx cx : Nat) (ny : Bool) (ay' ay : Option Addr) (ly' cy' ly cy : Nat) (A B x y : Rat) (L : Nat) (w : World) (hV : LinV w (.agg #[.bool na, .slice aa' la' ca', .slice aa la ca, .bool nb, .slice ab' lb' cb', .slice ab lb cb, .int .i64 lo, .int .i64 hi, .int .i64 m]) A B lo hi m L) (hX : RatV w (.agg #[.bool nx, .slice ax' lx' cx', .slice ax lx cx]) x L) (hY : RatV w (.agg #[.bool ny, .slice ay' ly' cy', .slice ay ly cy]) y L) (hL : 1 ≤ L) (hm : (3 * L + 5) * 4 ≤ 140737488355328) (ho : validE A lo hi m = 0) (hc : decide (0 < rcmpI x y) = false) :
    Calls Try.prog 16 #[.agg #[.bool na, .slice aa' la' ca', .slice aa la ca, .bool nb, .slice ab' lb' cb', .slice ab lb cb, .int .i64 lo, .int .i64 hi, .int .i64 m], .agg #[.bool nx, .slice ax' lx' cx', .slice ax lx cx, .bool ny, .slice ay' ly' cy', .slice ay ly cy]] w fun e w' => e = .returned (.tuple #[.int .i64 (scoreI A B lo hi m x), .int .i64 (scoreI A B lo hi m y), .int .i64 0]) ∧ Below w.heap.size w w' := by
  have HV := Lib.hid hV
  have HX := Lib.hid hX
  have HY := Lib.hid hY
  have HO := Lib.hid ho
  clear hV hX hY ho
  go_enter Try.func16, Try.ntmps16
  go_wp2_with fail
  have hbx : Below w.heap.size w ((w.alloc (.cells #[.bool na, .slice aa' la' ca', .slice aa la ca, .bool nb, .slice ab' lb' cb', .slice ab lb cb, .int .i64 lo, .int .i64 hi, .int .i64 m] 29)).alloc (.cells #[.bool nx, .slice ax' lx' cx', .slice ax lx cx, .bool ny, .slice ay' ly' cy', .slice ay ly cy] 42)) := (((Below.refl _ _).alloc (Nat.le_refl _) _).alloc (by simp) _)
  generalize hWW : ((w.alloc (.cells #[.bool na, .slice aa' la' ca', .slice aa la ca, .bool nb, .slice ab' lb' cb', .slice ab lb cb, .int .i64 lo, .int .i64 hi, .int .i64 m] 29)).alloc (.cells #[.bool nx, .slice ax' lx' cx', .slice ax lx cx, .bool ny, .slice ay' ly' cy', .slice ay ly cy] 42)) = w0 at *
  replace HV := Lib.hid (HV.out.below hbx)
  replace HX := Lib.hid (HX.out.below hbx)
  replace HY := Lib.hid (HY.out.below hbx)
  have cK0 : w0.cell? ⟨w.heap.size, 0, none⟩ = some (.bool na) := by subst hWW; go_simp
  have cK1 : w0.cell? ⟨w.heap.size, 1, none⟩ = some (.slice aa' la' ca') := by subst hWW; go_simp
  have cK2 : w0.cell? ⟨w.heap.size, 2, none⟩ = some (.slice aa la ca) := by subst hWW; go_simp
  have cK3 : w0.cell? ⟨w.heap.size, 3, none⟩ = some (.bool nb) := by subst hWW; go_simp
  have cK4 : w0.cell? ⟨w.heap.size, 4, none⟩ = some (.slice ab' lb' cb') := by subst hWW; go_simp
  have cK5 : w0.cell? ⟨w.heap.size, 5, none⟩ = some (.slice ab lb cb) := by subst hWW; go_simp
  have cK6 : w0.cell? ⟨w.heap.size, 6, none⟩ = some (.int .i64 lo) := by subst hWW; go_simp
  have cK7 : w0.cell? ⟨w.heap.size, 7, none⟩ = some (.int .i64 hi) := by subst hWW; go_simp
  have cK8 : w0.cell? ⟨w.heap.size, 8, none⟩ = some (.int .i64 m) := by subst hWW; go_simp
  have ltK : w.heap.size < w0.heap.size := by subst hWW; simp <;> omega
  have cS0 : w0.cell? ⟨w.heap.size + 1, 0, none⟩ = some (.bool nx) := by subst hWW; go_simp
  have cS1 : w0.cell? ⟨w.heap.size + 1, 1, none⟩ = some (.slice ax' lx' cx') := by subst hWW; go_simp
  have cS2 : w0.cell? ⟨w.heap.size + 1, 2, none⟩ = some (.slice ax lx cx) := by subst hWW; go_simp
  have cS3 : w0.cell? ⟨w.heap.size + 1, 3, none⟩ = some (.bool ny) := by subst hWW; go_simp
  have cS4 : w0.cell? ⟨w.heap.size + 1, 4, none⟩ = some (.slice ay' ly' cy') := by subst hWW; go_simp
  have cS5 : w0.cell? ⟨w.heap.size + 1, 5, none⟩ = some (.slice ay ly cy) := by subst hWW; go_simp
  have ltS : w.heap.size + 1 < w0.heap.size := by subst hWW; simp
  have hB := hbx
  clear hbx hWW
  have SCK0 := Lib.hid cK0
  have SCK1 := Lib.hid cK1
  have SCK2 := Lib.hid cK2
  have SCK3 := Lib.hid cK3
  have SCK4 := Lib.hid cK4
  have SCK5 := Lib.hid cK5
  have SCK6 := Lib.hid cK6
  have SCK7 := Lib.hid cK7
  have SCK8 := Lib.hid cK8
  have SLK := Lib.hid ltK
  have SCS0 := Lib.hid cS0
  have SCS1 := Lib.hid cS1
  have SCS2 := Lib.hid cS2
  have SCS3 := Lib.hid cS3
  have SCS4 := Lib.hid cS4
  have SCS5 := Lib.hid cS5
  have SLS := Lib.hid ltS
  have SHV := Lib.hid HV.out
  have SHX := Lib.hid HX.out
  have SHY := Lib.hid HY.out
  have SB := Lib.hid hB
  have eK0 := box_ext (B := w0.heap.size) cK0 ltK
  have eK1 := box_ext (B := w0.heap.size) cK1 ltK
  have eK2 := box_ext (B := w0.heap.size) cK2 ltK
  have eK3 := box_ext (B := w0.heap.size) cK3 ltK
  have eK4 := box_ext (B := w0.heap.size) cK4 ltK
  have eK5 := box_ext (B := w0.heap.size) cK5 ltK
  have eK6 := box_ext (B := w0.heap.size) cK6 ltK
  have eK7 := box_ext (B := w0.heap.size) cK7 ltK
  have eK8 := box_ext (B := w0.heap.size) cK8 ltK
  have eS0 := box_ext (B := w0.heap.size) cS0 ltS
  have eS1 := box_ext (B := w0.heap.size) cS1 ltS
  have eS2 := box_ext (B := w0.heap.size) cS2 ltS
  have eS3 := box_ext (B := w0.heap.size) cS3 ltS
  have eS4 := box_ext (B := w0.heap.size) cS4 ltS
  have eS5 := box_ext (B := w0.heap.size) cS5 ltS
  refine wp_region_float2 4 5 [(0, false), (1, false), (2, false), (3, false)] [(6, true), (7, true)] (fun w' => ∃ W : Ext w0.heap.size w0, w' = W.1) _ _ 7 8 (.cells #[.bool false, .slice none 0 0, .slice none 0 0] 27) (.cells #[.bool false, .slice none 0 0, .slice none 0 0] 27) w0.heap.size (by kernel_rfl) rfl rfl rfl rfl rfl rfl (fun a w => by simp [execOp, go_sem, ptr]) (fun a w => by simp [execOp, go_sem, ptr]) (fun w ⟨W, e⟩ => e ▸ W.2.size) (fun w ⟨W, e⟩ => ⟨⟨_, (e ▸ W.2).alloc (e ▸ W.2.size) _⟩, rfl⟩) (fun w ⟨W, e⟩ => ⟨⟨_, (e ▸ W.2).alloc (e ▸ W.2.size) _⟩, rfl⟩) (by decide) (by kernel_rfl) ⟨⟨w0.drew, (Below.refl _ _).drew⟩, rfl⟩ ?_
  repeat (refine wpFl2_calm rfl (fun K hK => ?_); go_simp; refine hK _ ?_; clear hK K)
  clear eK0 eK1 eK2 eK3 eK4 eK5 eK6 eK7 eK8 eS0 eS1 eS2 eS3 eS4 eS5
  have hbx : Below w0.heap.size w0 w0.drew := (Below.refl _ _).drew
  have hM := hbx
  replace cK0 := bc hbx ltK cK0
  replace cK1 := bc hbx ltK cK1
  replace cK2 := bc hbx ltK cK2
  replace cK3 := bc hbx ltK cK3
  replace cK4 := bc hbx ltK cK4
  replace cK5 := bc hbx ltK cK5
  replace cK6 := bc hbx ltK cK6
  replace cK7 := bc hbx ltK cK7
  replace cK8 := bc hbx ltK cK8
  replace ltK := bl hbx ltK
  replace cS0 := bc hbx ltS cS0
  replace cS1 := bc hbx ltS cS1
  replace cS2 := bc hbx ltS cS2
  replace cS3 := bc hbx ltS cS3
  replace cS4 := bc hbx ltS cS4
  replace cS5 := bc hbx ltS cS5
  replace ltS := bl hbx ltS
  replace HV := Lib.hid (HV.out.below hbx)
  replace HX := Lib.hid (HX.out.below hbx)
  replace HY := Lib.hid (HY.out.below hbx)
  replace hB := hB.trans (hbx.mono hB.size)
  clear hbx
  generalize w0.drew = ww0d at *
  refine wpFl2_nil fun gP gQ wy hC hg hBk hBk2 hge hge2 hgn => ?_
  obtain ⟨⟨wz, hE⟩, hwe⟩ := hC
  change wy = wz at hwe
  subst hwe
  replace cK0 := bc hg ltK cK0
  replace cK1 := bc hg ltK cK1
  replace cK2 := bc hg ltK cK2
  replace cK3 := bc hg ltK cK3
  replace cK4 := bc hg ltK cK4
  replace cK5 := bc hg ltK cK5
  replace cK6 := bc hg ltK cK6
  replace cK7 := bc hg ltK cK7
  replace cK8 := bc hg ltK cK8
  replace ltK := bl hg ltK
  replace cS0 := bc hg ltS cS0
  replace cS1 := bc hg ltS cS1
  replace cS2 := bc hg ltS cS2
  replace cS3 := bc hg ltS cS3
  replace cS4 := bc hg ltS cS4
  replace cS5 := bc hg ltS cS5
  replace ltS := bl hg ltS
  replace HV := Lib.hid (HV.out.below hg)
  replace HX := Lib.hid (HX.out.below hg)
  replace HY := Lib.hid (HY.out.below hg)
  replace hB := hB.trans (hg.mono hB.size)
  replace hM := hE
  clear hE hg
  have z0 := blk_cell hBk 0
  have y0 := blk_free hBk 0
  have z1 := blk_cell hBk 1
  have y1 := blk_free hBk 1
  have z2 := blk_cell hBk 2
  have y2 := blk_free hBk 2
  have v0 := blk_cell hBk2 0
  have u0 := blk_free hBk2 0
  have v1 := blk_cell hBk2 1
  have u1 := blk_free hBk2 1
  have v2 := blk_cell hBk2 2
  have u2 := blk_free hBk2 2
  simp at z0 z1 z2 v0 v1 v2
  have hgl := blk_lt hBk
  have hgl2 := blk_lt hBk2
  have hgn2 := Ne.symm hgn
  refine wpSched_eff rfl rfl (fun K hK => ?_)
  go_simp
  refine hK _ _ ⟨⟨_, (((hM.setCell (p := ⟨gP, 0, none⟩) hge _).setCell (p := ⟨gP, 1, none⟩) hge _).setCell (p := ⟨gP, 2, none⟩) hge _)⟩, rfl⟩ ?_
  clear hK K
  refine wpSched_eff rfl rfl (fun K hK => ?_)
  go_simp
  refine hK _ _ ⟨⟨_, ((((((hM.setCell (p := ⟨gP, 0, none⟩) hge _).setCell (p := ⟨gP, 1, none⟩) hge _).setCell (p := ⟨gP, 2, none⟩) hge _).setCell (p := ⟨gQ, 0, none⟩) hge2 _).setCell (p := ⟨gQ, 1, none⟩) hge2 _).setCell (p := ⟨gQ, 2, none⟩) hge2 _)⟩, rfl⟩ ?_
  clear hK K
  refine wpSched_nil ?_
  have hMn := ((((((hM.setCell (p := ⟨gP, 0, none⟩) hge (.bool nx)).setCell (p := ⟨gP, 1, none⟩) hge (.slice ax' lx' cx')).setCell (p := ⟨gP, 2, none⟩) hge (.slice ax lx cx)).setCell (p := ⟨gQ, 0, none⟩) hge2 (.bool ny)).setCell (p := ⟨gQ, 1, none⟩) hge2 (.slice ay' ly' cy')).setCell (p := ⟨gQ, 2, none⟩) hge2 (.slice ay ly cy))
  replace cK0 := bc hMn SLK.out SCK0.out
  replace cK1 := bc hMn SLK.out SCK1.out
  replace cK2 := bc hMn SLK.out SCK2.out
  replace cK3 := bc hMn SLK.out SCK3.out
  replace cK4 := bc hMn SLK.out SCK4.out
  replace cK5 := bc hMn SLK.out SCK5.out
  replace cK6 := bc hMn SLK.out SCK6.out
  replace cK7 := bc hMn SLK.out SCK7.out
  replace cK8 := bc hMn SLK.out SCK8.out
  replace ltK := bl hMn SLK.out
  replace cS0 := bc hMn SLS.out SCS0.out
  replace cS1 := bc hMn SLS.out SCS1.out
  replace cS2 := bc hMn SLS.out SCS2.out
  replace cS3 := bc hMn SLS.out SCS3.out
  replace cS4 := bc hMn SLS.out SCS4.out
  replace cS5 := bc hMn SLS.out SCS5.out
  replace ltS := bl hMn SLS.out
  replace HV := Lib.hid (SHV.out.below hMn)
  replace HX := Lib.hid (SHX.out.below hMn)
  replace HY := Lib.hid (SHY.out.below hMn)
  replace hB := SB.out.trans (hMn.mono SB.out.size)
  have cP0 : ((((((wy.setCell ⟨gP, 0, none⟩ (.bool nx)).setCell ⟨gP, 1, none⟩ (.slice ax' lx' cx')).setCell ⟨gP, 2, none⟩ (.slice ax lx cx)).setCell ⟨gQ, 0, none⟩ (.bool ny)).setCell ⟨gQ, 1, none⟩ (.slice ay' ly' cy')).setCell ⟨gQ, 2, none⟩ (.slice ay ly cy)).cell? ⟨gP, 0, none⟩ = some (.bool nx) := by go_simp
  have fP0 : ((((((wy.setCell ⟨gP, 0, none⟩ (.bool nx)).setCell ⟨gP, 1, none⟩ (.slice ax' lx' cx')).setCell ⟨gP, 2, none⟩ (.slice ax lx cx)).setCell ⟨gQ, 0, none⟩ (.bool ny)).setCell ⟨gQ, 1, none⟩ (.slice ay' ly' cy')).setCell ⟨gQ, 2, none⟩ (.slice ay ly cy)).frozen? ⟨gP, 0, none⟩ = false := by go_simp
  have cP1 : ((((((wy.setCell ⟨gP, 0, none⟩ (.bool nx)).setCell ⟨gP, 1, none⟩ (.slice ax' lx' cx')).setCell ⟨gP, 2, none⟩ (.slice ax lx cx)).setCell ⟨gQ, 0, none⟩ (.bool ny)).setCell ⟨gQ, 1, none⟩ (.slice ay' ly' cy')).setCell ⟨gQ, 2, none⟩ (.slice ay ly cy)).cell? ⟨gP, 1, none⟩ = some (.slice ax' lx' cx') := by go_simp
  have fP1 : ((((((wy.setCell ⟨gP, 0, none⟩ (.bool nx)).setCell ⟨gP, 1, none⟩ (.slice ax' lx' cx')).setCell ⟨gP, 2, none⟩ (.slice ax lx cx)).setCell ⟨gQ, 0, none⟩ (.bool ny)).setCell ⟨gQ, 1, none⟩ (.slice ay' ly' cy')).setCell ⟨gQ, 2, none⟩ (.slice ay ly cy)).frozen? ⟨gP, 1, none⟩ = false := by go_simp
  have cP2 : ((((((wy.setCell ⟨gP, 0, none⟩ (.bool nx)).setCell ⟨gP, 1, none⟩ (.slice ax' lx' cx')).setCell ⟨gP, 2, none⟩ (.slice ax lx cx)).setCell ⟨gQ, 0, none⟩ (.bool ny)).setCell ⟨gQ, 1, none⟩ (.slice ay' ly' cy')).setCell ⟨gQ, 2, none⟩ (.slice ay ly cy)).cell? ⟨gP, 2, none⟩ = some (.slice ax lx cx) := by go_simp
  have fP2 : ((((((wy.setCell ⟨gP, 0, none⟩ (.bool nx)).setCell ⟨gP, 1, none⟩ (.slice ax' lx' cx')).setCell ⟨gP, 2, none⟩ (.slice ax lx cx)).setCell ⟨gQ, 0, none⟩ (.bool ny)).setCell ⟨gQ, 1, none⟩ (.slice ay' ly' cy')).setCell ⟨gQ, 2, none⟩ (.slice ay ly cy)).frozen? ⟨gP, 2, none⟩ = false := by go_simp
  have ltP : gP < ((((((wy.setCell ⟨gP, 0, none⟩ (.bool nx)).setCell ⟨gP, 1, none⟩ (.slice ax' lx' cx')).setCell ⟨gP, 2, none⟩ (.slice ax lx cx)).setCell ⟨gQ, 0, none⟩ (.bool ny)).setCell ⟨gQ, 1, none⟩ (.slice ay' ly' cy')).setCell ⟨gQ, 2, none⟩ (.slice ay ly cy)).heap.size := by simpa using hgl
  have cQ0 : ((((((wy.setCell ⟨gP, 0, none⟩ (.bool nx)).setCell ⟨gP, 1, none⟩ (.slice ax' lx' cx')).setCell ⟨gP, 2, none⟩ (.slice ax lx cx)).setCell ⟨gQ, 0, none⟩ (.bool ny)).setCell ⟨gQ, 1, none⟩ (.slice ay' ly' cy')).setCell ⟨gQ, 2, none⟩ (.slice ay ly cy)).cell? ⟨gQ, 0, none⟩ = some (.bool ny) := by go_simp
  have fQ0 : ((((((wy.setCell ⟨gP, 0, none⟩ (.bool nx)).setCell ⟨gP, 1, none⟩ (.slice ax' lx' cx')).setCell ⟨gP, 2, none⟩ (.slice ax lx cx)).setCell ⟨gQ, 0, none⟩ (.bool ny)).setCell ⟨gQ, 1, none⟩ (.slice ay' ly' cy')).setCell ⟨gQ, 2, none⟩ (.slice ay ly cy)).frozen? ⟨gQ, 0, none⟩ = false := by go_simp
  have cQ1 : ((((((wy.setCell ⟨gP, 0, none⟩ (.bool nx)).setCell ⟨gP, 1, none⟩ (.slice ax' lx' cx')).setCell ⟨gP, 2, none⟩ (.slice ax lx cx)).setCell ⟨gQ, 0, none⟩ (.bool ny)).setCell ⟨gQ, 1, none⟩ (.slice ay' ly' cy')).setCell ⟨gQ, 2, none⟩ (.slice ay ly cy)).cell? ⟨gQ, 1, none⟩ = some (.slice ay' ly' cy') := by go_simp
  have fQ1 : ((((((wy.setCell ⟨gP, 0, none⟩ (.bool nx)).setCell ⟨gP, 1, none⟩ (.slice ax' lx' cx')).setCell ⟨gP, 2, none⟩ (.slice ax lx cx)).setCell ⟨gQ, 0, none⟩ (.bool ny)).setCell ⟨gQ, 1, none⟩ (.slice ay' ly' cy')).setCell ⟨gQ, 2, none⟩ (.slice ay ly cy)).frozen? ⟨gQ, 1, none⟩ = false := by go_simp
  have cQ2 : ((((((wy.setCell ⟨gP, 0, none⟩ (.bool nx)).setCell ⟨gP, 1, none⟩ (.slice ax' lx' cx')).setCell ⟨gP, 2, none⟩ (.slice ax lx cx)).setCell ⟨gQ, 0, none⟩ (.bool ny)).setCell ⟨gQ, 1, none⟩ (.slice ay' ly' cy')).setCell ⟨gQ, 2, none⟩ (.slice ay ly cy)).cell? ⟨gQ, 2, none⟩ = some (.slice ay ly cy) := by go_simp
  have fQ2 : ((((((wy.setCell ⟨gP, 0, none⟩ (.bool nx)).setCell ⟨gP, 1, none⟩ (.slice ax' lx' cx')).setCell ⟨gP, 2, none⟩ (.slice ax lx cx)).setCell ⟨gQ, 0, none⟩ (.bool ny)).setCell ⟨gQ, 1, none⟩ (.slice ay' ly' cy')).setCell ⟨gQ, 2, none⟩ (.slice ay ly cy)).frozen? ⟨gQ, 2, none⟩ = false := by go_simp
  have ltQ : gQ < ((((((wy.setCell ⟨gP, 0, none⟩ (.bool nx)).setCell ⟨gP, 1, none⟩ (.slice ax' lx' cx')).setCell ⟨gP, 2, none⟩ (.slice ax lx cx)).setCell ⟨gQ, 0, none⟩ (.bool ny)).setCell ⟨gQ, 1, none⟩ (.slice ay' ly' cy')).setCell ⟨gQ, 2, none⟩ (.slice ay ly cy)).heap.size := by simpa using hgl2
  have nePK : w.heap.size < gP := Nat.lt_of_lt_of_le SLK.out hge
  have neQK : w.heap.size < gQ := Nat.lt_of_lt_of_le SLK.out hge2
  have nePS : w.heap.size + 1 < gP := Nat.lt_of_lt_of_le SLS.out hge
  have neQS : w.heap.size + 1 < gQ := Nat.lt_of_lt_of_le SLS.out hge2
  have hP := hMn
  clear hMn hM hBk hBk2 hgl hgl2 z0 y0 z1 y1 z2 y2 v0 u0 v1 u1 v2 u2
  go_wp2_with fail
  generalize ((((((wy.setCell ⟨gP, 0, none⟩ (.bool nx)).setCell ⟨gP, 1, none⟩ (.slice ax' lx' cx')).setCell ⟨gP, 2, none⟩ (.slice ax lx cx)).setCell ⟨gQ, 0, none⟩ (.bool ny)).setCell ⟨gQ, 1, none⟩ (.slice ay' ly' cy')).setCell ⟨gQ, 2, none⟩ (.slice ay ly cy)) = w1 at *
  refine (qcmp_any _ _ x y L L _ HX.out HY.out hL hL (by omega)).mono ?_
  rintro e w2 ⟨rfl, hb⟩
  replace cK0 := bc hb ltK cK0
  replace cK1 := bc hb ltK cK1
  replace cK2 := bc hb ltK cK2
  replace cK3 := bc hb ltK cK3
  replace cK4 := bc hb ltK cK4
  replace cK5 := bc hb ltK cK5
  replace cK6 := bc hb ltK cK6
  replace cK7 := bc hb ltK cK7
  replace cK8 := bc hb ltK cK8
  replace ltK := bl hb ltK
  replace cS0 := bc hb ltS cS0
  replace cS1 := bc hb ltS cS1
  replace cS2 := bc hb ltS cS2
  replace cS3 := bc hb ltS cS3
  replace cS4 := bc hb ltS cS4
  replace cS5 := bc hb ltS cS5
  replace ltS := bl hb ltS
  replace cP0 := bc hb ltP cP0
  replace fP0 := bf hb ltP fP0
  replace cP1 := bc hb ltP cP1
  replace fP1 := bf hb ltP fP1
  replace cP2 := bc hb ltP cP2
  replace fP2 := bf hb ltP fP2
  replace ltP := bl hb ltP
  replace cQ0 := bc hb ltQ cQ0
  replace fQ0 := bf hb ltQ fQ0
  replace cQ1 := bc hb ltQ cQ1
  replace fQ1 := bf hb ltQ fQ1
  replace cQ2 := bc hb ltQ cQ2
  replace fQ2 := bf hb ltQ fQ2
  replace ltQ := bl hb ltQ
  replace HV := Lib.hid (HV.out.below hb)
  replace HX := Lib.hid (HX.out.below hb)
  replace HY := Lib.hid (HY.out.below hb)
  replace hB := hB.trans (hb.mono hB.size)
  replace hP := hP.trans (hb.mono hP.size)
  generalize rcmpI x y = cc at *
  clear hb
  go_wp2_with fail
  have hMn := (hP.alloc (by simpa using hP.size) (.cells #[.bool nx, .slice ax' lx' cx', .slice ax lx cx, .bool ny, .slice ay' ly' cy', .slice ay ly cy] 27))
  generalize hWW : (w2.alloc (.cells #[.bool nx, .slice ax' lx' cx', .slice ax lx cx, .bool ny, .slice ay' ly' cy', .slice ay ly cy] 27)) = w3 at *
  replace HV := Lib.hid (SHV.out.below hMn)
  replace HX := Lib.hid (SHX.out.below hMn)
  replace HY := Lib.hid (SHY.out.below hMn)
  replace hB := SB.out.trans (hMn.mono SB.out.size)
  have cZ0 : w3.cell? ⟨w2.heap.size, 0, none⟩ = some (.bool nx) := by subst hWW; go_simp
  have cZ1 : w3.cell? ⟨w2.heap.size, 1, none⟩ = some (.slice ax' lx' cx') := by subst hWW; go_simp
  have cZ2 : w3.cell? ⟨w2.heap.size, 2, none⟩ = some (.slice ax lx cx) := by subst hWW; go_simp
  have cZ3 : w3.cell? ⟨w2.heap.size, 3, none⟩ = some (.bool ny) := by subst hWW; go_simp
  have cZ4 : w3.cell? ⟨w2.heap.size, 4, none⟩ = some (.slice ay' ly' cy') := by subst hWW; go_simp
  have cZ5 : w3.cell? ⟨w2.heap.size, 5, none⟩ = some (.slice ay ly cy) := by subst hWW; go_simp
  have ltZ : w2.heap.size < w3.heap.size := by subst hWW; simp
  have HRs := Lib.hid (rats_two ltZ cZ0 cZ1 cZ2 cZ3 cZ4 cZ5 HX.out HY.out)
  clear hMn hP cZ0 cZ1 cZ2 cZ3 cZ4 cZ5 ltZ hWW
  refine (table_any _ A B lo hi m [x, y] _ _ _ L _ HV.out HRs.out hL hm HO.out (by omega)).mono ?_
  rintro e w4 ⟨a2, c2, rfl, hI, hb⟩
  replace hB := hB.trans (hb.mono hB.size)
  obtain ⟨bb, off, rfl, hbs, hcc⟩ := hI.2.at (k := 0) (by omega)
  have e0 := hcc 0 (by omega) _ (Below.refl _ _)
  have e1 := hcc 1 (by omega) _ (Below.refl _ _)
  simp [scoresL] at e0 e1
  clear hcc hI hb
  go_wp2_with fail
  go_quiet (fail)
  go_wp2_with fail
  go_ret3
  exact ⟨rfl, below_drewN hB _⟩

set_option maxHeartbeats 4000000 in
theorem range_k_no (na : Bool) (aa' aa : Option Addr) (la' ca' la ca : Nat) (nb : Bool) (ab' ab : Option Addr) (lb' cb' lb cb : Nat) (lo hi m : Int) (nx : Bool) (ax' ax : Option Addr) (lx' cx' lx cx : Nat) (ny : Bool) (ay' ay : Option Addr) (ly' cy' ly cy : Nat) (A B x y : Rat) (L : Nat) (w : World) (hV : LinV w (.agg #[.bool na, .slice aa' la' ca', .slice aa la ca, .bool nb, .slice ab' lb' cb', .slice ab lb cb, .int .i64 lo, .int .i64 hi, .int .i64 m]) A B lo hi m L) (hX : RatV w (.agg #[.bool nx, .slice ax' lx' cx', .slice ax lx cx]) x L) (hY : RatV w (.agg #[.bool ny, .slice ay' ly' cy', .slice ay ly cy]) y L) (hL : 1 ≤ L) (hm : (3 * L + 5) * 4 ≤ 140737488355328) (ho : validE A lo hi m ≠ 0) (hc : decide (0 < rcmpI x y) = false) :
    Calls Try.prog 16 #[.agg #[.bool na, .slice aa' la' ca', .slice aa la ca, .bool nb, .slice ab' lb' cb', .slice ab lb cb, .int .i64 lo, .int .i64 hi, .int .i64 m], .agg #[.bool nx, .slice ax' lx' cx', .slice ax lx cx, .bool ny, .slice ay' ly' cy', .slice ay ly cy]] w fun e w' => e = .returned (.tuple #[.int .i64 0, .int .i64 0, .int .i64 (validE A lo hi m)]) ∧ Below w.heap.size w w' := by
  have HV := Lib.hid hV
  have HX := Lib.hid hX
  have HY := Lib.hid hY
  have HO := Lib.hid ho
  clear hV hX hY ho
  go_enter Try.func16, Try.ntmps16
  go_wp2_with fail
  have hbx : Below w.heap.size w ((w.alloc (.cells #[.bool na, .slice aa' la' ca', .slice aa la ca, .bool nb, .slice ab' lb' cb', .slice ab lb cb, .int .i64 lo, .int .i64 hi, .int .i64 m] 29)).alloc (.cells #[.bool nx, .slice ax' lx' cx', .slice ax lx cx, .bool ny, .slice ay' ly' cy', .slice ay ly cy] 42)) := (((Below.refl _ _).alloc (Nat.le_refl _) _).alloc (by simp) _)
  generalize hWW : ((w.alloc (.cells #[.bool na, .slice aa' la' ca', .slice aa la ca, .bool nb, .slice ab' lb' cb', .slice ab lb cb, .int .i64 lo, .int .i64 hi, .int .i64 m] 29)).alloc (.cells #[.bool nx, .slice ax' lx' cx', .slice ax lx cx, .bool ny, .slice ay' ly' cy', .slice ay ly cy] 42)) = w0 at *
  replace HV := Lib.hid (HV.out.below hbx)
  replace HX := Lib.hid (HX.out.below hbx)
  replace HY := Lib.hid (HY.out.below hbx)
  have cK0 : w0.cell? ⟨w.heap.size, 0, none⟩ = some (.bool na) := by subst hWW; go_simp
  have cK1 : w0.cell? ⟨w.heap.size, 1, none⟩ = some (.slice aa' la' ca') := by subst hWW; go_simp
  have cK2 : w0.cell? ⟨w.heap.size, 2, none⟩ = some (.slice aa la ca) := by subst hWW; go_simp
  have cK3 : w0.cell? ⟨w.heap.size, 3, none⟩ = some (.bool nb) := by subst hWW; go_simp
  have cK4 : w0.cell? ⟨w.heap.size, 4, none⟩ = some (.slice ab' lb' cb') := by subst hWW; go_simp
  have cK5 : w0.cell? ⟨w.heap.size, 5, none⟩ = some (.slice ab lb cb) := by subst hWW; go_simp
  have cK6 : w0.cell? ⟨w.heap.size, 6, none⟩ = some (.int .i64 lo) := by subst hWW; go_simp
  have cK7 : w0.cell? ⟨w.heap.size, 7, none⟩ = some (.int .i64 hi) := by subst hWW; go_simp
  have cK8 : w0.cell? ⟨w.heap.size, 8, none⟩ = some (.int .i64 m) := by subst hWW; go_simp
  have ltK : w.heap.size < w0.heap.size := by subst hWW; simp <;> omega
  have cS0 : w0.cell? ⟨w.heap.size + 1, 0, none⟩ = some (.bool nx) := by subst hWW; go_simp
  have cS1 : w0.cell? ⟨w.heap.size + 1, 1, none⟩ = some (.slice ax' lx' cx') := by subst hWW; go_simp
  have cS2 : w0.cell? ⟨w.heap.size + 1, 2, none⟩ = some (.slice ax lx cx) := by subst hWW; go_simp
  have cS3 : w0.cell? ⟨w.heap.size + 1, 3, none⟩ = some (.bool ny) := by subst hWW; go_simp
  have cS4 : w0.cell? ⟨w.heap.size + 1, 4, none⟩ = some (.slice ay' ly' cy') := by subst hWW; go_simp
  have cS5 : w0.cell? ⟨w.heap.size + 1, 5, none⟩ = some (.slice ay ly cy) := by subst hWW; go_simp
  have ltS : w.heap.size + 1 < w0.heap.size := by subst hWW; simp
  have hB := hbx
  clear hbx hWW
  have SCK0 := Lib.hid cK0
  have SCK1 := Lib.hid cK1
  have SCK2 := Lib.hid cK2
  have SCK3 := Lib.hid cK3
  have SCK4 := Lib.hid cK4
  have SCK5 := Lib.hid cK5
  have SCK6 := Lib.hid cK6
  have SCK7 := Lib.hid cK7
  have SCK8 := Lib.hid cK8
  have SLK := Lib.hid ltK
  have SCS0 := Lib.hid cS0
  have SCS1 := Lib.hid cS1
  have SCS2 := Lib.hid cS2
  have SCS3 := Lib.hid cS3
  have SCS4 := Lib.hid cS4
  have SCS5 := Lib.hid cS5
  have SLS := Lib.hid ltS
  have SHV := Lib.hid HV.out
  have SHX := Lib.hid HX.out
  have SHY := Lib.hid HY.out
  have SB := Lib.hid hB
  have eK0 := box_ext (B := w0.heap.size) cK0 ltK
  have eK1 := box_ext (B := w0.heap.size) cK1 ltK
  have eK2 := box_ext (B := w0.heap.size) cK2 ltK
  have eK3 := box_ext (B := w0.heap.size) cK3 ltK
  have eK4 := box_ext (B := w0.heap.size) cK4 ltK
  have eK5 := box_ext (B := w0.heap.size) cK5 ltK
  have eK6 := box_ext (B := w0.heap.size) cK6 ltK
  have eK7 := box_ext (B := w0.heap.size) cK7 ltK
  have eK8 := box_ext (B := w0.heap.size) cK8 ltK
  have eS0 := box_ext (B := w0.heap.size) cS0 ltS
  have eS1 := box_ext (B := w0.heap.size) cS1 ltS
  have eS2 := box_ext (B := w0.heap.size) cS2 ltS
  have eS3 := box_ext (B := w0.heap.size) cS3 ltS
  have eS4 := box_ext (B := w0.heap.size) cS4 ltS
  have eS5 := box_ext (B := w0.heap.size) cS5 ltS
  refine wp_region_float2 4 5 [(0, false), (1, false), (2, false), (3, false)] [(6, true), (7, true)] (fun w' => ∃ W : Ext w0.heap.size w0, w' = W.1) _ _ 7 8 (.cells #[.bool false, .slice none 0 0, .slice none 0 0] 27) (.cells #[.bool false, .slice none 0 0, .slice none 0 0] 27) w0.heap.size (by kernel_rfl) rfl rfl rfl rfl rfl rfl (fun a w => by simp [execOp, go_sem, ptr]) (fun a w => by simp [execOp, go_sem, ptr]) (fun w ⟨W, e⟩ => e ▸ W.2.size) (fun w ⟨W, e⟩ => ⟨⟨_, (e ▸ W.2).alloc (e ▸ W.2.size) _⟩, rfl⟩) (fun w ⟨W, e⟩ => ⟨⟨_, (e ▸ W.2).alloc (e ▸ W.2.size) _⟩, rfl⟩) (by decide) (by kernel_rfl) ⟨⟨w0.drew, (Below.refl _ _).drew⟩, rfl⟩ ?_
  repeat (refine wpFl2_calm rfl (fun K hK => ?_); go_simp; refine hK _ ?_; clear hK K)
  clear eK0 eK1 eK2 eK3 eK4 eK5 eK6 eK7 eK8 eS0 eS1 eS2 eS3 eS4 eS5
  have hbx : Below w0.heap.size w0 w0.drew := (Below.refl _ _).drew
  have hM := hbx
  replace cK0 := bc hbx ltK cK0
  replace cK1 := bc hbx ltK cK1
  replace cK2 := bc hbx ltK cK2
  replace cK3 := bc hbx ltK cK3
  replace cK4 := bc hbx ltK cK4
  replace cK5 := bc hbx ltK cK5
  replace cK6 := bc hbx ltK cK6
  replace cK7 := bc hbx ltK cK7
  replace cK8 := bc hbx ltK cK8
  replace ltK := bl hbx ltK
  replace cS0 := bc hbx ltS cS0
  replace cS1 := bc hbx ltS cS1
  replace cS2 := bc hbx ltS cS2
  replace cS3 := bc hbx ltS cS3
  replace cS4 := bc hbx ltS cS4
  replace cS5 := bc hbx ltS cS5
  replace ltS := bl hbx ltS
  replace HV := Lib.hid (HV.out.below hbx)
  replace HX := Lib.hid (HX.out.below hbx)
  replace HY := Lib.hid (HY.out.below hbx)
  replace hB := hB.trans (hbx.mono hB.size)
  clear hbx
  generalize w0.drew = ww0d at *
  refine wpFl2_nil fun gP gQ wy hC hg hBk hBk2 hge hge2 hgn => ?_
  obtain ⟨⟨wz, hE⟩, hwe⟩ := hC
  change wy = wz at hwe
  subst hwe
  replace cK0 := bc hg ltK cK0
  replace cK1 := bc hg ltK cK1
  replace cK2 := bc hg ltK cK2
  replace cK3 := bc hg ltK cK3
  replace cK4 := bc hg ltK cK4
  replace cK5 := bc hg ltK cK5
  replace cK6 := bc hg ltK cK6
  replace cK7 := bc hg ltK cK7
  replace cK8 := bc hg ltK cK8
  replace ltK := bl hg ltK
  replace cS0 := bc hg ltS cS0
  replace cS1 := bc hg ltS cS1
  replace cS2 := bc hg ltS cS2
  replace cS3 := bc hg ltS cS3
  replace cS4 := bc hg ltS cS4
  replace cS5 := bc hg ltS cS5
  replace ltS := bl hg ltS
  replace HV := Lib.hid (HV.out.below hg)
  replace HX := Lib.hid (HX.out.below hg)
  replace HY := Lib.hid (HY.out.below hg)
  replace hB := hB.trans (hg.mono hB.size)
  replace hM := hE
  clear hE hg
  have z0 := blk_cell hBk 0
  have y0 := blk_free hBk 0
  have z1 := blk_cell hBk 1
  have y1 := blk_free hBk 1
  have z2 := blk_cell hBk 2
  have y2 := blk_free hBk 2
  have v0 := blk_cell hBk2 0
  have u0 := blk_free hBk2 0
  have v1 := blk_cell hBk2 1
  have u1 := blk_free hBk2 1
  have v2 := blk_cell hBk2 2
  have u2 := blk_free hBk2 2
  simp at z0 z1 z2 v0 v1 v2
  have hgl := blk_lt hBk
  have hgl2 := blk_lt hBk2
  have hgn2 := Ne.symm hgn
  refine wpSched_eff rfl rfl (fun K hK => ?_)
  go_simp
  refine hK _ _ ⟨⟨_, (((hM.setCell (p := ⟨gP, 0, none⟩) hge _).setCell (p := ⟨gP, 1, none⟩) hge _).setCell (p := ⟨gP, 2, none⟩) hge _)⟩, rfl⟩ ?_
  clear hK K
  refine wpSched_eff rfl rfl (fun K hK => ?_)
  go_simp
  refine hK _ _ ⟨⟨_, ((((((hM.setCell (p := ⟨gP, 0, none⟩) hge _).setCell (p := ⟨gP, 1, none⟩) hge _).setCell (p := ⟨gP, 2, none⟩) hge _).setCell (p := ⟨gQ, 0, none⟩) hge2 _).setCell (p := ⟨gQ, 1, none⟩) hge2 _).setCell (p := ⟨gQ, 2, none⟩) hge2 _)⟩, rfl⟩ ?_
  clear hK K
  refine wpSched_nil ?_
  have hMn := ((((((hM.setCell (p := ⟨gP, 0, none⟩) hge (.bool nx)).setCell (p := ⟨gP, 1, none⟩) hge (.slice ax' lx' cx')).setCell (p := ⟨gP, 2, none⟩) hge (.slice ax lx cx)).setCell (p := ⟨gQ, 0, none⟩) hge2 (.bool ny)).setCell (p := ⟨gQ, 1, none⟩) hge2 (.slice ay' ly' cy')).setCell (p := ⟨gQ, 2, none⟩) hge2 (.slice ay ly cy))
  replace cK0 := bc hMn SLK.out SCK0.out
  replace cK1 := bc hMn SLK.out SCK1.out
  replace cK2 := bc hMn SLK.out SCK2.out
  replace cK3 := bc hMn SLK.out SCK3.out
  replace cK4 := bc hMn SLK.out SCK4.out
  replace cK5 := bc hMn SLK.out SCK5.out
  replace cK6 := bc hMn SLK.out SCK6.out
  replace cK7 := bc hMn SLK.out SCK7.out
  replace cK8 := bc hMn SLK.out SCK8.out
  replace ltK := bl hMn SLK.out
  replace cS0 := bc hMn SLS.out SCS0.out
  replace cS1 := bc hMn SLS.out SCS1.out
  replace cS2 := bc hMn SLS.out SCS2.out
  replace cS3 := bc hMn SLS.out SCS3.out
  replace cS4 := bc hMn SLS.out SCS4.out
  replace cS5 := bc hMn SLS.out SCS5.out
  replace ltS := bl hMn SLS.out
  replace HV := Lib.hid (SHV.out.below hMn)
  replace HX := Lib.hid (SHX.out.below hMn)
  replace HY := Lib.hid (SHY.out.below hMn)
  replace hB := SB.out.trans (hMn.mono SB.out.size)
  have cP0 : ((((((wy.setCell ⟨gP, 0, none⟩ (.bool nx)).setCell ⟨gP, 1, none⟩ (.slice ax' lx' cx')).setCell ⟨gP, 2, none⟩ (.slice ax lx cx)).setCell ⟨gQ, 0, none⟩ (.bool ny)).setCell ⟨gQ, 1, none⟩ (.slice ay' ly' cy')).setCell ⟨gQ, 2, none⟩ (.slice ay ly cy)).cell? ⟨gP, 0, none⟩ = some (.bool nx) := by go_simp
  have fP0 : ((((((wy.setCell ⟨gP, 0, none⟩ (.bool nx)).setCell ⟨gP, 1, none⟩ (.slice ax' lx' cx')).setCell ⟨gP, 2, none⟩ (.slice ax lx cx)).setCell ⟨gQ, 0, none⟩ (.bool ny)).setCell ⟨gQ, 1, none⟩ (.slice ay' ly' cy')).setCell ⟨gQ, 2, none⟩ (.slice ay ly cy)).frozen? ⟨gP, 0, none⟩ = false := by go_simp
  have cP1 : ((((((wy.setCell ⟨gP, 0, none⟩ (.bool nx)).setCell ⟨gP, 1, none⟩ (.slice ax' lx' cx')).setCell ⟨gP, 2, none⟩ (.slice ax lx cx)).setCell ⟨gQ, 0, none⟩ (.bool ny)).setCell ⟨gQ, 1, none⟩ (.slice ay' ly' cy')).setCell ⟨gQ, 2, none⟩ (.slice ay ly cy)).cell? ⟨gP, 1, none⟩ = some (.slice ax' lx' cx') := by go_simp
  have fP1 : ((((((wy.setCell ⟨gP, 0, none⟩ (.bool nx)).setCell ⟨gP, 1, none⟩ (.slice ax' lx' cx')).setCell ⟨gP, 2, none⟩ (.slice ax lx cx)).setCell ⟨gQ, 0, none⟩ (.bool ny)).setCell ⟨gQ, 1, none⟩ (.slice ay' ly' cy')).setCell ⟨gQ, 2, none⟩ (.slice ay ly cy)).frozen? ⟨gP, 1, none⟩ = false := by go_simp
  have cP2 : ((((((wy.setCell ⟨gP, 0, none⟩ (.bool nx)).setCell ⟨gP, 1, none⟩ (.slice ax' lx' cx')).setCell ⟨gP, 2, none⟩ (.slice ax lx cx)).setCell ⟨gQ, 0, none⟩ (.bool ny)).setCell ⟨gQ, 1, none⟩ (.slice ay' ly' cy')).setCell ⟨gQ, 2, none⟩ (.slice ay ly cy)).cell? ⟨gP, 2, none⟩ = some (.slice ax lx cx) := by go_simp
  have fP2 : ((((((wy.setCell ⟨gP, 0, none⟩ (.bool nx)).setCell ⟨gP, 1, none⟩ (.slice ax' lx' cx')).setCell ⟨gP, 2, none⟩ (.slice ax lx cx)).setCell ⟨gQ, 0, none⟩ (.bool ny)).setCell ⟨gQ, 1, none⟩ (.slice ay' ly' cy')).setCell ⟨gQ, 2, none⟩ (.slice ay ly cy)).frozen? ⟨gP, 2, none⟩ = false := by go_simp
  have ltP : gP < ((((((wy.setCell ⟨gP, 0, none⟩ (.bool nx)).setCell ⟨gP, 1, none⟩ (.slice ax' lx' cx')).setCell ⟨gP, 2, none⟩ (.slice ax lx cx)).setCell ⟨gQ, 0, none⟩ (.bool ny)).setCell ⟨gQ, 1, none⟩ (.slice ay' ly' cy')).setCell ⟨gQ, 2, none⟩ (.slice ay ly cy)).heap.size := by simpa using hgl
  have cQ0 : ((((((wy.setCell ⟨gP, 0, none⟩ (.bool nx)).setCell ⟨gP, 1, none⟩ (.slice ax' lx' cx')).setCell ⟨gP, 2, none⟩ (.slice ax lx cx)).setCell ⟨gQ, 0, none⟩ (.bool ny)).setCell ⟨gQ, 1, none⟩ (.slice ay' ly' cy')).setCell ⟨gQ, 2, none⟩ (.slice ay ly cy)).cell? ⟨gQ, 0, none⟩ = some (.bool ny) := by go_simp
  have fQ0 : ((((((wy.setCell ⟨gP, 0, none⟩ (.bool nx)).setCell ⟨gP, 1, none⟩ (.slice ax' lx' cx')).setCell ⟨gP, 2, none⟩ (.slice ax lx cx)).setCell ⟨gQ, 0, none⟩ (.bool ny)).setCell ⟨gQ, 1, none⟩ (.slice ay' ly' cy')).setCell ⟨gQ, 2, none⟩ (.slice ay ly cy)).frozen? ⟨gQ, 0, none⟩ = false := by go_simp
  have cQ1 : ((((((wy.setCell ⟨gP, 0, none⟩ (.bool nx)).setCell ⟨gP, 1, none⟩ (.slice ax' lx' cx')).setCell ⟨gP, 2, none⟩ (.slice ax lx cx)).setCell ⟨gQ, 0, none⟩ (.bool ny)).setCell ⟨gQ, 1, none⟩ (.slice ay' ly' cy')).setCell ⟨gQ, 2, none⟩ (.slice ay ly cy)).cell? ⟨gQ, 1, none⟩ = some (.slice ay' ly' cy') := by go_simp
  have fQ1 : ((((((wy.setCell ⟨gP, 0, none⟩ (.bool nx)).setCell ⟨gP, 1, none⟩ (.slice ax' lx' cx')).setCell ⟨gP, 2, none⟩ (.slice ax lx cx)).setCell ⟨gQ, 0, none⟩ (.bool ny)).setCell ⟨gQ, 1, none⟩ (.slice ay' ly' cy')).setCell ⟨gQ, 2, none⟩ (.slice ay ly cy)).frozen? ⟨gQ, 1, none⟩ = false := by go_simp
  have cQ2 : ((((((wy.setCell ⟨gP, 0, none⟩ (.bool nx)).setCell ⟨gP, 1, none⟩ (.slice ax' lx' cx')).setCell ⟨gP, 2, none⟩ (.slice ax lx cx)).setCell ⟨gQ, 0, none⟩ (.bool ny)).setCell ⟨gQ, 1, none⟩ (.slice ay' ly' cy')).setCell ⟨gQ, 2, none⟩ (.slice ay ly cy)).cell? ⟨gQ, 2, none⟩ = some (.slice ay ly cy) := by go_simp
  have fQ2 : ((((((wy.setCell ⟨gP, 0, none⟩ (.bool nx)).setCell ⟨gP, 1, none⟩ (.slice ax' lx' cx')).setCell ⟨gP, 2, none⟩ (.slice ax lx cx)).setCell ⟨gQ, 0, none⟩ (.bool ny)).setCell ⟨gQ, 1, none⟩ (.slice ay' ly' cy')).setCell ⟨gQ, 2, none⟩ (.slice ay ly cy)).frozen? ⟨gQ, 2, none⟩ = false := by go_simp
  have ltQ : gQ < ((((((wy.setCell ⟨gP, 0, none⟩ (.bool nx)).setCell ⟨gP, 1, none⟩ (.slice ax' lx' cx')).setCell ⟨gP, 2, none⟩ (.slice ax lx cx)).setCell ⟨gQ, 0, none⟩ (.bool ny)).setCell ⟨gQ, 1, none⟩ (.slice ay' ly' cy')).setCell ⟨gQ, 2, none⟩ (.slice ay ly cy)).heap.size := by simpa using hgl2
  have nePK : w.heap.size < gP := Nat.lt_of_lt_of_le SLK.out hge
  have neQK : w.heap.size < gQ := Nat.lt_of_lt_of_le SLK.out hge2
  have nePS : w.heap.size + 1 < gP := Nat.lt_of_lt_of_le SLS.out hge
  have neQS : w.heap.size + 1 < gQ := Nat.lt_of_lt_of_le SLS.out hge2
  have hP := hMn
  clear hMn hM hBk hBk2 hgl hgl2 z0 y0 z1 y1 z2 y2 v0 u0 v1 u1 v2 u2
  go_wp2_with fail
  generalize ((((((wy.setCell ⟨gP, 0, none⟩ (.bool nx)).setCell ⟨gP, 1, none⟩ (.slice ax' lx' cx')).setCell ⟨gP, 2, none⟩ (.slice ax lx cx)).setCell ⟨gQ, 0, none⟩ (.bool ny)).setCell ⟨gQ, 1, none⟩ (.slice ay' ly' cy')).setCell ⟨gQ, 2, none⟩ (.slice ay ly cy)) = w1 at *
  refine (qcmp_any _ _ x y L L _ HX.out HY.out hL hL (by omega)).mono ?_
  rintro e w2 ⟨rfl, hb⟩
  replace cK0 := bc hb ltK cK0
  replace cK1 := bc hb ltK cK1
  replace cK2 := bc hb ltK cK2
  replace cK3 := bc hb ltK cK3
  replace cK4 := bc hb ltK cK4
  replace cK5 := bc hb ltK cK5
  replace cK6 := bc hb ltK cK6
  replace cK7 := bc hb ltK cK7
  replace cK8 := bc hb ltK cK8
  replace ltK := bl hb ltK
  replace cS0 := bc hb ltS cS0
  replace cS1 := bc hb ltS cS1
  replace cS2 := bc hb ltS cS2
  replace cS3 := bc hb ltS cS3
  replace cS4 := bc hb ltS cS4
  replace cS5 := bc hb ltS cS5
  replace ltS := bl hb ltS
  replace cP0 := bc hb ltP cP0
  replace fP0 := bf hb ltP fP0
  replace cP1 := bc hb ltP cP1
  replace fP1 := bf hb ltP fP1
  replace cP2 := bc hb ltP cP2
  replace fP2 := bf hb ltP fP2
  replace ltP := bl hb ltP
  replace cQ0 := bc hb ltQ cQ0
  replace fQ0 := bf hb ltQ fQ0
  replace cQ1 := bc hb ltQ cQ1
  replace fQ1 := bf hb ltQ fQ1
  replace cQ2 := bc hb ltQ cQ2
  replace fQ2 := bf hb ltQ fQ2
  replace ltQ := bl hb ltQ
  replace HV := Lib.hid (HV.out.below hb)
  replace HX := Lib.hid (HX.out.below hb)
  replace HY := Lib.hid (HY.out.below hb)
  replace hB := hB.trans (hb.mono hB.size)
  replace hP := hP.trans (hb.mono hP.size)
  generalize rcmpI x y = cc at *
  clear hb
  go_wp2_with fail
  have hMn := (hP.alloc (by simpa using hP.size) (.cells #[.bool nx, .slice ax' lx' cx', .slice ax lx cx, .bool ny, .slice ay' ly' cy', .slice ay ly cy] 27))
  generalize hWW : (w2.alloc (.cells #[.bool nx, .slice ax' lx' cx', .slice ax lx cx, .bool ny, .slice ay' ly' cy', .slice ay ly cy] 27)) = w3 at *
  replace HV := Lib.hid (SHV.out.below hMn)
  replace HX := Lib.hid (SHX.out.below hMn)
  replace HY := Lib.hid (SHY.out.below hMn)
  replace hB := SB.out.trans (hMn.mono SB.out.size)
  have cZ0 : w3.cell? ⟨w2.heap.size, 0, none⟩ = some (.bool nx) := by subst hWW; go_simp
  have cZ1 : w3.cell? ⟨w2.heap.size, 1, none⟩ = some (.slice ax' lx' cx') := by subst hWW; go_simp
  have cZ2 : w3.cell? ⟨w2.heap.size, 2, none⟩ = some (.slice ax lx cx) := by subst hWW; go_simp
  have cZ3 : w3.cell? ⟨w2.heap.size, 3, none⟩ = some (.bool ny) := by subst hWW; go_simp
  have cZ4 : w3.cell? ⟨w2.heap.size, 4, none⟩ = some (.slice ay' ly' cy') := by subst hWW; go_simp
  have cZ5 : w3.cell? ⟨w2.heap.size, 5, none⟩ = some (.slice ay ly cy) := by subst hWW; go_simp
  have ltZ : w2.heap.size < w3.heap.size := by subst hWW; simp
  have HRs := Lib.hid (rats_two ltZ cZ0 cZ1 cZ2 cZ3 cZ4 cZ5 HX.out HY.out)
  clear hMn hP cZ0 cZ1 cZ2 cZ3 cZ4 cZ5 ltZ hWW
  refine (table_no _ A B lo hi m _ _ _ L _ HV.out hL HO.out).mono ?_
  rintro e w4 ⟨rfl, hb⟩
  replace hB := hB.trans (hb.mono hB.size)
  have hz : (validE A lo hi m == 0) = false := by simpa using HO.out
  generalize hev : validE A lo hi m = ev at *
  have HEv := Lib.hid hev
  clear hev HO HV
  go_wp2_with fail
  go_ret3
  exact ⟨by rw [HEv.out]; rfl, hB⟩

set_option maxHeartbeats 4000000 in
theorem range_s (na : Bool) (aa' aa : Option Addr) (la' ca' la ca : Nat) (nb : Bool) (ab' ab : Option Addr) (lb' cb' lb cb : Nat) (lo hi m : Int) (nx : Bool) (ax' ax : Option Addr) (lx' cx' lx cx : Nat) (ny : Bool) (ay' ay : Option Addr) (ly' cy' ly cy : Nat) (A B x y : Rat) (L : Nat) (w : World) (hV : LinV w (.agg #[.bool na, .slice aa' la' ca', .slice aa la ca, .bool nb, .slice ab' lb' cb', .slice ab lb cb, .int .i64 lo, .int .i64 hi, .int .i64 m]) A B lo hi m L) (hX : RatV w (.agg #[.bool nx, .slice ax' lx' cx', .slice ax lx cx]) x L) (hY : RatV w (.agg #[.bool ny, .slice ay' ly' cy', .slice ay ly cy]) y L) (hL : 1 ≤ L) (hm : (3 * L + 5) * 4 ≤ 140737488355328) (ho : validE A lo hi m = 0) (hc : decide (0 < rcmpI x y) = true) :
    Calls Try.prog 16 #[.agg #[.bool na, .slice aa' la' ca', .slice aa la ca, .bool nb, .slice ab' lb' cb', .slice ab lb cb, .int .i64 lo, .int .i64 hi, .int .i64 m], .agg #[.bool nx, .slice ax' lx' cx', .slice ax lx cx, .bool ny, .slice ay' ly' cy', .slice ay ly cy]] w fun e w' => e = .returned (.tuple #[.int .i64 (scoreI A B lo hi m y), .int .i64 (scoreI A B lo hi m x), .int .i64 0]) ∧ Below w.heap.size w w' := by
  have HV := Lib.hid hV
  have HX := Lib.hid hX
  have HY := Lib.hid hY
  have HO := Lib.hid ho
  clear hV hX hY ho
  go_enter Try.func16, Try.ntmps16
  go_wp2_with fail
  have hbx : Below w.heap.size w ((w.alloc (.cells #[.bool na, .slice aa' la' ca', .slice aa la ca, .bool nb, .slice ab' lb' cb', .slice ab lb cb, .int .i64 lo, .int .i64 hi, .int .i64 m] 29)).alloc (.cells #[.bool nx, .slice ax' lx' cx', .slice ax lx cx, .bool ny, .slice ay' ly' cy', .slice ay ly cy] 42)) := (((Below.refl _ _).alloc (Nat.le_refl _) _).alloc (by simp) _)
  generalize hWW : ((w.alloc (.cells #[.bool na, .slice aa' la' ca', .slice aa la ca, .bool nb, .slice ab' lb' cb', .slice ab lb cb, .int .i64 lo, .int .i64 hi, .int .i64 m] 29)).alloc (.cells #[.bool nx, .slice ax' lx' cx', .slice ax lx cx, .bool ny, .slice ay' ly' cy', .slice ay ly cy] 42)) = w0 at *
  replace HV := Lib.hid (HV.out.below hbx)
  replace HX := Lib.hid (HX.out.below hbx)
  replace HY := Lib.hid (HY.out.below hbx)
  have cK0 : w0.cell? ⟨w.heap.size, 0, none⟩ = some (.bool na) := by subst hWW; go_simp
  have cK1 : w0.cell? ⟨w.heap.size, 1, none⟩ = some (.slice aa' la' ca') := by subst hWW; go_simp
  have cK2 : w0.cell? ⟨w.heap.size, 2, none⟩ = some (.slice aa la ca) := by subst hWW; go_simp
  have cK3 : w0.cell? ⟨w.heap.size, 3, none⟩ = some (.bool nb) := by subst hWW; go_simp
  have cK4 : w0.cell? ⟨w.heap.size, 4, none⟩ = some (.slice ab' lb' cb') := by subst hWW; go_simp
  have cK5 : w0.cell? ⟨w.heap.size, 5, none⟩ = some (.slice ab lb cb) := by subst hWW; go_simp
  have cK6 : w0.cell? ⟨w.heap.size, 6, none⟩ = some (.int .i64 lo) := by subst hWW; go_simp
  have cK7 : w0.cell? ⟨w.heap.size, 7, none⟩ = some (.int .i64 hi) := by subst hWW; go_simp
  have cK8 : w0.cell? ⟨w.heap.size, 8, none⟩ = some (.int .i64 m) := by subst hWW; go_simp
  have ltK : w.heap.size < w0.heap.size := by subst hWW; simp <;> omega
  have cS0 : w0.cell? ⟨w.heap.size + 1, 0, none⟩ = some (.bool nx) := by subst hWW; go_simp
  have cS1 : w0.cell? ⟨w.heap.size + 1, 1, none⟩ = some (.slice ax' lx' cx') := by subst hWW; go_simp
  have cS2 : w0.cell? ⟨w.heap.size + 1, 2, none⟩ = some (.slice ax lx cx) := by subst hWW; go_simp
  have cS3 : w0.cell? ⟨w.heap.size + 1, 3, none⟩ = some (.bool ny) := by subst hWW; go_simp
  have cS4 : w0.cell? ⟨w.heap.size + 1, 4, none⟩ = some (.slice ay' ly' cy') := by subst hWW; go_simp
  have cS5 : w0.cell? ⟨w.heap.size + 1, 5, none⟩ = some (.slice ay ly cy) := by subst hWW; go_simp
  have ltS : w.heap.size + 1 < w0.heap.size := by subst hWW; simp
  have hB := hbx
  clear hbx hWW
  have SCK0 := Lib.hid cK0
  have SCK1 := Lib.hid cK1
  have SCK2 := Lib.hid cK2
  have SCK3 := Lib.hid cK3
  have SCK4 := Lib.hid cK4
  have SCK5 := Lib.hid cK5
  have SCK6 := Lib.hid cK6
  have SCK7 := Lib.hid cK7
  have SCK8 := Lib.hid cK8
  have SLK := Lib.hid ltK
  have SCS0 := Lib.hid cS0
  have SCS1 := Lib.hid cS1
  have SCS2 := Lib.hid cS2
  have SCS3 := Lib.hid cS3
  have SCS4 := Lib.hid cS4
  have SCS5 := Lib.hid cS5
  have SLS := Lib.hid ltS
  have SHV := Lib.hid HV.out
  have SHX := Lib.hid HX.out
  have SHY := Lib.hid HY.out
  have SB := Lib.hid hB
  have eK0 := box_ext (B := w0.heap.size) cK0 ltK
  have eK1 := box_ext (B := w0.heap.size) cK1 ltK
  have eK2 := box_ext (B := w0.heap.size) cK2 ltK
  have eK3 := box_ext (B := w0.heap.size) cK3 ltK
  have eK4 := box_ext (B := w0.heap.size) cK4 ltK
  have eK5 := box_ext (B := w0.heap.size) cK5 ltK
  have eK6 := box_ext (B := w0.heap.size) cK6 ltK
  have eK7 := box_ext (B := w0.heap.size) cK7 ltK
  have eK8 := box_ext (B := w0.heap.size) cK8 ltK
  have eS0 := box_ext (B := w0.heap.size) cS0 ltS
  have eS1 := box_ext (B := w0.heap.size) cS1 ltS
  have eS2 := box_ext (B := w0.heap.size) cS2 ltS
  have eS3 := box_ext (B := w0.heap.size) cS3 ltS
  have eS4 := box_ext (B := w0.heap.size) cS4 ltS
  have eS5 := box_ext (B := w0.heap.size) cS5 ltS
  refine wp_region_float2 4 5 [(0, false), (1, false), (2, false), (3, false)] [(6, true), (7, true)] (fun w' => ∃ W : Ext w0.heap.size w0, w' = W.1) _ _ 7 8 (.cells #[.bool false, .slice none 0 0, .slice none 0 0] 27) (.cells #[.bool false, .slice none 0 0, .slice none 0 0] 27) w0.heap.size (by kernel_rfl) rfl rfl rfl rfl rfl rfl (fun a w => by simp [execOp, go_sem, ptr]) (fun a w => by simp [execOp, go_sem, ptr]) (fun w ⟨W, e⟩ => e ▸ W.2.size) (fun w ⟨W, e⟩ => ⟨⟨_, (e ▸ W.2).alloc (e ▸ W.2.size) _⟩, rfl⟩) (fun w ⟨W, e⟩ => ⟨⟨_, (e ▸ W.2).alloc (e ▸ W.2.size) _⟩, rfl⟩) (by decide) (by kernel_rfl) ⟨⟨w0.drew, (Below.refl _ _).drew⟩, rfl⟩ ?_
  repeat (refine wpFl2_calm rfl (fun K hK => ?_); go_simp; refine hK _ ?_; clear hK K)
  clear eK0 eK1 eK2 eK3 eK4 eK5 eK6 eK7 eK8 eS0 eS1 eS2 eS3 eS4 eS5
  have hbx : Below w0.heap.size w0 w0.drew := (Below.refl _ _).drew
  have hM := hbx
  replace cK0 := bc hbx ltK cK0
  replace cK1 := bc hbx ltK cK1
  replace cK2 := bc hbx ltK cK2
  replace cK3 := bc hbx ltK cK3
  replace cK4 := bc hbx ltK cK4
  replace cK5 := bc hbx ltK cK5
  replace cK6 := bc hbx ltK cK6
  replace cK7 := bc hbx ltK cK7
  replace cK8 := bc hbx ltK cK8
  replace ltK := bl hbx ltK
  replace cS0 := bc hbx ltS cS0
  replace cS1 := bc hbx ltS cS1
  replace cS2 := bc hbx ltS cS2
  replace cS3 := bc hbx ltS cS3
  replace cS4 := bc hbx ltS cS4
  replace cS5 := bc hbx ltS cS5
  replace ltS := bl hbx ltS
  replace HV := Lib.hid (HV.out.below hbx)
  replace HX := Lib.hid (HX.out.below hbx)
  replace HY := Lib.hid (HY.out.below hbx)
  replace hB := hB.trans (hbx.mono hB.size)
  clear hbx
  generalize w0.drew = ww0d at *
  refine wpFl2_nil fun gP gQ wy hC hg hBk hBk2 hge hge2 hgn => ?_
  obtain ⟨⟨wz, hE⟩, hwe⟩ := hC
  change wy = wz at hwe
  subst hwe
  replace cK0 := bc hg ltK cK0
  replace cK1 := bc hg ltK cK1
  replace cK2 := bc hg ltK cK2
  replace cK3 := bc hg ltK cK3
  replace cK4 := bc hg ltK cK4
  replace cK5 := bc hg ltK cK5
  replace cK6 := bc hg ltK cK6
  replace cK7 := bc hg ltK cK7
  replace cK8 := bc hg ltK cK8
  replace ltK := bl hg ltK
  replace cS0 := bc hg ltS cS0
  replace cS1 := bc hg ltS cS1
  replace cS2 := bc hg ltS cS2
  replace cS3 := bc hg ltS cS3
  replace cS4 := bc hg ltS cS4
  replace cS5 := bc hg ltS cS5
  replace ltS := bl hg ltS
  replace HV := Lib.hid (HV.out.below hg)
  replace HX := Lib.hid (HX.out.below hg)
  replace HY := Lib.hid (HY.out.below hg)
  replace hB := hB.trans (hg.mono hB.size)
  replace hM := hE
  clear hE hg
  have z0 := blk_cell hBk 0
  have y0 := blk_free hBk 0
  have z1 := blk_cell hBk 1
  have y1 := blk_free hBk 1
  have z2 := blk_cell hBk 2
  have y2 := blk_free hBk 2
  have v0 := blk_cell hBk2 0
  have u0 := blk_free hBk2 0
  have v1 := blk_cell hBk2 1
  have u1 := blk_free hBk2 1
  have v2 := blk_cell hBk2 2
  have u2 := blk_free hBk2 2
  simp at z0 z1 z2 v0 v1 v2
  have hgl := blk_lt hBk
  have hgl2 := blk_lt hBk2
  have hgn2 := Ne.symm hgn
  refine wpSched_eff rfl rfl (fun K hK => ?_)
  go_simp
  refine hK _ _ ⟨⟨_, (((hM.setCell (p := ⟨gP, 0, none⟩) hge _).setCell (p := ⟨gP, 1, none⟩) hge _).setCell (p := ⟨gP, 2, none⟩) hge _)⟩, rfl⟩ ?_
  clear hK K
  refine wpSched_eff rfl rfl (fun K hK => ?_)
  go_simp
  refine hK _ _ ⟨⟨_, ((((((hM.setCell (p := ⟨gP, 0, none⟩) hge _).setCell (p := ⟨gP, 1, none⟩) hge _).setCell (p := ⟨gP, 2, none⟩) hge _).setCell (p := ⟨gQ, 0, none⟩) hge2 _).setCell (p := ⟨gQ, 1, none⟩) hge2 _).setCell (p := ⟨gQ, 2, none⟩) hge2 _)⟩, rfl⟩ ?_
  clear hK K
  refine wpSched_nil ?_
  have hMn := ((((((hM.setCell (p := ⟨gP, 0, none⟩) hge (.bool nx)).setCell (p := ⟨gP, 1, none⟩) hge (.slice ax' lx' cx')).setCell (p := ⟨gP, 2, none⟩) hge (.slice ax lx cx)).setCell (p := ⟨gQ, 0, none⟩) hge2 (.bool ny)).setCell (p := ⟨gQ, 1, none⟩) hge2 (.slice ay' ly' cy')).setCell (p := ⟨gQ, 2, none⟩) hge2 (.slice ay ly cy))
  replace cK0 := bc hMn SLK.out SCK0.out
  replace cK1 := bc hMn SLK.out SCK1.out
  replace cK2 := bc hMn SLK.out SCK2.out
  replace cK3 := bc hMn SLK.out SCK3.out
  replace cK4 := bc hMn SLK.out SCK4.out
  replace cK5 := bc hMn SLK.out SCK5.out
  replace cK6 := bc hMn SLK.out SCK6.out
  replace cK7 := bc hMn SLK.out SCK7.out
  replace cK8 := bc hMn SLK.out SCK8.out
  replace ltK := bl hMn SLK.out
  replace cS0 := bc hMn SLS.out SCS0.out
  replace cS1 := bc hMn SLS.out SCS1.out
  replace cS2 := bc hMn SLS.out SCS2.out
  replace cS3 := bc hMn SLS.out SCS3.out
  replace cS4 := bc hMn SLS.out SCS4.out
  replace cS5 := bc hMn SLS.out SCS5.out
  replace ltS := bl hMn SLS.out
  replace HV := Lib.hid (SHV.out.below hMn)
  replace HX := Lib.hid (SHX.out.below hMn)
  replace HY := Lib.hid (SHY.out.below hMn)
  replace hB := SB.out.trans (hMn.mono SB.out.size)
  have cP0 : ((((((wy.setCell ⟨gP, 0, none⟩ (.bool nx)).setCell ⟨gP, 1, none⟩ (.slice ax' lx' cx')).setCell ⟨gP, 2, none⟩ (.slice ax lx cx)).setCell ⟨gQ, 0, none⟩ (.bool ny)).setCell ⟨gQ, 1, none⟩ (.slice ay' ly' cy')).setCell ⟨gQ, 2, none⟩ (.slice ay ly cy)).cell? ⟨gP, 0, none⟩ = some (.bool nx) := by go_simp
  have fP0 : ((((((wy.setCell ⟨gP, 0, none⟩ (.bool nx)).setCell ⟨gP, 1, none⟩ (.slice ax' lx' cx')).setCell ⟨gP, 2, none⟩ (.slice ax lx cx)).setCell ⟨gQ, 0, none⟩ (.bool ny)).setCell ⟨gQ, 1, none⟩ (.slice ay' ly' cy')).setCell ⟨gQ, 2, none⟩ (.slice ay ly cy)).frozen? ⟨gP, 0, none⟩ = false := by go_simp
  have cP1 : ((((((wy.setCell ⟨gP, 0, none⟩ (.bool nx)).setCell ⟨gP, 1, none⟩ (.slice ax' lx' cx')).setCell ⟨gP, 2, none⟩ (.slice ax lx cx)).setCell ⟨gQ, 0, none⟩ (.bool ny)).setCell ⟨gQ, 1, none⟩ (.slice ay' ly' cy')).setCell ⟨gQ, 2, none⟩ (.slice ay ly cy)).cell? ⟨gP, 1, none⟩ = some (.slice ax' lx' cx') := by go_simp
  have fP1 : ((((((wy.setCell ⟨gP, 0, none⟩ (.bool nx)).setCell ⟨gP, 1, none⟩ (.slice ax' lx' cx')).setCell ⟨gP, 2, none⟩ (.slice ax lx cx)).setCell ⟨gQ, 0, none⟩ (.bool ny)).setCell ⟨gQ, 1, none⟩ (.slice ay' ly' cy')).setCell ⟨gQ, 2, none⟩ (.slice ay ly cy)).frozen? ⟨gP, 1, none⟩ = false := by go_simp
  have cP2 : ((((((wy.setCell ⟨gP, 0, none⟩ (.bool nx)).setCell ⟨gP, 1, none⟩ (.slice ax' lx' cx')).setCell ⟨gP, 2, none⟩ (.slice ax lx cx)).setCell ⟨gQ, 0, none⟩ (.bool ny)).setCell ⟨gQ, 1, none⟩ (.slice ay' ly' cy')).setCell ⟨gQ, 2, none⟩ (.slice ay ly cy)).cell? ⟨gP, 2, none⟩ = some (.slice ax lx cx) := by go_simp
  have fP2 : ((((((wy.setCell ⟨gP, 0, none⟩ (.bool nx)).setCell ⟨gP, 1, none⟩ (.slice ax' lx' cx')).setCell ⟨gP, 2, none⟩ (.slice ax lx cx)).setCell ⟨gQ, 0, none⟩ (.bool ny)).setCell ⟨gQ, 1, none⟩ (.slice ay' ly' cy')).setCell ⟨gQ, 2, none⟩ (.slice ay ly cy)).frozen? ⟨gP, 2, none⟩ = false := by go_simp
  have ltP : gP < ((((((wy.setCell ⟨gP, 0, none⟩ (.bool nx)).setCell ⟨gP, 1, none⟩ (.slice ax' lx' cx')).setCell ⟨gP, 2, none⟩ (.slice ax lx cx)).setCell ⟨gQ, 0, none⟩ (.bool ny)).setCell ⟨gQ, 1, none⟩ (.slice ay' ly' cy')).setCell ⟨gQ, 2, none⟩ (.slice ay ly cy)).heap.size := by simpa using hgl
  have cQ0 : ((((((wy.setCell ⟨gP, 0, none⟩ (.bool nx)).setCell ⟨gP, 1, none⟩ (.slice ax' lx' cx')).setCell ⟨gP, 2, none⟩ (.slice ax lx cx)).setCell ⟨gQ, 0, none⟩ (.bool ny)).setCell ⟨gQ, 1, none⟩ (.slice ay' ly' cy')).setCell ⟨gQ, 2, none⟩ (.slice ay ly cy)).cell? ⟨gQ, 0, none⟩ = some (.bool ny) := by go_simp
  have fQ0 : ((((((wy.setCell ⟨gP, 0, none⟩ (.bool nx)).setCell ⟨gP, 1, none⟩ (.slice ax' lx' cx')).setCell ⟨gP, 2, none⟩ (.slice ax lx cx)).setCell ⟨gQ, 0, none⟩ (.bool ny)).setCell ⟨gQ, 1, none⟩ (.slice ay' ly' cy')).setCell ⟨gQ, 2, none⟩ (.slice ay ly cy)).frozen? ⟨gQ, 0, none⟩ = false := by go_simp
  have cQ1 : ((((((wy.setCell ⟨gP, 0, none⟩ (.bool nx)).setCell ⟨gP, 1, none⟩ (.slice ax' lx' cx')).setCell ⟨gP, 2, none⟩ (.slice ax lx cx)).setCell ⟨gQ, 0, none⟩ (.bool ny)).setCell ⟨gQ, 1, none⟩ (.slice ay' ly' cy')).setCell ⟨gQ, 2, none⟩ (.slice ay ly cy)).cell? ⟨gQ, 1, none⟩ = some (.slice ay' ly' cy') := by go_simp
  have fQ1 : ((((((wy.setCell ⟨gP, 0, none⟩ (.bool nx)).setCell ⟨gP, 1, none⟩ (.slice ax' lx' cx')).setCell ⟨gP, 2, none⟩ (.slice ax lx cx)).setCell ⟨gQ, 0, none⟩ (.bool ny)).setCell ⟨gQ, 1, none⟩ (.slice ay' ly' cy')).setCell ⟨gQ, 2, none⟩ (.slice ay ly cy)).frozen? ⟨gQ, 1, none⟩ = false := by go_simp
  have cQ2 : ((((((wy.setCell ⟨gP, 0, none⟩ (.bool nx)).setCell ⟨gP, 1, none⟩ (.slice ax' lx' cx')).setCell ⟨gP, 2, none⟩ (.slice ax lx cx)).setCell ⟨gQ, 0, none⟩ (.bool ny)).setCell ⟨gQ, 1, none⟩ (.slice ay' ly' cy')).setCell ⟨gQ, 2, none⟩ (.slice ay ly cy)).cell? ⟨gQ, 2, none⟩ = some (.slice ay ly cy) := by go_simp
  have fQ2 : ((((((wy.setCell ⟨gP, 0, none⟩ (.bool nx)).setCell ⟨gP, 1, none⟩ (.slice ax' lx' cx')).setCell ⟨gP, 2, none⟩ (.slice ax lx cx)).setCell ⟨gQ, 0, none⟩ (.bool ny)).setCell ⟨gQ, 1, none⟩ (.slice ay' ly' cy')).setCell ⟨gQ, 2, none⟩ (.slice ay ly cy)).frozen? ⟨gQ, 2, none⟩ = false := by go_simp
  have ltQ : gQ < ((((((wy.setCell ⟨gP, 0, none⟩ (.bool nx)).setCell ⟨gP, 1, none⟩ (.slice ax' lx' cx')).setCell ⟨gP, 2, none⟩ (.slice ax lx cx)).setCell ⟨gQ, 0, none⟩ (.bool ny)).setCell ⟨gQ, 1, none⟩ (.slice ay' ly' cy')).setCell ⟨gQ, 2, none⟩ (.slice ay ly cy)).heap.size := by simpa using hgl2
  have nePK : w.heap.size < gP := Nat.lt_of_lt_of_le SLK.out hge
  have neQK : w.heap.size < gQ := Nat.lt_of_lt_of_le SLK.out hge2
  have nePS : w.heap.size + 1 < gP := Nat.lt_of_lt_of_le SLS.out hge
  have neQS : w.heap.size + 1 < gQ := Nat.lt_of_lt_of_le SLS.out hge2
  have hP := hMn
  clear hMn hM hBk hBk2 hgl hgl2 z0 y0 z1 y1 z2 y2 v0 u0 v1 u1 v2 u2
  go_wp2_with fail
  generalize ((((((wy.setCell ⟨gP, 0, none⟩ (.bool nx)).setCell ⟨gP, 1, none⟩ (.slice ax' lx' cx')).setCell ⟨gP, 2, none⟩ (.slice ax lx cx)).setCell ⟨gQ, 0, none⟩ (.bool ny)).setCell ⟨gQ, 1, none⟩ (.slice ay' ly' cy')).setCell ⟨gQ, 2, none⟩ (.slice ay ly cy)) = w1 at *
  refine (qcmp_any _ _ x y L L _ HX.out HY.out hL hL (by omega)).mono ?_
  rintro e w2 ⟨rfl, hb⟩
  replace cK0 := bc hb ltK cK0
  replace cK1 := bc hb ltK cK1
  replace cK2 := bc hb ltK cK2
  replace cK3 := bc hb ltK cK3
  replace cK4 := bc hb ltK cK4
  replace cK5 := bc hb ltK cK5
  replace cK6 := bc hb ltK cK6
  replace cK7 := bc hb ltK cK7
  replace cK8 := bc hb ltK cK8
  replace ltK := bl hb ltK
  replace cS0 := bc hb ltS cS0
  replace cS1 := bc hb ltS cS1
  replace cS2 := bc hb ltS cS2
  replace cS3 := bc hb ltS cS3
  replace cS4 := bc hb ltS cS4
  replace cS5 := bc hb ltS cS5
  replace ltS := bl hb ltS
  replace cP0 := bc hb ltP cP0
  replace fP0 := bf hb ltP fP0
  replace cP1 := bc hb ltP cP1
  replace fP1 := bf hb ltP fP1
  replace cP2 := bc hb ltP cP2
  replace fP2 := bf hb ltP fP2
  replace ltP := bl hb ltP
  replace cQ0 := bc hb ltQ cQ0
  replace fQ0 := bf hb ltQ fQ0
  replace cQ1 := bc hb ltQ cQ1
  replace fQ1 := bf hb ltQ fQ1
  replace cQ2 := bc hb ltQ cQ2
  replace fQ2 := bf hb ltQ fQ2
  replace ltQ := bl hb ltQ
  replace HV := Lib.hid (HV.out.below hb)
  replace HX := Lib.hid (HX.out.below hb)
  replace HY := Lib.hid (HY.out.below hb)
  replace hB := hB.trans (hb.mono hB.size)
  replace hP := hP.trans (hb.mono hP.size)
  generalize rcmpI x y = cc at *
  clear hb
  go_wp2_with fail
  have hMn := (((((((hP.setCell (p := ⟨gP, 0, none⟩) hge (.bool ny)).setCell (p := ⟨gP, 1, none⟩) hge (.slice ay' ly' cy')).setCell (p := ⟨gP, 2, none⟩) hge (.slice ay ly cy)).setCell (p := ⟨gQ, 0, none⟩) hge2 (.bool nx)).setCell (p := ⟨gQ, 1, none⟩) hge2 (.slice ax' lx' cx')).setCell (p := ⟨gQ, 2, none⟩) hge2 (.slice ax lx cx)).alloc (by simpa using hP.size) (.cells #[.bool ny, .slice ay' ly' cy', .slice ay ly cy, .bool nx, .slice ax' lx' cx', .slice ax lx cx] 27))
  generalize hWW : (((((((w2.setCell ⟨gP, 0, none⟩ (.bool ny)).setCell ⟨gP, 1, none⟩ (.slice ay' ly' cy')).setCell ⟨gP, 2, none⟩ (.slice ay ly cy)).setCell ⟨gQ, 0, none⟩ (.bool nx)).setCell ⟨gQ, 1, none⟩ (.slice ax' lx' cx')).setCell ⟨gQ, 2, none⟩ (.slice ax lx cx)).alloc (.cells #[.bool ny, .slice ay' ly' cy', .slice ay ly cy, .bool nx, .slice ax' lx' cx', .slice ax lx cx] 27)) = w3 at *
  replace HV := Lib.hid (SHV.out.below hMn)
  replace HX := Lib.hid (SHX.out.below hMn)
  replace HY := Lib.hid (SHY.out.below hMn)
  replace hB := SB.out.trans (hMn.mono SB.out.size)
  have cZ0 : w3.cell? ⟨w2.heap.size, 0, none⟩ = some (.bool ny) := by subst hWW; go_simp
  have cZ1 : w3.cell? ⟨w2.heap.size, 1, none⟩ = some (.slice ay' ly' cy') := by subst hWW; go_simp
  have cZ2 : w3.cell? ⟨w2.heap.size, 2, none⟩ = some (.slice ay ly cy) := by subst hWW; go_simp
  have cZ3 : w3.cell? ⟨w2.heap.size, 3, none⟩ = some (.bool nx) := by subst hWW; go_simp
  have cZ4 : w3.cell? ⟨w2.heap.size, 4, none⟩ = some (.slice ax' lx' cx') := by subst hWW; go_simp
  have cZ5 : w3.cell? ⟨w2.heap.size, 5, none⟩ = some (.slice ax lx cx) := by subst hWW; go_simp
  have ltZ : w2.heap.size < w3.heap.size := by subst hWW; simp
  have HRs := Lib.hid (rats_two ltZ cZ0 cZ1 cZ2 cZ3 cZ4 cZ5 HY.out HX.out)
  clear hMn hP cZ0 cZ1 cZ2 cZ3 cZ4 cZ5 ltZ hWW
  refine (table_any _ A B lo hi m [y, x] _ _ _ L _ HV.out HRs.out hL hm HO.out (by omega)).mono ?_
  rintro e w4 ⟨a2, c2, rfl, hI, hb⟩
  replace hB := hB.trans (hb.mono hB.size)
  obtain ⟨bb, off, rfl, hbs, hcc⟩ := hI.2.at (k := 0) (by omega)
  have e0 := hcc 0 (by omega) _ (Below.refl _ _)
  have e1 := hcc 1 (by omega) _ (Below.refl _ _)
  simp [scoresL] at e0 e1
  clear hcc hI hb
  go_wp2_with fail
  go_quiet (fail)
  go_wp2_with fail
  go_ret3
  exact ⟨rfl, below_drewN hB _⟩

set_option maxHeartbeats 4000000 in
theorem range_s_no (na : Bool) (aa' aa : Option Addr) (la' ca' la ca : Nat) (nb : Bool) (ab' ab : Option Addr) (lb' cb' lb cb : Nat) (lo hi m : Int) (nx : Bool) (ax' ax : Option Addr) (lx' cx' lx cx : Nat) (ny : Bool) (ay' ay : Option Addr) (ly' cy' ly cy : Nat) (A B x y : Rat) (L : Nat) (w : World) (hV : LinV w (.agg #[.bool na, .slice aa' la' ca', .slice aa la ca, .bool nb, .slice ab' lb' cb', .slice ab lb cb, .int .i64 lo, .int .i64 hi, .int .i64 m]) A B lo hi m L) (hX : RatV w (.agg #[.bool nx, .slice ax' lx' cx', .slice ax lx cx]) x L) (hY : RatV w (.agg #[.bool ny, .slice ay' ly' cy', .slice ay ly cy]) y L) (hL : 1 ≤ L) (hm : (3 * L + 5) * 4 ≤ 140737488355328) (ho : validE A lo hi m ≠ 0) (hc : decide (0 < rcmpI x y) = true) :
    Calls Try.prog 16 #[.agg #[.bool na, .slice aa' la' ca', .slice aa la ca, .bool nb, .slice ab' lb' cb', .slice ab lb cb, .int .i64 lo, .int .i64 hi, .int .i64 m], .agg #[.bool nx, .slice ax' lx' cx', .slice ax lx cx, .bool ny, .slice ay' ly' cy', .slice ay ly cy]] w fun e w' => e = .returned (.tuple #[.int .i64 0, .int .i64 0, .int .i64 (validE A lo hi m)]) ∧ Below w.heap.size w w' := by
  have HV := Lib.hid hV
  have HX := Lib.hid hX
  have HY := Lib.hid hY
  have HO := Lib.hid ho
  clear hV hX hY ho
  go_enter Try.func16, Try.ntmps16
  go_wp2_with fail
  have hbx : Below w.heap.size w ((w.alloc (.cells #[.bool na, .slice aa' la' ca', .slice aa la ca, .bool nb, .slice ab' lb' cb', .slice ab lb cb, .int .i64 lo, .int .i64 hi, .int .i64 m] 29)).alloc (.cells #[.bool nx, .slice ax' lx' cx', .slice ax lx cx, .bool ny, .slice ay' ly' cy', .slice ay ly cy] 42)) := (((Below.refl _ _).alloc (Nat.le_refl _) _).alloc (by simp) _)
  generalize hWW : ((w.alloc (.cells #[.bool na, .slice aa' la' ca', .slice aa la ca, .bool nb, .slice ab' lb' cb', .slice ab lb cb, .int .i64 lo, .int .i64 hi, .int .i64 m] 29)).alloc (.cells #[.bool nx, .slice ax' lx' cx', .slice ax lx cx, .bool ny, .slice ay' ly' cy', .slice ay ly cy] 42)) = w0 at *
  replace HV := Lib.hid (HV.out.below hbx)
  replace HX := Lib.hid (HX.out.below hbx)
  replace HY := Lib.hid (HY.out.below hbx)
  have cK0 : w0.cell? ⟨w.heap.size, 0, none⟩ = some (.bool na) := by subst hWW; go_simp
  have cK1 : w0.cell? ⟨w.heap.size, 1, none⟩ = some (.slice aa' la' ca') := by subst hWW; go_simp
  have cK2 : w0.cell? ⟨w.heap.size, 2, none⟩ = some (.slice aa la ca) := by subst hWW; go_simp
  have cK3 : w0.cell? ⟨w.heap.size, 3, none⟩ = some (.bool nb) := by subst hWW; go_simp
  have cK4 : w0.cell? ⟨w.heap.size, 4, none⟩ = some (.slice ab' lb' cb') := by subst hWW; go_simp
  have cK5 : w0.cell? ⟨w.heap.size, 5, none⟩ = some (.slice ab lb cb) := by subst hWW; go_simp
  have cK6 : w0.cell? ⟨w.heap.size, 6, none⟩ = some (.int .i64 lo) := by subst hWW; go_simp
  have cK7 : w0.cell? ⟨w.heap.size, 7, none⟩ = some (.int .i64 hi) := by subst hWW; go_simp
  have cK8 : w0.cell? ⟨w.heap.size, 8, none⟩ = some (.int .i64 m) := by subst hWW; go_simp
  have ltK : w.heap.size < w0.heap.size := by subst hWW; simp <;> omega
  have cS0 : w0.cell? ⟨w.heap.size + 1, 0, none⟩ = some (.bool nx) := by subst hWW; go_simp
  have cS1 : w0.cell? ⟨w.heap.size + 1, 1, none⟩ = some (.slice ax' lx' cx') := by subst hWW; go_simp
  have cS2 : w0.cell? ⟨w.heap.size + 1, 2, none⟩ = some (.slice ax lx cx) := by subst hWW; go_simp
  have cS3 : w0.cell? ⟨w.heap.size + 1, 3, none⟩ = some (.bool ny) := by subst hWW; go_simp
  have cS4 : w0.cell? ⟨w.heap.size + 1, 4, none⟩ = some (.slice ay' ly' cy') := by subst hWW; go_simp
  have cS5 : w0.cell? ⟨w.heap.size + 1, 5, none⟩ = some (.slice ay ly cy) := by subst hWW; go_simp
  have ltS : w.heap.size + 1 < w0.heap.size := by subst hWW; simp
  have hB := hbx
  clear hbx hWW
  have SCK0 := Lib.hid cK0
  have SCK1 := Lib.hid cK1
  have SCK2 := Lib.hid cK2
  have SCK3 := Lib.hid cK3
  have SCK4 := Lib.hid cK4
  have SCK5 := Lib.hid cK5
  have SCK6 := Lib.hid cK6
  have SCK7 := Lib.hid cK7
  have SCK8 := Lib.hid cK8
  have SLK := Lib.hid ltK
  have SCS0 := Lib.hid cS0
  have SCS1 := Lib.hid cS1
  have SCS2 := Lib.hid cS2
  have SCS3 := Lib.hid cS3
  have SCS4 := Lib.hid cS4
  have SCS5 := Lib.hid cS5
  have SLS := Lib.hid ltS
  have SHV := Lib.hid HV.out
  have SHX := Lib.hid HX.out
  have SHY := Lib.hid HY.out
  have SB := Lib.hid hB
  have eK0 := box_ext (B := w0.heap.size) cK0 ltK
  have eK1 := box_ext (B := w0.heap.size) cK1 ltK
  have eK2 := box_ext (B := w0.heap.size) cK2 ltK
  have eK3 := box_ext (B := w0.heap.size) cK3 ltK
  have eK4 := box_ext (B := w0.heap.size) cK4 ltK
  have eK5 := box_ext (B := w0.heap.size) cK5 ltK
  have eK6 := box_ext (B := w0.heap.size) cK6 ltK
  have eK7 := box_ext (B := w0.heap.size) cK7 ltK
  have eK8 := box_ext (B := w0.heap.size) cK8 ltK
  have eS0 := box_ext (B := w0.heap.size) cS0 ltS
  have eS1 := box_ext (B := w0.heap.size) cS1 ltS
  have eS2 := box_ext (B := w0.heap.size) cS2 ltS
  have eS3 := box_ext (B := w0.heap.size) cS3 ltS
  have eS4 := box_ext (B := w0.heap.size) cS4 ltS
  have eS5 := box_ext (B := w0.heap.size) cS5 ltS
  refine wp_region_float2 4 5 [(0, false), (1, false), (2, false), (3, false)] [(6, true), (7, true)] (fun w' => ∃ W : Ext w0.heap.size w0, w' = W.1) _ _ 7 8 (.cells #[.bool false, .slice none 0 0, .slice none 0 0] 27) (.cells #[.bool false, .slice none 0 0, .slice none 0 0] 27) w0.heap.size (by kernel_rfl) rfl rfl rfl rfl rfl rfl (fun a w => by simp [execOp, go_sem, ptr]) (fun a w => by simp [execOp, go_sem, ptr]) (fun w ⟨W, e⟩ => e ▸ W.2.size) (fun w ⟨W, e⟩ => ⟨⟨_, (e ▸ W.2).alloc (e ▸ W.2.size) _⟩, rfl⟩) (fun w ⟨W, e⟩ => ⟨⟨_, (e ▸ W.2).alloc (e ▸ W.2.size) _⟩, rfl⟩) (by decide) (by kernel_rfl) ⟨⟨w0.drew, (Below.refl _ _).drew⟩, rfl⟩ ?_
  repeat (refine wpFl2_calm rfl (fun K hK => ?_); go_simp; refine hK _ ?_; clear hK K)
  clear eK0 eK1 eK2 eK3 eK4 eK5 eK6 eK7 eK8 eS0 eS1 eS2 eS3 eS4 eS5
  have hbx : Below w0.heap.size w0 w0.drew := (Below.refl _ _).drew
  have hM := hbx
  replace cK0 := bc hbx ltK cK0
  replace cK1 := bc hbx ltK cK1
  replace cK2 := bc hbx ltK cK2
  replace cK3 := bc hbx ltK cK3
  replace cK4 := bc hbx ltK cK4
  replace cK5 := bc hbx ltK cK5
  replace cK6 := bc hbx ltK cK6
  replace cK7 := bc hbx ltK cK7
  replace cK8 := bc hbx ltK cK8
  replace ltK := bl hbx ltK
  replace cS0 := bc hbx ltS cS0
  replace cS1 := bc hbx ltS cS1
  replace cS2 := bc hbx ltS cS2
  replace cS3 := bc hbx ltS cS3
  replace cS4 := bc hbx ltS cS4
  replace cS5 := bc hbx ltS cS5
  replace ltS := bl hbx ltS
  replace HV := Lib.hid (HV.out.below hbx)
  replace HX := Lib.hid (HX.out.below hbx)
  replace HY := Lib.hid (HY.out.below hbx)
  replace hB := hB.trans (hbx.mono hB.size)
  clear hbx
  generalize w0.drew = ww0d at *
  refine wpFl2_nil fun gP gQ wy hC hg hBk hBk2 hge hge2 hgn => ?_
  obtain ⟨⟨wz, hE⟩, hwe⟩ := hC
  change wy = wz at hwe
  subst hwe
  replace cK0 := bc hg ltK cK0
  replace cK1 := bc hg ltK cK1
  replace cK2 := bc hg ltK cK2
  replace cK3 := bc hg ltK cK3
  replace cK4 := bc hg ltK cK4
  replace cK5 := bc hg ltK cK5
  replace cK6 := bc hg ltK cK6
  replace cK7 := bc hg ltK cK7
  replace cK8 := bc hg ltK cK8
  replace ltK := bl hg ltK
  replace cS0 := bc hg ltS cS0
  replace cS1 := bc hg ltS cS1
  replace cS2 := bc hg ltS cS2
  replace cS3 := bc hg ltS cS3
  replace cS4 := bc hg ltS cS4
  replace cS5 := bc hg ltS cS5
  replace ltS := bl hg ltS
  replace HV := Lib.hid (HV.out.below hg)
  replace HX := Lib.hid (HX.out.below hg)
  replace HY := Lib.hid (HY.out.below hg)
  replace hB := hB.trans (hg.mono hB.size)
  replace hM := hE
  clear hE hg
  have z0 := blk_cell hBk 0
  have y0 := blk_free hBk 0
  have z1 := blk_cell hBk 1
  have y1 := blk_free hBk 1
  have z2 := blk_cell hBk 2
  have y2 := blk_free hBk 2
  have v0 := blk_cell hBk2 0
  have u0 := blk_free hBk2 0
  have v1 := blk_cell hBk2 1
  have u1 := blk_free hBk2 1
  have v2 := blk_cell hBk2 2
  have u2 := blk_free hBk2 2
  simp at z0 z1 z2 v0 v1 v2
  have hgl := blk_lt hBk
  have hgl2 := blk_lt hBk2
  have hgn2 := Ne.symm hgn
  refine wpSched_eff rfl rfl (fun K hK => ?_)
  go_simp
  refine hK _ _ ⟨⟨_, (((hM.setCell (p := ⟨gP, 0, none⟩) hge _).setCell (p := ⟨gP, 1, none⟩) hge _).setCell (p := ⟨gP, 2, none⟩) hge _)⟩, rfl⟩ ?_
  clear hK K
  refine wpSched_eff rfl rfl (fun K hK => ?_)
  go_simp
  refine hK _ _ ⟨⟨_, ((((((hM.setCell (p := ⟨gP, 0, none⟩) hge _).setCell (p := ⟨gP, 1, none⟩) hge _).setCell (p := ⟨gP, 2, none⟩) hge _).setCell (p := ⟨gQ, 0, none⟩) hge2 _).setCell (p := ⟨gQ, 1, none⟩) hge2 _).setCell (p := ⟨gQ, 2, none⟩) hge2 _)⟩, rfl⟩ ?_
  clear hK K
  refine wpSched_nil ?_
  have hMn := ((((((hM.setCell (p := ⟨gP, 0, none⟩) hge (.bool nx)).setCell (p := ⟨gP, 1, none⟩) hge (.slice ax' lx' cx')).setCell (p := ⟨gP, 2, none⟩) hge (.slice ax lx cx)).setCell (p := ⟨gQ, 0, none⟩) hge2 (.bool ny)).setCell (p := ⟨gQ, 1, none⟩) hge2 (.slice ay' ly' cy')).setCell (p := ⟨gQ, 2, none⟩) hge2 (.slice ay ly cy))
  replace cK0 := bc hMn SLK.out SCK0.out
  replace cK1 := bc hMn SLK.out SCK1.out
  replace cK2 := bc hMn SLK.out SCK2.out
  replace cK3 := bc hMn SLK.out SCK3.out
  replace cK4 := bc hMn SLK.out SCK4.out
  replace cK5 := bc hMn SLK.out SCK5.out
  replace cK6 := bc hMn SLK.out SCK6.out
  replace cK7 := bc hMn SLK.out SCK7.out
  replace cK8 := bc hMn SLK.out SCK8.out
  replace ltK := bl hMn SLK.out
  replace cS0 := bc hMn SLS.out SCS0.out
  replace cS1 := bc hMn SLS.out SCS1.out
  replace cS2 := bc hMn SLS.out SCS2.out
  replace cS3 := bc hMn SLS.out SCS3.out
  replace cS4 := bc hMn SLS.out SCS4.out
  replace cS5 := bc hMn SLS.out SCS5.out
  replace ltS := bl hMn SLS.out
  replace HV := Lib.hid (SHV.out.below hMn)
  replace HX := Lib.hid (SHX.out.below hMn)
  replace HY := Lib.hid (SHY.out.below hMn)
  replace hB := SB.out.trans (hMn.mono SB.out.size)
  have cP0 : ((((((wy.setCell ⟨gP, 0, none⟩ (.bool nx)).setCell ⟨gP, 1, none⟩ (.slice ax' lx' cx')).setCell ⟨gP, 2, none⟩ (.slice ax lx cx)).setCell ⟨gQ, 0, none⟩ (.bool ny)).setCell ⟨gQ, 1, none⟩ (.slice ay' ly' cy')).setCell ⟨gQ, 2, none⟩ (.slice ay ly cy)).cell? ⟨gP, 0, none⟩ = some (.bool nx) := by go_simp
  have fP0 : ((((((wy.setCell ⟨gP, 0, none⟩ (.bool nx)).setCell ⟨gP, 1, none⟩ (.slice ax' lx' cx')).setCell ⟨gP, 2, none⟩ (.slice ax lx cx)).setCell ⟨gQ, 0, none⟩ (.bool ny)).setCell ⟨gQ, 1, none⟩ (.slice ay' ly' cy')).setCell ⟨gQ, 2, none⟩ (.slice ay ly cy)).frozen? ⟨gP, 0, none⟩ = false := by go_simp
  have cP1 : ((((((wy.setCell ⟨gP, 0, none⟩ (.bool nx)).setCell ⟨gP, 1, none⟩ (.slice ax' lx' cx')).setCell ⟨gP, 2, none⟩ (.slice ax lx cx)).setCell ⟨gQ, 0, none⟩ (.bool ny)).setCell ⟨gQ, 1, none⟩ (.slice ay' ly' cy')).setCell ⟨gQ, 2, none⟩ (.slice ay ly cy)).cell? ⟨gP, 1, none⟩ = some (.slice ax' lx' cx') := by go_simp
  have fP1 : ((((((wy.setCell ⟨gP, 0, none⟩ (.bool nx)).setCell ⟨gP, 1, none⟩ (.slice ax' lx' cx')).setCell ⟨gP, 2, none⟩ (.slice ax lx cx)).setCell ⟨gQ, 0, none⟩ (.bool ny)).setCell ⟨gQ, 1, none⟩ (.slice ay' ly' cy')).setCell ⟨gQ, 2, none⟩ (.slice ay ly cy)).frozen? ⟨gP, 1, none⟩ = false := by go_simp
  have cP2 : ((((((wy.setCell ⟨gP, 0, none⟩ (.bool nx)).setCell ⟨gP, 1, none⟩ (.slice ax' lx' cx')).setCell ⟨gP, 2, none⟩ (.slice ax lx cx)).setCell ⟨gQ, 0, none⟩ (.bool ny)).setCell ⟨gQ, 1, none⟩ (.slice ay' ly' cy')).setCell ⟨gQ, 2, none⟩ (.slice ay ly cy)).cell? ⟨gP, 2, none⟩ = some (.slice ax lx cx) := by go_simp
  have fP2 : ((((((wy.setCell ⟨gP, 0, none⟩ (.bool nx)).setCell ⟨gP, 1, none⟩ (.slice ax' lx' cx')).setCell ⟨gP, 2, none⟩ (.slice ax lx cx)).setCell ⟨gQ, 0, none⟩ (.bool ny)).setCell ⟨gQ, 1, none⟩ (.slice ay' ly' cy')).setCell ⟨gQ, 2, none⟩ (.slice ay ly cy)).frozen? ⟨gP, 2, none⟩ = false := by go_simp
  have ltP : gP < ((((((wy.setCell ⟨gP, 0, none⟩ (.bool nx)).setCell ⟨gP, 1, none⟩ (.slice ax' lx' cx')).setCell ⟨gP, 2, none⟩ (.slice ax lx cx)).setCell ⟨gQ, 0, none⟩ (.bool ny)).setCell ⟨gQ, 1, none⟩ (.slice ay' ly' cy')).setCell ⟨gQ, 2, none⟩ (.slice ay ly cy)).heap.size := by simpa using hgl
  have cQ0 : ((((((wy.setCell ⟨gP, 0, none⟩ (.bool nx)).setCell ⟨gP, 1, none⟩ (.slice ax' lx' cx')).setCell ⟨gP, 2, none⟩ (.slice ax lx cx)).setCell ⟨gQ, 0, none⟩ (.bool ny)).setCell ⟨gQ, 1, none⟩ (.slice ay' ly' cy')).setCell ⟨gQ, 2, none⟩ (.slice ay ly cy)).cell? ⟨gQ, 0, none⟩ = some (.bool ny) := by go_simp
  have fQ0 : ((((((wy.setCell ⟨gP, 0, none⟩ (.bool nx)).setCell ⟨gP, 1, none⟩ (.slice ax' lx' cx')).setCell ⟨gP, 2, none⟩ (.slice ax lx cx)).setCell ⟨gQ, 0, none⟩ (.bool ny)).setCell ⟨gQ, 1, none⟩ (.slice ay' ly' cy')).setCell ⟨gQ, 2, none⟩ (.slice ay ly cy)).frozen? ⟨gQ, 0, none⟩ = false := by go_simp
  have cQ1 : ((((((wy.setCell ⟨gP, 0, none⟩ (.bool nx)).setCell ⟨gP, 1, none⟩ (.slice ax' lx' cx')).setCell ⟨gP, 2, none⟩ (.slice ax lx cx)).setCell ⟨gQ, 0, none⟩ (.bool ny)).setCell ⟨gQ, 1, none⟩ (.slice ay' ly' cy')).setCell ⟨gQ, 2, none⟩ (.slice ay ly cy)).cell? ⟨gQ, 1, none⟩ = some (.slice ay' ly' cy') := by go_simp
  have fQ1 : ((((((wy.setCell ⟨gP, 0, none⟩ (.bool nx)).setCell ⟨gP, 1, none⟩ (.slice ax' lx' cx')).setCell ⟨gP, 2, none⟩ (.slice ax lx cx)).setCell ⟨gQ, 0, none⟩ (.bool ny)).setCell ⟨gQ, 1, none⟩ (.slice ay' ly' cy')).setCell ⟨gQ, 2, none⟩ (.slice ay ly cy)).frozen? ⟨gQ, 1, none⟩ = false := by go_simp
  have cQ2 : ((((((wy.setCell ⟨gP, 0, none⟩ (.bool nx)).setCell ⟨gP, 1, none⟩ (.slice ax' lx' cx')).setCell ⟨gP, 2, none⟩ (.slice ax lx cx)).setCell ⟨gQ, 0, none⟩ (.bool ny)).setCell ⟨gQ, 1, none⟩ (.slice ay' ly' cy')).setCell ⟨gQ, 2, none⟩ (.slice ay ly cy)).cell? ⟨gQ, 2, none⟩ = some (.slice ay ly cy) := by go_simp
  have fQ2 : ((((((wy.setCell ⟨gP, 0, none⟩ (.bool nx)).setCell ⟨gP, 1, none⟩ (.slice ax' lx' cx')).setCell ⟨gP, 2, none⟩ (.slice ax lx cx)).setCell ⟨gQ, 0, none⟩ (.bool ny)).setCell ⟨gQ, 1, none⟩ (.slice ay' ly' cy')).setCell ⟨gQ, 2, none⟩ (.slice ay ly cy)).frozen? ⟨gQ, 2, none⟩ = false := by go_simp
  have ltQ : gQ < ((((((wy.setCell ⟨gP, 0, none⟩ (.bool nx)).setCell ⟨gP, 1, none⟩ (.slice ax' lx' cx')).setCell ⟨gP, 2, none⟩ (.slice ax lx cx)).setCell ⟨gQ, 0, none⟩ (.bool ny)).setCell ⟨gQ, 1, none⟩ (.slice ay' ly' cy')).setCell ⟨gQ, 2, none⟩ (.slice ay ly cy)).heap.size := by simpa using hgl2
  have nePK : w.heap.size < gP := Nat.lt_of_lt_of_le SLK.out hge
  have neQK : w.heap.size < gQ := Nat.lt_of_lt_of_le SLK.out hge2
  have nePS : w.heap.size + 1 < gP := Nat.lt_of_lt_of_le SLS.out hge
  have neQS : w.heap.size + 1 < gQ := Nat.lt_of_lt_of_le SLS.out hge2
  have hP := hMn
  clear hMn hM hBk hBk2 hgl hgl2 z0 y0 z1 y1 z2 y2 v0 u0 v1 u1 v2 u2
  go_wp2_with fail
  generalize ((((((wy.setCell ⟨gP, 0, none⟩ (.bool nx)).setCell ⟨gP, 1, none⟩ (.slice ax' lx' cx')).setCell ⟨gP, 2, none⟩ (.slice ax lx cx)).setCell ⟨gQ, 0, none⟩ (.bool ny)).setCell ⟨gQ, 1, none⟩ (.slice ay' ly' cy')).setCell ⟨gQ, 2, none⟩ (.slice ay ly cy)) = w1 at *
  refine (qcmp_any _ _ x y L L _ HX.out HY.out hL hL (by omega)).mono ?_
  rintro e w2 ⟨rfl, hb⟩
  replace cK0 := bc hb ltK cK0
  replace cK1 := bc hb ltK cK1
  replace cK2 := bc hb ltK cK2
  replace cK3 := bc hb ltK cK3
  replace cK4 := bc hb ltK cK4
  replace cK5 := bc hb ltK cK5
  replace cK6 := bc hb ltK cK6
  replace cK7 := bc hb ltK cK7
  replace cK8 := bc hb ltK cK8
  replace ltK := bl hb ltK
  replace cS0 := bc hb ltS cS0
  replace cS1 := bc hb ltS cS1
  replace cS2 := bc hb ltS cS2
  replace cS3 := bc hb ltS cS3
  replace cS4 := bc hb ltS cS4
  replace cS5 := bc hb ltS cS5
  replace ltS := bl hb ltS
  replace cP0 := bc hb ltP cP0
  replace fP0 := bf hb ltP fP0
  replace cP1 := bc hb ltP cP1
  replace fP1 := bf hb ltP fP1
  replace cP2 := bc hb ltP cP2
  replace fP2 := bf hb ltP fP2
  replace ltP := bl hb ltP
  replace cQ0 := bc hb ltQ cQ0
  replace fQ0 := bf hb ltQ fQ0
  replace cQ1 := bc hb ltQ cQ1
  replace fQ1 := bf hb ltQ fQ1
  replace cQ2 := bc hb ltQ cQ2
  replace fQ2 := bf hb ltQ fQ2
  replace ltQ := bl hb ltQ
  replace HV := Lib.hid (HV.out.below hb)
  replace HX := Lib.hid (HX.out.below hb)
  replace HY := Lib.hid (HY.out.below hb)
  replace hB := hB.trans (hb.mono hB.size)
  replace hP := hP.trans (hb.mono hP.size)
  generalize rcmpI x y = cc at *
  clear hb
  go_wp2_with fail
  have hMn := (((((((hP.setCell (p := ⟨gP, 0, none⟩) hge (.bool ny)).setCell (p := ⟨gP, 1, none⟩) hge (.slice ay' ly' cy')).setCell (p := ⟨gP, 2, none⟩) hge (.slice ay ly cy)).setCell (p := ⟨gQ, 0, none⟩) hge2 (.bool nx)).setCell (p := ⟨gQ, 1, none⟩) hge2 (.slice ax' lx' cx')).setCell (p := ⟨gQ, 2, none⟩) hge2 (.slice ax lx cx)).alloc (by simpa using hP.size) (.cells #[.bool ny, .slice ay' ly' cy', .slice ay ly cy, .bool nx, .slice ax' lx' cx', .slice ax lx cx] 27))
  generalize hWW : (((((((w2.setCell ⟨gP, 0, none⟩ (.bool ny)).setCell ⟨gP, 1, none⟩ (.slice ay' ly' cy')).setCell ⟨gP, 2, none⟩ (.slice ay ly cy)).setCell ⟨gQ, 0, none⟩ (.bool nx)).setCell ⟨gQ, 1, none⟩ (.slice ax' lx' cx')).setCell ⟨gQ, 2, none⟩ (.slice ax lx cx)).alloc (.cells #[.bool ny, .slice ay' ly' cy', .slice ay ly cy, .bool nx, .slice ax' lx' cx', .slice ax lx cx] 27)) = w3 at *
  replace HV := Lib.hid (SHV.out.below hMn)
  replace HX := Lib.hid (SHX.out.below hMn)
  replace HY := Lib.hid (SHY.out.below hMn)
  replace hB := SB.out.trans (hMn.mono SB.out.size)
  have cZ0 : w3.cell? ⟨w2.heap.size, 0, none⟩ = some (.bool ny) := by subst hWW; go_simp
  have cZ1 : w3.cell? ⟨w2.heap.size, 1, none⟩ = some (.slice ay' ly' cy') := by subst hWW; go_simp
  have cZ2 : w3.cell? ⟨w2.heap.size, 2, none⟩ = some (.slice ay ly cy) := by subst hWW; go_simp
  have cZ3 : w3.cell? ⟨w2.heap.size, 3, none⟩ = some (.bool nx) := by subst hWW; go_simp
  have cZ4 : w3.cell? ⟨w2.heap.size, 4, none⟩ = some (.slice ax' lx' cx') := by subst hWW; go_simp
  have cZ5 : w3.cell? ⟨w2.heap.size, 5, none⟩ = some (.slice ax lx cx) := by subst hWW; go_simp
  have ltZ : w2.heap.size < w3.heap.size := by subst hWW; simp
  have HRs := Lib.hid (rats_two ltZ cZ0 cZ1 cZ2 cZ3 cZ4 cZ5 HY.out HX.out)
  clear hMn hP cZ0 cZ1 cZ2 cZ3 cZ4 cZ5 ltZ hWW
  refine (table_no _ A B lo hi m _ _ _ L _ HV.out hL HO.out).mono ?_
  rintro e w4 ⟨rfl, hb⟩
  replace hB := hB.trans (hb.mono hB.size)
  have hz : (validE A lo hi m == 0) = false := by simpa using HO.out
  generalize hev : validE A lo hi m = ev at *
  have HEv := Lib.hid hev
  clear hev HO HV
  go_wp2_with fail
  go_ret3
  exact ⟨by rw [HEv.out]; rfl, hB⟩

/-- what a range is -/
def rngLo (a b : Int) : Int := if b < a then b else a
def rngHi (a b : Int) : Int := if b < a then a else b

theorem range_any (na : Bool) (aa' aa : Option Addr) (la' ca' la ca : Nat) (nb : Bool) (ab' ab : Option Addr) (lb' cb' lb cb : Nat) (lo hi m : Int) (nx : Bool) (ax' ax : Option Addr) (lx' cx' lx cx : Nat) (ny : Bool) (ay' ay : Option Addr) (ly' cy' ly cy : Nat) (A B x y : Rat) (L : Nat) (w : World) (hV : LinV w (.agg #[.bool na, .slice aa' la' ca', .slice aa la ca, .bool nb, .slice ab' lb' cb', .slice ab lb cb, .int .i64 lo, .int .i64 hi, .int .i64 m]) A B lo hi m L) (hX : RatV w (.agg #[.bool nx, .slice ax' lx' cx', .slice ax lx cx]) x L) (hY : RatV w (.agg #[.bool ny, .slice ay' ly' cy', .slice ay ly cy]) y L) (hL : 1 ≤ L) (hm : (3 * L + 5) * 4 ≤ 140737488355328) (ho : validE A lo hi m = 0) :
    Calls Try.prog 16 #[.agg #[.bool na, .slice aa' la' ca', .slice aa la ca, .bool nb, .slice ab' lb' cb', .slice ab lb cb, .int .i64 lo, .int .i64 hi, .int .i64 m], .agg #[.bool nx, .slice ax' lx' cx', .slice ax lx cx, .bool ny, .slice ay' ly' cy', .slice ay ly cy]] w fun e w' => e = .returned (.tuple #[.int .i64 (rngLo (scoreI A B lo hi m x) (scoreI A B lo hi m y)), .int .i64 (rngHi (scoreI A B lo hi m x) (scoreI A B lo hi m y)), .int .i64 0]) ∧ Below w.heap.size w w' := by
  have hA := (valid_ok ho).1
  have hlh := (valid_ok ho).2.2.2.1
  cases hc : decide (0 < rcmpI x y)
  · have hxy : x ≤ y := cmpI_le.1 (by simpa using hc)
    have hs := score_mono (B := B) (m := m) hA hlh hxy
    have e1 : rngLo (scoreI A B lo hi m x) (scoreI A B lo hi m y) = scoreI A B lo hi m x := by unfold rngLo; rw [if_neg (by omega)]
    have e2 : rngHi (scoreI A B lo hi m x) (scoreI A B lo hi m y) = scoreI A B lo hi m y := by unfold rngHi; rw [if_neg (by omega)]
    rw [e1, e2]
    exact range_k na aa' aa la' ca' la ca nb ab' ab lb' cb' lb cb lo hi m nx ax' ax lx' cx' lx cx ny ay' ay ly' cy' ly cy A B x y L w hV hX hY hL hm ho hc
  · have hxy : y ≤ x := by
      have := cmpI_le (r := x) (s := y)
      rcases Rat.le_total (a := x) (b := y) with h | h
      · have := this.2 h; simp at hc; omega
      · exact h
    have hs := score_mono (B := B) (m := m) hA hlh hxy
    have e1 : rngLo (scoreI A B lo hi m x) (scoreI A B lo hi m y) = scoreI A B lo hi m y := by unfold rngLo; split <;> omega
    have e2 : rngHi (scoreI A B lo hi m x) (scoreI A B lo hi m y) = scoreI A B lo hi m x := by unfold rngHi; split <;> omega
    rw [e1, e2]
    exact range_s na aa' aa la' ca' la ca nb ab' ab lb' cb' lb cb lo hi m nx ax' ax lx' cx' lx cx ny ay' ay ly' cy' ly cy A B x y L w hV hX hY hL hm ho hc
theorem range_no (na : Bool) (aa' aa : Option Addr) (la' ca' la ca : Nat) (nb : Bool) (ab' ab : Option Addr) (lb' cb' lb cb : Nat) (lo hi m : Int) (nx : Bool) (ax' ax : Option Addr) (lx' cx' lx cx : Nat) (ny : Bool) (ay' ay : Option Addr) (ly' cy' ly cy : Nat) (A B x y : Rat) (L : Nat) (w : World) (hV : LinV w (.agg #[.bool na, .slice aa' la' ca', .slice aa la ca, .bool nb, .slice ab' lb' cb', .slice ab lb cb, .int .i64 lo, .int .i64 hi, .int .i64 m]) A B lo hi m L) (hX : RatV w (.agg #[.bool nx, .slice ax' lx' cx', .slice ax lx cx]) x L) (hY : RatV w (.agg #[.bool ny, .slice ay' ly' cy', .slice ay ly cy]) y L) (hL : 1 ≤ L) (hm : (3 * L + 5) * 4 ≤ 140737488355328) (ho : validE A lo hi m ≠ 0) :
    Calls Try.prog 16 #[.agg #[.bool na, .slice aa' la' ca', .slice aa la ca, .bool nb, .slice ab' lb' cb', .slice ab lb cb, .int .i64 lo, .int .i64 hi, .int .i64 m], .agg #[.bool nx, .slice ax' lx' cx', .slice ax lx cx, .bool ny, .slice ay' ly' cy', .slice ay ly cy]] w fun e w' => e = .returned (.tuple #[.int .i64 0, .int .i64 0, .int .i64 (validE A lo hi m)]) ∧ Below w.heap.size w w' := by
  cases hc : decide (0 < rcmpI x y)
  · exact range_k_no na aa' aa la' ca' la ca nb ab' ab lb' cb' lb cb lo hi m nx ax' ax lx' cx' lx cx ny ay' ay ly' cy' ly cy A B x y L w hV hX hY hL hm ho hc
  · exact range_s_no na aa' aa la' ca' la ca nb ab' ab lb' cb' lb cb lo hi m nx ax' ax lx' cx' lx cx ny ay' ay ly' cy' ly cy A B x y L w hV hX hY hL hm ho hc

set_option maxHeartbeats 2000000 in
theorem rrange_any (na : Bool) (aa' aa : Option Addr) (la' ca' la ca : Nat) (nb : Bool) (ab' ab : Option Addr) (lb' cb' lb cb : Nat) (lo hi m : Int) (nx : Bool) (ax' ax : Option Addr) (lx' cx' lx cx : Nat) (ny : Bool) (ay' ay : Option Addr) (ly' cy' ly cy : Nat) (A B x y : Rat) (L : Nat) (w : World) (hV : LinV w (.agg #[.bool na, .slice aa' la' ca', .slice aa la ca, .bool nb, .slice ab' lb' cb', .slice ab lb cb, .int .i64 lo, .int .i64 hi, .int .i64 m]) A B lo hi m L) (hX : RatV w (.agg #[.bool nx, .slice ax' lx' cx', .slice ax lx cx]) x L) (hY : RatV w (.agg #[.bool ny, .slice ay' ly' cy', .slice ay ly cy]) y L) (hL : 1 ≤ L) (hm : (6 * L + 12) * 4 ≤ 140737488355328) (ho : validE A lo hi m = 0) :
    Calls Try.prog 17 #[.agg #[.bool na, .slice aa' la' ca', .slice aa la ca, .bool nb, .slice ab' lb' cb', .slice ab lb cb, .int .i64 lo, .int .i64 hi, .int .i64 m], .agg #[.bool nx, .slice ax' lx' cx', .slice ax lx cx, .bool ny, .slice ay' ly' cy', .slice ay ly cy]] w fun e w' => e = .returned (.tuple #[.int .i64 (rngLo (scoreI A B lo hi m x) (scoreI A B lo hi m y)), .int .i64 (rngHi (scoreI A B lo hi m x) (scoreI A B lo hi m y)), .int .i64 0]) ∧ Below w.heap.size w w' := by
  have HV := Lib.hid hV
  have HX := Lib.hid hX
  have HY := Lib.hid hY
  have HO := Lib.hid ho
  generalize hU1 : rngLo (scoreI A B lo hi m x) (scoreI A B lo hi m y) = U1
  generalize hU2 : rngHi (scoreI A B lo hi m x) (scoreI A B lo hi m y) = U2
  have HU1 := Lib.hid hU1
  clear hU1
  have HU2 := Lib.hid hU2
  clear hU2
  clear hV hX hY ho
  go_enter Try.func17, Try.ntmps17
  go_wp2_with fail
  have hbx : Below w.heap.size w ((w.alloc (.cells #[.bool na, .slice aa' la' ca', .slice aa la ca, .bool nb, .slice ab' lb' cb', .slice ab lb cb, .int .i64 lo, .int .i64 hi, .int .i64 m] 29)).alloc (.cells #[.bool nx, .slice ax' lx' cx', .slice ax lx cx, .bool ny, .slice ay' ly' cy', .slice ay ly cy] 42)) := (((Below.refl _ _).alloc (Nat.le_refl _) _).alloc (by simp) _)
  generalize hWW : ((w.alloc (.cells #[.bool na, .slice aa' la' ca', .slice aa la ca, .bool nb, .slice ab' lb' cb', .slice ab lb cb, .int .i64 lo, .int .i64 hi, .int .i64 m] 29)).alloc (.cells #[.bool nx, .slice ax' lx' cx', .slice ax lx cx, .bool ny, .slice ay' ly' cy', .slice ay ly cy] 42)) = w0 at *
  replace HV := Lib.hid (HV.out.below hbx)
  replace HX := Lib.hid (HX.out.below hbx)
  replace HY := Lib.hid (HY.out.below hbx)
  have cK0 : w0.cell? ⟨w.heap.size, 0, none⟩ = some (.bool na) := by subst hWW; go_simp
  have cK1 : w0.cell? ⟨w.heap.size, 1, none⟩ = some (.slice aa' la' ca') := by subst hWW; go_simp
  have cK2 : w0.cell? ⟨w.heap.size, 2, none⟩ = some (.slice aa la ca) := by subst hWW; go_simp
  have cK3 : w0.cell? ⟨w.heap.size, 3, none⟩ = some (.bool nb) := by subst hWW; go_simp
  have cK4 : w0.cell? ⟨w.heap.size, 4, none⟩ = some (.slice ab' lb' cb') := by subst hWW; go_simp
  have cK5 : w0.cell? ⟨w.heap.size, 5, none⟩ = some (.slice ab lb cb) := by subst hWW; go_simp
  have cK6 : w0.cell? ⟨w.heap.size, 6, none⟩ = some (.int .i64 lo) := by subst hWW; go_simp
  have cK7 : w0.cell? ⟨w.heap.size, 7, none⟩ = some (.int .i64 hi) := by subst hWW; go_simp
  have cK8 : w0.cell? ⟨w.heap.size, 8, none⟩ = some (.int .i64 m) := by subst hWW; go_simp
  have ltK : w.heap.size < w0.heap.size := by subst hWW; simp <;> omega
  have cS0 : w0.cell? ⟨w.heap.size + 1, 0, none⟩ = some (.bool nx) := by subst hWW; go_simp
  have cS1 : w0.cell? ⟨w.heap.size + 1, 1, none⟩ = some (.slice ax' lx' cx') := by subst hWW; go_simp
  have cS2 : w0.cell? ⟨w.heap.size + 1, 2, none⟩ = some (.slice ax lx cx) := by subst hWW; go_simp
  have cS3 : w0.cell? ⟨w.heap.size + 1, 3, none⟩ = some (.bool ny) := by subst hWW; go_simp
  have cS4 : w0.cell? ⟨w.heap.size + 1, 4, none⟩ = some (.slice ay' ly' cy') := by subst hWW; go_simp
  have cS5 : w0.cell? ⟨w.heap.size + 1, 5, none⟩ = some (.slice ay ly cy) := by subst hWW; go_simp
  have ltS : w.heap.size + 1 < w0.heap.size := by subst hWW; simp
  have hB := hbx
  clear hbx hWW
  refine (rScore_any _ _ A B x lo hi m L _ HV.out HX.out hL hm HO.out).mono ?_
  rintro e w1 ⟨rfl, hb⟩
  replace cK0 := bc hb ltK cK0
  replace cK1 := bc hb ltK cK1
  replace cK2 := bc hb ltK cK2
  replace cK3 := bc hb ltK cK3
  replace cK4 := bc hb ltK cK4
  replace cK5 := bc hb ltK cK5
  replace cK6 := bc hb ltK cK6
  replace cK7 := bc hb ltK cK7
  replace cK8 := bc hb ltK cK8
  replace ltK := bl hb ltK
  replace cS0 := bc hb ltS cS0
  replace cS1 := bc hb ltS cS1
  replace cS2 := bc hb ltS cS2
  replace cS3 := bc hb ltS cS3
  replace cS4 := bc hb ltS cS4
  replace cS5 := bc hb ltS cS5
  replace ltS := bl hb ltS
  replace HV := Lib.hid (HV.out.below hb)
  replace HX := Lib.hid (HX.out.below hb)
  replace HY := Lib.hid (HY.out.below hb)
  replace hB := hB.trans (hb.mono hB.size)
  generalize scoreI A B lo hi m x = sx at *
  clear hb
  go_wp2_with fail
  refine (rScore_any _ _ A B y lo hi m L _ HV.out HY.out hL hm HO.out).mono ?_
  rintro e w2 ⟨rfl, hb⟩
  replace cK0 := bc hb ltK cK0
  replace cK1 := bc hb ltK cK1
  replace cK2 := bc hb ltK cK2
  replace cK3 := bc hb ltK cK3
  replace cK4 := bc hb ltK cK4
  replace cK5 := bc hb ltK cK5
  replace cK6 := bc hb ltK cK6
  replace cK7 := bc hb ltK cK7
  replace cK8 := bc hb ltK cK8
  replace ltK := bl hb ltK
  replace cS0 := bc hb ltS cS0
  replace cS1 := bc hb ltS cS1
  replace cS2 := bc hb ltS cS2
  replace cS3 := bc hb ltS cS3
  replace cS4 := bc hb ltS cS4
  replace cS5 := bc hb ltS cS5
  replace ltS := bl hb ltS
  replace HV := Lib.hid (HV.out.below hb)
  replace HX := Lib.hid (HX.out.below hb)
  replace HY := Lib.hid (HY.out.below hb)
  replace hB := hB.trans (hb.mono hB.size)
  generalize scoreI A B lo hi m y = sy at *
  clear hb
  by_cases hlt : sy < sx
  · have d : decide (sy < sx) = true := by simpa using hlt
    have HN := Lib.hid (show U1 = sy ∧ U2 = sx by rw [← HU1.out, ← HU2.out]; unfold rngLo rngHi; rw [if_pos hlt, if_pos hlt]; exact ⟨rfl, rfl⟩)
    clear hlt
    go_wp2_with fail
    go_ret3
    exact ⟨by rw [HN.out.1, HN.out.2]; rfl, hB⟩
  · have d : decide (sy < sx) = false := by simpa using hlt
    have HN := Lib.hid (show U1 = sx ∧ U2 = sy by rw [← HU1.out, ← HU2.out]; unfold rngLo rngHi; rw [if_neg hlt, if_neg hlt]; exact ⟨rfl, rfl⟩)
    clear hlt
    go_wp2_with fail
    go_ret3
    exact ⟨by rw [HN.out.1, HN.out.2]; rfl, hB⟩

set_option maxHeartbeats 2000000 in
theorem rrange_no (na : Bool) (aa' aa : Option Addr) (la' ca' la ca : Nat) (nb : Bool) (ab' ab : Option Addr) (lb' cb' lb cb : Nat) (lo hi m : Int) (nx : Bool) (ax' ax : Option Addr) (lx' cx' lx cx : Nat) (ny : Bool) (ay' ay : Option Addr) (ly' cy' ly cy : Nat) (A B x y : Rat) (L : Nat) (w : World) (hV : LinV w (.agg #[.bool na, .slice aa' la' ca', .slice aa la ca, .bool nb, .slice ab' lb' cb', .slice ab lb cb, .int .i64 lo, .int .i64 hi, .int .i64 m]) A B lo hi m L) (hX : RatV w (.agg #[.bool nx, .slice ax' lx' cx', .slice ax lx cx]) x L) (hY : RatV w (.agg #[.bool ny, .slice ay' ly' cy', .slice ay ly cy]) y L) (hL : 1 ≤ L) (hm : (6 * L + 12) * 4 ≤ 140737488355328) (ho : validE A lo hi m ≠ 0) :
    Calls Try.prog 17 #[.agg #[.bool na, .slice aa' la' ca', .slice aa la ca, .bool nb, .slice ab' lb' cb', .slice ab lb cb, .int .i64 lo, .int .i64 hi, .int .i64 m], .agg #[.bool nx, .slice ax' lx' cx', .slice ax lx cx, .bool ny, .slice ay' ly' cy', .slice ay ly cy]] w fun e w' => e = .returned (.tuple #[.int .i64 0, .int .i64 0, .int .i64 (validE A lo hi m)]) ∧ Below w.heap.size w w' := by
  have HV := Lib.hid hV
  have HX := Lib.hid hX
  have HY := Lib.hid hY
  have HO := Lib.hid ho
  have hz : (validE A lo hi m == 0) = false := by simpa using ho
  clear hV hX hY ho
  go_enter Try.func17, Try.ntmps17
  go_wp2_with fail
  have hbx : Below w.heap.size w ((w.alloc (.cells #[.bool na, .slice aa' la' ca', .slice aa la ca, .bool nb, .slice ab' lb' cb', .slice ab lb cb, .int .i64 lo, .int .i64 hi, .int .i64 m] 29)).alloc (.cells #[.bool nx, .slice ax' lx' cx', .slice ax lx cx, .bool ny, .slice ay' ly' cy', .slice ay ly cy] 42)) := (((Below.refl _ _).alloc (Nat.le_refl _) _).alloc (by simp) _)
  generalize hWW : ((w.alloc (.cells #[.bool na, .slice aa' la' ca', .slice aa la ca, .bool nb, .slice ab' lb' cb', .slice ab lb cb, .int .i64 lo, .int .i64 hi, .int .i64 m] 29)).alloc (.cells #[.bool nx, .slice ax' lx' cx', .slice ax lx cx, .bool ny, .slice ay' ly' cy', .slice ay ly cy] 42)) = w0 at *
  replace HV := Lib.hid (HV.out.below hbx)
  replace HX := Lib.hid (HX.out.below hbx)
  replace HY := Lib.hid (HY.out.below hbx)
  have cK0 : w0.cell? ⟨w.heap.size, 0, none⟩ = some (.bool na) := by subst hWW; go_simp
  have cK1 : w0.cell? ⟨w.heap.size, 1, none⟩ = some (.slice aa' la' ca') := by subst hWW; go_simp
  have cK2 : w0.cell? ⟨w.heap.size, 2, none⟩ = some (.slice aa la ca) := by subst hWW; go_simp
  have cK3 : w0.cell? ⟨w.heap.size, 3, none⟩ = some (.bool nb) := by subst hWW; go_simp
  have cK4 : w0.cell? ⟨w.heap.size, 4, none⟩ = some (.slice ab' lb' cb') := by subst hWW; go_simp
  have cK5 : w0.cell? ⟨w.heap.size, 5, none⟩ = some (.slice ab lb cb) := by subst hWW; go_simp
  have cK6 : w0.cell? ⟨w.heap.size, 6, none⟩ = some (.int .i64 lo) := by subst hWW; go_simp
  have cK7 : w0.cell? ⟨w.heap.size, 7, none⟩ = some (.int .i64 hi) := by subst hWW; go_simp
  have cK8 : w0.cell? ⟨w.heap.size, 8, none⟩ = some (.int .i64 m) := by subst hWW; go_simp
  have ltK : w.heap.size < w0.heap.size := by subst hWW; simp <;> omega
  have cS0 : w0.cell? ⟨w.heap.size + 1, 0, none⟩ = some (.bool nx) := by subst hWW; go_simp
  have cS1 : w0.cell? ⟨w.heap.size + 1, 1, none⟩ = some (.slice ax' lx' cx') := by subst hWW; go_simp
  have cS2 : w0.cell? ⟨w.heap.size + 1, 2, none⟩ = some (.slice ax lx cx) := by subst hWW; go_simp
  have cS3 : w0.cell? ⟨w.heap.size + 1, 3, none⟩ = some (.bool ny) := by subst hWW; go_simp
  have cS4 : w0.cell? ⟨w.heap.size + 1, 4, none⟩ = some (.slice ay' ly' cy') := by subst hWW; go_simp
  have cS5 : w0.cell? ⟨w.heap.size + 1, 5, none⟩ = some (.slice ay ly cy) := by subst hWW; go_simp
  have ltS : w.heap.size + 1 < w0.heap.size := by subst hWW; simp
  have hB := hbx
  clear hbx hWW
  refine (rScore_no _ _ A B x lo hi m L _ HV.out HX.out (by omega) HO.out).mono ?_
  rintro e w1 ⟨rfl, hb⟩
  replace cK0 := bc hb ltK cK0
  replace cK1 := bc hb ltK cK1
  replace cK2 := bc hb ltK cK2
  replace cK3 := bc hb ltK cK3
  replace cK4 := bc hb ltK cK4
  replace cK5 := bc hb ltK cK5
  replace cK6 := bc hb ltK cK6
  replace cK7 := bc hb ltK cK7
  replace cK8 := bc hb ltK cK8
  replace ltK := bl hb ltK
  replace cS0 := bc hb ltS cS0
  replace cS1 := bc hb ltS cS1
  replace cS2 := bc hb ltS cS2
  replace cS3 := bc hb ltS cS3
  replace cS4 := bc hb ltS cS4
  replace cS5 := bc hb ltS cS5
  replace ltS := bl hb ltS
  replace HV := Lib.hid (HV.out.below hb)
  replace HX := Lib.hid (HX.out.below hb)
  replace HY := Lib.hid (HY.out.below hb)
  replace hB := hB.trans (hb.mono hB.size)
  generalize hev : validE A lo hi m = ev at *
  have HEv := Lib.hid hev
  clear hev
  clear hb
  go_wp2_with fail
  go_ret3
  exact ⟨by rw [HEv.out]; rfl, hB⟩

end Go.Proofs.Ytmahokhgdkdhkaa

namespace Go.Proofs.Ytmahokhgdkdhkaa
set_option maxRecDepth 100000
open Go.ChangeShapes Go.WideShapes Go.ChangeAt Go.RowKit

section
variable {H : Type} {enc : TypeId × Value → H} {W : World}
theorem open_span {base : Nat} {v : Value} {d : DataW H} {ps : List MemPlace} (hv : Value.okWide Try.prog W .any base 42 v) (h : DataW.Trod enc Try.prog W 0 (fun _ => true) true 42 v d ps) :
    ∃ v0 v1 v2 v3 v4 v5 x y M, v = .agg #[v0, v1, v2, v3, v4, v5] ∧ RatV W (.agg #[v0, v1, v2]) x M ∧ RatV W (.agg #[v3, v4, v5]) y M := by
  obtain ⟨cs, rfl, hsz⟩ := okWide_struct Try.underlying42 hv
  obtain ⟨mm, hm⟩ := h
  obtain ⟨xs, n, -, -, hl, hx, hf⟩ := DataW.trod_struct Try.underlying42 hm
  have c1 : Try.prog.cellsOf 27 = 3 := by kernel_rfl
  have c3 : Try.prog.cellsOf 42 = 6 := by kernel_rfl
  rw [c3] at hl
  simp only [Value.cells] at hl hf
  obtain ⟨cs⟩ := cs
  simp only at hl hf
  match cs, hl with
  | [v0, v1, v2, v3, v4, v5], _ =>
  match xs, hx with
  | [y0, y1], _ =>
  have h0 := hf 0 _ rfl
  have h1 := hf 1 _ rfl
  simp [c1] at h0 h1
  obtain ⟨u0, u1, u2, p, q, L, e0, r0, -, -⟩ := ratio_trod h0
  obtain ⟨u3, u4, u5, p', q', L', e1, r1, -, -⟩ := ratio_trod h1
  simp at e0 e1
  obtain ⟨rfl, rfl, rfl⟩ := e0
  obtain ⟨rfl, rfl, rfl⟩ := e1
  exact ⟨v0, v1, v2, v3, v4, v5, mkRat p q, mkRat p' q', max L L', rfl, ⟨p, q, r0.mono (Nat.le_max_left _ _), rfl⟩, ⟨p', q', r1.mono (Nat.le_max_right _ _), rfl⟩⟩
end

set_option maxHeartbeats 4000000 in
theorem sRng_walk (na : Bool) (aa' aa : Option Addr) (la' ca' la ca : Nat) (nb : Bool) (ab' ab : Option Addr) (lb' cb' lb cb : Nat) (lo hi m : Int) (nx : Bool) (ax' ax : Option Addr) (lx' cx' lx cx : Nat) (ny : Bool) (ay' ay : Option Addr) (ly' cy' ly cy : Nat) (A B x y : Rat) (L M : Nat) (w : World) (hA : RatV w (.agg #[.bool na, .slice aa' la' ca', .slice aa la ca]) A L) (hB0 : RatV w (.agg #[.bool nb, .slice ab' lb' cb', .slice ab lb cb]) B L) (hX : RatV w (.agg #[.bool nx, .slice ax' lx' cx', .slice ax lx cx]) x M) (hY : RatV w (.agg #[.bool ny, .slice ay' ly' cy', .slice ay ly cy]) y M) :
    Calls Try.prog 5 #[.agg #[.bool na, .slice aa' la' ca', .slice aa la ca, .bool nb, .slice ab' lb' cb', .slice ab lb cb, .int .i64 lo, .int .i64 hi, .int .i64 m], .agg #[.bool nx, .slice ax' lx' cx', .slice ax lx cx, .bool ny, .slice ay' ly' cy', .slice ay ly cy]] w fun e w' => e = .returned (.bool true) ∧ Below w.heap.size w w' := by
  obtain ⟨_, _, _, _, _, _, _, e1, b1, b2⟩ := hA.form
  obtain ⟨_, _, _, _, _, _, _, e2, b3, b4⟩ := hB0.form
  obtain ⟨_, _, _, _, _, _, _, e3, b5, b6⟩ := hX.form
  obtain ⟨_, _, _, _, _, _, _, e4, b7, b8⟩ := hY.form
  cases e1; cases e2; cases e3; cases e4
  have HA := Lib.hid hA
  have HB0 := Lib.hid hB0
  have HX := Lib.hid hX
  have HY := Lib.hid hY
  clear hA hB0 hX hY
  go_enter Try.func5, Try.ntmps5
  go_wp2_with fail
  have hbx : Below w.heap.size w ((w.alloc (.cells #[.bool na, .slice aa' la' ca', .slice aa la ca, .bool nb, .slice ab' lb' cb', .slice ab lb cb, .int .i64 lo, .int .i64 hi, .int .i64 m] 29)).alloc (.cells #[.bool nx, .slice ax' lx' cx', .slice ax lx cx, .bool ny, .slice ay' ly' cy', .slice ay ly cy] 42)) := (((Below.refl _ _).alloc (Nat.le_refl _) _).alloc (by simp) _)
  generalize hWW : ((w.alloc (.cells #[.bool na, .slice aa' la' ca', .slice aa la ca, .bool nb, .slice ab' lb' cb', .slice ab lb cb, .int .i64 lo, .int .i64 hi, .int .i64 m] 29)).alloc (.cells #[.bool nx, .slice ax' lx' cx', .slice ax lx cx, .bool ny, .slice ay' ly' cy', .slice ay ly cy] 42)) = w0 at *
  replace HA := Lib.hid (HA.out.below hbx)
  replace HB0 := Lib.hid (HB0.out.below hbx)
  replace HX := Lib.hid (HX.out.below hbx)
  replace HY := Lib.hid (HY.out.below hbx)
  have cK0 : w0.cell? ⟨w.heap.size, 0, none⟩ = some (.bool na) := by subst hWW; go_simp
  have cK1 : w0.cell? ⟨w.heap.size, 1, none⟩ = some (.slice aa' la' ca') := by subst hWW; go_simp
  have cK2 : w0.cell? ⟨w.heap.size, 2, none⟩ = some (.slice aa la ca) := by subst hWW; go_simp
  have cK3 : w0.cell? ⟨w.heap.size, 3, none⟩ = some (.bool nb) := by subst hWW; go_simp
  have cK4 : w0.cell? ⟨w.heap.size, 4, none⟩ = some (.slice ab' lb' cb') := by subst hWW; go_simp
  have cK5 : w0.cell? ⟨w.heap.size, 5, none⟩ = some (.slice ab lb cb) := by subst hWW; go_simp
  have cK6 : w0.cell? ⟨w.heap.size, 6, none⟩ = some (.int .i64 lo) := by subst hWW; go_simp
  have cK7 : w0.cell? ⟨w.heap.size, 7, none⟩ = some (.int .i64 hi) := by subst hWW; go_simp
  have cK8 : w0.cell? ⟨w.heap.size, 8, none⟩ = some (.int .i64 m) := by subst hWW; go_simp
  have ltK : w.heap.size < w0.heap.size := by subst hWW; simp <;> omega
  have cS0 : w0.cell? ⟨w.heap.size + 1, 0, none⟩ = some (.bool nx) := by subst hWW; go_simp
  have cS1 : w0.cell? ⟨w.heap.size + 1, 1, none⟩ = some (.slice ax' lx' cx') := by subst hWW; go_simp
  have cS2 : w0.cell? ⟨w.heap.size + 1, 2, none⟩ = some (.slice ax lx cx) := by subst hWW; go_simp
  have cS3 : w0.cell? ⟨w.heap.size + 1, 3, none⟩ = some (.bool ny) := by subst hWW; go_simp
  have cS4 : w0.cell? ⟨w.heap.size + 1, 4, none⟩ = some (.slice ay' ly' cy') := by subst hWW; go_simp
  have cS5 : w0.cell? ⟨w.heap.size + 1, 5, none⟩ = some (.slice ay ly cy) := by subst hWW; go_simp
  have ltS : w.heap.size + 1 < w0.heap.size := by subst hWW; simp
  have hB := hbx
  clear hbx hWW
  refine (wide_any _ _ _ _ _ _ _ _ _ _ _ _ _ _ lo hi m _ b1 b2 b3 b4).mono ?_
  rintro e w1 ⟨rfl, hb⟩
  replace cK0 := bc hb ltK cK0
  replace cK1 := bc hb ltK cK1
  replace cK2 := bc hb ltK cK2
  replace cK3 := bc hb ltK cK3
  replace cK4 := bc hb ltK cK4
  replace cK5 := bc hb ltK cK5
  replace cK6 := bc hb ltK cK6
  replace cK7 := bc hb ltK cK7
  replace cK8 := bc hb ltK cK8
  replace ltK := bl hb ltK
  replace cS0 := bc hb ltS cS0
  replace cS1 := bc hb ltS cS1
  replace cS2 := bc hb ltS cS2
  replace cS3 := bc hb ltS cS3
  replace cS4 := bc hb ltS cS4
  replace cS5 := bc hb ltS cS5
  replace ltS := bl hb ltS
  replace HA := Lib.hid (HA.out.below hb)
  replace HB0 := Lib.hid (HB0.out.below hb)
  replace HX := Lib.hid (HX.out.below hb)
  replace HY := Lib.hid (HY.out.below hb)
  replace hB := hB.trans (hb.mono hB.size)
  clear hb
  by_cases hg : (lgN la' la || lgN lb' lb) = true
  · rw [hg]
    clear hg
    go_wp2_with fail
    go_ret
    exact ⟨rfl, hB⟩
  have hg' : (lgN la' la || lgN lb' lb) = false := by simpa using hg
  rw [hg']
  simp at hg'
  have HV := Lib.hid (show LinV w1 (.agg #[.bool na, .slice aa' la' ca', .slice aa la ca, .bool nb, .slice ab' lb' cb', .slice ab lb cb, .int .i64 lo, .int .i64 hi, .int .i64 m]) A B lo hi m 20 from ⟨na, aa', la', ca', aa, la, ca, nb, ab', lb', cb', ab, lb, cb, rfl, HA.out.small hg'.1, HB0.out.small hg'.2⟩)
  clear hg hg' HA HB0
  go_wp2_with fail
  refine (large_any _ _ _ _ _ _ _ _ b5 b6).mono ?_
  rintro e w2 ⟨rfl, hb⟩
  replace cK0 := bc hb ltK cK0
  replace cK1 := bc hb ltK cK1
  replace cK2 := bc hb ltK cK2
  replace cK3 := bc hb ltK cK3
  replace cK4 := bc hb ltK cK4
  replace cK5 := bc hb ltK cK5
  replace cK6 := bc hb ltK cK6
  replace cK7 := bc hb ltK cK7
  replace cK8 := bc hb ltK cK8
  replace ltK := bl hb ltK
  replace cS0 := bc hb ltS cS0
  replace cS1 := bc hb ltS cS1
  replace cS2 := bc hb ltS cS2
  replace cS3 := bc hb ltS cS3
  replace cS4 := bc hb ltS cS4
  replace cS5 := bc hb ltS cS5
  replace ltS := bl hb ltS
  replace HV := Lib.hid (HV.out.below hb)
  replace HX := Lib.hid (HX.out.below hb)
  replace HY := Lib.hid (HY.out.below hb)
  replace hB := hB.trans (hb.mono hB.size)
  clear hb
  by_cases hg : lgN lx' lx = true
  · rw [hg]
    clear hg
    go_wp2_with fail
    go_ret
    exact ⟨rfl, hB⟩
  have hg' : lgN lx' lx = false := by simpa using hg
  rw [hg']
  replace HX := Lib.hid (HX.out.small hg')
  clear hg hg'
  go_wp2_with fail
  refine (large_any _ _ _ _ _ _ _ _ b7 b8).mono ?_
  rintro e w3 ⟨rfl, hb⟩
  replace cK0 := bc hb ltK cK0
  replace cK1 := bc hb ltK cK1
  replace cK2 := bc hb ltK cK2
  replace cK3 := bc hb ltK cK3
  replace cK4 := bc hb ltK cK4
  replace cK5 := bc hb ltK cK5
  replace cK6 := bc hb ltK cK6
  replace cK7 := bc hb ltK cK7
  replace cK8 := bc hb ltK cK8
  replace ltK := bl hb ltK
  replace cS0 := bc hb ltS cS0
  replace cS1 := bc hb ltS cS1
  replace cS2 := bc hb ltS cS2
  replace cS3 := bc hb ltS cS3
  replace cS4 := bc hb ltS cS4
  replace cS5 := bc hb ltS cS5
  replace ltS := bl hb ltS
  replace HV := Lib.hid (HV.out.below hb)
  replace HX := Lib.hid (HX.out.below hb)
  replace HY := Lib.hid (HY.out.below hb)
  replace hB := hB.trans (hb.mono hB.size)
  clear hb
  by_cases hg : lgN ly' ly = true
  · rw [hg]
    clear hg
    go_wp2_with fail
    go_ret
    exact ⟨rfl, hB⟩
  have hg' : lgN ly' ly = false := by simpa using hg
  rw [hg']
  replace HY := Lib.hid (HY.out.small hg')
  clear hg hg'
  have HS : ∃ n k e : Int, Hid (∀ w', Below w3.heap.size w3 w' → (Calls Try.prog 16 #[.agg #[.bool na, .slice aa' la' ca', .slice aa la ca, .bool nb, .slice ab' lb' cb', .slice ab lb cb, .int .i64 lo, .int .i64 hi, .int .i64 m], .agg #[.bool nx, .slice ax' lx' cx', .slice ax lx cx, .bool ny, .slice ay' ly' cy', .slice ay ly cy]] w' fun e' w'' => e' = .returned (.tuple #[.int .i64 n, .int .i64 k, .int .i64 e]) ∧ Below w'.heap.size w' w'') ∧ (Calls Try.prog 17 #[.agg #[.bool na, .slice aa' la' ca', .slice aa la ca, .bool nb, .slice ab' lb' cb', .slice ab lb cb, .int .i64 lo, .int .i64 hi, .int .i64 m], .agg #[.bool nx, .slice ax' lx' cx', .slice ax lx cx, .bool ny, .slice ay' ly' cy', .slice ay ly cy]] w' fun e' w'' => e' = .returned (.tuple #[.int .i64 n, .int .i64 k, .int .i64 e]) ∧ Below w'.heap.size w' w'')) := by
    by_cases ho : validE A lo hi m = 0
    · exact ⟨_, _, _, Lib.hid fun w' hb => ⟨range_any na aa' aa la' ca' la ca nb ab' ab lb' cb' lb cb lo hi m nx ax' ax lx' cx' lx cx ny ay' ay ly' cy' ly cy A B x y 20 w' (HV.out.below hb) (HX.out.below hb) (HY.out.below hb) (by omega) (by omega) ho, rrange_any na aa' aa la' ca' la ca nb ab' ab lb' cb' lb cb lo hi m nx ax' ax lx' cx' lx cx ny ay' ay ly' cy' ly cy A B x y 20 w' (HV.out.below hb) (HX.out.below hb) (HY.out.below hb) (by omega) (by omega) ho⟩⟩
    · exact ⟨_, _, _, Lib.hid fun w' hb => ⟨range_no na aa' aa la' ca' la ca nb ab' ab lb' cb' lb cb lo hi m nx ax' ax lx' cx' lx cx ny ay' ay ly' cy' ly cy A B x y 20 w' (HV.out.below hb) (HX.out.below hb) (HY.out.below hb) (by omega) (by omega) ho, rrange_no na aa' aa la' ca' la ca nb ab' ab lb' cb' lb cb lo hi m nx ax' ax lx' cx' lx cx ny ay' ay ly' cy' ly cy A B x y 20 w' (HV.out.below hb) (HX.out.below hb) (HY.out.below hb) (by omega) (by omega) ho⟩⟩
  obtain ⟨n, k, er, HS⟩ := HS
  have HS1 := Lib.hid (HS.out _ (Below.refl _ _)).1
  go_wp2_with fail
  refine (HS1.out).mono ?_
  rintro e w4 ⟨rfl, hb⟩
  replace cK0 := bc hb ltK cK0
  replace cK1 := bc hb ltK cK1
  replace cK2 := bc hb ltK cK2
  replace cK3 := bc hb ltK cK3
  replace cK4 := bc hb ltK cK4
  replace cK5 := bc hb ltK cK5
  replace cK6 := bc hb ltK cK6
  replace cK7 := bc hb ltK cK7
  replace cK8 := bc hb ltK cK8
  replace ltK := bl hb ltK
  replace cS0 := bc hb ltS cS0
  replace cS1 := bc hb ltS cS1
  replace cS2 := bc hb ltS cS2
  replace cS3 := bc hb ltS cS3
  replace cS4 := bc hb ltS cS4
  replace cS5 := bc hb ltS cS5
  replace ltS := bl hb ltS
  replace hB := hB.trans (hb.mono hB.size)
  have HS2 := Lib.hid (HS.out _ hb).2
  clear HS HS1
  clear hb
  go_wp2_with fail
  refine (HS2.out).mono ?_
  rintro e w5 ⟨rfl, hb⟩
  replace cK0 := bc hb ltK cK0
  replace cK1 := bc hb ltK cK1
  replace cK2 := bc hb ltK cK2
  replace cK3 := bc hb ltK cK3
  replace cK4 := bc hb ltK cK4
  replace cK5 := bc hb ltK cK5
  replace cK6 := bc hb ltK cK6
  replace cK7 := bc hb ltK cK7
  replace cK8 := bc hb ltK cK8
  replace ltK := bl hb ltK
  replace cS0 := bc hb ltS cS0
  replace cS1 := bc hb ltS cS1
  replace cS2 := bc hb ltS cS2
  replace cS3 := bc hb ltS cS3
  replace cS4 := bc hb ltS cS4
  replace cS5 := bc hb ltS cS5
  replace ltS := bl hb ltS
  replace hB := hB.trans (hb.mono hB.size)
  clear HS2
  clear hb
  go_wp2_with fail
  go_ret
  exact ⟨rfl, hB⟩

theorem scalingRanges_walk {H : Type} {enc : TypeId × Value → H} (W : World) (base : Nat) (args : Array Value) (ds gs : List (DataW H)) (before : List MemPlace)
    (hval : ∀ (j : Nat) t v, Try.f5.params[j]? = some t → args[j]? = some v → Value.okWide Try.prog W .any base t v)
    (hW : DataW.Whole enc Try.prog Try.f5.params.toList Rows.scalingRangesSpec.vars false W args.toList ds gs before)
    (_hsz : (DataW.weightsEach Try.prog (Try.f5.params.toList ++ Rows.scalingRangesSpec.plain.varTypes Try.prog) (ds ++ gs)).all (· ≤ reachBytes) = true) :
    Calls Try.prog 5 args W fun e w' => e = .returned (.bool true) ∧ Below W.heap.size W w' := by
  obtain ⟨p, q, hA, hV, -, -, -⟩ := hW
  obtain ⟨rfl, -⟩ := trodVars_none hV
  rw [Try.params5] at hA hval
  obtain ⟨v0, v1, d0, d1, p0, p1, rfl, rfl, rfl, h0, h1⟩ := trodAll_two hA
  obtain ⟨A, B, lo, hi, m, hX⟩ := open_linear (hval 0 _ _ rfl rfl) h0
  obtain ⟨u0, u1, u2, u3, u4, u5, x, y, M, rfl, hx, hy⟩ := open_span (hval 1 _ _ rfl rfl) h1
  obtain ⟨L, na, aa', la', ca', aa, la, ca, nb, ab', lb', cb', ab, lb, cb, rfl, hA', hB'⟩ := hX
  obtain ⟨nx, ax', lx', cx', ax, lx, cx, e1, -, -⟩ := hx.form
  obtain ⟨ny, ay', ly', cy', ay, ly, cy, e2, -, -⟩ := hy.form
  cases e1; cases e2
  exact sRng_walk na aa' aa la' ca' la ca nb ab' ab lb' cb' lb cb lo hi m nx ax' ax lx' cx' lx cx ny ay' ay ly' cy' ly cy A B x y L M W hA' hB' hx hy

set_option maxRecDepth 100000 in
theorem scalingRanges_lifted (os : Os) (started : os.Started) (H : Type) (enc : TypeId × Value → H) :
    ReturnsInHanded {} Try.checked os 5 .any (Rows.scalingRangesSpec.pre6 enc Try.prog Try.f5 Rows.scalingRangesRow.domain false) (Rows.scalingRangesSpec.post enc Try.prog Try.f5 false true false false) := by
  refine returnsInHanded_of_change_sized (C := Try.checked) own started (by kernel_rfl) Try.func5
    (ChangeSpec.witness6 (enc := enc) (C := Try.checked) false ⟨#[], #[.agg #[.bool false, .slice none 0 0, .slice none 0 0, .bool false, .slice none 0 0, .slice none 0 0, .int .i64 0, .int .i64 0, .int .i64 0], .agg #[.bool false, .slice none 0 0, .slice none 0 0, .bool false, .slice none 0 0, .slice none 0 0]], []⟩ 8 (by kernel_rfl) (by kernel_rfl) (by kernel_rfl) (by kernel_rfl)) ?_
  intro W base args ds gs before hval hW _ hsz _
  exact law_post rfl (by kernel_rfl) (by kernel_rfl) (fun ds h => match ds, h with | [d0, d1], _ => ⟨rfl, rfl, rfl⟩) hW (scalingRanges_walk W base args ds gs before hval hW hsz)

theorem scalingRanges_over : Rows.scalingRangesRow.holds Try.pinned (OpenSpec.ofChange Rows.scalingRangesSpec) :=
  OpenClaim.holds_of_wide 5 Try.f5 rfl rfl rfl rfl rfl rfl rfl ⟨rfl, rfl, rfl, rfl, rfl⟩ rfl rfl rfl rfl rfl (by kernel_rfl) Try.func5 (by kernel_rfl)
    (of_decide_eq_true (by kernel_rfl)) (by unfold Func.isWrapper; first | (rw [if_pos (by decide +kernel)]; kernel_rfl) | (rw [if_neg (by decide +kernel)]; exact ⟨rfl, rfl⟩))
    (fun os started H enc _ => scalingRanges_lifted os started H enc)

theorem scalingRanges_proved : Rows.ScalingRangesSaid := scalingRanges_over

end Go.Proofs.Ytmahokhgdkdhkaa

