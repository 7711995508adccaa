/- The law ScalingTables: the scores of several abilities, and the first that reaches a score, or the errors, are those of the reference. No condition. -/
import Derived.Test.YtmahokhgdkdhkaaBase
import Derived.Test.YtmahokhgdkdhkaaProg
import Derived.Test.YtmahokhgdkdhkaaSclO
import Derived.Test.YtmahokhgdkdhkaaRScl
namespace Go.Proofs.Ytmahokhgdkdhkaa
set_option maxRecDepth 100000
open Go.RowKit

theorem infoInt : (Try.prog.info? 3).map (fun i => (i.zero, i.size, i.bytes)) = some (some (.int .i64 0), 1, 8) := by kernel_rfl
def iv (x : Int) : Value := .int .i64 x
def ivs (xs : List Int) : List Value := xs.map iv
theorem ivs_length (xs : List Int) : (ivs xs).length = xs.length := by simp [ivs]
theorem ivs_append (xs ys : List Int) : ivs (xs ++ ys) = ivs xs ++ ivs ys := by simp [ivs]
theorem ivs_one (xs : List Int) : ∀ u ∈ ivs xs, u.oneCell' = true := by intro u hu; simp [ivs] at hu; obtain ⟨x, _, rfl⟩ := hu; rfl
theorem ivs_set (xs : List Int) (j : Nat) (y : Int) : (ivs xs).set j (iv y) = ivs (xs.set j y) := by simp [ivs, List.map_set]
theorem ivs_at (xs : List Int) (j : Nat) (h : j < xs.length) : (ivs xs).getD j .nilFunc = iv (xs.getD j 0) := by simp [ivs, List.getD, h]
/-- a slice of ints that is only read -/
def Ints (w : World) (a : Option Addr) (len cap : Nat) (xs : List Int) : Prop := xs.length = len ∧ Cells w a len cap (fun i => .int .i64 (xs.getD i 0))
theorem Ints.below {w w' : World} {a : Option Addr} {len cap : Nat} {xs : List Int} (h : Ints w a len cap xs) (hb : Below w.heap.size w w') : Ints w' a len cap xs := ⟨h.1, h.2.below hb⟩
theorem Row.ints {w : World} {a : Option Addr} {len cap : Nat} {xs : List Int} (h : Row .i64 w a len cap xs) : Ints w a len cap xs := ⟨h.1, h.2.2⟩
theorem ints_nil (w : World) : Ints w none 0 0 [] := ⟨rfl, by omega, by simp [maxLen], by simp, .inl rfl⟩
theorem Owns.ints {w : World} {B : Nat} {e : TypeId} {v : Value} {xs : List Int} (h : Owns w B e v (ivs xs)) : ∃ a n cap, v = .slice a n cap ∧ Ints w a n cap xs := by
  obtain ⟨a, cap, rfl, hc⟩ := h.form
  rw [ivs_length] at hc ⊢
  refine ⟨a, xs.length, cap, rfl, rfl, hc.congr fun i hi => ?_⟩
  rw [ivs_at xs i hi]; rfl
theorem Owns.ints' {w : World} {B : Nat} {e : TypeId} {a : Option Addr} {n cap : Nat} {xs : List Int} (h : Owns w B e (.slice a n cap) (ivs xs)) : Ints w a n cap xs := by
  obtain ⟨a', n', cap', hv, hi⟩ := h.ints
  cases hv; exact hi
theorem ints_lit (w : World) (e : TypeId) (xs : List Int) (hl : xs.length ≤ maxLen) : Ints (w.alloc (.cells (ivs xs).toArray e)) (some ⟨w.heap.size, 0, none⟩) xs.length xs.length xs := by
  have h := cells_lit w e (ivs xs) (by rw [ivs_length]; exact hl)
  rw [ivs_length] at h
  exact ⟨rfl, h.congr fun i hi => by rw [ivs_at xs i hi]; rfl⟩
theorem iset_fill (l : List Int) (m : Nat) (y : Int) : (l ++ List.replicate (m + 1) 0).set l.length y = (l ++ [y]) ++ List.replicate m 0 := by
  rw [List.set_append_right _ _ (Nat.le_refl _)]; simp [List.replicate_succ]
theorem ivs_replicate (n : Nat) : List.replicate n (Value.int .i64 0) = ivs (List.replicate n 0) := by simp [ivs, iv]

end Go.Proofs.Ytmahokhgdkdhkaa

namespace Go.Proofs.Ytmahokhgdkdhkaa
set_option maxRecDepth 100000
open Go.ChangeShapes Go.WideShapes Go.ChangeAt Go.RowKit

/-- the fraction in three cells from off on -/
def RatAt (w : World) (b off : Nat) (r : Rat) (L : Nat) : Prop := ∃ n a' l' c' a l c, w.cell? ⟨b, off, none⟩ = some (.bool n) ∧ w.cell? ⟨b, off + 1, none⟩ = some (.slice a' l' c') ∧ w.cell? ⟨b, off + 2, none⟩ = some (.slice a l c) ∧ RatV w (.agg #[.bool n, .slice a' l' c', .slice a l c]) r L
/-- a slice of fractions -/
def Rats (w : World) (a : Option Addr) (len cap : Nat) (rs : List Rat) (L : Nat) : Prop :=
  rs.length = len ∧ len ≤ cap ∧ cap ≤ maxLen ∧ (len = 0 ∨ ∃ b off, a = some ⟨b, off, none⟩ ∧ b < w.heap.size ∧ ∀ i, i < len → RatAt w b (off + i * 3) (rs.getD i 0) L)
theorem RatAt.below {w w' : World} {b off : Nat} {r : Rat} {L : Nat} (h : RatAt w b off r L) (hlt : b < w.heap.size) (hb : Below w.heap.size w w') : RatAt w' b off r L := by
  obtain ⟨n, a', l', c', a, l, c, h0, h1, h2, h3⟩ := h
  exact ⟨n, a', l', c', a, l, c, by rw [hb.cell (p := ⟨b, off, none⟩) hlt]; exact h0, by rw [hb.cell (p := ⟨b, off + 1, none⟩) hlt]; exact h1, by rw [hb.cell (p := ⟨b, off + 2, none⟩) hlt]; exact h2, h3.below hb⟩
theorem Rats.below {w w' : World} {a : Option Addr} {len cap : Nat} {rs : List Rat} {L : Nat} (h : Rats w a len cap rs L) (hb : Below w.heap.size w w') : Rats w' a len cap rs L := by
  obtain ⟨h1, h2, h3, h4⟩ := h
  refine ⟨h1, h2, h3, ?_⟩
  rcases h4 with h4 | ⟨b, off, rfl, hlt, hc⟩
  · exact .inl h4
  · exact .inr ⟨b, off, rfl, Nat.lt_of_lt_of_le hlt hb.size, fun i hi => (hc i hi).below hlt hb⟩
theorem Rats.at {w : World} {a : Option Addr} {len cap : Nat} {rs : List Rat} {L : Nat} (h : Rats w a len cap rs L) {k : Nat} (hk : k < len) :
    ∃ b off, a = some ⟨b, off, none⟩ ∧ b < w.heap.size ∧ ∀ i, i < len → RatAt w b (off + i * 3) (rs.getD i 0) L := by
  rcases h.2.2.2 with h | ⟨b, off, rfl, hlt, hc⟩
  · omega
  · exact ⟨b, off, rfl, hlt, hc⟩

section
variable {H : Type} {enc : TypeId × Value → H} {W : World}
theorem rats_trod {fuel : Nat} {cs : List Value} {x : DataW H × List MemPlace} (h : DataW.trod enc Try.prog W 0 (fun _ => true) true fuel 46 cs = some x) :
    ∃ a len cap rs L, cs = [.slice a len cap] ∧ Rats W a len cap rs L := by
  have c3 : Try.prog.cellsOf 27 = 3 := by kernel_rfl
  rcases DataW.trod_slice Try.underlying46 h with ⟨rfl, -⟩ | ⟨ad, len, cap, elems, rest, n, -, rfl, -, hb, hl, hm, hlen, hel, -, -⟩
  · exact ⟨none, 0, 0, [], 0, rfl, rfl, Nat.le_refl _, by simp [maxLen], .inl rfl⟩
  · obtain ⟨b, off, spot⟩ := ad
    by_cases h0 : len = 0
    · subst h0
      exact ⟨some ⟨b, off, spot⟩, 0, cap, [], 0, rfl, rfl, hl, hm, .inl rfl⟩
    have key0 : ∀ i, i < len → ∃ cs', W.cells? 0 ((⟨b, off, spot⟩ : Addr).add (i * 3)) 3 = some cs' ∧ ∃ v0 v1 v2 p q L, cs' = [v0, v1, v2] ∧ RatR W (.agg #[v0, v1, v2]) p q L := by
      intro i hi
      have hE := hel i hi
      rw [c3, List.getElem?_eq_getElem (by omega), Option.bind_eq_some_iff] at hE
      obtain ⟨cs', hc, hE⟩ := hE
      obtain ⟨v0, v1, v2, p, q, L, e, hR, -, -⟩ := ratio_trod hE
      exact ⟨cs', hc, v0, v1, v2, p, q, L, e, hR⟩
    have hspot : spot = none := by
      obtain ⟨cs', hc, v0, v1, v2, p, q, L, rfl, -⟩ := key0 0 (by omega)
      obtain ⟨-, -, hcell⟩ := World.cells?_some hc
      have q0 := hcell 0 (by omega)
      have := World.cell?_spot (v := v0) (by simpa using q0)
      simpa [Addr.add] using this
    subst hspot
    have key : ∀ i, i < len → ∃ r L, b < W.heap.size ∧ RatAt W b (off + i * 3) r L := by
      intro i hi
      obtain ⟨cs', hc, v0, v1, v2, p, q, L, rfl, hR⟩ := key0 i hi
      obtain ⟨-, -, hcell⟩ := World.cells?_some hc
      have q0 := hcell 0 (by omega)
      have q1 := hcell 1 (by omega)
      have q2 := hcell 2 (by omega)
      rw [addr_add, addr_add] at q0 q1 q2
      simp at q0 q1 q2
      have hV : RatV W (.agg #[v0, v1, v2]) (mkRat p q) L := ⟨p, q, hR, rfl⟩
      obtain ⟨n, a', l', c', a, l, c, e, -, -⟩ := hV.form
      cases e
      refine ⟨mkRat p q, L, ?_, n, a', l', c', a, l, c, q0, q1, q2, hV⟩
      simp only [World.cell?] at q0
      rcases Nat.lt_or_ge b W.heap.size with hlt' | hge
      · exact hlt'
      · rw [Array.getElem?_eq_none hge] at q0; cases q0
    have hex : ∃ (rs : List Rat) (M : Nat), rs.length = len ∧ ∀ i, i < len → b < W.heap.size ∧ RatAt W b (off + i * 3) (rs.getD i 0) M := by
      clear hel hlen hl hm h h0 key0
      induction len with
      | zero => exact ⟨[], 0, rfl, fun i hi => by omega⟩
      | succ l ih =>
        obtain ⟨rs, M, h1, h2⟩ := ih fun i hi => key i (by omega)
        obtain ⟨r, L, k2, k3⟩ := key l (by omega)
        have up : ∀ {o : Nat} {r : Rat} {N N' : Nat}, N ≤ N' → RatAt W b o r N → RatAt W b o r N' := fun hN ⟨n, a', l', c', a, l, c, h0, h1, h2, h3⟩ => ⟨n, a', l', c', a, l, c, h0, h1, h2, h3.mono hN⟩
        refine ⟨rs ++ [r], max M L, by simp [h1], fun i hi => ?_⟩
        by_cases hil : i < l
        · have : (rs ++ [r]).getD i 0 = rs.getD i 0 := by simp [List.getD, List.getElem?_append_left (by omega : i < rs.length)]
          rw [this]; exact ⟨k2, up (Nat.le_max_left _ _) (h2 i hil).2⟩
        · obtain rfl : i = l := by omega
          have : (rs ++ [r]).getD i 0 = r := by simp [List.getD, ← h1]
          rw [this]; exact ⟨k2, up (Nat.le_max_right _ _) k3⟩
    obtain ⟨rs, M, h1, h2⟩ := hex
    exact ⟨some ⟨b, off, none⟩, len, cap, rs, M, rfl, h1, hl, hm, .inr ⟨b, off, rfl, (h2 0 (by omega)).1, fun i hi => (h2 i hi).2⟩⟩
theorem open_rats {base : Nat} {v : Value} {d : DataW H} {ps : List MemPlace} (hv : Value.okWide Try.prog W .any base 46 v) (h : DataW.Trod enc Try.prog W 0 (fun _ => true) true 46 v d ps) :
    ∃ a len cap rs L, v = .slice a len cap ∧ Rats W a len cap rs L := by
  obtain ⟨a, len, cap, rfl⟩ := okWide_slice Try.underlying46 hv
  obtain ⟨m, hm⟩ := h
  obtain ⟨a', len', cap', rs, L, e, hR⟩ := rats_trod hm
  simp [Value.cells] at e
  obtain ⟨rfl, rfl, rfl⟩ := e
  exact ⟨a, len, cap, rs, L, rfl, hR⟩
end

/-- the scores of several abilities -/
def scoresL (A B : Rat) (lo hi m : Int) (rs : List Rat) : List Int := rs.map (scoreI A B lo hi m)
theorem scoresL_length (A B : Rat) (lo hi m : Int) (rs : List Rat) : (scoresL A B lo hi m rs).length = rs.length := by simp [scoresL]
theorem scores_set (A B : Rat) (lo hi m : Int) (rs : List Rat) (k : Nat) (h : k < rs.length) :
    (scoresL A B lo hi m (rs.take k) ++ List.replicate (rs.length - k) 0).set k (scoreI A B lo hi m (rs.getD k 0)) = scoresL A B lo hi m (rs.take (k + 1)) ++ List.replicate (rs.length - (k + 1)) 0 := by
  obtain ⟨j, hj⟩ : ∃ j, rs.length = k + 1 + j := ⟨rs.length - k - 1, by omega⟩
  have h1 := iset_fill (scoresL A B lo hi m (rs.take k)) j (scoreI A B lo hi m (rs.getD k 0))
  rw [scoresL_length, List.length_take, Nat.min_eq_left (by omega)] at h1
  rw [show rs.length - k = j + 1 by omega, h1, show rs.length - (k + 1) = j by omega]
  rw [take_snoc rs k 0 h]
  simp [scoresL]

set_option maxHeartbeats 2000000 in
theorem table_any (v : Value) (A B : Rat) (lo hi m : Int) (rs : List Rat) (a : Option Addr) (len cap L : Nat) (w : World) (hv : LinV w v A B lo hi m L) (hr : Rats w a len cap rs L) (hL : 1 ≤ L) (hm : (3 * L + 5) * 4 ≤ 140737488355328) (ho : validE A lo hi m = 0) (hlen : len ≤ 61) :
    Calls Try.prog 19 #[v, .slice a len cap] w fun e w' => ∃ a2 c2, e = .returned (.tuple #[.slice a2 len c2, .int .i64 0]) ∧ Ints w' a2 len c2 (scoresL A B lo hi m rs) ∧ Below w.heap.size w w' := by
  have HV := Lib.hid hv
  have HO := Lib.hid ho
  have HRl := Lib.hid hr.1
  obtain ⟨-, k1, k2, k3, k4, k5⟩ := valid_ok ho
  obtain ⟨na, aa', la', ca', aa, la, ca, nb, ab', lb', cb', ab, lb, cb, rfl, -, -⟩ := hv
  have hb0 : Below w.heap.size w (w.alloc (.cells #[.bool na, .slice aa' la' ca', .slice aa la ca, .bool nb, .slice ab' lb' cb', .slice ab lb cb, .int .i64 lo, .int .i64 hi, .int .i64 m] 29)) := (Below.refl _ _).alloc (Nat.le_refl _) _
  have HRs := Lib.hid hr
  have d61 : decide (61 < (len : Int)) = false := by simp; omega
  clear ho hr
  go_enter Try.func19, Try.ntmps19
  go_wp2_with fail
  refine (svalid_any _ A B lo hi m L _ (HV.out.below hb0) hL).mono ?_
  rintro e w1 ⟨rfl, hb1⟩
  rw [HO.out]
  have hb01 := hb0.trans (hb1.mono (by simp))
  have cK := fun o => (bcell hb1 w.heap.size (by simp)).1 o
  have q0 : w1.cell? ⟨w.heap.size, 0, none⟩ = some (.bool na) := by rw [cK]; go_simp
  have q1 : w1.cell? ⟨w.heap.size, 1, none⟩ = some (.slice aa' la' ca') := by rw [cK]; go_simp
  have q2 : w1.cell? ⟨w.heap.size, 2, none⟩ = some (.slice aa la ca) := by rw [cK]; go_simp
  have q3 : w1.cell? ⟨w.heap.size, 3, none⟩ = some (.bool nb) := by rw [cK]; go_simp
  have q4 : w1.cell? ⟨w.heap.size, 4, none⟩ = some (.slice ab' lb' cb') := by rw [cK]; go_simp
  have q5 : w1.cell? ⟨w.heap.size, 5, none⟩ = some (.slice ab lb cb) := by rw [cK]; go_simp
  have q6 : w1.cell? ⟨w.heap.size, 6, none⟩ = some (.int .i64 lo) := by rw [cK]; go_simp
  have q7 : w1.cell? ⟨w.heap.size, 7, none⟩ = some (.int .i64 hi) := by rw [cK]; go_simp
  have q8 : w1.cell? ⟨w.heap.size, 8, none⟩ = some (.int .i64 m) := by rw [cK]; go_simp
  have HQ := Lib.hid (And.intro q0 (And.intro q1 (And.intro q2 (And.intro q3 (And.intro q4 (And.intro q5 (And.intro q6 (And.intro q7 q8))))))))
  have hlt1 : w.heap.size < w1.heap.size := by have := hb1.size; simp at this; omega
  clear hb1 cK q0 q1 q2 q3 q4 q5 q6 q7 q8
  go_wp2_with (refine wpList_mkn rfl _ _ 48 rfl 3 (.int .i64 0) 8 Try.underlying48 infoInt rfl .i64 .i64 _ _ len rfl rfl rfl rfl (by omega) (by unfold maxLen; omega) fun w2 ho2 hb2 => ?_)
  rw [ivs_replicate] at ho2
  have HO2 := Lib.hid ho2
  clear ho2
  go_wp2_with fail
  go_loopw [25] (fun i wr => ∃ k : Nat, k ≤ len ∧ i = .int .i64 k ∧ Hid (Owns wr w1.heap.size 3 (.slice (some ⟨w1.heap.size, 0, none⟩) len len) (ivs (scoresL A B lo hi m (rs.take k) ++ List.replicate (rs.length - k) 0))) ∧ Below w1.heap.size w1 wr) (fun i _ => len - (intOf i).toNat)
  case atStart => exact ⟨0, by omega, rfl, Lib.hid (by rw [HRl.out]; simpa [scoresL] using HO2.out), hb2⟩
  case round =>
    clear HO2 hb2
    obtain ⟨k, hk, rfl, HOk, hb⟩ := hrel
    have hb0r := hb01.trans (hb.mono hb01.size)
    by_cases hlt : k < len
    · obtain ⟨bb, off, rfl, hbs, hcc⟩ := HRs.out.at hlt
      obtain ⟨n, x', l', c', x, l, c, e0, e1, e2, hX⟩ := (hcc k hlt).below hbs hb0r
      have HX := Lib.hid hX
      have HSet := Lib.hid (scores_set A B lo hi m rs k (by rw [HRl.out]; exact hlt))
      have hgw : w1.heap.size < wr.heap.size := Owns.in HOk.out _ rfl
      have hbx : Below wr.heap.size wr (wr.alloc (.cells #[.bool n, .slice x' l' c', .slice x l c] 27)) := (Below.refl _ _).alloc (Nat.le_refl _) _
      have hbw : Below w1.heap.size w1 (wr.alloc (.cells #[.bool n, .slice x' l' c', .slice x l c] 27)) := hb.trans (hbx.mono hb.size)
      obtain ⟨q0, q1, q2, q3, q4, q5, q6, q7, q8⟩ := HQ.out
      have cW := fun o => (bcell hb w.heap.size hlt1).1 o
      have hltr : w.heap.size < wr.heap.size := by omega
      have k0 : wr.cell? ⟨w.heap.size, 0, none⟩ = some (.bool na) := by rw [cW]; exact q0
      have k1' : wr.cell? ⟨w.heap.size, 1, none⟩ = some (.slice aa' la' ca') := by rw [cW]; exact q1
      have k2' : wr.cell? ⟨w.heap.size, 2, none⟩ = some (.slice aa la ca) := by rw [cW]; exact q2
      have k3' : wr.cell? ⟨w.heap.size, 3, none⟩ = some (.bool nb) := by rw [cW]; exact q3
      have k4' : wr.cell? ⟨w.heap.size, 4, none⟩ = some (.slice ab' lb' cb') := by rw [cW]; exact q4
      have k5' : wr.cell? ⟨w.heap.size, 5, none⟩ = some (.slice ab lb cb) := by rw [cW]; exact q5
      have k6 : wr.cell? ⟨w.heap.size, 6, none⟩ = some (.int .i64 lo) := by rw [cW]; exact q6
      have k7 : wr.cell? ⟨w.heap.size, 7, none⟩ = some (.int .i64 hi) := by rw [cW]; exact q7
      have k8 : wr.cell? ⟨w.heap.size, 8, none⟩ = some (.int .i64 m) := by rw [cW]; exact q8
      have HVw := Lib.hid (HV.out.below (hb0r.trans (hbx.mono hb0r.size)))
      have HXw := Lib.hid (HX.out.below hbx)
      generalize rs.getD k 0 = xk at *
      clear hcc hX q0 q1 q2 q3 q4 q5 q6 q7 q8 cW
      go_wp2_with fail
      refine (score_any _ _ A B xk lo hi m L _ HVw.out HXw.out hL hm k4 k5 k1 k2).mono ?_
      rintro e w3 ⟨rfl, hb3⟩
      have hbr3 := hbx.trans (hb3.mono hbx.size)
      have HO3 := Lib.hid (HOk.out.later hbr3)
      have c3 := HO3.out.cell k hlt
      have f3 := HO3.out.free k
      have hb13 := hb.trans (hbr3.mono hb.size)
      have HSt := Lib.hid (HO3.out.store k (iv (scoreI A B lo hi m xk)))
      rw [ivs_set, HSet.out] at HSt
      unfold iv at HSt
      generalize (ivs (scoresL A B lo hi m (rs.take k) ++ List.replicate (rs.length - k) 0)).getD k .nilFunc = old at *
      generalize scoreI A B lo hi m xk = sc at *
      clear hb3
      go_wp2_with fail
      go_roundw
      case rel => exact ⟨k + 1, by omega, by go_num, HSt, hb13.setCell (Nat.le_refl _) _⟩
      case measure => simp [intOf]; omega
    · obtain rfl : k = len := by omega
      have HI := Lib.hid (show Ints wr (some ⟨w1.heap.size, 0, none⟩) k k (scoresL A B lo hi m rs) by
        have := HOk.out.ints'
        rw [List.take_of_length_le (by rw [HRl.out]; omega), show rs.length - k = 0 by rw [HRl.out]; omega] at this
        simpa using this)
      clear HOk
      go_wp2_with fail
      go_ret2
      exact ⟨_, _, rfl, HI.out, hb0r⟩

end Go.Proofs.Ytmahokhgdkdhkaa

namespace Go.Proofs.Ytmahokhgdkdhkaa
set_option maxRecDepth 100000
open Go.RowKit

set_option maxHeartbeats 2000000 in
theorem table_no (v : Value) (A B : Rat) (lo hi m : Int) (a : Option Addr) (len cap L : Nat) (w : World) (hv : LinV w v A B lo hi m L) (hL : 1 ≤ L) (ho : validE A lo hi m ≠ 0) :
    Calls Try.prog 19 #[v, .slice a len cap] w fun e w' => e = .returned (.tuple #[.slice none 0 0, .int .i64 (validE A lo hi m)]) ∧ Below w.heap.size w w' := by
  have HV := Lib.hid hv
  have hz : (validE A lo hi m == 0) = false := by simpa using ho
  obtain ⟨na, aa', la', ca', aa, la, ca, nb, ab', lb', cb', ab, lb, cb, rfl, -, -⟩ := hv
  have hb0 : Below w.heap.size w (w.alloc (.cells #[.bool na, .slice aa' la' ca', .slice aa la ca, .bool nb, .slice ab' lb' cb', .slice ab lb cb, .int .i64 lo, .int .i64 hi, .int .i64 m] 29)) := (Below.refl _ _).alloc (Nat.le_refl _) _
  clear ho
  go_enter Try.func19, Try.ntmps19
  go_wp2_with fail
  refine (svalid_any _ A B lo hi m L _ (HV.out.below hb0) hL).mono ?_
  rintro e w1 ⟨rfl, hb1⟩
  have hb01 := hb0.trans (hb1.mono (by simp))
  generalize hev : validE A lo hi m = ev at *
  have HEv := Lib.hid hev
  clear hev
  go_wp2_with fail
  go_ret2
  exact ⟨by rw [HEv.out]; rfl, hb01⟩

set_option maxHeartbeats 2000000 in
theorem table_long (v : Value) (A B : Rat) (lo hi m : Int) (a : Option Addr) (len cap L : Nat) (w : World) (hv : LinV w v A B lo hi m L) (hL : 1 ≤ L) (ho : validE A lo hi m = 0) (hlen : 61 < len) (hlm : len ≤ 9223372036854775807) :
    Calls Try.prog 19 #[v, .slice a len cap] w fun e w' => e = .returned (.tuple #[.slice none 0 0, .int .i64 5]) ∧ Below w.heap.size w w' := by
  have HV := Lib.hid hv
  have HO := Lib.hid ho
  have d61 : decide (61 < (len : Int)) = true := by simp; omega
  obtain ⟨na, aa', la', ca', aa, la, ca, nb, ab', lb', cb', ab, lb, cb, rfl, -, -⟩ := hv
  have hb0 : Below w.heap.size w (w.alloc (.cells #[.bool na, .slice aa' la' ca', .slice aa la ca, .bool nb, .slice ab' lb' cb', .slice ab lb cb, .int .i64 lo, .int .i64 hi, .int .i64 m] 29)) := (Below.refl _ _).alloc (Nat.le_refl _) _
  clear ho
  go_enter Try.func19, Try.ntmps19
  go_wp2_with fail
  refine (svalid_any _ A B lo hi m L _ (HV.out.below hb0) hL).mono ?_
  rintro e w1 ⟨rfl, hb1⟩
  rw [HO.out]
  have hb01 := hb0.trans (hb1.mono (by simp))
  go_wp2_with fail
  go_ret2
  exact ⟨rfl, hb01⟩

def Rises (rs : List Rat) : Prop := ∀ j, 1 ≤ j → j < rs.length → rs.getD (j - 1) 0 ≤ rs.getD j 0
/-- the first index whose score is at least s -/
def fI (l : List Int) (s : Int) : Nat := l.findIdx (fun x => decide (s ≤ x))
theorem fI_at {l : List Int} {s : Int} {k : Nat} (hk : k < l.length) (h : s ≤ l.getD k 0) (hb : ∀ j, j < k → ¬ s ≤ l.getD j 0) : fI l s = k := by
  unfold fI
  rw [List.findIdx_eq hk]
  refine ⟨by simpa [List.getD, hk] using h, fun j hj => ?_⟩
  have := hb j hj
  simpa [List.getD, show j < l.length by omega] using this
theorem fI_none {l : List Int} {s : Int} (hb : ∀ j, j < l.length → ¬ s ≤ l.getD j 0) : fI l s = l.length := by
  unfold fI
  rw [List.findIdx_eq_length]
  intro x hx
  obtain ⟨j, hj, rfl⟩ := List.getElem_of_mem hx
  have := hb j hj
  simpa [List.getD, hj] using this
open Classical in
noncomputable def reachI (rs : List Rat) (l : List Int) (s : Int) : Int := if Rises rs then (if fI l s < l.length then (fI l s : Int) else 0) else 0
open Classical in
noncomputable def reachE (rs : List Rat) (l : List Int) (s : Int) : Int := if Rises rs then (if fI l s < l.length then 0 else 6) else 23
theorem reach_bad {rs : List Rat} {l : List Int} {s : Int} (h : ¬ Rises rs) : reachI rs l s = 0 ∧ reachE rs l s = 23 := by
  unfold reachI reachE; rw [if_neg h, if_neg h]; exact ⟨rfl, rfl⟩
theorem reach_found {rs : List Rat} {l : List Int} {s : Int} {k : Nat} (h : Rises rs) (hf : fI l s = k) (hk : k < l.length) : reachI rs l s = (k : Int) ∧ reachE rs l s = 0 := by
  unfold reachI reachE; rw [if_pos h, if_pos h, hf, if_pos hk, if_pos hk]; exact ⟨rfl, rfl⟩
theorem reach_none {rs : List Rat} {l : List Int} {s : Int} (h : Rises rs) (hf : fI l s = l.length) : reachI rs l s = 0 ∧ reachE rs l s = 6 := by
  unfold reachI reachE; rw [if_pos h, if_pos h, hf, if_neg (Nat.lt_irrefl _), if_neg (Nat.lt_irrefl _)]; exact ⟨rfl, rfl⟩
theorem cmpI_lt' {r s : Rat} : rcmpI r s < 0 ↔ r < s := by
  unfold rcmpI
  by_cases h : r < s
  · simp [h]
  · rw [if_neg h]; split <;> simp [h]

set_option maxHeartbeats 4000000 in
theorem reach_any (v : Value) (A B : Rat) (lo hi m s : Int) (rs : List Rat) (a : Option Addr) (len cap L : Nat) (w : World) (hv : LinV w v A B lo hi m L) (hr : Rats w a len cap rs L) (hL : 1 ≤ L) (hm : (3 * L + 5) * 4 ≤ 140737488355328) (ho : validE A lo hi m = 0) (hlen : len ≤ 61) :
    Calls Try.prog 21 #[v, .slice a len cap, .int .i64 s] w fun e w' => e = .returned (.tuple #[.int .i64 (reachI rs (scoresL A B lo hi m rs) s), .int .i64 (reachE rs (scoresL A B lo hi m rs) s)]) ∧ Below w.heap.size w w' := by
  have HV := Lib.hid hv
  have HRs := Lib.hid hr
  have HRl := Lib.hid hr.1
  have HSl := Lib.hid (show (scoresL A B lo hi m rs).length = len by rw [scoresL_length, hr.1])
  obtain ⟨na, aa', la', ca', aa, la, ca, nb, ab', lb', cb', ab, lb, cb, rfl, -, -⟩ := hv
  have hb0 : Below w.heap.size w (w.alloc (.cells #[.bool na, .slice aa' la' ca', .slice aa la ca, .bool nb, .slice ab' lb' cb', .slice ab lb cb, .int .i64 lo, .int .i64 hi, .int .i64 m] 29)) := (Below.refl _ _).alloc (Nat.le_refl _) _
  have HT := Lib.hid (table_any _ A B lo hi m rs a len cap L _ (HV.out.below hb0) (HRs.out.below hb0) hL hm ho hlen)
  clear ho hr
  go_enter Try.func21, Try.ntmps21
  go_wp2_with fail
  refine HT.out.mono ?_
  rintro e w1 ⟨a2, c2, rfl, hI, hb1⟩
  have hb01 := hb0.trans (hb1.mono (by simp))
  have HI := Lib.hid hI
  have HR1 := Lib.hid (HRs.out.below hb01)
  clear hI hb1 HT
  generalize hsl : scoresL A B lo hi m rs = sl at *
  have HSle := Lib.hid hsl
  clear hsl
  go_wp2_with fail
  go_loopw [10] (fun i wr => ∃ k : Nat, 1 ≤ k ∧ (k ≤ len ∨ k = 1) ∧ i = .int .i64 k ∧ Hid (∀ j, 1 ≤ j → j < k → rs.getD (j - 1) 0 ≤ rs.getD j 0) ∧ Below w1.heap.size w1 wr) (fun i _ => len - (intOf i).toNat)
  case atStart => exact ⟨1, by omega, by omega, rfl, Lib.hid (fun j h1 h2 => by omega), Below.refl _ _⟩
  case round =>
    obtain ⟨k, hk1, hk2, rfl, HG, hb⟩ := hrel
    have hb0r := hb01.trans (hb.mono hb01.size)
    by_cases hlt : k < len
    · obtain ⟨bb, off, rfl, hbs, hcc⟩ := HR1.out.at hlt
      obtain ⟨n, x', l', c', x, l, c, e0, e1, e2, hX⟩ := (hcc k hlt).below hbs hb
      obtain ⟨n2, y', p', d', y, p, d, u0, u1, u2, hY⟩ := (hcc (k - 1) (by omega)).below hbs hb
      have HX := Lib.hid hX
      have HY := Lib.hid hY
      have HBad := Lib.hid (show rs.getD k 0 < rs.getD (k - 1) 0 → ¬ Rises rs from fun h1 h2 => by
        have := h2 k hk1 (by rw [HRl.out]; exact hlt)
        exact Rat.not_le.2 h1 this)
      generalize hrk : rs.getD k 0 = rk at *
      generalize hrj : rs.getD (k - 1) 0 = rj at *
      have HRk := Lib.hid hrk
      have HRj := Lib.hid hrj
      clear hrk hrj
      obtain ⟨j, hkj⟩ : ∃ j, k - 1 = j := ⟨_, rfl⟩
      rw [hkj] at u0 u1 u2
      have hjl : j < len := by omega
      have hsub : (k : Int) - 1 = (j : Int) := by omega
      have hwj : IntKind.i64.wrap (j : Int) = (j : Int) := IntWalk.i64_in _ (by omega)
      clear hkj
      have hbe : bb < wr.heap.size := Nat.lt_of_lt_of_le hbs hb.size
      have g0 := box_ext (B := wr.heap.size) e0 hbe
      have g1 := box_ext (B := wr.heap.size) e1 hbe
      have g2 := box_ext (B := wr.heap.size) e2 hbe
      have p0 := box_ext (B := wr.heap.size) u0 hbe
      have p1 := box_ext (B := wr.heap.size) u1 hbe
      have p2 := box_ext (B := wr.heap.size) u2 hbe
      clear hcc hX hY e0 e1 e2 u0 u1 u2
      go_wp2_with fail
      refine wp_region_sched [(0, false), (1, false), (2, false), (3, false), (4, false), (5, false), (6, false), (7, false), (8, false), (9, true), (10, false)] (fun w' => ∃ W : Ext wr.heap.size wr, w' = W.1) (by kernel_rfl) (by kernel_rfl) ⟨⟨wr.drew, (Below.refl _ _).drew⟩, rfl⟩ ?_
      repeat (refine wpSched_calm rfl (fun K hK => ?_); go_simp; refine hK _ ?_; clear hK K)
      refine wpSched_eff rfl rfl (fun K hK => ?_)
      go_simp
      refine (qcmp_any _ _ rk rj L L _ (HX.out.below (Below.refl _ _).drew) (HY.out.below (Below.refl _ _).drew) hL hL (by omega)).mono ?_
      rintro e w2 ⟨rfl, hb2⟩
      have hM := ((Below.refl wr.heap.size wr).drew).trans (hb2.mono (by simp))
      have hbn := hb.trans (hM.mono hb.size)
      refine hK _ _ ⟨⟨w2, hM⟩, rfl⟩ ?_
      clear hK K hb2
      have HC := Lib.hid (cmpI_lt' (r := rk) (s := rj))
      generalize rcmpI rk rj = cc at *
      repeat (refine wpSched_calm rfl (fun K hK => ?_); go_simp; refine hK _ ?_; clear hK K)
      refine wpSched_nil ?_
      by_cases hc : cc < 0
      · have HN := Lib.hid (reach_bad (l := sl) (s := s) (HBad.out (HC.out.1 hc)))
        go_wp2_with fail
        go_ret2
        refine ⟨?_, hb01.trans (hbn.mono hb01.size)⟩
        rw [HSle.out, HN.out.1, HN.out.2]; rfl
      · have HG2 := Lib.hid (show ∀ j', 1 ≤ j' → j' < k + 1 → rs.getD (j' - 1) 0 ≤ rs.getD j' 0 from fun j' h1 h2 => by
          by_cases hj : j' < k
          · exact HG.out j' h1 hj
          · obtain rfl : j' = k := by omega
            rw [HRk.out, HRj.out]; exact Rat.not_lt.1 (fun h => hc (HC.out.2 h)))
        go_wp2_with fail
        go_roundw
        case rel => exact ⟨k + 1, by omega, by omega, by go_num, HG2, hbn⟩
        case measure => simp [intOf]; omega
    · have HRi := Lib.hid (show Rises rs from fun j h1 h2 => HG.out j h1 (by rw [HRl.out] at h2; omega))
      clear HG
      go_wp2_with fail
      have HI2 := Lib.hid (HI.out.below hb)
      clear HI
      have hb0r' := hb0r
      clear hlt hk1 hk2 hb hb01 HR1 hb0r
      go_loopw [41] (fun i wq => ∃ k : Nat, k ≤ len ∧ i = .int .i64 k ∧ Hid (∀ j, j < k → ¬ s ≤ sl.getD j 0) ∧ wr = wq) (fun i _ => len - (intOf i).toNat)
      case atStart => exact ⟨0, by omega, rfl, Lib.hid (fun j h => by omega), rfl⟩
      case round =>
        obtain ⟨k2, hk2, rfl, HG, rfl⟩ := hrel
        by_cases hlt : k2 < len
        · obtain ⟨bb, off, rfl, hbs, hcc⟩ := HI2.out.2.at hlt
          have e0 := hcc k2 hlt _ (Below.refl _ _)
          generalize hv : sl.getD k2 0 = v at *
          have HV2 := Lib.hid hv
          clear hcc hv
          by_cases hs : s ≤ v
          · have HN := Lib.hid (reach_found (s := s) HRi.out (fI_at (k := k2) (by rw [HSl.out]; exact hlt) (by rw [HV2.out]; exact hs) HG.out) (by rw [HSl.out]; exact hlt))
            go_wp2_with fail
            go_ret2
            refine ⟨?_, hb0r'⟩
            rw [HSle.out, HN.out.1, HN.out.2]; rfl
          · have HG2 := Lib.hid (show ∀ j', j' < k2 + 1 → ¬ s ≤ sl.getD j' 0 from fun j' h2 => by
              by_cases hj : j' < k2
              · exact HG.out j' hj
              · obtain rfl : j' = k2 := by omega
                rw [HV2.out]; exact hs)
            go_wp2_with fail
            go_roundw
            case rel => exact ⟨k2 + 1, by omega, by go_num, HG2, trivial⟩
            case measure => simp [intOf]; omega
        · have HN := Lib.hid (reach_none (s := s) HRi.out (fI_none (fun j hj => HG.out j (by rw [HSl.out] at hj; omega))))
          go_wp2_with fail
          go_ret2
          refine ⟨?_, hb0r'⟩
          rw [HSle.out, HN.out.1, HN.out.2]; rfl

end Go.Proofs.Ytmahokhgdkdhkaa

namespace Go.Proofs.Ytmahokhgdkdhkaa
set_option maxRecDepth 100000
open Go.RowKit

set_option maxHeartbeats 2000000 in
theorem rtable_no (v : Value) (A B : Rat) (lo hi m : Int) (a : Option Addr) (len cap L : Nat) (w : World) (hv : LinV w v A B lo hi m L) (hL : 1 ≤ L) (hm : (6 * L + 12) * 4 ≤ 140737488355328) (ho : validE A lo hi m ≠ 0) :
    Calls Try.prog 20 #[v, .slice a len cap] w fun e w' => e = .returned (.tuple #[.slice none 0 0, .int .i64 (validE A lo hi m)]) ∧ Below w.heap.size w w' := by
  have HV := Lib.hid hv
  have hz : (validE A lo hi m == 0) = false := by simpa using ho
  obtain ⟨na, aa', la', ca', aa, la, ca, nb, ab', lb', cb', ab, lb, cb, rfl, -, -⟩ := hv
  have hb0 : Below w.heap.size w (w.alloc (.cells #[.bool na, .slice aa' la' ca', .slice aa la ca, .bool nb, .slice ab' lb' cb', .slice ab lb cb, .int .i64 lo, .int .i64 hi, .int .i64 m] 29)) := (Below.refl _ _).alloc (Nat.le_refl _) _
  clear ho
  go_enter Try.func20, Try.ntmps20
  go_wp2_with fail
  refine (rvalid_any _ A B lo hi m L _ (HV.out.below hb0) (by omega)).mono ?_
  rintro e w1 ⟨rfl, hb1⟩
  have hb01 := hb0.trans (hb1.mono (by simp))
  generalize hev : validE A lo hi m = ev at *
  have HEv := Lib.hid hev
  clear hev
  go_wp2_with fail
  go_ret2
  exact ⟨by rw [HEv.out]; rfl, hb01⟩

set_option maxHeartbeats 2000000 in
theorem rtable_long (v : Value) (A B : Rat) (lo hi m : Int) (a : Option Addr) (len cap L : Nat) (w : World) (hv : LinV w v A B lo hi m L) (hL : 1 ≤ L) (hm : (6 * L + 12) * 4 ≤ 140737488355328) (ho : validE A lo hi m = 0) (hlen : 61 < len) (hlm : len ≤ 9223372036854775807) :
    Calls Try.prog 20 #[v, .slice a len cap] w fun e w' => e = .returned (.tuple #[.slice none 0 0, .int .i64 5]) ∧ Below w.heap.size w w' := by
  have HV := Lib.hid hv
  have HO := Lib.hid ho
  have d61 : decide (61 < (len : Int)) = true := by simp; omega
  obtain ⟨na, aa', la', ca', aa, la, ca, nb, ab', lb', cb', ab, lb, cb, rfl, -, -⟩ := hv
  have hb0 : Below w.heap.size w (w.alloc (.cells #[.bool na, .slice aa' la' ca', .slice aa la ca, .bool nb, .slice ab' lb' cb', .slice ab lb cb, .int .i64 lo, .int .i64 hi, .int .i64 m] 29)) := (Below.refl _ _).alloc (Nat.le_refl _) _
  clear ho
  go_enter Try.func20, Try.ntmps20
  go_wp2_with fail
  refine (rvalid_any _ A B lo hi m L _ (HV.out.below hb0) (by omega)).mono ?_
  rintro e w1 ⟨rfl, hb1⟩
  rw [HO.out]
  have hb01 := hb0.trans (hb1.mono (by simp))
  go_wp2_with fail
  go_ret2
  exact ⟨rfl, hb01⟩

theorem scores_snoc (A B : Rat) (lo hi m : Int) (rs : List Rat) (k : Nat) (h : k < rs.length) : scoresL A B lo hi m (rs.take (k + 1)) = scoresL A B lo hi m (rs.take k) ++ [scoreI A B lo hi m (rs.getD k 0)] := by
  rw [take_snoc rs k 0 h]; simp [scoresL]
theorem scores_take_length (A B : Rat) (lo hi m : Int) (rs : List Rat) (k : Nat) (h : k ≤ rs.length) : (scoresL A B lo hi m (rs.take k)).length = k := by
  rw [scoresL_length, List.length_take]; omega

set_option maxHeartbeats 4000000 in
theorem rtable_any (v : Value) (A B : Rat) (lo hi m : Int) (rs : List Rat) (a : Option Addr) (len cap L : Nat) (w : World) (hv : LinV w v A B lo hi m L) (hr : Rats w a len cap rs L) (hL : 1 ≤ L) (hm : (6 * L + 12) * 4 ≤ 140737488355328) (ho : validE A lo hi m = 0) (hlen : len ≤ 61) :
    Calls Try.prog 20 #[v, .slice a len cap] w fun e w' => ∃ a2 c2, e = .returned (.tuple #[.slice a2 len c2, .int .i64 0]) ∧ Ints w' a2 len c2 (scoresL A B lo hi m rs) ∧ Below w.heap.size w w' := by
  have HV := Lib.hid hv
  have HO := Lib.hid ho
  have HRl := Lib.hid hr.1
  obtain ⟨na, aa', la', ca', aa, la, ca, nb, ab', lb', cb', ab, lb, cb, rfl, -, -⟩ := hv
  have hb0 : Below w.heap.size w (w.alloc (.cells #[.bool na, .slice aa' la' ca', .slice aa la ca, .bool nb, .slice ab' lb' cb', .slice ab lb cb, .int .i64 lo, .int .i64 hi, .int .i64 m] 29)) := (Below.refl _ _).alloc (Nat.le_refl _) _
  have HRs := Lib.hid hr
  have d61 : decide (61 < (len : Int)) = false := by simp; omega
  clear ho hr
  go_enter Try.func20, Try.ntmps20
  go_wp2_with fail
  refine (rvalid_any _ A B lo hi m L _ (HV.out.below hb0) (by omega)).mono ?_
  rintro e w1 ⟨rfl, hb1⟩
  rw [HO.out]
  have hb01 := hb0.trans (hb1.mono (by simp))
  have cK := fun o => (bcell hb1 w.heap.size (by simp)).1 o
  have q0 : w1.cell? ⟨w.heap.size, 0, none⟩ = some (.bool na) := by rw [cK]; go_simp
  have q1 : w1.cell? ⟨w.heap.size, 1, none⟩ = some (.slice aa' la' ca') := by rw [cK]; go_simp
  have q2 : w1.cell? ⟨w.heap.size, 2, none⟩ = some (.slice aa la ca) := by rw [cK]; go_simp
  have q3 : w1.cell? ⟨w.heap.size, 3, none⟩ = some (.bool nb) := by rw [cK]; go_simp
  have q4 : w1.cell? ⟨w.heap.size, 4, none⟩ = some (.slice ab' lb' cb') := by rw [cK]; go_simp
  have q5 : w1.cell? ⟨w.heap.size, 5, none⟩ = some (.slice ab lb cb) := by rw [cK]; go_simp
  have q6 : w1.cell? ⟨w.heap.size, 6, none⟩ = some (.int .i64 lo) := by rw [cK]; go_simp
  have q7 : w1.cell? ⟨w.heap.size, 7, none⟩ = some (.int .i64 hi) := by rw [cK]; go_simp
  have q8 : w1.cell? ⟨w.heap.size, 8, none⟩ = some (.int .i64 m) := by rw [cK]; go_simp
  have HQ := Lib.hid (And.intro q0 (And.intro q1 (And.intro q2 (And.intro q3 (And.intro q4 (And.intro q5 (And.intro q6 (And.intro q7 q8))))))))
  have hlt1 : w.heap.size < w1.heap.size := by have := hb1.size; simp at this; omega
  clear hb1 cK q0 q1 q2 q3 q4 q5 q6 q7 q8
  go_wp2_with fail
  go_loopw [7, 8] (fun u i wr => ∃ k : Nat, k ≤ len ∧ i = .int .i64 k ∧ Hid (Owns wr w1.heap.size 3 u (ivs (scoresL A B lo hi m (rs.take k)))) ∧ Below w1.heap.size w1 wr) (fun _ i _ => len - (intOf i).toNat)
  case atStart => exact ⟨0, by omega, rfl, Lib.hid (by simpa [scoresL, ivs] using Owns.nil w1 w1.heap.size 3), Below.refl _ _⟩
  case round =>
    obtain ⟨k, hk, rfl, HOk, hb⟩ := hrel
    have hb0r := hb01.trans (hb.mono hb01.size)
    by_cases hlt : k < len
    · obtain ⟨bb, off, rfl, hbs, hcc⟩ := HRs.out.at hlt
      obtain ⟨n, x', l', c', x, l, c, e0, e1, e2, hX⟩ := (hcc k hlt).below hbs hb0r
      have HX := Lib.hid hX
      have HSn := Lib.hid (scores_snoc A B lo hi m rs k (by rw [HRl.out]; exact hlt))
      have HLn := Lib.hid (scores_take_length A B lo hi m rs k (by rw [HRl.out]; omega))
      obtain ⟨q0, q1, q2, q3, q4, q5, q6, q7, q8⟩ := HQ.out
      have cW := fun o => (bcell hb w.heap.size hlt1).1 o
      have hltr : w.heap.size < wr.heap.size := Nat.lt_of_lt_of_le hlt1 hb.size
      have hbe : bb < wr.heap.size := Nat.lt_of_lt_of_le hbs hb0r.size
      have g0 := box_ext (B := wr.heap.size) (show wr.cell? ⟨w.heap.size, 0, none⟩ = some (.bool na) by rw [cW]; exact q0) hltr
      have g1 := box_ext (B := wr.heap.size) (show wr.cell? ⟨w.heap.size, 1, none⟩ = some (.slice aa' la' ca') by rw [cW]; exact q1) hltr
      have g2 := box_ext (B := wr.heap.size) (show wr.cell? ⟨w.heap.size, 2, none⟩ = some (.slice aa la ca) by rw [cW]; exact q2) hltr
      have g3 := box_ext (B := wr.heap.size) (show wr.cell? ⟨w.heap.size, 3, none⟩ = some (.bool nb) by rw [cW]; exact q3) hltr
      have g4 := box_ext (B := wr.heap.size) (show wr.cell? ⟨w.heap.size, 4, none⟩ = some (.slice ab' lb' cb') by rw [cW]; exact q4) hltr
      have g5 := box_ext (B := wr.heap.size) (show wr.cell? ⟨w.heap.size, 5, none⟩ = some (.slice ab lb cb) by rw [cW]; exact q5) hltr
      have g6 := box_ext (B := wr.heap.size) (show wr.cell? ⟨w.heap.size, 6, none⟩ = some (.int .i64 lo) by rw [cW]; exact q6) hltr
      have g7 := box_ext (B := wr.heap.size) (show wr.cell? ⟨w.heap.size, 7, none⟩ = some (.int .i64 hi) by rw [cW]; exact q7) hltr
      have g8 := box_ext (B := wr.heap.size) (show wr.cell? ⟨w.heap.size, 8, none⟩ = some (.int .i64 m) by rw [cW]; exact q8) hltr
      have p0 := box_ext (B := wr.heap.size) e0 hbe
      have p1 := box_ext (B := wr.heap.size) e1 hbe
      have p2 := box_ext (B := wr.heap.size) e2 hbe
      have HVw := Lib.hid (HV.out.below hb0r)
      generalize rs.getD k 0 = xk at *
      clear hcc hX q0 q1 q2 q3 q4 q5 q6 q7 q8 cW e0 e1 e2
      go_wp2_with fail
      refine wp_region_sched [(0, false), (1, false), (2, false), (3, false), (4, false), (5, true), (6, false), (7, false), (8, false), (9, false), (10, false)] (fun w' => ∃ W : Ext wr.heap.size wr, w' = W.1) (by kernel_rfl) (by kernel_rfl) ⟨⟨wr.drew, (Below.refl _ _).drew⟩, rfl⟩ ?_
      repeat (refine wpSched_calm rfl (fun K hK => ?_); go_simp; refine hK _ ?_; clear hK K)
      refine wpSched_eff rfl rfl (fun K hK => ?_)
      go_simp
      refine (rScore_any _ _ A B xk lo hi m L _ (HVw.out.below (Below.refl _ _).drew) (HX.out.below (Below.refl _ _).drew) hL hm HO.out).mono ?_
      rintro e w2 ⟨rfl, hb2⟩
      have hM := ((Below.refl wr.heap.size wr).drew).trans (hb2.mono (by simp))
      have hbn := hb.trans (hM.mono hb.size)
      refine hK _ _ ⟨⟨w2, hM⟩, rfl⟩ ?_
      clear hK K hb2
      have HO2 := Lib.hid (HOk.out.later hM)
      generalize scoreI A B lo hi m xk = sc at *
      repeat (refine wpSched_calm rfl (fun K hK => ?_); go_simp; refine hK _ ?_; clear hK K)
      refine wpSched_nil ?_
      have HN := Lib.hid (show ((ivs (scoresL A B lo hi m (rs.take k))).length + 1) * 8 ≤ 140737488355328 ∧ (ivs (scoresL A B lo hi m (rs.take k))).length + 1 ≤ maxLen by rw [ivs_length, HLn.out]; simp only [maxLen]; omega)
      have hsz2 := hbn.size
      generalize scoresL A B lo hi m (rs.take k) = cur at *
      clear g0 g1 g2 g3 g4 g5 g6 g7 g8 p0 p1 p2
      go_wp2_with (at_builtin; go_must (refine wpList_app1 rfl _ _ 48 rfl w1.heap.size 3 (.int .i64 0) 8 Try.underlying48 infoInt rfl u7 (ivs cur) rfl (.int .i64 sc) rfl HO2.out rfl HN.out.1 HN.out.2 hsz2 fun v' w' h1 h2 => ?_))
      have hbm := hbn.trans (h2.below hsz2 HO2.out.lt)
      have HO3 := Lib.hid (show Owns w' w1.heap.size 3 v' (ivs (scoresL A B lo hi m (rs.take (k + 1)))) by rw [HSn.out, ivs_append]; exact h1)
      clear h1 h2
      go_wp2_with fail
      go_roundw
      case rel => exact ⟨k + 1, by omega, by go_num, HO3, hbm⟩
      case measure => simp [intOf]; omega
    · obtain rfl : k = len := by omega
      obtain ⟨a2, n2, c2, rfl, hI⟩ := HOk.out.ints
      rw [List.take_of_length_le (by rw [HRl.out]; omega)] at hI
      obtain rfl : k = n2 := by have := hI.1; rw [scoresL_length, HRl.out] at this; exact this
      have HI := Lib.hid hI
      clear HOk hI
      go_wp2_with fail
      go_ret2
      exact ⟨_, _, rfl, HI.out, hb0r⟩

set_option maxHeartbeats 4000000 in
theorem rreach_any (v : Value) (A B : Rat) (lo hi m s : Int) (rs : List Rat) (a : Option Addr) (len cap L : Nat) (w : World) (hv : LinV w v A B lo hi m L) (hr : Rats w a len cap rs L) (hL : 1 ≤ L) (hm : (6 * L + 12) * 4 ≤ 140737488355328) (ho : validE A lo hi m = 0) (hlen : len ≤ 61) :
    Calls Try.prog 22 #[v, .slice a len cap, .int .i64 s] w fun e w' => e = .returned (.tuple #[.int .i64 (reachI rs (scoresL A B lo hi m rs) s), .int .i64 (reachE rs (scoresL A B lo hi m rs) s)]) ∧ Below w.heap.size w w' := by
  have HV := Lib.hid hv
  have HRs := Lib.hid hr
  have HRl := Lib.hid hr.1
  have HSl := Lib.hid (show (scoresL A B lo hi m rs).length = len by rw [scoresL_length, hr.1])
  obtain ⟨na, aa', la', ca', aa, la, ca, nb, ab', lb', cb', ab, lb, cb, rfl, -, -⟩ := hv
  have hb0 : Below w.heap.size w (w.alloc (.cells #[.bool na, .slice aa' la' ca', .slice aa la ca, .bool nb, .slice ab' lb' cb', .slice ab lb cb, .int .i64 lo, .int .i64 hi, .int .i64 m] 29)) := (Below.refl _ _).alloc (Nat.le_refl _) _
  have HT := Lib.hid (rtable_any _ A B lo hi m rs a len cap L _ (HV.out.below hb0) (HRs.out.below hb0) hL hm ho hlen)
  clear ho hr
  go_enter Try.func22, Try.ntmps22
  go_wp2_with fail
  refine HT.out.mono ?_
  rintro e w1 ⟨a2, c2, rfl, hI, hb1⟩
  have hb01 := hb0.trans (hb1.mono (by simp))
  have HI := Lib.hid hI
  have HR1 := Lib.hid (HRs.out.below hb01)
  clear hI hb1 HT
  generalize hsl : scoresL A B lo hi m rs = sl at *
  have HSle := Lib.hid hsl
  clear hsl
  go_wp2_with fail
  go_loopw [10] (fun i wr => ∃ k : Nat, 1 ≤ k ∧ (k ≤ len ∨ k = 1) ∧ i = .int .i64 k ∧ Hid (∀ j, 1 ≤ j → j < k → rs.getD (j - 1) 0 ≤ rs.getD j 0) ∧ Below w1.heap.size w1 wr) (fun i _ => len - (intOf i).toNat)
  case atStart => exact ⟨1, by omega, by omega, rfl, Lib.hid (fun j h1 h2 => by omega), Below.refl _ _⟩
  case round =>
    obtain ⟨k, hk1, hk2, rfl, HG, hb⟩ := hrel
    have hb0r := hb01.trans (hb.mono hb01.size)
    by_cases hlt : k < len
    · obtain ⟨bb, off, rfl, hbs, hcc⟩ := HR1.out.at hlt
      obtain ⟨n, x', l', c', x, l, c, e0, e1, e2, hX⟩ := (hcc k hlt).below hbs hb
      obtain ⟨n2, y', p', d', y, p, d, u0, u1, u2, hY⟩ := (hcc (k - 1) (by omega)).below hbs hb
      have HX := Lib.hid hX
      have HY := Lib.hid hY
      have HBad := Lib.hid (show rs.getD k 0 < rs.getD (k - 1) 0 → ¬ Rises rs from fun h1 h2 => by
        have := h2 k hk1 (by rw [HRl.out]; exact hlt)
        exact Rat.not_le.2 h1 this)
      generalize hrk : rs.getD k 0 = rk at *
      generalize hrj : rs.getD (k - 1) 0 = rj at *
      have HRk := Lib.hid hrk
      have HRj := Lib.hid hrj
      clear hrk hrj
      obtain ⟨j, hkj⟩ : ∃ j, k - 1 = j := ⟨_, rfl⟩
      rw [hkj] at u0 u1 u2
      have hjl : j < len := by omega
      have hsub : (k : Int) - 1 = (j : Int) := by omega
      have hwj : IntKind.i64.wrap (j : Int) = (j : Int) := IntWalk.i64_in _ (by omega)
      clear hkj
      have hbe : bb < wr.heap.size := Nat.lt_of_lt_of_le hbs hb.size
      have g0 := box_ext (B := wr.heap.size) e0 hbe
      have g1 := box_ext (B := wr.heap.size) e1 hbe
      have g2 := box_ext (B := wr.heap.size) e2 hbe
      have p0 := box_ext (B := wr.heap.size) u0 hbe
      have p1 := box_ext (B := wr.heap.size) u1 hbe
      have p2 := box_ext (B := wr.heap.size) u2 hbe
      clear hcc hX hY e0 e1 e2 u0 u1 u2
      go_wp2_with fail
      refine wp_region_sched [(0, false), (1, false), (2, false), (3, false), (4, false), (5, false), (6, false), (7, false), (8, false), (9, true), (10, false)] (fun w' => ∃ W : Ext wr.heap.size wr, w' = W.1) (by kernel_rfl) (by kernel_rfl) ⟨⟨wr.drew, (Below.refl _ _).drew⟩, rfl⟩ ?_
      repeat (refine wpSched_calm rfl (fun K hK => ?_); go_simp; refine hK _ ?_; clear hK K)
      refine wpSched_eff rfl rfl (fun K hK => ?_)
      go_simp
      refine (kcmp_any _ _ rk rj L L _ (HX.out.below (Below.refl _ _).drew) (HY.out.below (Below.refl _ _).drew) hL hL (by omega)).mono ?_
      rintro e w2 ⟨rfl, hb2⟩
      have hM := ((Below.refl wr.heap.size wr).drew).trans (hb2.mono (by simp))
      have hbn := hb.trans (hM.mono hb.size)
      refine hK _ _ ⟨⟨w2, hM⟩, rfl⟩ ?_
      clear hK K hb2
      have HC := Lib.hid (cmpI_lt' (r := rk) (s := rj))
      generalize rcmpI rk rj = cc at *
      repeat (refine wpSched_calm rfl (fun K hK => ?_); go_simp; refine hK _ ?_; clear hK K)
      refine wpSched_nil ?_
      by_cases hc : cc < 0
      · have HN := Lib.hid (reach_bad (l := sl) (s := s) (HBad.out (HC.out.1 hc)))
        go_wp2_with fail
        go_ret2
        refine ⟨?_, hb01.trans (hbn.mono hb01.size)⟩
        rw [HSle.out, HN.out.1, HN.out.2]; rfl
      · have HG2 := Lib.hid (show ∀ j', 1 ≤ j' → j' < k + 1 → rs.getD (j' - 1) 0 ≤ rs.getD j' 0 from fun j' h1 h2 => by
          by_cases hj : j' < k
          · exact HG.out j' h1 hj
          · obtain rfl : j' = k := by omega
            rw [HRk.out, HRj.out]; exact Rat.not_lt.1 (fun h => hc (HC.out.2 h)))
        go_wp2_with fail
        go_roundw
        case rel => exact ⟨k + 1, by omega, by omega, by go_num, HG2, hbn⟩
        case measure => simp [intOf]; omega
    · have HRi := Lib.hid (show Rises rs from fun j h1 h2 => HG.out j h1 (by rw [HRl.out] at h2; omega))
      clear HG
      go_wp2_with fail
      have HI2 := Lib.hid (HI.out.below hb)
      clear HI
      have hb0r' := hb0r
      clear hlt hk1 hk2 hb hb01 HR1 hb0r
      go_loopw [11] (fun i wq => ∃ k : Nat, k ≤ len ∧ i = .int .i64 k ∧ Hid (∀ j, j < k → ¬ s ≤ sl.getD j 0) ∧ wr = wq) (fun i _ => len - (intOf i).toNat)
      case atStart => exact ⟨0, by omega, rfl, Lib.hid (fun j h => by omega), rfl⟩
      case round =>
        obtain ⟨k2, hk2, rfl, HG, rfl⟩ := hrel
        by_cases hlt : k2 < len
        · obtain ⟨bb, off, rfl, hbs, hcc⟩ := HI2.out.2.at hlt
          have e0 := hcc k2 hlt _ (Below.refl _ _)
          generalize hv : sl.getD k2 0 = v at *
          have HV2 := Lib.hid hv
          clear hcc hv
          by_cases hs : s ≤ v
          · have HN := Lib.hid (reach_found (s := s) HRi.out (fI_at (k := k2) (by rw [HSl.out]; exact hlt) (by rw [HV2.out]; exact hs) HG.out) (by rw [HSl.out]; exact hlt))
            go_wp2_with fail
            go_ret2
            refine ⟨?_, hb0r'⟩
            rw [HSle.out, HN.out.1, HN.out.2]; rfl
          · have HG2 := Lib.hid (show ∀ j', j' < k2 + 1 → ¬ s ≤ sl.getD j' 0 from fun j' h2 => by
              by_cases hj : j' < k2
              · exact HG.out j' hj
              · obtain rfl : j' = k2 := by omega
                rw [HV2.out]; exact hs)
            go_wp2_with fail
            go_roundw
            case rel => exact ⟨k2 + 1, by omega, by go_num, HG2, trivial⟩
            case measure => simp [intOf]; omega
        · have HN := Lib.hid (reach_none (s := s) HRi.out (fI_none (fun j hj => HG.out j (by rw [HSl.out] at hj; omega))))
          go_wp2_with fail
          go_ret2
          refine ⟨?_, hb0r'⟩
          rw [HSle.out, HN.out.1, HN.out.2]; rfl

set_option maxHeartbeats 2000000 in
theorem rreach_err (v : Value) (A B : Rat) (lo hi m s er : Int) (a : Option Addr) (len cap L : Nat) (w : World) (hv : LinV w v A B lo hi m L) (hT : ∀ w', Below w.heap.size w w' → Calls Try.prog 20 #[v, .slice a len cap] w' fun e w'' => e = .returned (.tuple #[.slice none 0 0, .int .i64 er]) ∧ Below w'.heap.size w' w'') (her : er ≠ 0) :
    Calls Try.prog 22 #[v, .slice a len cap, .int .i64 s] w fun e w' => e = .returned (.tuple #[.int .i64 0, .int .i64 er]) ∧ Below w.heap.size w w' := by
  obtain ⟨na, aa', la', ca', aa, la, ca, nb, ab', lb', cb', ab, lb, cb, rfl, -, -⟩ := hv
  have hb0 : Below w.heap.size w (w.alloc (.cells #[.bool na, .slice aa' la' ca', .slice aa la ca, .bool nb, .slice ab' lb' cb', .slice ab lb cb, .int .i64 lo, .int .i64 hi, .int .i64 m] 29)) := (Below.refl _ _).alloc (Nat.le_refl _) _
  have HT := Lib.hid (hT _ hb0)
  have hz : (er == 0) = false := by simpa using her
  clear hT
  go_enter Try.func22, Try.ntmps22
  go_wp2_with fail
  refine HT.out.mono ?_
  rintro e w1 ⟨rfl, hb1⟩
  have hb01 := hb0.trans (hb1.mono (by simp))
  clear HT
  go_wp2_with fail
  go_ret2
  exact ⟨rfl, hb01⟩

end Go.Proofs.Ytmahokhgdkdhkaa

namespace Go.Proofs.Ytmahokhgdkdhkaa
set_option maxRecDepth 100000
open Go.ChangeShapes Go.WideShapes Go.ChangeAt Go.RowKit

set_option maxHeartbeats 2000000 in
theorem much_any (rs : List Rat) (a : Option Addr) (len cap L : Nat) (w : World) (hr : Rats w a len cap rs L) :
    Calls Try.prog 18 #[.slice a len cap] w fun e w' => ∃ b, e = .returned (.bool b) ∧ (b = false → len ≤ 70 → Rats w a len cap rs 20) ∧ Below w.heap.size w w' := by
  have HRs := Lib.hid hr
  have hlm : len ≤ 9223372036854775807 := by have h1 := hr.2.1; have h2 := hr.2.2.1; unfold maxLen at h2; omega
  clear hr
  go_enter Try.func18, Try.ntmps18
  go_wp2_with fail
  go_loopw [3] (fun i wr => ∃ k : Nat, k ≤ len ∧ k ≤ 70 ∧ i = .int .i64 k ∧ Hid (∀ j, j < k → ∀ b off, a = some ⟨b, off, none⟩ → RatAt w b (off + j * 3) (rs.getD j 0) 20) ∧ Below w.heap.size w wr) (fun i _ => len - (intOf i).toNat)
  case atStart => exact ⟨0, by omega, by omega, rfl, Lib.hid (fun j h => by omega), Below.refl _ _⟩
  case round =>
    obtain ⟨k, hk, hk7, rfl, HG, hb⟩ := hrel
    by_cases hlt : k < len
    · by_cases h7 : k < 70
      · obtain ⟨bb, off, rfl, hbs, hcc⟩ := HRs.out.at hlt
        obtain ⟨n, x', l', c', x, l, c, e0, e1, e2, hX⟩ := hcc k hlt
        have HE := Lib.hid (And.intro e0 (And.intro e1 e2))
        replace e0 := (hb.cell (p := ⟨bb, off + k * 3, none⟩) hbs).trans e0
        replace e1 := (hb.cell (p := ⟨bb, off + k * 3 + 1, none⟩) hbs).trans e1
        replace e2 := (hb.cell (p := ⟨bb, off + k * 3 + 2, none⟩) hbs).trans e2
        obtain ⟨_, _, _, _, _, _, _, ee, b1, b2⟩ := hX.form
        cases ee
        have HX := Lib.hid hX
        clear hcc hX
        have d7 : decide ((k : Int) < 70) = true := by simp; omega
        go_wp2_with fail
        refine (large_any _ _ _ _ _ _ _ _ b1 b2).mono ?_
        rintro e w2 ⟨rfl, hb2⟩
        have hbn := hb.trans (hb2.mono hb.size)
        by_cases hg : lgN l' l = true
        · rw [hg]
          clear hg
          go_wp2_with fail
          go_ret
          exact ⟨true, rfl, by simp, hbn⟩
        · have hg' : lgN l' l = false := by simpa using hg
          rw [hg']
          have HG2 := Lib.hid (show ∀ j, j < k + 1 → ∀ b o, some (⟨bb, off, none⟩ : Addr) = some ⟨b, o, none⟩ → RatAt w b (o + j * 3) (rs.getD j 0) 20 from fun j hj b o he => by
            by_cases hjk : j < k
            · exact HG.out j hjk b o he
            · obtain rfl : j = k := by omega
              cases he
              exact ⟨n, x', l', c', x, l, c, HE.out.1, HE.out.2.1, HE.out.2.2, HX.out.small hg'⟩)
          clear hg hg' HG
          go_wp2_with fail
          go_roundw
          case rel => exact ⟨k + 1, by omega, by omega, by go_num, HG2, hbn⟩
          case measure => simp [intOf]; omega
      · have d7 : decide ((k : Int) < 70) = false := by simp; omega
        have hlen7 : ¬ len ≤ 70 := by omega
        go_wp2_with fail
        go_ret
        exact ⟨false, rfl, fun _ h => absurd h hlen7, hb⟩
    · obtain rfl : k = len := by omega
      have HF := Lib.hid (show Rats w a k cap rs 20 from ⟨HRs.out.1, HRs.out.2.1, HRs.out.2.2.1, by
        rcases HRs.out.2.2.2 with h | ⟨b, off, rfl, hlt', -⟩
        · exact .inl h
        · exact .inr ⟨b, off, rfl, hlt', fun i hi => HG.out i hi b off rfl⟩⟩)
      clear HG
      go_wp2_with fail
      go_ret
      exact ⟨false, rfl, fun _ _ => HF.out, hb⟩

set_option maxHeartbeats 2000000 in
theorem reach_err (v : Value) (A B : Rat) (lo hi m s er : Int) (a : Option Addr) (len cap L : Nat) (w : World) (hv : LinV w v A B lo hi m L) (hT : ∀ w', Below w.heap.size w w' → Calls Try.prog 19 #[v, .slice a len cap] w' fun e w'' => e = .returned (.tuple #[.slice none 0 0, .int .i64 er]) ∧ Below w'.heap.size w' w'') (her : er ≠ 0) :
    Calls Try.prog 21 #[v, .slice a len cap, .int .i64 s] w fun e w' => e = .returned (.tuple #[.int .i64 0, .int .i64 er]) ∧ Below w.heap.size w w' := by
  obtain ⟨na, aa', la', ca', aa, la, ca, nb, ab', lb', cb', ab, lb, cb, rfl, -, -⟩ := hv
  have hb0 : Below w.heap.size w (w.alloc (.cells #[.bool na, .slice aa' la' ca', .slice aa la ca, .bool nb, .slice ab' lb' cb', .slice ab lb cb, .int .i64 lo, .int .i64 hi, .int .i64 m] 29)) := (Below.refl _ _).alloc (Nat.le_refl _) _
  have HT := Lib.hid (hT _ hb0)
  have hz : (er == 0) = false := by simpa using her
  clear hT
  go_enter Try.func21, Try.ntmps21
  go_wp2_with fail
  refine HT.out.mono ?_
  rintro e w1 ⟨rfl, hb1⟩
  have hb01 := hb0.trans (hb1.mono (by simp))
  clear HT
  go_wp2_with fail
  go_ret2
  exact ⟨rfl, hb01⟩

set_option maxHeartbeats 4000000 in
theorem sTab_walk (na : Bool) (aa' aa : Option Addr) (la' ca' la ca : Nat) (nb : Bool) (ab' ab : Option Addr) (lb' cb' lb cb : Nat) (lo hi m s : Int) (rs : List Rat) (a : Option Addr) (len cap : Nat) (A B : Rat) (L M : Nat) (w : World) (hA : RatV w (.agg #[.bool na, .slice aa' la' ca', .slice aa la ca]) A L) (hB0 : RatV w (.agg #[.bool nb, .slice ab' lb' cb', .slice ab lb cb]) B L) (hR : Rats w a len cap rs M) :
    Calls Try.prog 6 #[.agg #[.bool na, .slice aa' la' ca', .slice aa la ca, .bool nb, .slice ab' lb' cb', .slice ab lb cb, .int .i64 lo, .int .i64 hi, .int .i64 m], .slice a len cap, .int .i64 s] w fun e w' => e = .returned (.bool true) ∧ Below w.heap.size w w' := by
  obtain ⟨_, _, _, _, _, _, _, e1, b1, b2⟩ := hA.form
  obtain ⟨_, _, _, _, _, _, _, e2, b3, b4⟩ := hB0.form
  cases e1; cases e2
  have hlm : len ≤ 9223372036854775807 := by have h1 := hR.2.1; have h2 := hR.2.2.1; unfold maxLen at h2; omega
  have HA := Lib.hid hA
  have HB0 := Lib.hid hB0
  have HR := Lib.hid hR
  clear hA hB0 hR
  go_enter Try.func6, Try.ntmps6
  go_wp2_with fail
  have hbx : Below w.heap.size w (w.alloc (.cells #[.bool na, .slice aa' la' ca', .slice aa la ca, .bool nb, .slice ab' lb' cb', .slice ab lb cb, .int .i64 lo, .int .i64 hi, .int .i64 m] 29)) := ((Below.refl _ _).alloc (Nat.le_refl _) _)
  replace HA := Lib.hid (HA.out.below hbx)
  replace HB0 := Lib.hid (HB0.out.below hbx)
  replace HR := Lib.hid (HR.out.below hbx)
  have cK0 : (w.alloc (.cells #[.bool na, .slice aa' la' ca', .slice aa la ca, .bool nb, .slice ab' lb' cb', .slice ab lb cb, .int .i64 lo, .int .i64 hi, .int .i64 m] 29)).cell? ⟨w.heap.size, 0, none⟩ = some (.bool na) := by go_simp
  have cK1 : (w.alloc (.cells #[.bool na, .slice aa' la' ca', .slice aa la ca, .bool nb, .slice ab' lb' cb', .slice ab lb cb, .int .i64 lo, .int .i64 hi, .int .i64 m] 29)).cell? ⟨w.heap.size, 1, none⟩ = some (.slice aa' la' ca') := by go_simp
  have cK2 : (w.alloc (.cells #[.bool na, .slice aa' la' ca', .slice aa la ca, .bool nb, .slice ab' lb' cb', .slice ab lb cb, .int .i64 lo, .int .i64 hi, .int .i64 m] 29)).cell? ⟨w.heap.size, 2, none⟩ = some (.slice aa la ca) := by go_simp
  have cK3 : (w.alloc (.cells #[.bool na, .slice aa' la' ca', .slice aa la ca, .bool nb, .slice ab' lb' cb', .slice ab lb cb, .int .i64 lo, .int .i64 hi, .int .i64 m] 29)).cell? ⟨w.heap.size, 3, none⟩ = some (.bool nb) := by go_simp
  have cK4 : (w.alloc (.cells #[.bool na, .slice aa' la' ca', .slice aa la ca, .bool nb, .slice ab' lb' cb', .slice ab lb cb, .int .i64 lo, .int .i64 hi, .int .i64 m] 29)).cell? ⟨w.heap.size, 4, none⟩ = some (.slice ab' lb' cb') := by go_simp
  have cK5 : (w.alloc (.cells #[.bool na, .slice aa' la' ca', .slice aa la ca, .bool nb, .slice ab' lb' cb', .slice ab lb cb, .int .i64 lo, .int .i64 hi, .int .i64 m] 29)).cell? ⟨w.heap.size, 5, none⟩ = some (.slice ab lb cb) := by go_simp
  have cK6 : (w.alloc (.cells #[.bool na, .slice aa' la' ca', .slice aa la ca, .bool nb, .slice ab' lb' cb', .slice ab lb cb, .int .i64 lo, .int .i64 hi, .int .i64 m] 29)).cell? ⟨w.heap.size, 6, none⟩ = some (.int .i64 lo) := by go_simp
  have cK7 : (w.alloc (.cells #[.bool na, .slice aa' la' ca', .slice aa la ca, .bool nb, .slice ab' lb' cb', .slice ab lb cb, .int .i64 lo, .int .i64 hi, .int .i64 m] 29)).cell? ⟨w.heap.size, 7, none⟩ = some (.int .i64 hi) := by go_simp
  have cK8 : (w.alloc (.cells #[.bool na, .slice aa' la' ca', .slice aa la ca, .bool nb, .slice ab' lb' cb', .slice ab lb cb, .int .i64 lo, .int .i64 hi, .int .i64 m] 29)).cell? ⟨w.heap.size, 8, none⟩ = some (.int .i64 m) := by go_simp
  have ltK : w.heap.size < (w.alloc (.cells #[.bool na, .slice aa' la' ca', .slice aa la ca, .bool nb, .slice ab' lb' cb', .slice ab lb cb, .int .i64 lo, .int .i64 hi, .int .i64 m] 29)).heap.size := by simp
  have hB := hbx
  generalize (w.alloc (.cells #[.bool na, .slice aa' la' ca', .slice aa la ca, .bool nb, .slice ab' lb' cb', .slice ab lb cb, .int .i64 lo, .int .i64 hi, .int .i64 m] 29)) = w0 at *
  clear hbx
  refine (wide_any _ _ _ _ _ _ _ _ _ _ _ _ _ _ lo hi m _ b1 b2 b3 b4).mono ?_
  rintro e w1 ⟨rfl, hb⟩
  replace cK0 := bc hb ltK cK0
  replace cK1 := bc hb ltK cK1
  replace cK2 := bc hb ltK cK2
  replace cK3 := bc hb ltK cK3
  replace cK4 := bc hb ltK cK4
  replace cK5 := bc hb ltK cK5
  replace cK6 := bc hb ltK cK6
  replace cK7 := bc hb ltK cK7
  replace cK8 := bc hb ltK cK8
  replace ltK := bl hb ltK
  replace HA := Lib.hid (HA.out.below hb)
  replace HB0 := Lib.hid (HB0.out.below hb)
  replace HR := Lib.hid (HR.out.below hb)
  replace hB := hB.trans (hb.mono hB.size)
  clear hb
  by_cases hg : (lgN la' la || lgN lb' lb) = true
  · rw [hg]
    clear hg
    go_wp2_with fail
    go_ret
    exact ⟨rfl, hB⟩
  have hg' : (lgN la' la || lgN lb' lb) = false := by simpa using hg
  rw [hg']
  simp at hg'
  have HV := Lib.hid (show LinV w1 (.agg #[.bool na, .slice aa' la' ca', .slice aa la ca, .bool nb, .slice ab' lb' cb', .slice ab lb cb, .int .i64 lo, .int .i64 hi, .int .i64 m]) A B lo hi m 20 from ⟨na, aa', la', ca', aa, la, ca, nb, ab', lb', cb', ab, lb, cb, rfl, HA.out.small hg'.1, HB0.out.small hg'.2⟩)
  clear hg hg' HA HB0
  go_wp2_with fail
  refine (much_any rs a len cap M _ HR.out).mono ?_
  rintro e w2 ⟨b, rfl, hQ, hb⟩
  replace cK0 := bc hb ltK cK0
  replace cK1 := bc hb ltK cK1
  replace cK2 := bc hb ltK cK2
  replace cK3 := bc hb ltK cK3
  replace cK4 := bc hb ltK cK4
  replace cK5 := bc hb ltK cK5
  replace cK6 := bc hb ltK cK6
  replace cK7 := bc hb ltK cK7
  replace cK8 := bc hb ltK cK8
  replace ltK := bl hb ltK
  replace HV := Lib.hid (HV.out.below hb)
  replace HR := Lib.hid (HR.out.below hb)
  replace hB := hB.trans (hb.mono hB.size)
  have HQ := Lib.hid (fun h1 h2 => (hQ h1 h2).below hb)
  clear hQ
  clear hb
  by_cases hg : b = true
  · subst hg
    clear HQ
    go_wp2_with fail
    go_ret
    exact ⟨rfl, hB⟩
  obtain rfl : b = false := by simpa using hg
  clear hg
  by_cases h70 : 70 < len
  · have d7 : decide (70 < (len : Int)) = true := by simp; omega
    go_wp2_with fail
    go_ret
    exact ⟨rfl, hB⟩
  have d7 : decide (70 < (len : Int)) = false := by simp; omega
  clear HR
  have HR := Lib.hid (HQ.out rfl (by omega))
  clear HQ
  have HS : ∃ (er ri re : Int) (n : Nat) (sl : List Int), n ≤ 61 ∧ Hid (∀ w', Below w2.heap.size w2 w' → (Calls Try.prog 19 #[.agg #[.bool na, .slice aa' la' ca', .slice aa la ca, .bool nb, .slice ab' lb' cb', .slice ab lb cb, .int .i64 lo, .int .i64 hi, .int .i64 m], .slice a len cap] w' fun e w'' => ∃ a2 c2, e = .returned (.tuple #[.slice a2 n c2, .int .i64 er]) ∧ Ints w'' a2 n c2 sl ∧ Below w'.heap.size w' w'') ∧ (Calls Try.prog 20 #[.agg #[.bool na, .slice aa' la' ca', .slice aa la ca, .bool nb, .slice ab' lb' cb', .slice ab lb cb, .int .i64 lo, .int .i64 hi, .int .i64 m], .slice a len cap] w' fun e w'' => ∃ a2 c2, e = .returned (.tuple #[.slice a2 n c2, .int .i64 er]) ∧ Ints w'' a2 n c2 sl ∧ Below w'.heap.size w' w'') ∧ (Calls Try.prog 21 #[.agg #[.bool na, .slice aa' la' ca', .slice aa la ca, .bool nb, .slice ab' lb' cb', .slice ab lb cb, .int .i64 lo, .int .i64 hi, .int .i64 m], .slice a len cap, .int .i64 s] w' fun e w'' => e = .returned (.tuple #[.int .i64 ri, .int .i64 re]) ∧ Below w'.heap.size w' w'') ∧ (Calls Try.prog 22 #[.agg #[.bool na, .slice aa' la' ca', .slice aa la ca, .bool nb, .slice ab' lb' cb', .slice ab lb cb, .int .i64 lo, .int .i64 hi, .int .i64 m], .slice a len cap, .int .i64 s] w' fun e w'' => e = .returned (.tuple #[.int .i64 ri, .int .i64 re]) ∧ Below w'.heap.size w' w'')) := by
    by_cases hv0 : validE A lo hi m = 0
    · by_cases h61 : len ≤ 61
      · exact ⟨0, _, _, len, scoresL A B lo hi m rs, h61, Lib.hid fun w' hb =>
          ⟨table_any _ A B lo hi m rs a len cap 20 w' (HV.out.below hb) (HR.out.below hb) (by omega) (by omega) hv0 h61,
           rtable_any _ A B lo hi m rs a len cap 20 w' (HV.out.below hb) (HR.out.below hb) (by omega) (by omega) hv0 h61,
           reach_any _ A B lo hi m s rs a len cap 20 w' (HV.out.below hb) (HR.out.below hb) (by omega) (by omega) hv0 h61,
           rreach_any _ A B lo hi m s rs a len cap 20 w' (HV.out.below hb) (HR.out.below hb) (by omega) (by omega) hv0 h61⟩⟩
      · have T1 := fun w' (h' : Below w2.heap.size w2 w') => table_long _ A B lo hi m a len cap 20 w' (HV.out.below h') (by omega) hv0 (by omega) (by omega)
        have T2 := fun w' (h' : Below w2.heap.size w2 w') => rtable_long _ A B lo hi m a len cap 20 w' (HV.out.below h') (by omega) (by omega) hv0 (by omega) (by omega)
        exact ⟨5, 0, 5, 0, [], by omega, Lib.hid fun w' hb =>
          ⟨(T1 w' hb).mono fun e w'' ⟨h1, h2⟩ => ⟨none, 0, h1, ints_nil _, h2⟩, (T2 w' hb).mono fun e w'' ⟨h1, h2⟩ => ⟨none, 0, h1, ints_nil _, h2⟩,
           reach_err _ A B lo hi m s 5 a len cap 20 w' (HV.out.below hb) (fun w'' h => T1 w'' (hb.trans (h.mono hb.size))) (by omega),
           rreach_err _ A B lo hi m s 5 a len cap 20 w' (HV.out.below hb) (fun w'' h => T2 w'' (hb.trans (h.mono hb.size))) (by omega)⟩⟩
    · have T1 := fun w' (h' : Below w2.heap.size w2 w') => table_no _ A B lo hi m a len cap 20 w' (HV.out.below h') (by omega) hv0
      have T2 := fun w' (h' : Below w2.heap.size w2 w') => rtable_no _ A B lo hi m a len cap 20 w' (HV.out.below h') (by omega) (by omega) hv0
      exact ⟨validE A lo hi m, 0, validE A lo hi m, 0, [], by omega, Lib.hid fun w' hb =>
        ⟨(T1 w' hb).mono fun e w'' ⟨h1, h2⟩ => ⟨none, 0, h1, ints_nil _, h2⟩, (T2 w' hb).mono fun e w'' ⟨h1, h2⟩ => ⟨none, 0, h1, ints_nil _, h2⟩,
         reach_err _ A B lo hi m s _ a len cap 20 w' (HV.out.below hb) (fun w'' h => T1 w'' (hb.trans (h.mono hb.size))) hv0,
         rreach_err _ A B lo hi m s _ a len cap 20 w' (HV.out.below hb) (fun w'' h => T2 w'' (hb.trans (h.mono hb.size))) hv0⟩⟩
  obtain ⟨er, ri, re, n, sl, hn, HS⟩ := HS
  clear HV HR h70
  have HS1 := Lib.hid (HS.out _ (Below.refl _ _)).1
  go_wp2_with fail
  refine (HS1.out).mono ?_
  rintro e w3 ⟨a3, c3, rfl, hI, hb⟩
  replace cK0 := bc hb ltK cK0
  replace cK1 := bc hb ltK cK1
  replace cK2 := bc hb ltK cK2
  replace cK3 := bc hb ltK cK3
  replace cK4 := bc hb ltK cK4
  replace cK5 := bc hb ltK cK5
  replace cK6 := bc hb ltK cK6
  replace cK7 := bc hb ltK cK7
  replace cK8 := bc hb ltK cK8
  replace ltK := bl hb ltK
  replace hB := hB.trans (hb.mono hB.size)
  have HI := Lib.hid hI
  replace HS := Lib.hid (fun w' (h : Below w3.heap.size w3 w') => HS.out w' (hb.trans (h.mono hb.size)))
  clear HS1 hI
  have HS2 := Lib.hid (HS.out _ (Below.refl _ _)).2.1
  clear hb
  go_wp2_with fail
  refine (HS2.out).mono ?_
  rintro e w4 ⟨a4, c4, rfl, hJ, hb⟩
  replace cK0 := bc hb ltK cK0
  replace cK1 := bc hb ltK cK1
  replace cK2 := bc hb ltK cK2
  replace cK3 := bc hb ltK cK3
  replace cK4 := bc hb ltK cK4
  replace cK5 := bc hb ltK cK5
  replace cK6 := bc hb ltK cK6
  replace cK7 := bc hb ltK cK7
  replace cK8 := bc hb ltK cK8
  replace ltK := bl hb ltK
  replace HI := Lib.hid (HI.out.below hb)
  replace hB := hB.trans (hb.mono hB.size)
  have HJ := Lib.hid hJ
  replace HS := Lib.hid (fun w' (h : Below w4.heap.size w4 w') => HS.out w' (hb.trans (h.mono hb.size)))
  clear HS2 hJ
  clear hb
  go_wp2_with fail
  go_loopw [11] (fun i wr => ∃ k : Nat, k ≤ n ∧ i = .int .i64 k ∧ Below w4.heap.size w4 wr) (fun i _ => n - (intOf i).toNat)
  case atStart => exact ⟨0, by omega, rfl, Below.refl _ _⟩
  case round =>
    obtain ⟨k, hk, rfl, hb⟩ := hrel
    by_cases hlt : k < n
    · obtain ⟨b1', o1, rfl, hs1, h1⟩ := HI.out.2.at hlt
      obtain ⟨b2', o2, rfl, hs2, h2⟩ := HJ.out.2.at hlt
      have e1 := fun w' (h : Below wr.heap.size wr w') => h1 k hlt w' (hb.trans (h.mono hb.size))
      have e2 := fun w' (h : Below wr.heap.size wr w') => h2 k hlt w' (hb.trans (h.mono hb.size))
      have e1' := e1 _ (Below.refl _ _)
      have e2' := e2 _ (Below.refl _ _)
      generalize sl.getD k 0 = y at *
      clear h1 h2 e1 e2
      go_wp2_with fail
      go_quiet (fail)
      go_wp2_with fail
      go_roundw
      case rel => exact ⟨k + 1, by omega, by go_num, below_drewN hb _⟩
      case measure => simp [intOf]; omega
    · obtain rfl : k = n := by omega
      have HS3 := Lib.hid (HS.out _ hb).2.2.1
      have HS4 := Lib.hid (fun w' (h : Below wr.heap.size wr w') => (HS.out w' (hb.trans (h.mono hb.size))).2.2.2)
      have hB2 := hB.trans (hb.mono hB.size)
      replace cK0 := bc hb ltK cK0
      replace cK1 := bc hb ltK cK1
      replace cK2 := bc hb ltK cK2
      replace cK3 := bc hb ltK cK3
      replace cK4 := bc hb ltK cK4
      replace cK5 := bc hb ltK cK5
      replace cK6 := bc hb ltK cK6
      replace cK7 := bc hb ltK cK7
      replace cK8 := bc hb ltK cK8
      replace ltK := bl hb ltK
      clear HS HI HJ hb hB
      go_wp2_with fail
      refine HS3.out.mono ?_
      rintro e w5 ⟨rfl, hb⟩
      have HS5 := Lib.hid (HS4.out _ hb)
      have hB3 := hB2.trans (hb.mono hB2.size)
      replace cK0 := bc hb ltK cK0
      replace cK1 := bc hb ltK cK1
      replace cK2 := bc hb ltK cK2
      replace cK3 := bc hb ltK cK3
      replace cK4 := bc hb ltK cK4
      replace cK5 := bc hb ltK cK5
      replace cK6 := bc hb ltK cK6
      replace cK7 := bc hb ltK cK7
      replace cK8 := bc hb ltK cK8
      replace ltK := bl hb ltK
      clear HS3 HS4 hb hB2
      go_wp2_with fail
      refine HS5.out.mono ?_
      rintro e w6 ⟨rfl, hb⟩
      have hB4 := hB3.trans (hb.mono hB3.size)
      clear HS5 hb hB3
      go_wp2_with fail
      go_ret
      exact ⟨rfl, hB4⟩

theorem scalingTables_walk {H : Type} {enc : TypeId × Value → H} (W : World) (base : Nat) (args : Array Value) (ds gs : List (DataW H)) (before : List MemPlace)
    (hval : ∀ (j : Nat) t v, Try.f6.params[j]? = some t → args[j]? = some v → Value.okWide Try.prog W .any base t v)
    (hW : DataW.Whole enc Try.prog Try.f6.params.toList Rows.scalingTablesSpec.vars false W args.toList ds gs before)
    (_hsz : (DataW.weightsEach Try.prog (Try.f6.params.toList ++ Rows.scalingTablesSpec.plain.varTypes Try.prog) (ds ++ gs)).all (· ≤ reachBytes) = true) :
    Calls Try.prog 6 args W fun e w' => e = .returned (.bool true) ∧ Below W.heap.size W w' := by
  obtain ⟨p, q, hA, hV, -, -, -⟩ := hW
  obtain ⟨rfl, -⟩ := trodVars_none hV
  rw [Try.params6] at hA hval
  obtain ⟨v0, v1, v2, d0, d1, d2, p0, p1, p2, rfl, rfl, rfl, h0, h1, h2⟩ := trodAll_three hA
  obtain ⟨A, B, lo, hi, m, hX⟩ := open_linear (hval 0 _ _ rfl rfl) h0
  obtain ⟨a, len, cap, rs, M, rfl, hR⟩ := open_rats (hval 1 _ _ rfl rfl) h1
  obtain ⟨s, rfl⟩ := okWide_int Try.underlying3 (hval 2 _ _ rfl rfl)
  obtain ⟨L, na, aa', la', ca', aa, la, ca, nb, ab', lb', cb', ab, lb, cb, rfl, hA', hB'⟩ := hX
  exact sTab_walk na aa' aa la' ca' la ca nb ab' ab lb' cb' lb cb lo hi m s rs a len cap A B L M W hA' hB' hR

set_option maxRecDepth 100000 in
theorem scalingTables_lifted (os : Os) (started : os.Started) (H : Type) (enc : TypeId × Value → H) :
    ReturnsInHanded {} Try.checked os 6 .any (Rows.scalingTablesSpec.pre6 enc Try.prog Try.f6 Rows.scalingTablesRow.domain false) (Rows.scalingTablesSpec.post enc Try.prog Try.f6 false true false false) := by
  refine returnsInHanded_of_change_sized (C := Try.checked) own started (by kernel_rfl) Try.func6
    (ChangeSpec.witness6 (enc := enc) (C := Try.checked) false ⟨#[], #[.agg #[.bool false, .slice none 0 0, .slice none 0 0, .bool false, .slice none 0 0, .slice none 0 0, .int .i64 0, .int .i64 0, .int .i64 0], .slice none 0 0, .int .i64 0], []⟩ 8 (by kernel_rfl) (by kernel_rfl) (by kernel_rfl) (by kernel_rfl)) ?_
  intro W base args ds gs before hval hW _ hsz _
  exact law_post rfl (by kernel_rfl) (by kernel_rfl) (fun ds h => match ds, h with | [d0, d1, d2], _ => ⟨rfl, rfl, rfl⟩) hW (scalingTables_walk W base args ds gs before hval hW hsz)

theorem scalingTables_over : Rows.scalingTablesRow.holds Try.pinned (OpenSpec.ofChange Rows.scalingTablesSpec) :=
  OpenClaim.holds_of_wide 6 Try.f6 rfl rfl rfl rfl rfl rfl rfl ⟨rfl, rfl, rfl, rfl, rfl⟩ rfl rfl rfl rfl rfl (by kernel_rfl) Try.func6 (by kernel_rfl)
    (of_decide_eq_true (by kernel_rfl)) (by unfold Func.isWrapper; first | (rw [if_pos (by decide +kernel)]; kernel_rfl) | (rw [if_neg (by decide +kernel)]; exact ⟨rfl, rfl⟩))
    (fun os started H enc _ => scalingTables_lifted os started H enc)

theorem scalingTables_proved : Rows.ScalingTablesSaid := scalingTables_over

end Go.Proofs.Ytmahokhgdkdhkaa

