/- 0-1 programs: what the reference's ints and step return. -/
import Derived.Test.YtkgikajfeihbbaaTgC
namespace Go.Proofs.Ytkgikajfeihbbaa
set_option maxRecDepth 100000
open Go.RowKit

set_option maxHeartbeats 2000000 in
theorem rints_any (B : Nat) (xs : List Int) (a : Option Addr) (len cap : Nat) (w : World) (hx : Row .i64 w a len cap xs) (hm : len ≤ 1000) (hB : B ≤ w.heap.size) :
    Calls Try.prog 37 #[.slice a len cap] w fun e w' => ∃ b d, e = .returned (.slice b len d) ∧ OwnI w' B (.slice b len d) xs ∧ Below w.heap.size w w' := by
  have HX := Lib.hid hx
  have HL := Lib.hid hx.1
  clear hx
  go_enter Try.func37, Try.ntmps37
  go_wp2_with fail
  go_loopw [3, 4] (fun u i wr => ∃ k : Nat, k ≤ len ∧ i = .int .i64 k ∧ Hid (OwnI wr w.heap.size u (xs.take k)) ∧ Below w.heap.size w wr) (fun _ i _ => len - (intOf i).toNat)
  case atStart => exact ⟨0, by omega, rfl, Lib.hid (by simpa [OwnI, ivs] using Owns.nil w w.heap.size 3), Below.refl _ _⟩
  case round =>
    obtain ⟨k, hk, rfl, HO, hb⟩ := hrel
    by_cases hlt : k < len
    · obtain ⟨bb, off, rfl, hbs, hcc⟩ := HX.out.2.2.at hlt
      have y0 := hcc k hlt _ hb
      have HS := Lib.hid (take_snoc xs k 0 (by rw [HL.out]; exact hlt))
      have HN := Lib.hid (show ((ivs (xs.take k)).length + 1) * 8 ≤ 140737488355328 ∧ (ivs (xs.take k)).length + 1 ≤ maxLen by rw [ivs_len, List.length_take]; simp only [maxLen]; omega)
      have hsz := hb.size
      clear hcc
      generalize xs.getD k 0 = x at *
      generalize hcur : xs.take k = cur at *
      clear hcur
      go_wp2_with (at_builtin; go_must (refine wpList_app1 rfl _ _ 22 rfl w.heap.size 3 (.int .i64 0) 8 Try.underlying22 infoInt rfl u3 (ivs cur) rfl (.int .i64 x) rfl HO.out rfl HN.out.1 HN.out.2 hsz fun v' w' h1 h2 => ?_))
      have hbm := hb.trans (h2.below hsz (Owns.lt HO.out))
      have HO3 := Lib.hid (show OwnI w' w.heap.size v' (xs.take (k + 1)) by rw [HS.out]; unfold OwnI; rw [ivs_append]; exact h1)
      clear h1 h2
      go_wp2_with fail
      go_roundw
      case rel => exact ⟨k + 1, by omega, by go_num, HO3, hbm⟩
      case measure => simp [intOf]; omega
    · obtain rfl : k = len := by omega
      have HO2 := Lib.hid (show OwnI wr w.heap.size u3 xs by have := HO.out; rwa [List.take_of_length_le (by rw [HL.out]; omega)] at this)
      clear HO
      obtain ⟨b, n, d, hu, hi⟩ := Owns.ints HO2.out
      subst hu
      obtain rfl : n = k := by rw [← hi.1]; exact HL.out
      clear hi
      go_wp2_with fail
      go_ret
      exact ⟨b, d, rfl, HO2.out.mono hB, hb⟩

/-- what a step does -/
def StepTo (rs : List RowM) (f : List Int) (more ok : Bool) (f' : List Int) : Prop :=
  (ok = false ∧ more = false ∧ ((∃ r, r ∈ rs ∧ canB r f = false) ∨ ∃ r, r ∈ rs ∧ ∃ i, i < f.length ∧ canB r (f.set i 0) = false ∧ canB r (f.set i 1) = false)) ∨
  (ok = true ∧ more = true ∧ ∃ r, r ∈ rs ∧ ∃ i, i < f.length ∧ f.getD i 0 = -1 ∧ ∃ v : Int, (v = 0 ∨ v = 1) ∧ canB r (f.set i v) = false ∧ f' = f.set i (1 - v)) ∨
  (ok = true ∧ more = false ∧ f' = f ∧ ∀ r, r ∈ rs → canB r f = true ∧ RowClosed r f)
theorem row_at {w : World} {b off len cap k : Nat} {rs : List RowM} (h : RowsIn w (some ⟨b, off, none⟩) len cap rs) (hk : k < len) :
    ∃ ai li ci, w.cell? ⟨b, off + k * 3, none⟩ = some (.slice ai li ci) ∧ w.cell? ⟨b, off + k * 3 + 1, none⟩ = some (.int .i64 (rs.getD k default).mn) ∧ w.cell? ⟨b, off + k * 3 + 2, none⟩ = some (.int .i64 (rs.getD k default).mx) ∧ RowV w (.agg #[.slice ai li ci, .int .i64 (rs.getD k default).mn, .int .i64 (rs.getD k default).mx]) (rs.getD k default) := by
  obtain ⟨b', off', e, -, ai, li, ci, hrow, hc⟩ := h.at hk
  cases e
  obtain ⟨h0, h1, h2⟩ := hc w (Below.refl _ _)
  exact ⟨ai, li, ci, h0, h1, h2, ai, li, ci, rfl, hrow⟩
theorem getD_in {rs : List RowM} {i : Nat} (h : i < rs.length) : rs.getD i default ∈ rs := by simp [List.getD, List.getElem?_eq_getElem h]
theorem in_getD {rs : List RowM} {r : RowM} (h : r ∈ rs) : ∃ i, i < rs.length ∧ rs.getD i default = r := by
  obtain ⟨i, hi, e⟩ := List.getElem_of_mem h
  exact ⟨i, hi, by simp [List.getD, List.getElem?_eq_getElem hi, e]⟩

set_option maxHeartbeats 16000000 in
theorem step_any (rs : List RowM) (f : List Int) (b1 b2 : Option Addr) (l1 d1 l2 d2 g B : Nat) (w : World) (hR : ∀ w', w.grownBy w' (some g) → RowsIn w' b1 l1 d1 rs) (hO : OwnI w B (.slice b2 l2 d2) f) (hg0 : l2 = 0 ∨ b2 = some ⟨g, 0, none⟩) (hn : ∀ i, i < rs.length → (rs.getD i default).coef.length = l2) (hs : ∀ i, i < rs.length → Small (rs.getD i default).coef) (hn2 : l2 ≤ 24) (hn1 : l1 ≤ 60) (ht : Trits f) :
    Calls Try.prog 38 #[.slice b1 l1 d1, .slice b2 l2 d2] w fun e w' => ∃ more ok f', e = .returned (.tuple #[.bool more, .bool ok]) ∧ StepTo rs f more ok f' ∧ OwnI w' B (.slice b2 l2 d2) f' ∧ w.grownBy w' (some g) := by
  have HRs := Lib.hid hR
  have HO0 := Lib.hid hO
  have HN := Lib.hid (And.intro hn hs)
  have HT := Lib.hid ht
  have HL1 := Lib.hid (hR w (gby_refl _ _)).1
  have HRow := Lib.hid (show ∀ wr f, OwnI wr B (.slice b2 l2 d2) f → Trits f → Row .i64 wr b2 l2 d2 f ∧ f.length = l2 from fun wr f h ht => by
    obtain ⟨a, cap, e, h3⟩ := h.row (wf_trits ht)
    cases e
    exact ⟨h3, rfl⟩)
  have hfl := (HRow.out w f hO ht).2
  clear hR hO hn hs ht
  go_enter Try.func38, Try.ntmps38
  go_wp2_with fail
  go_loopw [6] (fun i wr => ∃ a : Nat, a ≤ l1 ∧ i = .int .i64 a ∧ w.grownBy wr (some g) ∧ Hid (OwnI wr B (.slice b2 l2 d2) f) ∧ Hid (∀ j, j < a → canB (rs.getD j default) f = true ∧ RowClosed (rs.getD j default) f)) (fun i _ => l1 - (intOf i).toNat)
  case atStart => exact ⟨0, by omega, rfl, gby_refl _ _, HO0, Lib.hid (fun j hj => by omega)⟩
  case round =>
    clear HO0
    obtain ⟨a, hal, rfl, hG, HO, HP⟩ := hrel
    by_cases hlt : a < l1
    · obtain ⟨b, off, rfl, -, -⟩ := (HRs.out wr hG).at hlt
      obtain ⟨ai, li, ci, y0, y1, y2, hrv⟩ := row_at (HRs.out wr hG) hlt
      have HMem := Lib.hid (getD_in (rs := rs) (i := a) (by rw [HL1.out]; exact hlt))
      have HNr := Lib.hid (And.intro (HN.out.1 a (by rw [HL1.out]; exact hlt)) (HN.out.2 a (by rw [HL1.out]; exact hlt)))
      have HAt := Lib.hid (show ∀ wq, w.grownBy wq (some g) → ∃ ai li ci, wq.cell? ⟨b, off + a * 3, none⟩ = some (.slice ai li ci) ∧ wq.cell? ⟨b, off + a * 3 + 1, none⟩ = some (.int .i64 (rs.getD a default).mn) ∧ wq.cell? ⟨b, off + a * 3 + 2, none⟩ = some (.int .i64 (rs.getD a default).mx) ∧ RowV wq (.agg #[.slice ai li ci, .int .i64 (rs.getD a default).mn, .int .i64 (rs.getD a default).mx]) (rs.getD a default) from fun wq hq => row_at (HRs.out wq hq) hlt)
      generalize hrk : rs.getD a default = r at *
      have HRk := Lib.hid hrk
      have HRv := Lib.hid hrv
      have HRf := Lib.hid (HRow.out wr f HO.out HT.out).1
      clear hrv hrk
      go_wp2_with fail
      refine (can_any _ r f b2 l2 d2 _ HRv.out HRf.out HNr.out.1 hn2 HNr.out.2).mono ?_
      rintro e w2 ⟨rfl, hb2⟩
      have hG2 := gby_trans hG (gby_below (g := some g) hb2)
      have HO2 := Lib.hid (HO.out.below hb2)
      clear hb2 HRv HRf y0 y1 y2 HO
      cases hc : canB r f
      · have HF := Lib.hid (show StepTo rs f false false f from .inl ⟨rfl, rfl, .inl ⟨r, HMem.out, hc⟩⟩)
        clear hc
        go_wp2_with fail
        go_ret2
        exact ⟨false, false, f, rfl, HF.out, HO2.out, hG2⟩
      have HCn := Lib.hid hc
      clear hc
      go_wp2_with fail
      generalize wr = wq at *
      go_loopw [7] (fun i wz => ∃ m : Nat, m ≤ l2 ∧ i = .int .i64 m ∧ w.grownBy wz (some g) ∧ Hid (OwnI wz B (.slice b2 l2 d2) f) ∧ Hid (∀ i, i < m → f.getD i 0 = -1 → canB r (f.set i 0) = true ∧ canB r (f.set i 1) = true)) (fun i _ => l2 - (intOf i).toNat)
      case atStart => exact ⟨0, by omega, rfl, hG2, HO2, Lib.hid (fun i hi => by omega)⟩
      case round =>
        clear HO2 hG2
        obtain ⟨m, hml, rfl, hG3, HO, HD⟩ := hrel
        by_cases hm : m < l2
        · rcases hg0 with h | rfl
          · omega
          have cg := Owns.cell HO.out m hm
          rw [ivs_at f m (by omega)] at cg
          unfold iv at cg
          have fg := HO.out.free m
          have htr := HT.out m (by omega)
          have HX := Lib.hid (show f.getD m 0 = f.getD m 0 from rfl)
          by_cases hx1 : f.getD m 0 = -1
          rotate_left
          · have hd0 : (f.getD m 0 == -1) = false := by simpa using hx1
            have HD2 := Lib.hid (show ∀ i, i < m + 1 → f.getD i 0 = -1 → canB r (f.set i 0) = true ∧ canB r (f.set i 1) = true from fun i hi hf => by
              by_cases him : i < m
              · exact HD.out i him hf
              · obtain rfl : i = m := by omega
                exact absurd hf hx1)
            generalize f.getD m 0 = x at *
            clear hx1 HD HX
            go_wp2_with fail
            go_roundw
            case rel => exact ⟨m + 1, by omega, by go_num, hG3, HO, HD2⟩
            case measure => simp [intOf]; omega
          have HX1 := Lib.hid hx1
          rw [hx1] at cg
          clear HX htr hx1
          obtain ⟨hO1, hG1⟩ := HO.out.store m 0
          have hG4 := gby_trans hG3 hG1
          obtain ⟨ai, li, ci, y0, y1, y2, hrv⟩ := HAt.out _ hG4
          have HRv := Lib.hid hrv
          have HO1 := Lib.hid hO1
          have HRf := Lib.hid (HRow.out _ _ hO1 (trits_set HT.out (by omega) (by omega))).1
          clear hO1 hG1 hrv
          go_wp2_with fail
          refine (can_any _ r (f.set m 0) _ l2 d2 _ HRv.out HRf.out HNr.out.1 hn2 HNr.out.2).mono ?_
          rintro e w5 ⟨rfl, hb5⟩
          have hG5 := gby_trans hG4 (gby_below (g := some g) hb5)
          have HO5 := Lib.hid (HO1.out.below hb5)
          have cg5 := Owns.cell HO5.out m hm
          have fg5 := HO5.out.free m
          clear hb5 HRv HRf y0 y1 y2 HO1 cg fg HO hG4
          obtain ⟨hO1, hG1⟩ := HO5.out.store m 1
          rw [List.set_set] at hO1
          have hG6 := gby_trans hG5 hG1
          obtain ⟨ai, li, ci, y0, y1, y2, hrv⟩ := HAt.out _ hG6
          have HRv := Lib.hid hrv
          have HO1 := Lib.hid hO1
          have HRf := Lib.hid (HRow.out _ _ hO1 (trits_set HT.out (by omega) (by omega))).1
          generalize hz : canB r (f.set m 0) = cz at *
          have HZ := Lib.hid hz
          generalize (ivs (f.set m 0)).getD m .nilFunc = old5 at *
          clear hO1 hG1 hrv hz
          go_wp2_with fail
          refine (can_any _ r (f.set m 1) _ l2 d2 _ HRv.out HRf.out HNr.out.1 hn2 HNr.out.2).mono ?_
          rintro e w7 ⟨rfl, hb7⟩
          have hG7 := gby_trans hG6 (gby_below (g := some g) hb7)
          have HO7 := Lib.hid (HO1.out.below hb7)
          have cg7 := Owns.cell HO7.out m hm
          have fg7 := HO7.out.free m
          clear hb7 HRv HRf y0 y1 y2 HO1 cg5 fg5 HO5 hG5 hG6
          obtain ⟨hO1, hG1⟩ := HO7.out.store m (-1)
          rw [List.set_set, set_self f m (by omega) HX1.out] at hO1
          have hG8 := gby_trans hG7 hG1
          have HO8 := Lib.hid hO1
          have cg8 := Owns.cell hO1 m hm
          have fg8 := hO1.free m
          generalize ho : canB r (f.set m 1) = co at *
          have HOn := Lib.hid ho
          generalize (ivs (f.set m 1)).getD m .nilFunc = old7 at *
          generalize (ivs f).getD m .nilFunc = old8 at *
          clear hO1 hG1 ho
          cases cz
          · cases co
            · have HF := Lib.hid (show StepTo rs f false false f from .inl ⟨rfl, rfl, .inr ⟨r, HMem.out, m, by omega, HZ.out, HOn.out⟩⟩)
              go_wp2_with fail
              go_ret2
              exact ⟨false, false, f, rfl, HF.out, HO8.out, hG8⟩
            · have HF := Lib.hid (show StepTo rs f true true (f.set m 1) from .inr (.inl ⟨rfl, rfl, r, HMem.out, m, by omega, HX1.out, 0, .inl rfl, HZ.out, rfl⟩))
              obtain ⟨hO9, hG9⟩ := HO8.out.store m 1
              have HO9 := Lib.hid hO9
              have hGn := gby_trans hG8 hG9
              clear hO9 hG9
              go_wp2_with fail
              go_ret2
              exact ⟨true, true, _, rfl, HF.out, HO9.out, hGn⟩
          · cases co
            · have HF := Lib.hid (show StepTo rs f true true (f.set m 0) from .inr (.inl ⟨rfl, rfl, r, HMem.out, m, by omega, HX1.out, 1, .inr rfl, HOn.out, rfl⟩))
              obtain ⟨hO9, hG9⟩ := HO8.out.store m 0
              have HO9 := Lib.hid hO9
              have hGn := gby_trans hG8 hG9
              clear hO9 hG9
              go_wp2_with fail
              go_ret2
              exact ⟨true, true, _, rfl, HF.out, HO9.out, hGn⟩
            · have HD2 := Lib.hid (show ∀ i, i < m + 1 → f.getD i 0 = -1 → canB r (f.set i 0) = true ∧ canB r (f.set i 1) = true from fun i hi hf => by
                by_cases him : i < m
                · exact HD.out i him hf
                · obtain rfl : i = m := by omega
                  exact ⟨HZ.out, HOn.out⟩)
              clear HD
              go_wp2_with fail
              go_roundw
              case rel => exact ⟨m + 1, by omega, by go_num, hG8, HO8, HD2⟩
              case measure => simp [intOf]; omega
        · obtain rfl : m = l2 := by omega
          have HP2 := Lib.hid (show ∀ j, j < a + 1 → canB (rs.getD j default) f = true ∧ RowClosed (rs.getD j default) f from fun j hj => by
            by_cases hja : j < a
            · exact HP.out j hja
            · obtain rfl : j = a := by omega
              rw [HRk.out]
              exact ⟨HCn.out, fun i hi hf => HD.out i (by omega) hf⟩)
          clear HP HD
          go_wp2_with fail
          go_roundw
          case rel => exact ⟨a + 1, by omega, by go_num, hG3, HO, HP2⟩
          case measure => simp [intOf]; omega
    · obtain rfl : a = l1 := by omega
      have HF := Lib.hid (show StepTo rs f false true f from .inr (.inr ⟨rfl, rfl, rfl, fun r hr => by
        obtain ⟨i, hi, rfl⟩ := in_getD hr
        exact HP.out i (by rw [← HL1.out]; exact hi)⟩))
      go_wp2_with fail
      go_ret2
      exact ⟨false, true, f, rfl, HF.out, HO.out, hG⟩

end Go.Proofs.Ytkgikajfeihbbaa
