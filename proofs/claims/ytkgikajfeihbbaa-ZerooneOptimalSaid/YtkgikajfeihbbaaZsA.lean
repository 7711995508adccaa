/- 0-1 programs: frames of worlds; what widest, freeVariables and the comparisons of the search return. -/
import Derived.Test.YtkgikajfeihbbaaZsS
import Derived.Test.YtkgikajfeihbbaaTgC
import Derived.Test.YtkgikajfeihbbaaGuard
namespace Go.Proofs.Ytkgikajfeihbbaa
set_option maxRecDepth 100000
open Go.RowKit

/-! ### Frames -/
/-- w' has come from w; of the old blocks only those of F may have been written -/
structure But (F : Nat → Prop) (w w' : World) : Prop where
  os : w'.os = w.os
  tape : w'.tape = w.tape
  output : w'.output = w.output
  size : w.heap.size ≤ w'.heap.size
  block : ∀ i, i < w.heap.size → ¬ F i → w'.heap[i]? = w.heap[i]?
theorem But.refl (F : Nat → Prop) (w : World) : But F w w := ⟨rfl, rfl, rfl, Nat.le_refl _, fun _ _ _ => rfl⟩
theorem But.trans {F : Nat → Prop} {w w1 w2 : World} (h : But F w w1) (k : But F w1 w2) : But F w w2 :=
  ⟨k.os.trans h.os, k.tape.trans h.tape, k.output.trans h.output, Nat.le_trans h.size k.size, fun i hi hF => (k.block i (Nat.lt_of_lt_of_le hi h.size) hF).trans (h.block i hi hF)⟩
theorem But.mono {F G : Nat → Prop} {w w' : World} (h : But F w w') (hFG : ∀ i, i < w.heap.size → F i → G i) : But G w w' :=
  ⟨h.os, h.tape, h.output, h.size, fun i hi hG => h.block i hi fun hF => hG (hFG i hi hF)⟩
theorem But.of {F : Nat → Prop} {w w' : World} (h : Below w.heap.size w w') : But F w w' := ⟨h.os, h.tape, h.output, h.size, fun i hi _ => h.block i hi⟩
theorem But.gby {F : Nat → Prop} {w w' : World} {r : Option Nat} (h : w.grownBy w' r) (hr : ∀ j, r = some j → j < w.heap.size → F j) : But F w w' :=
  ⟨h.os, h.tape, h.output, h.size, fun i hi hF => h.block i hi fun e => hF (hr i e.symm hi)⟩
theorem But.set {F : Nat → Prop} (w : World) (g o : Nat) (v : Value) (hg : g < w.heap.size → F g) : But F w (w.setCell ⟨g, o, none⟩ v) := But.gby (gby_set w g o v) fun j hj hl => by cases hj; exact hg hl
theorem But.below {F : Nat → Prop} {B : Nat} {w w' : World} (h : But F w w') (hB : B ≤ w.heap.size) (hF : ∀ i, F i → B ≤ i) : Below B w w' :=
  ⟨h.os, h.tape, h.output, h.size, fun i hi => h.block i (by omega) fun hf => by have := hF i hf; omega⟩
theorem But.cell {F : Nat → Prop} {w w' : World} (h : But F w w') {g o : Nat} {v : Option Value} (hg : g < w.heap.size) (hF : ¬ F g) (hc : w.cell? ⟨g, o, none⟩ = v) : w'.cell? ⟨g, o, none⟩ = v := by
  have := h.block g hg hF
  rw [← hc]; simp only [World.cell?, this]
theorem But.frozen {F : Nat → Prop} {w w' : World} (h : But F w w') {g o : Nat} {v : Bool} (hg : g < w.heap.size) (hF : ¬ F g) (hc : w.frozen? ⟨g, o, none⟩ = v) : w'.frozen? ⟨g, o, none⟩ = v := by
  have := h.block g hg hF
  rw [← hc]; simp only [World.frozen?, this]
theorem But.blk {F : Nat → Prop} {w w' : World} (h : But F w w') {g : Nat} {o : Obj} (hF : ¬ F g) (hc : w.heap[g]? = some o) : w'.heap[g]? = some o := by
  rw [h.block g (blk_lt hc) hF]; exact hc
theorem But.cells {F : Nat → Prop} {w w' : World} (h : But F w w') {a : Option Addr} {len cap : Nat} {f : Nat → Value} (hF : ∀ x, a = some x → len = 0 ∨ ¬ F x.block) (hc : Cells w a len cap f) : Cells w' a len cap f := by
  obtain ⟨h1, h2, h0, h3⟩ := hc
  refine ⟨h1, h2, h0, ?_⟩
  rcases h3 with h3 | ⟨b, off, rfl, hlt, hc⟩
  · exact .inl h3
  · rcases hF _ rfl with h4 | h4
    · exact .inl h4
    · exact .inr ⟨b, off, rfl, Nat.lt_of_lt_of_le hlt h.size, fun i hi => h.cell hlt h4 (hc i hi)⟩
theorem But.own {F : Nat → Prop} {w w' : World} (h : But F w w') {B : Nat} {v : Value} {xs : List Int} (hO : OwnI w B v xs) (hF : ∀ j, v.ownBlock = some j → ¬ F j) : OwnI w' B v xs := by
  unfold OwnI at hO ⊢
  refine ⟨hO.1, ?_⟩
  rcases hO.2 with h2 | ⟨g, cap, cur, hv, hg, hh, r⟩
  · exact .inl h2
  · exact .inr ⟨g, cap, cur, hv, hg, h.blk (hF g (by rw [hv]; rfl)) hh, r⟩

/-! ### widest -/
def Wide01 (c : List Int) (k : Nat) : Prop := ∀ j, j < k → c.getD j 0 = 0 ∨ c.getD j 0 = 1
/-- no row, or the number of a row of zeros and ones -/
def WideOk (rs : List RowM) (n : Int) : Prop := n = -1 ∨ ∃ k : Nat, k < rs.length ∧ n = (k : Int) ∧ Wide01 (rs.getD k default).coef (rs.getD k default).coef.length

set_option maxHeartbeats 4000000 in
theorem widest_any (p : ProbM) (a0 a1 a2 : Option Addr) (l0 c0 l1 c1 l2 c2 : Nat) (w : World) (h1 : RowsIn w a1 l1 c1 p.rows) (hv : ValidM p) :
    Calls Try.prog 55 #[.agg #[.slice a0 l0 c0, .slice a1 l1 c1, .slice a2 l2 c2]] w fun e w' => ∃ n : Int, e = .returned (.int .i64 n) ∧ WideOk p.rows n ∧ Below w.heap.size w w' := by
  have hn1 : l1 ≤ 60 := by rw [← h1.1]; exact hv.m
  have HL1 := Lib.hid h1.1
  have hb0 : Below w.heap.size w (w.alloc (.cells #[.slice a0 l0 c0, .slice a1 l1 c1, .slice a2 l2 c2] 25)) := (Below.refl _ _).alloc (Nat.le_refl _) _
  have HR := Lib.hid (h1.below hb0)
  have HB := Lib.hid (box3 w 25 (.slice a0 l0 c0) (.slice a1 l1 c1) (.slice a2 l2 c2))
  have HC := Lib.hid (show ∀ i, i < l1 → (p.rows.getD i default).coef.length ≤ 24 from fun i hi => by rw [hv.coefn i (by rw [h1.1]; exact hi)]; exact hv.n)
  clear h1 hv
  go_enter Try.func55, Try.ntmps55
  go_wp2_with fail
  generalize w.alloc (.cells #[.slice a0 l0 c0, .slice a1 l1 c1, .slice a2 l2 c2] 25) = w0 at *
  go_loopw [3, 4, 13] (fun wd ms i wr => ∃ (k : Nat) (n m : Int), k ≤ l1 ∧ i = .int .i64 k ∧ wd = .int .i64 n ∧ ms = .int .i64 m ∧ 0 ≤ m ∧ m ≤ 24 ∧ Below w0.heap.size w0 wr ∧ Hid (WideOk p.rows n)) (fun _ _ i _ => l1 - (intOf i).toNat)
  case atStart => exact ⟨0, -1, 0, by omega, rfl, rfl, rfl, by omega, by omega, Below.refl _ _, Lib.hid (.inl rfl)⟩
  case round =>
    obtain ⟨k, n, m, hk, rfl, rfl, rfl, hm0, hm1, hb, HD⟩ := hrel
    obtain ⟨x0, x1, x2⟩ := HB.out _ hb
    by_cases hlt : k < l1
    · obtain ⟨b, off, rfl, hbs, ai, li, ci, hrow, hcc⟩ := HR.out.at hlt
      obtain ⟨y0, y1, y2⟩ := hcc _ hb
      have HCk := HC.out k hlt
      have HLk := Lib.hid (show k < p.rows.length by rw [HL1.out]; exact hlt)
      generalize hrk : p.rows.getD k default = r at *
      have HRk := Lib.hid hrk
      have hbx : Below wr.heap.size wr (wr.alloc (.cells #[.slice ai li ci, .int .i64 r.mn, .int .i64 r.mx] 44)) := (Below.refl _ _).alloc (Nat.le_refl _) _
      have hbw := hb.trans (hbx.mono hb.size)
      have HV := Lib.hid (hrow.below hbw)
      have HBz := Lib.hid (box3 wr 44 (.slice ai li ci) (.int .i64 r.mn) (.int .i64 r.mx))
      have hli : li ≤ 24 := by rw [← hrow.1]; exact HCk
      have HLi := Lib.hid hrow.1
      clear hcc hrow hrk hbx
      go_wp2_with fail
      generalize wr.alloc (.cells #[.slice ai li ci, .int .i64 r.mn, .int .i64 r.mx] 44) = wx at *
      clear x0 x1 x2 y0 y1 y2
      go_loopw [7, 21] (fun o i wz => ∃ (j : Nat) (s : Int), j ≤ li ∧ i = .int .i64 j ∧ o = .int .i64 s ∧ 0 ≤ s ∧ s ≤ j ∧ Below wx.heap.size wx wz ∧ Hid (Wide01 r.coef j)) (fun _ i _ => li - (intOf i).toNat)
      case atStart => exact ⟨0, 0, by omega, rfl, rfl, by omega, by omega, Below.refl _ _, Lib.hid (fun j hj => by omega)⟩
      case round =>
        generalize wr = wz at *
        obtain ⟨j, s, hj, rfl, rfl, hs0, hs1, hbz, HW⟩ := hrel
        obtain ⟨z0, z1, z2⟩ := HBz.out _ hbz
        have hbn := hbw.trans (hbz.mono hbw.size)
        by_cases hjl : j < li
        · obtain ⟨b', off', rfl, _, hcc'⟩ := HV.out.2.2.at hjl
          have y0 := hcc' j hjl _ hbz
          have HX := Lib.hid (show r.coef.getD j 0 = r.coef.getD j 0 from rfl)
          generalize hx : r.coef.getD j 0 = x at *
          have HX := Lib.hid hx
          clear hcc' hx
          by_cases hx0 : x = 0
          · subst hx0
            have HW2 := Lib.hid (show Wide01 r.coef (j + 1) from fun t ht => by
              by_cases htj : t < j
              · exact HW.out t htj
              · obtain rfl : t = j := by omega
                exact .inl HX.out)
            clear HX HW
            go_wp2_with fail
            go_roundw
            case rel => exact ⟨j + 1, s, by omega, by go_num, by go_num, by omega, by omega, hbz, HW2⟩
            case measure => simp [intOf]; omega
          · by_cases hx1 : x = 1
            · subst hx1
              have HW2 := Lib.hid (show Wide01 r.coef (j + 1) from fun t ht => by
                by_cases htj : t < j
                · exact HW.out t htj
                · obtain rfl : t = j := by omega
                  exact .inr HX.out)
              clear HX HW
              go_wp2_with fail
              go_roundw
              case rel => exact ⟨j + 1, s + 1, by omega, by go_num, by go_num, by omega, by omega, hbz, HW2⟩
              case measure => simp [intOf]; omega
            · have d1 : (x != 0) = true := by simp [hx0]
              have d2 : (x != 1) = true := by simp [hx1]
              have d3 : decide (m < -1) = false := by simp; omega
              go_wp2_with fail
              go_roundw
              case rel => exact ⟨k + 1, n, m, by omega, by go_num, rfl, rfl, hm0, hm1, hbn, HD⟩
              case measure => simp [intOf]; omega
        · obtain rfl : j = li := by omega
          by_cases hsm : m < s
          · have HD2 := Lib.hid (show WideOk p.rows (k : Int) from .inr ⟨k, HLk.out, rfl, by rw [HRk.out, HLi.out]; exact HW.out⟩)
            have d3 : decide (m < s) = true := by simp [hsm]
            go_wp2_with fail
            go_roundw
            case rel => exact ⟨k + 1, k, s, by omega, by go_num, rfl, rfl, by omega, by omega, hbn, HD2⟩
            case measure => simp [intOf]; omega
          · have d3 : decide (m < s) = false := by simp; omega
            go_wp2_with fail
            go_roundw
            case rel => exact ⟨k + 1, n, m, by omega, by go_num, rfl, rfl, hm0, hm1, hbn, HD⟩
            case measure => simp [intOf]; omega
    · go_wp2_with fail
      go_ret
      exact ⟨n, rfl, HD.out, hb0.trans (hb.mono hb0.size)⟩

/-! ### freeVariables -/
def ixs (l : List Nat) : List Int := l.map fun i : Nat => (i : Int)
theorem ixs_len (l : List Nat) : (ixs l).length = l.length := by simp [ixs]
theorem ixs_app (l k : List Nat) : ixs (l ++ k) = ixs l ++ ixs k := by simp [ixs]
theorem ixs_at (l : List Nat) (i : Nat) : (ixs l).getD i 0 = (l.getD i 0 : Nat) := by
  simp only [ixs, List.getD, List.getElem?_map]
  cases l[i]? <;> simp
theorem freeIx_app : ∀ (fs gs : List Int) (k : Nat), freeIx k (fs ++ gs) = freeIx k fs ++ freeIx (k + fs.length) gs
  | [], gs, k => by simp [freeIx]
  | f :: fs, gs, k => by
    simp only [List.cons_append, freeIx, List.length_cons]
    rw [freeIx_app fs gs (k + 1), show k + 1 + fs.length = k + (fs.length + 1) by omega]
    split <;> simp
theorem freeIx_snoc (fs : List Int) (k : Nat) (h : k < fs.length) : freeIx 0 (fs.take (k + 1)) = freeIx 0 (fs.take k) ++ if fs.getD k 0 = -1 then [k] else [] := by
  rw [take_snoc fs k 0 h, freeIx_app, List.length_take, Nat.min_eq_left (by omega), Nat.zero_add]
  simp only [freeIx]
theorem freeIx_len : ∀ (fs : List Int) (k : Nat), (freeIx k fs).length ≤ fs.length
  | [], k => by simp [freeIx]
  | f :: fs, k => by
    have := freeIx_len fs (k + 1)
    simp only [freeIx]
    split <;> simp <;> omega

set_option maxHeartbeats 4000000 in
theorem freevars_any (p : ProbM) (a0 a1 a2 : Option Addr) (l0 c0 l1 c1 l2 c2 : Nat) (w : World) (h2 : Row .i64 w a2 l2 c2 p.fix) (ht : Trits p.fix) (hn : l2 ≤ 24) :
    Calls Try.prog 47 #[.agg #[.slice a0 l0 c0, .slice a1 l1 c1, .slice a2 l2 c2]] w fun e w' => ∃ v, e = .returned v ∧ OwnI w' w.heap.size v (ixs (freeIx 0 p.fix)) ∧ Below w.heap.size w w' := by
  have HL := Lib.hid h2.1
  have HT := Lib.hid ht
  have hb0 : Below w.heap.size w (w.alloc (.cells #[.slice a0 l0 c0, .slice a1 l1 c1, .slice a2 l2 c2] 25)) := (Below.refl _ _).alloc (Nat.le_refl _) _
  have HR := Lib.hid (h2.below hb0)
  have HB := Lib.hid (box3 w 25 (.slice a0 l0 c0) (.slice a1 l1 c1) (.slice a2 l2 c2))
  clear h2 ht
  go_enter Try.func47, Try.ntmps47
  go_wp2_with fail
  have hws : w.heap.size ≤ (w.alloc (.cells #[.slice a0 l0 c0, .slice a1 l1 c1, .slice a2 l2 c2] 25)).heap.size := hb0.size
  generalize w.alloc (.cells #[.slice a0 l0 c0, .slice a1 l1 c1, .slice a2 l2 c2] 25) = w0 at *
  go_loopw [3, 9] (fun u i wr => ∃ k : Nat, k ≤ l2 ∧ i = .int .i64 k ∧ Hid (OwnI wr w0.heap.size u (ixs (freeIx 0 (p.fix.take k)))) ∧ Below w0.heap.size w0 wr) (fun _ i _ => l2 - (intOf i).toNat)
  case atStart => exact ⟨0, by omega, rfl, Lib.hid (by simpa [OwnI, ivs, ixs, freeIx] using Owns.nil w0 w0.heap.size 3), Below.refl _ _⟩
  case round =>
    obtain ⟨k, hk, rfl, HO, hb⟩ := hrel
    obtain ⟨x0, x1, x2⟩ := HB.out _ hb
    by_cases hlt : k < l2
    · obtain ⟨bb, off, rfl, hbs, hcc⟩ := HR.out.2.2.at hlt
      have y0 := hcc k hlt _ hb
      have HS := Lib.hid (freeIx_snoc p.fix k (by rw [HL.out]; exact hlt))
      have HN := Lib.hid (show ((ivs (ixs (freeIx 0 (p.fix.take k)))).length + 1) * 8 ≤ 140737488355328 ∧ (ivs (ixs (freeIx 0 (p.fix.take k)))).length + 1 ≤ maxLen by
        have := freeIx_len (p.fix.take k) 0
        rw [List.length_take] at this
        rw [ivs_len, ixs_len]; simp only [maxLen]; omega)
      have hsz := hb.size
      have htr := HT.out k (by rw [HL.out]; exact hlt)
      clear hcc
      generalize p.fix.getD k 0 = x at *
      generalize hcur : freeIx 0 (p.fix.take k) = cur at *
      clear hcur
      by_cases hx : x = -1
      · subst hx
        rw [if_pos rfl] at HS
        go_wp2_with (at_builtin; go_must (refine wpList_app1 rfl _ _ 22 rfl w0.heap.size 3 (.int .i64 0) 8 Try.underlying22 infoInt rfl u3 (ivs (ixs cur)) rfl (.int .i64 k) rfl HO.out rfl HN.out.1 HN.out.2 hsz fun v' w' h1 h2 => ?_))
        have hbm := hb.trans (h2.below hsz (Owns.lt HO.out))
        have HO3 := Lib.hid (show OwnI w' w0.heap.size v' (ixs (freeIx 0 (p.fix.take (k + 1)))) by rw [HS.out, ixs_app]; unfold OwnI; rw [ivs_append]; exact h1)
        clear h1 h2
        go_wp2_with fail
        go_roundw
        case rel => exact ⟨k + 1, by omega, by go_num, HO3, hbm⟩
        case measure => simp [intOf]; omega
      · rw [if_neg hx, List.append_nil] at HS
        have d1 : decide (x < 0) = false := by simp; omega
        have HO3 := Lib.hid (show OwnI wr w0.heap.size u3 (ixs (freeIx 0 (p.fix.take (k + 1)))) by rw [HS.out]; exact HO.out)
        go_wp2_with fail
        go_roundw
        case rel => exact ⟨k + 1, by omega, by go_num, HO3, hb⟩
        case measure => simp [intOf]; omega
    · obtain rfl : k = l2 := by omega
      have HO2 := Lib.hid (show OwnI wr w0.heap.size u3 (ixs (freeIx 0 p.fix)) by have := HO.out; rwa [List.take_of_length_le (by rw [HL.out]; omega)] at this)
      go_wp2_with fail
      go_ret
      exact ⟨_, rfl, HO2.out.mono hws, hb0.trans (hb.mono hws)⟩

/-! ### The comparisons -/
set_option maxHeartbeats 2000000 in
theorem cmpV_any (K : Nat) (val : List Int) (a0 : Option Addr) (n c0 : Nat) (i j : Nat) (w : World) (hc : w.cell? ⟨K, 0, none⟩ = some (.slice a0 n c0)) (hK : K < w.heap.size) (h0 : Row .i64 w a0 n c0 val) (hs : Small val) (hi : i < n) (hj : j < n) :
    Calls Try.prog 49 #[.int .i64 i, .int .i64 j, .pointer (some ⟨K, 0, none⟩)] w fun e w' => e = .returned (.int .i64 (val.getD j 0 - val.getD i 0)) ∧ Below w.heap.size w w' := by
  have hc0 := h0.2.2.1
  obtain ⟨b, off, rfl, hbs, hcc⟩ := h0.2.2.at hi
  have hqc := fun nq => bc (below_drewN (Below.refl w.heap.size w) nq) hK hc
  have hqi := fun nq => hcc i hi _ (below_drewN (Below.refl w.heap.size w) nq)
  have hqj := fun nq => hcc j hj _ (below_drewN (Below.refl w.heap.size w) nq)
  have y0 := hcc i hi _ (Below.refl _ _)
  have y1 := hcc j hj _ (Below.refl _ _)
  have s1 := hs i
  have s2 := hs j
  clear hcc h0
  generalize val.getD i 0 = x at *
  generalize val.getD j 0 = y at *
  go_enter Try.func49, Try.ntmps49
  go_wp2_with fail
  go_quiet (fail)
  go_wp2_with fail
  go_ret
  exact ⟨by go_num, below_drewN (Below.refl _ _) _⟩

end Go.Proofs.Ytkgikajfeihbbaa
