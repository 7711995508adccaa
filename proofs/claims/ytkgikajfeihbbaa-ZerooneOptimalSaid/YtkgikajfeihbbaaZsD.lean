/- 0-1 programs: what the bound of the search is. -/
import Derived.Test.YtkgikajfeihbbaaZsC
namespace Go.Proofs.Ytkgikajfeihbbaa
set_option maxRecDepth 100000
open Go.RowKit

/-- the row that bounds the number of ones -/
def wideRow (S : Sh) (p : ProbM) : Option RowM := if S.wd = -1 then none else some (p.rows.getD S.wd.toNat default)
/-- the variables of positive value that are left, in the order of the bound -/
def leftOf (free ord : List Nat) (d : Nat) : List Nat := (ord.filter fun e => decide (d ≤ e)).map fun e => free.getD e 0
theorem left_cons (free : List Nat) (d e : Nat) (l : List Nat) : leftOf free (e :: l) d = if d ≤ e then free.getD e 0 :: leftOf free l d else leftOf free l d := by
  unfold leftOf
  by_cases h : d ≤ e
  · rw [if_pos h, List.filter_cons_of_pos (by simpa using h)]; rfl
  · rw [if_neg h, List.filter_cons_of_neg (by simpa using h)]

set_option maxHeartbeats 8000000 in
theorem sbound_any (S : Sh) (p : ProbM) (free ord : List Nat) (d B : Nat) (x : List Int) (β : Sb) (vb : Value) (w : World) (hP : Pu S p free ord) (hS : St w S p free ord) (hD : Dy w B S p x β vb) (hA : Bits01 x) :
    Calls Try.prog 58 #[.pointer (some ⟨S.g, 0, none⟩), .int .i64 d] w fun e w' => e = .returned (.int .i64 (bdS p.val (wideRow S p) (leftOf free ord d) x)) ∧ Below w.heap.size w w' := by
  generalize hU : bdS p.val (wideRow S p) (leftOf free ord d) x = U
  have HU := Lib.hid hU
  have hm := hP.m60
  have hkn := hP.kn
  have hlk := hP.lok
  have HM := Lib.hid hP.m
  have HN := Lib.hid hP.n
  have hgl := blk_lt hD.blk
  have c0 : w.cell? ⟨S.g, 0, none⟩ = some (.slice S.a0 S.n S.c0) := (blk_cell hD.blk 0).trans rfl
  have c1 : w.cell? ⟨S.g, 1, none⟩ = some (.slice S.a1 S.m S.c1) := (blk_cell hD.blk 1).trans rfl
  have c3 : w.cell? ⟨S.g, 3, none⟩ = some (.slice S.af S.k S.cf) := (blk_cell hD.blk 3).trans rfl
  have c7 : w.cell? ⟨S.g, 7, none⟩ = some (.int .i64 (dotL p.val x)) := (blk_cell hD.blk 7).trans rfl
  have c8 : w.cell? ⟨S.g, 8, none⟩ = some (.slice (some ⟨S.gs, 0, none⟩) S.m S.cs) := (blk_cell hD.blk 8).trans rfl
  have c11 : w.cell? ⟨S.g, 11, none⟩ = some (.int .i64 S.wd) := (blk_cell hD.blk 11).trans rfl
  have c12 : w.cell? ⟨S.g, 12, none⟩ = some (.slice S.ao S.lo S.co) := (blk_cell hD.blk 12).trans rfl
  have HV := Lib.hid hS.val
  have HR := Lib.hid hS.rows
  have HF := Lib.hid hS.fr
  have HOr := Lib.hid hS.ord
  have HOs := Lib.hid hD.os
  have hvb : -24000000 ≤ dotL p.val x ∧ dotL p.val x ≤ 24000000 := by
    have h1 := dotL_bd p.val x hP.valid.val hA
    have h2 := hP.valid.n
    omega
  have HVs := Lib.hid (show Small p.val from hP.valid.val)
  have HFl := Lib.hid (show ∀ e, e < S.k → free.getD e 0 < S.n from fun e he => hP.lt _ (by have h := hP.k; simp [List.getD, List.getElem?_eq_getElem (show e < free.length by omega)]))
  have HOl := Lib.hid (show ∀ t, t < S.lo → ord.getD t 0 < S.k from fun t ht => hP.ord _ (by have h := hP.lo; simp [List.getD, List.getElem?_eq_getElem (show t < ord.length by omega)]))
  have HLo := Lib.hid hP.lo
  have HB := Lib.hid (show bdS p.val (wideRow S p) (leftOf free ord d) x = dotL p.val x + greedy (fun i => p.val.getD i 0) (wdOf (wideRow S p)) (roomOf (wideRow S p) x) (leftOf free ord d) from rfl)
  rw [hU] at HB
  have HWd := Lib.hid hP.wd
  have HQ := Lib.hid (show wideRow S p = if S.wd = -1 then none else some (p.rows.getD S.wd.toNat default) from rfl)
  have HBd := Lib.hid (show ∀ i, i < p.rows.length → (-24000000 ≤ dotL (p.rows.getD i default).coef x ∧ dotL (p.rows.getD i default).coef x ≤ 24000000) ∧ (-24000000 ≤ (p.rows.getD i default).mx ∧ (p.rows.getD i default).mx ≤ 24000000) ∧ (p.rows.getD i default).coef.length = S.n from fun i hi => by
    have h1 := dotL_bd _ x (hP.valid.coef i hi) hA
    have h4 := hP.valid.coefn i hi
    have h5 := hP.valid.n
    have h6 := hP.valid.mx i hi
    have h7 := hP.n
    omega)
  clear hP hS hD hA hU
  generalize wideRow S p = wr0 at *
  generalize S.g = g at *
  generalize S.gs = gs at *
  generalize S.a0 = a0 at *
  generalize S.a1 = a1 at *
  generalize S.af = af at *
  generalize S.ao = ao at *
  generalize S.c0 = k0 at *
  generalize S.c1 = k1 at *
  generalize S.cf = kf at *
  generalize S.co = ko at *
  generalize S.cs = ks at *
  generalize S.k = k at *
  generalize S.m = m at *
  generalize S.n = n at *
  generalize S.lo = lo at *
  generalize S.wd = wd at *
  generalize dotL p.val x = sv at *
  rcases HWd.out with rfl | ⟨kw, hkw, rfl, h01⟩
  · have HQ2 := Lib.hid (show wr0 = none by rw [HQ.out, if_pos rfl])
    rw [HQ2.out] at HB
    have HB2 := Lib.hid (show U = sv + greedy (fun i => p.val.getD i 0) (wdOf none) 0 (leftOf free ord d) from HB.out)
    clear HWd HQ HQ2 HB HBd HR HOs c8
    go_enter Try.func58, Try.ntmps58
    go_wp2_with fail
    go_loopw [6, 47] (fun s i wr => ∃ (t : Nat) (sm : Int), t ≤ lo ∧ i = .int .i64 t ∧ s = .int .i64 sm ∧ -24000000 - 1000000 * (t : Int) ≤ sm ∧ sm ≤ 24000000 + 1000000 * (t : Int) ∧ Below w.heap.size w wr ∧ Hid (U = sm + greedy (fun i => p.val.getD i 0) (wdOf none) 0 (leftOf free (ord.drop t) d))) (fun _ i _ => lo - (intOf i).toNat)
    case atStart => exact ⟨0, sv, by omega, rfl, rfl, by omega, by omega, Below.refl _ _, HB2⟩
    case round =>
      obtain ⟨t, sm, ht, rfl, rfl, hs1, hs2, hb, HD⟩ := hrel
      have k0c := bc hb hgl c0
      have k3c := bc hb hgl c3
      have k11c := bc hb hgl c11
      by_cases hlt : t < lo
      · obtain ⟨bo, oo, rfl, hbo, hco⟩ := HOr.out.2.at hlt
        have po := hco t hlt _ hb
        rw [ixs_at] at po
        have hel := HOl.out t hlt
        have HDr := Lib.hid (drop_cons ord t 0 (by rw [HLo.out]; exact hlt))
        generalize ord.getD t 0 = e at *
        obtain ⟨bf0, of0, rfl, hbf, hcf⟩ := HF.out.2.at hel
        have pf := hcf e hel _ hb
        rw [ixs_at] at pf
        have hfl := HFl.out e hel
        have HLf := Lib.hid (left_cons free d e (ord.drop (t + 1)))
        generalize free.getD e 0 = i at *
        obtain ⟨bv0, ov0, rfl, hbv, hcv⟩ := HV.out.2.2.at hfl
        have pv := hcv i hfl _ hb
        have hvs := HVs.out i
        have HG := Lib.hid (show greedy (fun i => p.val.getD i 0) (wdOf none) 0 (i :: leftOf free (ord.drop (t + 1)) d) = p.val.getD i 0 + greedy (fun i => p.val.getD i 0) (wdOf none) 0 (leftOf free (ord.drop (t + 1)) d) by simp [greedy, wdOf])
        generalize hxi : p.val.getD i 0 = vi at *
        clear hco hcf hcv hxi
        by_cases hde : d ≤ e
        · have d1 : decide (e < d) = false := by simp; omega
          rw [if_pos hde] at HLf
          have HD2 := Lib.hid (show U = (sm + vi) + greedy (fun i => p.val.getD i 0) (wdOf none) 0 (leftOf free (ord.drop (t + 1)) d) by rw [HD.out, HDr.out, HLf.out, HG.out]; omega)
          go_wp2_with fail
          go_quiet (fail)
          go_wp2_with fail
          go_roundw
          case rel => exact ⟨t + 1, sm + vi, by omega, by go_num, by go_num, by omega, by omega, below_drewN hb _, HD2⟩
          case measure => simp [intOf]; omega
        · have d1 : decide (e < d) = true := by simp; omega
          rw [if_neg hde] at HLf
          have HD2 := Lib.hid (show U = sm + greedy (fun i => p.val.getD i 0) (wdOf none) 0 (leftOf free (ord.drop (t + 1)) d) by rw [HD.out, HDr.out, HLf.out])
          go_wp2_with fail
          go_roundw
          case rel => exact ⟨t + 1, sm, by omega, by go_num, rfl, by omega, by omega, hb, HD2⟩
          case measure => simp [intOf]; omega
      · have HE := Lib.hid (show U = sm by rw [HD.out, List.drop_eq_nil_of_le (by rw [HLo.out]; omega)]; simp [leftOf, greedy])
        go_wp2_with fail
        go_ret
        exact ⟨by rw [HE.out]; rfl, hb⟩
  · have hkm : kw < m := by rw [← HM.out]; exact hkw
    have HQ2 := Lib.hid (show wr0 = some (p.rows.getD kw default) by rw [HQ.out, if_neg (by omega)]; simp)
    rw [HQ2.out] at HB
    obtain ⟨⟨q1, q2⟩, ⟨q3, q4⟩, q5⟩ := HBd.out kw hkw
    obtain ⟨b, off, rfl, hbs, ai, li, ci, hrow, hcc⟩ := HR.out.at hkm
    have ps := HOs.out.cellAt kw hkm
    rw [sumsS_at _ _ _ hkw] at ps
    have hgsl : gs < w.heap.size := Owns.in HOs.out gs rfl
    have HRow := Lib.hid hrow
    have HCc := Lib.hid hcc
    have hli : li = n := by rw [← q5]; exact hrow.1.symm
    subst hli
    rw [q5] at h01
    have H01 := Lib.hid h01
    generalize p.rows.getD kw default = q at *
    have HB2 := Lib.hid (show U = sv + greedy (fun i => p.val.getD i 0) (fun i => q.coef.getD i 0 == 1) (q.mx - dotL q.coef x) (leftOf free ord d) from HB.out)
    generalize dotL q.coef x = sq at *
    generalize q.mx = mx at *
    have hdk : decide ((0 : Int) ≤ (kw : Int)) = true := by simp
    obtain ⟨y0, y1, y2⟩ := hcc w (Below.refl _ _)
    clear HWd HQ HQ2 HB HBd HR hcc hrow h01
    go_enter Try.func58, Try.ntmps58
    go_wp2_with fail
    go_quiet (fail)
    have hb0 := below_drewN (Below.refl w.heap.size w) nq
    have d0 := c0
    have d1 := c1
    have d3 := c3
    have d11 := c11
    replace c0 := bc hb0 hgl c0
    replace c1 := bc hb0 hgl c1
    replace c3 := bc hb0 hgl c3
    replace c7 := bc hb0 hgl c7
    replace c8 := bc hb0 hgl c8
    replace c11 := bc hb0 hgl c11
    replace c12 := bc hb0 hgl c12
    generalize w.drewN nq = w1 at *
    go_wp2_with fail
    go_loopw [5, 6, 47] (fun r s i wr => ∃ (t : Nat) (rm sm : Int), t ≤ lo ∧ i = .int .i64 t ∧ r = .int .i64 rm ∧ s = .int .i64 sm ∧ -48000000 ≤ rm ∧ rm ≤ 48000000 ∧ -24000000 - 1000000 * (t : Int) ≤ sm ∧ sm ≤ 24000000 + 1000000 * (t : Int) ∧ Below w.heap.size w wr ∧ Hid (U = sm + greedy (fun i => p.val.getD i 0) (fun i => q.coef.getD i 0 == 1) rm (leftOf free (ord.drop t) d))) (fun _ _ i _ => lo - (intOf i).toNat)
    case atStart => exact ⟨0, mx - sq, sv, by omega, rfl, by go_num, rfl, by omega, by omega, by omega, by omega, hb0, HB2⟩
    case round =>
      clear c0 c1 c3 c7 c8 c11 c12
      obtain ⟨t, rm, sm, ht, rfl, rfl, rfl, hr1, hr2, hs1, hs2, hb, HD⟩ := hrel
      have k0c := bc hb hgl d0
      have k1c := bc hb hgl d1
      have k3c := bc hb hgl d3
      have k11c := bc hb hgl d11
      obtain ⟨y0, y1, y2⟩ := HCc.out _ hb
      by_cases hlt : t < lo
      · obtain ⟨bo, oo, rfl, hbo, hco⟩ := HOr.out.2.at hlt
        have po := hco t hlt _ hb
        rw [ixs_at] at po
        have hel := HOl.out t hlt
        have HDr := Lib.hid (drop_cons ord t 0 (by rw [HLo.out]; exact hlt))
        generalize ord.getD t 0 = e at *
        obtain ⟨bf0, of0, rfl, hbf, hcf⟩ := HF.out.2.at hel
        have pf := hcf e hel _ hb
        rw [ixs_at] at pf
        have hfl := HFl.out e hel
        have HLf := Lib.hid (left_cons free d e (ord.drop (t + 1)))
        generalize free.getD e 0 = i at *
        obtain ⟨bv0, ov0, rfl, hbv, hcv⟩ := HV.out.2.2.at hfl
        have pv := hcv i hfl _ hb
        have hvs := HVs.out i
        obtain ⟨bc0, oc0, rfl, hbcc, hccc⟩ := HRow.out.2.2.at hfl
        have pc := hccc i hfl _ hb
        have hq01 := H01.out i hfl
        have HG := Lib.hid (show greedy (fun i => p.val.getD i 0) (fun i => q.coef.getD i 0 == 1) rm (i :: leftOf free (ord.drop (t + 1)) d) = if (q.coef.getD i 0 == 1) = true then (if rm ≤ 0 then greedy (fun i => p.val.getD i 0) (fun i => q.coef.getD i 0 == 1) rm (leftOf free (ord.drop (t + 1)) d) else p.val.getD i 0 + greedy (fun i => p.val.getD i 0) (fun i => q.coef.getD i 0 == 1) (rm - 1) (leftOf free (ord.drop (t + 1)) d)) else p.val.getD i 0 + greedy (fun i => p.val.getD i 0) (fun i => q.coef.getD i 0 == 1) rm (leftOf free (ord.drop (t + 1)) d) from rfl)
        generalize hxi : p.val.getD i 0 = vi at *
        generalize hxc : q.coef.getD i 0 = cv at *
        clear hco hcf hcv hxi hxc hccc
        by_cases hde : d ≤ e
        · have e1 : decide (e < d) = false := by simp; omega
          rw [if_pos hde] at HLf
          rcases hq01 with rfl | rfl
          · rw [if_neg (by decide)] at HG
            have HD2 := Lib.hid (show U = (sm + vi) + greedy (fun i => p.val.getD i 0) (fun i => q.coef.getD i 0 == 1) rm (leftOf free (ord.drop (t + 1)) d) by rw [HD.out, HDr.out, HLf.out, HG.out]; omega)
            go_wp2_with fail
            go_quiet (fail)
            go_wp2_with fail
            go_roundw
            case rel => exact ⟨t + 1, rm, sm + vi, by omega, by go_num, rfl, by go_num, by omega, by omega, by omega, by omega, below_drewN hb _, HD2⟩
            case measure => simp [intOf]; omega
          · rw [if_pos (by decide)] at HG
            by_cases hrm : rm ≤ 0
            · rw [if_pos hrm] at HG
              have e2 : decide (rm ≤ 0) = true := by simp [hrm]
              have HD2 := Lib.hid (show U = sm + greedy (fun i => p.val.getD i 0) (fun i => q.coef.getD i 0 == 1) rm (leftOf free (ord.drop (t + 1)) d) by rw [HD.out, HDr.out, HLf.out, HG.out])
              go_wp2_with fail
              go_quiet (fail)
              go_wp2_with fail
              go_roundw
              case rel => exact ⟨t + 1, rm, sm, by omega, by go_num, rfl, rfl, by omega, by omega, by omega, by omega, below_drewN hb _, HD2⟩
              case measure => simp [intOf]; omega
            · rw [if_neg hrm] at HG
              have e2 : decide (rm ≤ 0) = false := by simp; omega
              have HD2 := Lib.hid (show U = (sm + vi) + greedy (fun i => p.val.getD i 0) (fun i => q.coef.getD i 0 == 1) (rm - 1) (leftOf free (ord.drop (t + 1)) d) by rw [HD.out, HDr.out, HLf.out, HG.out]; omega)
              go_wp2_with fail
              go_quiet (fail)
              go_wp2_with fail
              go_roundw
              case rel => exact ⟨t + 1, rm - 1, sm + vi, by omega, by go_num, by go_num, by go_num, by omega, by omega, by omega, by omega, below_drewN hb _, HD2⟩
              case measure => simp [intOf]; omega
        · have e1 : decide (e < d) = true := by simp; omega
          rw [if_neg hde] at HLf
          have HD2 := Lib.hid (show U = sm + greedy (fun i => p.val.getD i 0) (fun i => q.coef.getD i 0 == 1) rm (leftOf free (ord.drop (t + 1)) d) by rw [HD.out, HDr.out, HLf.out])
          go_wp2_with fail
          go_roundw
          case rel => exact ⟨t + 1, rm, sm, by omega, by go_num, rfl, rfl, by omega, by omega, by omega, by omega, hb, HD2⟩
          case measure => simp [intOf]; omega
      · have HE := Lib.hid (show U = sm by rw [HD.out, List.drop_eq_nil_of_le (by rw [HLo.out]; omega)]; simp [leftOf, greedy])
        go_wp2_with fail
        go_ret
        exact ⟨by rw [HE.out]; rfl, hb⟩

end Go.Proofs.Ytkgikajfeihbbaa
