/- 0-1 programs: what the reference's from does: plain facts, and an append whose result is never nil. -/
import Derived.Test.YtkgikajfeihbbaaZsR
namespace Go.Proofs.Ytkgikajfeihbbaa
set_option maxRecDepth 100000
open Go.RowKit

theorem hi_bd : ∀ (cs fs : List Int), Small cs → -1000000 * (cs.length : Int) ≤ hiOf cs fs ∧ hiOf cs fs ≤ 1000000 * (cs.length : Int)
  | [], fs, _ => by simp [hiOf]
  | c :: cs, [], h => by simp only [hiOf, List.length_cons]; omega
  | c :: cs, f :: fs, h => by
    have ih := hi_bd cs fs (small_tail h)
    have h0 := h 0
    simp only [List.getD_cons_zero] at h0
    simp only [hiOf, List.length_cons]
    have : hiT c f = c ∨ hiT c f = 0 := by unfold hiT; split <;> simp
    rcases this with e | e <;> rw [e] <;> omega
theorem small_drop {cs : List Int} (h : Small cs) (k : Nat) : Small (cs.drop k) := fun i => by
  have := h (k + i)
  simpa [List.getD, List.getElem?_drop] using this
/-- there is nothing to be found from here -/
def cutM (rows : List RowM) (val fs pre : List Int) (v : Int) (β : Option (List Int) × Int) : Bool := hop rows (pre ++ fs) || (β.1.isSome && decide (v + hiOf (val.drop pre.length) fs ≤ β.2))
/-- the next variable is u -/
def tryM (rows : List RowM) (val : List Int) (f : Int) (fs pre : List Int) (v u : Int) (β : Option (List Int) × Int) : Option (List Int) × Int := if f = -1 ∨ f = u then fromM rows val fs (pre ++ [u]) (v + u * val.getD pre.length 0) β else β
theorem hiOf_nil : ∀ c : List Int, hiOf c [] = 0
  | [] => rfl
  | _ :: _ => rfl
theorem from_no {rows : List RowM} {val fs pre : List Int} {v : Int} {β : Option (List Int) × Int} (h : cutM rows val fs pre v β = true) : fromM rows val fs pre v β = β := by
  unfold cutM at h
  cases fs with
  | nil =>
    rw [List.append_nil, hiOf_nil, Int.add_zero] at h
    simp only [fromM]; rw [if_pos h]
  | cons f fs => simp only [fromM]; rw [if_pos h]
theorem from_leaf {rows : List RowM} {val pre : List Int} {v : Int} {β : Option (List Int) × Int} (h : cutM rows val [] pre v β = false) : fromM rows val [] pre v β = (some pre, v) := by
  unfold cutM at h
  rw [List.append_nil, hiOf_nil, Int.add_zero] at h
  simp only [fromM]
  rw [if_neg (by rw [h]; simp)]
theorem from_cons {rows : List RowM} {val : List Int} {f : Int} {fs pre : List Int} {v : Int} {β : Option (List Int) × Int} (h : cutM rows val (f :: fs) pre v β = false) : fromM rows val (f :: fs) pre v β = tryM rows val f fs pre v 0 (tryM rows val f fs pre v 1 β) := by
  unfold cutM at h
  simp only [fromM, tryM]
  rw [if_neg (by rw [h]; simp)]
  simp only [Int.zero_mul, Int.add_zero, Int.one_mul]

theorem run_appP {P : Program} {w : World} (t ty : TypeId) (B : Nat) (e : TypeId) (z : Value) (bytes : Nat) (ht : P.underlying t = some (.slice e)) (hi : (P.info? e).map (fun i => (i.zero, i.size, i.bytes)) = some (some z, 1, bytes)) (hz1 : z.cells.size = 1)
    (g0 : Nat) (hown : Owns w B e (.slice (some ⟨g0, 0, none⟩) 0 0) []) (ad : Option Addr) (c : Nat) (news : List Value) (hnews : Cells w ad news.length c (fun i => news.getD i .nilFunc)) (h1 : ∀ u ∈ news, u.oneCell' = true)
    (hbytes : news.length * bytes ≤ 140737488355328) (hlen : news.length ≤ maxLen) (hbase : B ≤ w.heap.size) :
    ∃ g c' w', (Builtin.append_ #[t, t] ty #[.slice (some ⟨g0, 0, none⟩) 0 0, .slice ad news.length c]).run P w = .ok (.slice (some ⟨g, 0, none⟩) news.length c') w' ∧ Owns w' B e (.slice (some ⟨g, 0, none⟩) news.length c') news ∧ Grew w w' (.slice (some ⟨g0, 0, none⟩) 0 0) (.slice (some ⟨g, 0, none⟩) news.length c') := by
  obtain ⟨v', w', hr, h2, h3⟩ := run_app (P := P) t ty B e z bytes ht hi hz1 _ [] hown ad c news hnews h1 (by simpa using hbytes) (by simpa using hlen) hbase
  rw [List.nil_append] at h2
  rcases h2.form2 with ⟨hv, hn⟩ | ⟨g, c', hv, -⟩
  · subst hn
    obtain ⟨i, hi', hz, hsize, hby⟩ := info_parts hi
    have hne : ∃ c', v' = .slice (some ⟨g0, 0, none⟩) 0 c' := by
      cases ad with
      | none =>
        have hc : c = 0 := hnews.2.2.1 rfl
        subst hc
        have hr' := run_append_owned_none (P := P) w B t ty e i 1 ht hi' _ 0 [] hown
        simp only [List.length_nil] at hr
        rw [hr'] at hr
        simp only [Result.ok.injEq] at hr
        exact ⟨0, hr.1.symm⟩
      | some ad =>
        rcases hown.2 with ⟨h0, -⟩ | ⟨g, cap, cur, hgc, hg, hh, hnc, hcm, hcs, htk⟩
        · cases h0
        · cases hgc
          have hr' := run_append_room (P := P) w t ty e i ht hi' g0 0 0 cur hh ad 0 c [] (by simp) (fun j u hu => by simp at hu) (fun u hu => by simp at hu) (by omega) (by simp)
          simp only [List.length_nil] at hr
          rw [hr'] at hr
          simp only [Result.ok.injEq] at hr
          exact ⟨_, hr.1.symm⟩
    obtain ⟨c', rfl⟩ := hne
    cases hv
  · subst hv
    exact ⟨g, c', w', hr, h2, h3⟩

/-- append to an empty slice that has just been laid: the result is not nil -/
theorem wp_appP {P : Program} {w : World} {o : Oper} {a : Act} {K : Act → World → Prop} {Q : Exit → Act → World → Prop} (s x : Operand) (t : TypeId)
    (ho : o.op = .call { callee := .builtin .append, args := #[s, x], argTypes := #[t, t] })
    (B : Nat) (e : TypeId) (z : Value) (bytes : Nat) (ht : P.underlying t = some (.slice e)) (hi : (P.info? e).map (fun i => (i.zero, i.size, i.bytes)) = some (some z, 1, bytes)) (hz1 : z.cells.size = 1)
    (g0 : Nat) (hs : a.eval s = .slice (some ⟨g0, 0, none⟩) 0 0) (hown : Owns w B e (.slice (some ⟨g0, 0, none⟩) 0 0) [])
    (ad : Option Addr) (m c : Nat) (news : List Value) (hx : a.eval x = .slice ad m c) (hl : news.length = m) (hnews : Cells w ad m c (fun i => news.getD i .nilFunc)) (h1 : ∀ u ∈ news, u.oneCell' = true)
    (hbytes : m * bytes ≤ 140737488355328) (hlen : m ≤ maxLen) (hbase : B ≤ w.heap.size)
    (h : ∀ g c' w', Owns w' B e (.slice (some ⟨g, 0, none⟩) m c') news → Grew w w' (.slice (some ⟨g0, 0, none⟩) 0 0) (.slice (some ⟨g, 0, none⟩) m c') → K (a.put o.dst (.slice (some ⟨g, 0, none⟩) m c')) w') : o.wp P a w K Q := by
  subst hl
  obtain ⟨g, c', w', hr, h2, h3⟩ := run_appP (P := P) t o.type B e z bytes ht hi hz1 g0 hown ad c news hnews h1 hbytes hlen hbase
  unfold Oper.wp
  simp [execOp, ho, resolve, invoke, builtin, hs, hx, hr, Result.andThen]
  exact h g c' w' h2 h3
theorem wpList_appP {P : Program} {w : World} {ops : Array Oper} {rest : List Oper} {o : Oper} {a : Act} {Q : Exit → Act → World → Prop} (hgd : o.guard = none) (s x : Operand) (t : TypeId)
    (ho : o.op = .call { callee := .builtin .append, args := #[s, x], argTypes := #[t, t] })
    (B : Nat) (e : TypeId) (z : Value) (bytes : Nat) (ht : P.underlying t = some (.slice e)) (hi : (P.info? e).map (fun i => (i.zero, i.size, i.bytes)) = some (some z, 1, bytes)) (hz1 : z.cells.size = 1)
    (g0 : Nat) (hs : a.eval s = .slice (some ⟨g0, 0, none⟩) 0 0) (hown : Owns w B e (.slice (some ⟨g0, 0, none⟩) 0 0) [])
    (ad : Option Addr) (m c : Nat) (news : List Value) (hx : a.eval x = .slice ad m c) (hl : news.length = m) (hnews : Cells w ad m c (fun i => news.getD i .nilFunc)) (h1 : ∀ u ∈ news, u.oneCell' = true)
    (hbytes : m * bytes ≤ 140737488355328) (hlen : m ≤ maxLen) (hbase : B ≤ w.heap.size)
    (h : ∀ g c' w', Owns w' B e (.slice (some ⟨g, 0, none⟩) m c') news → Grew w w' (.slice (some ⟨g0, 0, none⟩) 0 0) (.slice (some ⟨g, 0, none⟩) m c') → wpList P ops Q rest (a.put o.dst (.slice (some ⟨g, 0, none⟩) m c')) w') : wpList P ops Q (o :: rest) a w :=
  wpList_plain hgd fun _ hK => wp_appP s x t ho B e z bytes ht hi hz1 g0 hs hown ad m c news hx hl hnews h1 hbytes hlen hbase fun g c' w' h2 h3 => hK _ _ (h g c' w' h2 h3)

theorem neq_nil {P : Program} (w : World) {t e : TypeId} (a : Option Addr) (n c : Nat) (h : P.underlying t = some (.slice e)) : (binOp .neq t (.slice a n c) (.slice none 0 0)).run P w = .ok (.bool (!a.isNone)) w := by
  have h0 : ∀ d : Nat, (Op.equalIn (d + 1) t (.slice a n c) (.slice none 0 0)).run P w = .ok a.isNone w := fun d => by
    cases a <;> simp [Op.equalIn, run_underlying h]
  have h1 : (Op.equal t (.slice a n c) (.slice none 0 0)).run P w = .ok a.isNone w := h0 9999
  simp [binOp, h1]

theorem RD.put {w : World} {B : Nat} {H : Rh} {x : List Int} {β : Option (List Int) × Int} {vb : Value} (h : RD w B H x β vb) (j : Nat) (u : Int) : RD (w.setCell ⟨H.gx, j, none⟩ (.int .i64 u)) B H (x.set j u) β vb ∧ But H.F w (w.setCell ⟨H.gx, j, none⟩ (.int .i64 u)) := by
  obtain ⟨hO, hG⟩ := h.ox.store j u
  exact ⟨⟨(hG.block H.g (blk_lt h.blk) (by simp; exact h.ne)).trans h.blk, hO, h.ob.by hG (.inr fun e => h.off _ e (.inr rfl)), h.off, h.ne⟩, But.set w H.gx j _ fun _ => .inr rfl⟩
theorem RD.best {w w' : World} {B : Nat} {H : Rh} {x : List Int} {β : Option (List Int) × Int} {vb : Value} (h : RD w B H x β vb) {z : List Int} {v : Int} {g n c : Nat} (hg : w.grownBy w' (some H.g)) (hb : w'.heap[H.g]? = some (.cells (H.cells (.slice (some ⟨g, 0, none⟩) n c) v) 60)) (hO : OwnI w' B (.slice (some ⟨g, 0, none⟩) n c) z) (hoff : ¬ H.F g) : RD w' B H x (some z, v) (.slice (some ⟨g, 0, none⟩) n c) :=
  ⟨hb, h.ox.by hg (.inr (by simp [Value.ownBlock]; exact fun e => h.ne e.symm)), ⟨hO, _, _, _, rfl⟩, fun j hj => by cases hj; exact hoff, h.ne⟩
theorem trits_app {pre fs : List Int} (h1 : Bits01 pre) (h2 : ∀ f ∈ fs, f = -1 ∨ f = 0 ∨ f = 1) : Trits (pre ++ fs) := fun i hi => by
  by_cases h : i < pre.length
  · have := h1 i h
    rw [List.getD, List.getElem?_append_left h]
    have h3 := this
    simp only [List.getD] at h3
    omega
  · have hl : i - pre.length < fs.length := by simp at hi; omega
    rw [List.getD, List.getElem?_append_right (by omega)]
    have := h2 (fs.getD (i - pre.length) 0) (by simp [List.getD, hl])
    simpa [List.getD] using this
theorem bits_snoc {pre : List Int} (h : Bits01 pre) {u : Int} (hu : u = 0 ∨ u = 1) : Bits01 (pre ++ [u]) := fun k hk => by
  by_cases hp : k < pre.length
  · have := h k hp
    rw [List.getD, List.getElem?_append_left hp]; simpa [List.getD] using this
  · have e : k = pre.length := by simp at hk; omega
    subst e
    rw [List.getD, List.getElem?_append_right (by omega)]; simpa using hu

-- WALK
/-- which facts the search starts from -/
structure RP (H : Rh) (p : ProbM) : Prop where
  valid : ValidM p
  n : p.val.length = H.n
theorem RP.fixn {H : Rh} {p : ProbM} (h : RP H p) : p.fix.length = H.n := by rw [h.valid.fixn, h.n]
theorem RP.le {H : Rh} {p : ProbM} (h : RP H p) : H.n ≤ 24 := by rw [← h.n]; exact h.valid.n
theorem fix_drop {p : ProbM} (hv : ValidM p) (j : Nat) : ∀ f ∈ p.fix.drop j, f = -1 ∨ f = 0 ∨ f = 1 := fun f hf => fix_tri hv f (List.mem_of_mem_drop hf)
theorem top_bd {H : Rh} {p : ProbM} (h : RP H p) (j : Nat) (fs : List Int) : -24000000 ≤ hiOf (p.val.drop j) fs ∧ hiOf (p.val.drop j) fs ≤ 24000000 := by
  have h1 := hi_bd _ fs (small_drop h.valid.val j)
  have h2 := h.le
  have h3 := h.n
  rw [List.length_drop] at h1
  omega

set_option maxHeartbeats 16000000 in
theorem from_leaf_any (H : Rh) (p : ProbM) (B : Nat) (hP : RP H p) (pre : List Int) (v : Int) (β : Option (List Int) × Int) (vb : Value) (w : World) (hl : pre.length = H.n) (hb : Bits01 pre) (hv : -1000000 * (H.n : Int) ≤ v ∧ v ≤ 1000000 * (H.n : Int)) (hS : ∀ w', But H.F w w' → RS w' H p) (hD : RD w B H pre β vb) (hB : B ≤ w.heap.size) :
    Calls Try.prog 41 #[.pointer (some ⟨H.g, 0, none⟩), .int .i64 H.n, .int .i64 v] w fun e w' => e = .returned (.tuple #[]) ∧ (∃ vb', RD w' B H pre (fromM p.rows p.val [] pre v β) vb') ∧ But H.F w w' := by
  have hn := hP.le
  have HDy := Lib.hid hD
  have hgl := blk_lt hD.blk
  have ht : Trits pre := by have := trits_app hb (fs := []) (by simp); rwa [List.append_nil] at this
  have HNo := Lib.hid (from_no (rows := p.rows) (val := p.val) (fs := []) (pre := pre) (v := v) (β := β))
  have HLf := Lib.hid (from_leaf (rows := p.rows) (val := p.val) (pre := pre) (v := v) (β := β))
  unfold cutM at HNo HLf
  rw [List.append_nil, hiOf_nil, Int.add_zero] at HNo HLf
  generalize hU : fromM p.rows p.val [] pre v β = U at *
  have q1 : ∀ W : Ext w.heap.size w, Calls Try.prog 52 #[.pointer (some ⟨H.g, 0, none⟩), .int .i64 H.n] W.1 fun e w'' => e = .returned (.bool (hop p.rows pre)) ∧ ∃ W' : Ext w.heap.size w, w'' = W'.val := fun W => Calls.ext W (hopeless_any H p B H.n pre β vb W.1 hP.valid (hS _ (But.of W.2)) (hD.below W.2) ht)
  have q2 : ∀ W : Ext w.heap.size w, Calls Try.prog 53 #[.pointer (some ⟨H.g, 0, none⟩), .int .i64 H.n] W.1 fun e w'' => e = .returned (.int .i64 0) ∧ ∃ W' : Ext w.heap.size w, w'' = W'.val := fun W => Calls.ext W (by
    have h := rest_any H p B H.n pre β vb W.1 hP.valid (hS _ (But.of W.2)) (hD.below W.2) (Nat.le_refl _)
    rwa [hiOf_end _ _ _ (by rw [hP.n]; omega)] at h)
  have e4 : ∀ W : Ext w.heap.size w, W.1.cell? ⟨H.g, 4, none⟩ = some vb := fun W => (blk_cell (hD.below W.2).blk 4).trans rfl
  have e5 : ∀ W : Ext w.heap.size w, W.1.cell? ⟨H.g, 5, none⟩ = some (.int .i64 β.2) := fun W => (blk_cell (hD.below W.2).blk 5).trans rfl
  have HOb := Lib.hid hD.ob
  have HL := Lib.hid hl
  have HT := Lib.hid ht
  generalize hop p.rows pre = hp at *
  clear hS hD hU ht hl hb
  cases hp
  · have HGo := Lib.hid (show (β.1 = none ∧ vb = .slice none 0 0) ∨ ∃ (z : List Int) (g1 n1 c1 : Nat), β.1 = some z ∧ vb = .slice (some ⟨g1, 0, none⟩) n1 c1 by
      have h := HOb.out
      cases hβ : β.1 with
      | none => rw [hβ] at h; exact .inl ⟨rfl, h⟩
      | some z => rw [hβ] at h; obtain ⟨-, g1, n1, c1, e⟩ := h; exact .inr ⟨z, g1, n1, c1, rfl, e⟩)
    clear HOb
    by_cases hcut : (β.1.isSome && decide (v ≤ β.2)) = true
    · have hUe := HNo.out (by simpa using hcut)
      rw [Bool.and_eq_true] at hcut
      obtain ⟨hc1, hdl⟩ := hcut
      rcases HGo.out with ⟨e1, -⟩ | ⟨z, g1, n1, c1, -, rfl⟩
      · rw [e1] at hc1; cases hc1
      clear HNo HLf HGo hc1
      subst hUe
      have hq : ∀ w, (binOp .neq 22 (.slice (some ⟨g1, 0, none⟩) n1 c1) (.slice none 0 0)).run Try.prog w = .ok (.bool true) w := fun w => neq_nil (P := Try.prog) w (some ⟨g1, 0, none⟩) n1 c1 Try.underlying22
      generalize hb2 : U.2 = b2 at *
      clear hb2
      go_enter Try.func41, Try.ntmps41
      go_wp2_with fail
      refine wp_region_ext w.heap.size w (by kernel_rfl) (by kernel_rfl) (Below.refl _ _) ?_
      repeat (first | go_big_quiet_step (first | with_reducible exact q1 _ | with_reducible exact q2 _))
      refine wpQuiet_nil ?_
      intro W
      have hbW := W.2
      generalize W.1 = w1 at *
      clear q1 q2 e4 e5
      go_wp2_with fail
      refine bodyPost_ret (results_none rfl _ _ _) rfl ?_
      exact ⟨rfl, ⟨_, HDy.out.below hbW⟩, But.of hbW⟩
    · have HUe := Lib.hid (HLf.out (by simpa using hcut))
      clear HNo HLf
      rcases HGo.out with ⟨e1, rfl⟩ | ⟨z, g1, n1, c1, e1, rfl⟩
      · clear hcut HGo e1
        have hq : ∀ w, (binOp .neq 22 (.slice none 0 0) (.slice none 0 0)).run Try.prog w = .ok (.bool false) w := fun w => neq_nil (P := Try.prog) w none 0 0 Try.underlying22
        go_enter Try.func41, Try.ntmps41
        go_wp2_with fail
        refine wp_region_ext w.heap.size w (by kernel_rfl) (by kernel_rfl) (Below.refl _ _) ?_
        repeat (first | go_big_quiet_step (first | with_reducible exact q1 _ | with_reducible exact q2 _))
        refine wpQuiet_nil ?_
        intro W
        have hbW := W.2
        generalize W.1 = w1 at *
        clear q1 q2 e4 e5
        have HD1 := Lib.hid (HDy.out.below hbW)
        have k3 : w1.cell? ⟨H.g, 3, none⟩ = some (.slice (some ⟨H.gx, 0, none⟩) H.n H.cx) := (blk_cell HD1.out.blk 3).trans rfl
        have hgl1 := blk_lt HD1.out.blk
        have hgx1 : H.gx < w1.heap.size := Owns.in HD1.out.ox H.gx rfl
        have hbx : Below w1.heap.size w1 (w1.alloc (.cells #[] 3)) := (Below.refl _ _).alloc (Nat.le_refl _) _
        have HX1 := Lib.hid ((HD1.out.row HT.out).below hbx)
        have HO := Lib.hid (owns_lit w1 w1.heap.size 3 [] (by simp) (Nat.le_refl _))
        clear HDy hq
        go_wp2_with (at_builtin; go_must (refine wpList_appP rfl _ _ 22 rfl w1.heap.size 3 (.int .i64 0) 8 Try.underlying22 infoInt rfl w1.heap.size rfl HO.out (some ⟨H.gx, 0, none⟩) H.n H.cx (ivs pre) rfl (by rw [ivs_len]; exact HL.out) HX1.out.vals (ivs_cells _) (by omega) (by unfold maxLen; omega) (by simp) fun g2 d2 w2 h1 h2 => ?_; have hb2w : Below w1.heap.size w1 w2 := hbx.trans (h2.below (B := w1.heap.size) (by simp) (by simp [Value.ownBlock])); have HD2 := Lib.hid (HD1.out.below hb2w); have HO2 := Lib.hid h1; have k4 := (blk_cell HD2.out.blk 4); have k5 := (blk_cell HD2.out.blk 5); have f4 := blk_free HD2.out.blk 4; have f5 := blk_free HD2.out.blk 5; clear h1 h2))
        refine bodyPost_ret (results_none rfl _ _ _) rfl ?_
        have hg2 := Owns.lt HO2.out g2 rfl
        have hG : w2.grownBy ((w2.setCell ⟨H.g, 4, none⟩ (.slice (some ⟨g2, 0, none⟩) H.n d2)).setCell ⟨H.g, 5, none⟩ (.int .i64 v)) (some H.g) := gby_trans (gby_set _ _ _ _) (gby_set _ _ _ _)
        refine ⟨rfl, ⟨.slice (some ⟨g2, 0, none⟩) H.n d2, ?_⟩, ((But.of hbW).trans (But.of hb2w)).trans (But.gby hG fun j hj _ => by cases hj; exact .inl rfl)⟩
        rw [HUe.out]
        exact HD2.out.best hG ((heap_setCell_same _ H.g 5 _ _ (.int .i64 v) (heap_setCell_same w2 H.g 4 _ _ (.slice (some ⟨g2, 0, none⟩) H.n d2) HD2.out.blk)).trans rfl) ((OwnI.mono (show OwnI w2 w1.heap.size _ pre from HO2.out) (by have := hbW.size; omega)).by hG (.inr (by simp [Value.ownBlock]; omega))) (by unfold Rh.F; omega)
      · have hdl : decide (v ≤ β.2) = false := by simpa [e1] using hcut
        clear hcut HGo e1
        have hq : ∀ w, (binOp .neq 22 (.slice (some ⟨g1, 0, none⟩) n1 c1) (.slice none 0 0)).run Try.prog w = .ok (.bool true) w := fun w => neq_nil (P := Try.prog) w (some ⟨g1, 0, none⟩) n1 c1 Try.underlying22
        generalize hb2 : β.2 = b2 at *
        have HB2 := Lib.hid hb2
        clear hb2
        go_enter Try.func41, Try.ntmps41
        go_wp2_with fail
        refine wp_region_ext w.heap.size w (by kernel_rfl) (by kernel_rfl) (Below.refl _ _) ?_
        repeat (first | go_big_quiet_step (first | with_reducible exact q1 _ | with_reducible exact q2 _))
        refine wpQuiet_nil ?_
        intro W
        have hbW := W.2
        generalize W.1 = w1 at *
        clear q1 q2 e4 e5
        have HD1 := Lib.hid (HDy.out.below hbW)
        have k3 : w1.cell? ⟨H.g, 3, none⟩ = some (.slice (some ⟨H.gx, 0, none⟩) H.n H.cx) := (blk_cell HD1.out.blk 3).trans rfl
        have hgl1 := blk_lt HD1.out.blk
        have hgx1 : H.gx < w1.heap.size := Owns.in HD1.out.ox H.gx rfl
        have hbx : Below w1.heap.size w1 (w1.alloc (.cells #[] 3)) := (Below.refl _ _).alloc (Nat.le_refl _) _
        have HX1 := Lib.hid ((HD1.out.row HT.out).below hbx)
        have HO := Lib.hid (owns_lit w1 w1.heap.size 3 [] (by simp) (Nat.le_refl _))
        clear HDy hq
        go_wp2_with (at_builtin; go_must (refine wpList_appP rfl _ _ 22 rfl w1.heap.size 3 (.int .i64 0) 8 Try.underlying22 infoInt rfl w1.heap.size rfl HO.out (some ⟨H.gx, 0, none⟩) H.n H.cx (ivs pre) rfl (by rw [ivs_len]; exact HL.out) HX1.out.vals (ivs_cells _) (by omega) (by unfold maxLen; omega) (by simp) fun g2 d2 w2 h1 h2 => ?_; have hb2w : Below w1.heap.size w1 w2 := hbx.trans (h2.below (B := w1.heap.size) (by simp) (by simp [Value.ownBlock])); have HD2 := Lib.hid (HD1.out.below hb2w); have HO2 := Lib.hid h1; have k4 := (blk_cell HD2.out.blk 4); have k5 := (blk_cell HD2.out.blk 5); have f4 := blk_free HD2.out.blk 4; have f5 := blk_free HD2.out.blk 5; clear h1 h2))
        refine bodyPost_ret (results_none rfl _ _ _) rfl ?_
        have hg2 := Owns.lt HO2.out g2 rfl
        have hG : w2.grownBy ((w2.setCell ⟨H.g, 4, none⟩ (.slice (some ⟨g2, 0, none⟩) H.n d2)).setCell ⟨H.g, 5, none⟩ (.int .i64 v)) (some H.g) := gby_trans (gby_set _ _ _ _) (gby_set _ _ _ _)
        refine ⟨rfl, ⟨.slice (some ⟨g2, 0, none⟩) H.n d2, ?_⟩, ((But.of hbW).trans (But.of hb2w)).trans (But.gby hG fun j hj _ => by cases hj; exact .inl rfl)⟩
        rw [HUe.out]
        exact HD2.out.best hG ((heap_setCell_same _ H.g 5 _ _ (.int .i64 v) (heap_setCell_same w2 H.g 4 _ _ (.slice (some ⟨g2, 0, none⟩) H.n d2) HD2.out.blk)).trans rfl) ((OwnI.mono (show OwnI w2 w1.heap.size _ pre from HO2.out) (by have := hbW.size; omega)).by hG (.inr (by simp [Value.ownBlock]; omega))) (by unfold Rh.F; omega)
  · have hUe := HNo.out rfl
    clear HNo HLf HOb
    subst hUe
    go_enter Try.func41, Try.ntmps41
    go_wp2_with fail
    refine wp_region_ext w.heap.size w (by kernel_rfl) (by kernel_rfl) (Below.refl _ _) ?_
    repeat (first | go_big_quiet_step (first | with_reducible exact q1 _ | with_reducible exact q2 _))
    refine wpQuiet_nil ?_
    intro W
    have hbW := W.2
    generalize W.1 = w1 at *
    clear q1 q2 e4 e5
    go_wp2_with fail
    refine bodyPost_ret (results_none rfl _ _ _) rfl ?_
    exact ⟨rfl, ⟨_, HDy.out.below hbW⟩, But.of hbW⟩


/-- what was found behind the first tries -/
def stM (rows : List RowM) (val : List Int) (f : Int) (fs pre : List Int) (v : Int) (β : Option (List Int) × Int) : Nat → Option (List Int) × Int
  | 0 => β
  | 1 => tryM rows val f fs pre v 1 β
  | _ => tryM rows val f fs pre v 0 (tryM rows val f fs pre v 1 β)

set_option maxHeartbeats 16000000 in
theorem from_node (H : Rh) (p : ProbM) (B j : Nat) (hP : RP H p) (hj : j < H.n)
    (IH : ∀ (pre : List Int) (v : Int) (β : Option (List Int) × Int) (vb : Value) (w : World), pre.length = j + 1 → Bits01 pre → (-1000000 * ((j : Int) + 1) ≤ v ∧ v ≤ 1000000 * ((j : Int) + 1)) → (∀ w', But H.F w w' → RS w' H p) → RD w B H (pre ++ p.fix.drop (j + 1)) β vb → B ≤ w.heap.size →
      Calls Try.prog 41 #[.pointer (some ⟨H.g, 0, none⟩), .int .i64 ((j : Int) + 1), .int .i64 v] w fun e w' => e = .returned (.tuple #[]) ∧ (∃ vb', RD w' B H (pre ++ p.fix.drop (j + 1)) (fromM p.rows p.val (p.fix.drop (j + 1)) pre v β) vb') ∧ But H.F w w')
    (pre : List Int) (v : Int) (β : Option (List Int) × Int) (vb : Value) (w : World) (hl : pre.length = j) (hb : Bits01 pre) (hv : -1000000 * (j : Int) ≤ v ∧ v ≤ 1000000 * (j : Int)) (hS : ∀ w', But H.F w w' → RS w' H p) (hD : RD w B H (pre ++ p.fix.drop j) β vb) (hB : B ≤ w.heap.size) :
    Calls Try.prog 41 #[.pointer (some ⟨H.g, 0, none⟩), .int .i64 j, .int .i64 v] w fun e w' => e = .returned (.tuple #[]) ∧ (∃ vb', RD w' B H (pre ++ p.fix.drop j) (fromM p.rows p.val (p.fix.drop j) pre v β) vb') ∧ But H.F w w' := by
  have hn := hP.le
  have hfd := drop_cons p.fix j 0 (by rw [hP.fixn]; exact hj)
  have ht : Trits (pre ++ p.fix.drop j) := trits_app hb (fix_drop hP.valid j)
  have hrb := top_bd hP j (p.fix.drop j)
  have hvj := hP.valid.val j
  have HNo := Lib.hid (from_no (rows := p.rows) (val := p.val) (fs := p.fix.drop j) (pre := pre) (v := v) (β := β))
  have HLf := Lib.hid (from_cons (rows := p.rows) (val := p.val) (f := p.fix.getD j 0) (fs := p.fix.drop (j + 1)) (pre := pre) (v := v) (β := β))
  rw [← hfd] at HLf
  unfold cutM at HNo HLf
  rw [hl] at HNo HLf
  generalize hU : fromM p.rows p.val (p.fix.drop j) pre v β = U at *
  have q1 : ∀ W : Ext w.heap.size w, Calls Try.prog 52 #[.pointer (some ⟨H.g, 0, none⟩), .int .i64 j] W.1 fun e w'' => e = .returned (.bool (hop p.rows (pre ++ p.fix.drop j))) ∧ ∃ W' : Ext w.heap.size w, w'' = W'.val := fun W => Calls.ext W (hopeless_any H p B j _ β vb W.1 hP.valid (hS _ (But.of W.2)) (hD.below W.2) ht)
  have q2 : ∀ W : Ext w.heap.size w, Calls Try.prog 53 #[.pointer (some ⟨H.g, 0, none⟩), .int .i64 j] W.1 fun e w'' => e = .returned (.int .i64 (hiOf (p.val.drop j) (p.fix.drop j))) ∧ ∃ W' : Ext w.heap.size w, w'' = W'.val := fun W => Calls.ext W (rest_any H p B j _ β vb W.1 hP.valid (hS _ (But.of W.2)) (hD.below W.2) (by omega))
  have e4 : ∀ W : Ext w.heap.size w, W.1.cell? ⟨H.g, 4, none⟩ = some vb := fun W => (blk_cell (hD.below W.2).blk 4).trans rfl
  have e5 : ∀ W : Ext w.heap.size w, W.1.cell? ⟨H.g, 5, none⟩ = some (.int .i64 β.2) := fun W => (blk_cell (hD.below W.2).blk 5).trans rfl
  have HOb := Lib.hid hD.ob
  have HL := Lib.hid hl
  have HBt := Lib.hid hb
  have HSt := Lib.hid hS
  have HIH := Lib.hid IH
  generalize hop p.rows (pre ++ p.fix.drop j) = hp at *
  generalize hiOf (p.val.drop j) (p.fix.drop j) = rb at *
  rw [hfd] at hD
  rw [hfd]
  have HDy := Lib.hid hD
  have hgl := blk_lt hD.blk
  obtain ⟨vj, hvj2⟩ : ∃ vj, p.val.getD j 0 = vj := ⟨_, rfl⟩
  rw [hvj2] at hvj
  have HVj := Lib.hid hvj2
  generalize p.fix.getD j 0 = f at *
  clear hS hD hU ht hl hb IH hfd hvj2
  cases hp
  · have HGo := Lib.hid (show (β.1 = none ∧ vb = .slice none 0 0) ∨ ∃ (z : List Int) (g1 n1 c1 : Nat), β.1 = some z ∧ vb = .slice (some ⟨g1, 0, none⟩) n1 c1 by
      have h := HOb.out
      cases hβ : β.1 with
      | none => rw [hβ] at h; exact .inl ⟨rfl, h⟩
      | some z => rw [hβ] at h; obtain ⟨-, g1, n1, c1, e⟩ := h; exact .inr ⟨z, g1, n1, c1, rfl, e⟩)
    clear HOb
    by_cases hcut : (β.1.isSome && decide (v + rb ≤ β.2)) = true
    · have hUe := HNo.out (by simpa using hcut)
      rw [Bool.and_eq_true] at hcut
      obtain ⟨hc1, hdl⟩ := hcut
      rcases HGo.out with ⟨e1, -⟩ | ⟨z, g1, n1, c1, -, rfl⟩
      · rw [e1] at hc1; cases hc1
      clear HNo HLf HGo hc1
      subst hUe
      have hq : ∀ w, (binOp .neq 22 (.slice (some ⟨g1, 0, none⟩) n1 c1) (.slice none 0 0)).run Try.prog w = .ok (.bool true) w := fun w => neq_nil (P := Try.prog) w (some ⟨g1, 0, none⟩) n1 c1 Try.underlying22
      generalize hb2 : U.2 = b2 at *
      clear hb2
      go_enter Try.func41, Try.ntmps41
      go_wp2_with fail
      refine wp_region_ext w.heap.size w (by kernel_rfl) (by kernel_rfl) (Below.refl _ _) ?_
      repeat (first | go_big_quiet_step (first | with_reducible exact q1 _ | with_reducible exact q2 _))
      refine wpQuiet_nil ?_
      intro W
      have hbW := W.2
      generalize W.1 = w1 at *
      clear q1 q2 e4 e5
      go_wp2_with fail
      refine bodyPost_ret (results_none rfl _ _ _) rfl ?_
      exact ⟨rfl, ⟨_, HDy.out.below hbW⟩, But.of hbW⟩
    · have HUe := Lib.hid (HLf.out (by simpa using hcut))
      clear HNo HLf
      rcases HGo.out with ⟨e1, rfl⟩ | ⟨z, g1, n1, c1, e1, rfl⟩
      · clear hcut HGo e1
        have hq : ∀ w, (binOp .neq 22 (.slice none 0 0) (.slice none 0 0)).run Try.prog w = .ok (.bool false) w := fun w => neq_nil (P := Try.prog) w none 0 0 Try.underlying22
        go_enter Try.func41, Try.ntmps41
        go_wp2_with fail
        refine wp_region_ext w.heap.size w (by kernel_rfl) (by kernel_rfl) (Below.refl _ _) ?_
        repeat (first | go_big_quiet_step (first | with_reducible exact q1 _ | with_reducible exact q2 _))
        refine wpQuiet_nil ?_
        intro W
        have hbW := W.2
        generalize W.1 = w1 at *
        clear q1 q2 e4 e5
        have HD1 := Lib.hid (HDy.out.below hbW)
        have hB1 : But H.F w w1 := But.of hbW
        have hBw1 : B ≤ w1.heap.size := by have := hbW.size; omega
        have k3 : w1.cell? ⟨H.g, 3, none⟩ = some (.slice (some ⟨H.gx, 0, none⟩) H.n H.cx) := (blk_cell HD1.out.blk 3).trans rfl
        have px : w1.cell? ⟨H.gx, j, none⟩ = some (.int .i64 f) := by have h := HD1.out.ox.cellAt j hj; rwa [show (pre ++ f :: p.fix.drop (j + 1)).getD j 0 = f by rw [← HL.out]; simp] at h
        have hde : ((j : Int) == (H.n : Int)) = false := by simp; omega
        have hde2 : (j == H.n) = false := by simp; omega
        clear HDy hq hbW
        go_wp2_with fail
        clear k3 px hde hde2
        have HSt0 := Lib.hid (show ((f = -1 ∨ f = 1) → stM p.rows p.val f (p.fix.drop (j + 1)) pre v β 1 = fromM p.rows p.val (p.fix.drop (j + 1)) (pre ++ [1]) (v + vj) (stM p.rows p.val f (p.fix.drop (j + 1)) pre v β 0)) ∧ (¬(f = -1 ∨ f = 1) → stM p.rows p.val f (p.fix.drop (j + 1)) pre v β 1 = stM p.rows p.val f (p.fix.drop (j + 1)) pre v β 0) from ⟨fun h => by simp only [stM, tryM]; rw [if_pos h, HL.out, HVj.out, Int.one_mul], fun h => by simp only [stM, tryM]; rw [if_neg h]⟩)
        have HSt1 := Lib.hid (show ((f = -1 ∨ f = 0) → stM p.rows p.val f (p.fix.drop (j + 1)) pre v β 2 = fromM p.rows p.val (p.fix.drop (j + 1)) (pre ++ [0]) v (stM p.rows p.val f (p.fix.drop (j + 1)) pre v β 1)) ∧ (¬(f = -1 ∨ f = 0) → stM p.rows p.val f (p.fix.drop (j + 1)) pre v β 2 = stM p.rows p.val f (p.fix.drop (j + 1)) pre v β 1) from ⟨fun h => by simp only [stM]; rw [tryM, if_pos h, HL.out, HVj.out, Int.zero_mul, Int.add_zero], fun h => by simp only [stM]; rw [tryM, if_neg h]⟩)
        have HUe2 := Lib.hid (show U = stM p.rows p.val f (p.fix.drop (j + 1)) pre v β 2 from HUe.out)
        clear HUe
        go_loopw [7] (fun i wr => ∃ (t : Nat) (y u : Int) (β' : Option (List Int) × Int) (vb' : Value), t ≤ 2 ∧ y = 1 - (t : Int) ∧ i = .int .i64 y ∧ But H.F w wr ∧ B ≤ wr.heap.size ∧ Hid (RD wr B H (pre ++ u :: p.fix.drop (j + 1)) β' vb') ∧ Hid (β' = stM p.rows p.val f (p.fix.drop (j + 1)) pre v β t)) (fun i _ => (intOf i + 1).toNat)
        case atStart => exact ⟨0, 1, f, β, _, by omega, by omega, rfl, hB1, hBw1, HD1, Lib.hid rfl⟩
        case round =>
          clear HD1 hB1 hBw1
          obtain ⟨t, y, u, β', vb', ht, hy, rfl, hB, hBr, HDr, HS⟩ := hrel
          have k3 : wr.cell? ⟨H.g, 3, none⟩ = some (.slice (some ⟨H.gx, 0, none⟩) H.n H.cx) := (blk_cell HDr.out.blk 3).trans rfl
          by_cases ht0 : t = 0
          · obtain rfl : y = 1 := by omega
            subst ht0
            clear hy ht
            have px : wr.cell? ⟨H.gx, j, none⟩ = some (.int .i64 u) := by have h := HDr.out.ox.cellAt j hj; rwa [show (pre ++ u :: p.fix.drop (j + 1)).getD j 0 = u by rw [← HL.out]; simp] at h
            have fx := HDr.out.ox.free j
            by_cases hf1 : f = -1
            · have HTk := Lib.hid (show f = -1 ∨ f = 1 from .inl hf1)
              have hd1 : (f == -1) = true := by simp [hf1]
              clear hf1
              have hSet : (pre ++ u :: p.fix.drop (j + 1)).set j 1 = (pre ++ [1]) ++ p.fix.drop (j + 1) := by rw [← HL.out]; simp
              obtain ⟨hD2, hB2⟩ := HDr.out.put j 1
              rw [hSet] at hD2
              have hB3 := hB.trans hB2
              have hs3 := hB2.size
              have HD2 := Lib.hid hD2
              obtain ⟨bv, ov, hva, hvl, hcv⟩ := (HSt.out _ hB3).val.2.2.at hj
              have pv := hcv j hj _ (Below.refl _ _)
              rw [HVj.out] at pv
              have k0 : (wr.setCell ⟨H.gx, j, none⟩ (.int .i64 1)).cell? ⟨H.g, 0, none⟩ = some (.slice H.a0 H.n H.c0) := (blk_cell hD2.blk 0).trans rfl
              rw [hva] at k0
              clear hD2 hB2 hSet hcv hva hvl
              go_wp2_with fail
              generalize (wr.setCell ⟨H.gx, j, none⟩ (.int .i64 1)) = w2 at *
              go_wp2_with fail
              refine (HIH.out (pre ++ [1]) (v + vj) β' vb' w2 (by rw [List.length_append, HL.out]; rfl) (bits_snoc HBt.out (by omega)) (by omega) (fun w' h => HSt.out w' (hB3.trans h)) HD2.out (by omega)).mono ?_
              rintro e w3 ⟨rfl, ⟨vb3, hD3⟩, hbb⟩
              have HD3 := Lib.hid (show RD w3 B H (pre ++ 1 :: p.fix.drop (j + 1)) (fromM p.rows p.val (p.fix.drop (j + 1)) (pre ++ [1]) (v + vj) β') vb3 by simpa using hD3)
              have hB4 := hB3.trans hbb
              have hs4 := hbb.size
              have HS2 := Lib.hid (show fromM p.rows p.val (p.fix.drop (j + 1)) (pre ++ [1]) (v + vj) β' = stM p.rows p.val f (p.fix.drop (j + 1)) pre v β 1 by rw [HS.out]; exact (HSt0.out.1 HTk.out).symm)
              generalize fromM p.rows p.val (p.fix.drop (j + 1)) (pre ++ [1]) (v + vj) β' = β3 at *
              clear hD3 hbb hB hB3 HDr HD2 HS
              go_wp2_with fail
              go_roundw
              case rel => exact ⟨1, 0, 1, β3, vb3, by omega, by omega, by go_num, hB4, by omega, HD3, HS2⟩
              case measure => simp [intOf]
            · have hd1 : (f == -1) = false := by simp [hf1]
              by_cases hf2 : f = 1
              · have HTk := Lib.hid (show f = -1 ∨ f = 1 from .inr hf2)
                have hd2 : (f == 1) = true := by simp [hf2]
                clear hf1 hf2
                have hSet : (pre ++ u :: p.fix.drop (j + 1)).set j 1 = (pre ++ [1]) ++ p.fix.drop (j + 1) := by rw [← HL.out]; simp
                obtain ⟨hD2, hB2⟩ := HDr.out.put j 1
                rw [hSet] at hD2
                have hB3 := hB.trans hB2
                have hs3 := hB2.size
                have HD2 := Lib.hid hD2
                obtain ⟨bv, ov, hva, hvl, hcv⟩ := (HSt.out _ hB3).val.2.2.at hj
                have pv := hcv j hj _ (Below.refl _ _)
                rw [HVj.out] at pv
                have k0 : (wr.setCell ⟨H.gx, j, none⟩ (.int .i64 1)).cell? ⟨H.g, 0, none⟩ = some (.slice H.a0 H.n H.c0) := (blk_cell hD2.blk 0).trans rfl
                rw [hva] at k0
                clear hD2 hB2 hSet hcv hva hvl
                go_wp2_with fail
                generalize (wr.setCell ⟨H.gx, j, none⟩ (.int .i64 1)) = w2 at *
                go_wp2_with fail
                refine (HIH.out (pre ++ [1]) (v + vj) β' vb' w2 (by rw [List.length_append, HL.out]; rfl) (bits_snoc HBt.out (by omega)) (by omega) (fun w' h => HSt.out w' (hB3.trans h)) HD2.out (by omega)).mono ?_
                rintro e w3 ⟨rfl, ⟨vb3, hD3⟩, hbb⟩
                have HD3 := Lib.hid (show RD w3 B H (pre ++ 1 :: p.fix.drop (j + 1)) (fromM p.rows p.val (p.fix.drop (j + 1)) (pre ++ [1]) (v + vj) β') vb3 by simpa using hD3)
                have hB4 := hB3.trans hbb
                have hs4 := hbb.size
                have HS2 := Lib.hid (show fromM p.rows p.val (p.fix.drop (j + 1)) (pre ++ [1]) (v + vj) β' = stM p.rows p.val f (p.fix.drop (j + 1)) pre v β 1 by rw [HS.out]; exact (HSt0.out.1 HTk.out).symm)
                generalize fromM p.rows p.val (p.fix.drop (j + 1)) (pre ++ [1]) (v + vj) β' = β3 at *
                clear hD3 hbb hB hB3 HDr HD2 HS
                go_wp2_with fail
                go_roundw
                case rel => exact ⟨1, 0, 1, β3, vb3, by omega, by omega, by go_num, hB4, by omega, HD3, HS2⟩
                case measure => simp [intOf]
              · have hd2 : (f == 1) = false := by simp [hf2]
                have HS2 := Lib.hid (show β' = stM p.rows p.val f (p.fix.drop (j + 1)) pre v β 1 by rw [HS.out]; exact (HSt0.out.2 (by omega)).symm)
                clear HS
                go_wp2_with fail
                go_roundw
                case rel => exact ⟨1, 0, u, β', vb', by omega, by omega, by go_num, hB, hBr, HDr, HS2⟩
                case measure => simp [intOf]
          by_cases ht1 : t = 1
          · obtain rfl : y = 0 := by omega
            subst ht1
            clear hy ht ht0
            have px : wr.cell? ⟨H.gx, j, none⟩ = some (.int .i64 u) := by have h := HDr.out.ox.cellAt j hj; rwa [show (pre ++ u :: p.fix.drop (j + 1)).getD j 0 = u by rw [← HL.out]; simp] at h
            have fx := HDr.out.ox.free j
            by_cases hf1 : f = -1
            · have HTk := Lib.hid (show f = -1 ∨ f = 0 from .inl hf1)
              have hd1 : (f == -1) = true := by simp [hf1]
              clear hf1
              have hSet : (pre ++ u :: p.fix.drop (j + 1)).set j 0 = (pre ++ [0]) ++ p.fix.drop (j + 1) := by rw [← HL.out]; simp
              obtain ⟨hD2, hB2⟩ := HDr.out.put j 0
              rw [hSet] at hD2
              have hB3 := hB.trans hB2
              have hs3 := hB2.size
              have HD2 := Lib.hid hD2
              obtain ⟨bv, ov, hva, hvl, hcv⟩ := (HSt.out _ hB3).val.2.2.at hj
              have pv := hcv j hj _ (Below.refl _ _)
              rw [HVj.out] at pv
              have k0 : (wr.setCell ⟨H.gx, j, none⟩ (.int .i64 0)).cell? ⟨H.g, 0, none⟩ = some (.slice H.a0 H.n H.c0) := (blk_cell hD2.blk 0).trans rfl
              rw [hva] at k0
              clear hD2 hB2 hSet hcv hva hvl
              go_wp2_with fail
              generalize (wr.setCell ⟨H.gx, j, none⟩ (.int .i64 0)) = w2 at *
              go_wp2_with fail
              refine (HIH.out (pre ++ [0]) (v) β' vb' w2 (by rw [List.length_append, HL.out]; rfl) (bits_snoc HBt.out (by omega)) (by omega) (fun w' h => HSt.out w' (hB3.trans h)) HD2.out (by omega)).mono ?_
              rintro e w3 ⟨rfl, ⟨vb3, hD3⟩, hbb⟩
              have HD3 := Lib.hid (show RD w3 B H (pre ++ 0 :: p.fix.drop (j + 1)) (fromM p.rows p.val (p.fix.drop (j + 1)) (pre ++ [0]) (v) β') vb3 by simpa using hD3)
              have hB4 := hB3.trans hbb
              have hs4 := hbb.size
              have HS2 := Lib.hid (show fromM p.rows p.val (p.fix.drop (j + 1)) (pre ++ [0]) (v) β' = stM p.rows p.val f (p.fix.drop (j + 1)) pre v β 2 by rw [HS.out]; exact (HSt1.out.1 HTk.out).symm)
              generalize fromM p.rows p.val (p.fix.drop (j + 1)) (pre ++ [0]) (v) β' = β3 at *
              clear hD3 hbb hB hB3 HDr HD2 HS
              go_wp2_with fail
              go_roundw
              case rel => exact ⟨2, -1, 0, β3, vb3, by omega, by omega, by go_num, hB4, by omega, HD3, HS2⟩
              case measure => simp [intOf]
            · have hd1 : (f == -1) = false := by simp [hf1]
              by_cases hf2 : f = 0
              · have HTk := Lib.hid (show f = -1 ∨ f = 0 from .inr hf2)
                have hd2 : (f == 0) = true := by simp [hf2]
                clear hf1 hf2
                have hSet : (pre ++ u :: p.fix.drop (j + 1)).set j 0 = (pre ++ [0]) ++ p.fix.drop (j + 1) := by rw [← HL.out]; simp
                obtain ⟨hD2, hB2⟩ := HDr.out.put j 0
                rw [hSet] at hD2
                have hB3 := hB.trans hB2
                have hs3 := hB2.size
                have HD2 := Lib.hid hD2
                obtain ⟨bv, ov, hva, hvl, hcv⟩ := (HSt.out _ hB3).val.2.2.at hj
                have pv := hcv j hj _ (Below.refl _ _)
                rw [HVj.out] at pv
                have k0 : (wr.setCell ⟨H.gx, j, none⟩ (.int .i64 0)).cell? ⟨H.g, 0, none⟩ = some (.slice H.a0 H.n H.c0) := (blk_cell hD2.blk 0).trans rfl
                rw [hva] at k0
                clear hD2 hB2 hSet hcv hva hvl
                go_wp2_with fail
                generalize (wr.setCell ⟨H.gx, j, none⟩ (.int .i64 0)) = w2 at *
                go_wp2_with fail
                refine (HIH.out (pre ++ [0]) (v) β' vb' w2 (by rw [List.length_append, HL.out]; rfl) (bits_snoc HBt.out (by omega)) (by omega) (fun w' h => HSt.out w' (hB3.trans h)) HD2.out (by omega)).mono ?_
                rintro e w3 ⟨rfl, ⟨vb3, hD3⟩, hbb⟩
                have HD3 := Lib.hid (show RD w3 B H (pre ++ 0 :: p.fix.drop (j + 1)) (fromM p.rows p.val (p.fix.drop (j + 1)) (pre ++ [0]) (v) β') vb3 by simpa using hD3)
                have hB4 := hB3.trans hbb
                have hs4 := hbb.size
                have HS2 := Lib.hid (show fromM p.rows p.val (p.fix.drop (j + 1)) (pre ++ [0]) (v) β' = stM p.rows p.val f (p.fix.drop (j + 1)) pre v β 2 by rw [HS.out]; exact (HSt1.out.1 HTk.out).symm)
                generalize fromM p.rows p.val (p.fix.drop (j + 1)) (pre ++ [0]) (v) β' = β3 at *
                clear hD3 hbb hB hB3 HDr HD2 HS
                go_wp2_with fail
                go_roundw
                case rel => exact ⟨2, -1, 0, β3, vb3, by omega, by omega, by go_num, hB4, by omega, HD3, HS2⟩
                case measure => simp [intOf]
              · have hd2 : (f == 0) = false := by simp [hf2]
                have HS2 := Lib.hid (show β' = stM p.rows p.val f (p.fix.drop (j + 1)) pre v β 2 by rw [HS.out]; exact (HSt1.out.2 (by omega)).symm)
                clear HS
                go_wp2_with fail
                go_roundw
                case rel => exact ⟨2, -1, u, β', vb', by omega, by omega, by go_num, hB, hBr, HDr, HS2⟩
                case measure => simp [intOf]
          obtain rfl : t = 2 := by omega
          obtain rfl : y = -1 := by omega
          have px : wr.cell? ⟨H.gx, j, none⟩ = some (.int .i64 u) := by have h := HDr.out.ox.cellAt j hj; rwa [show (pre ++ u :: p.fix.drop (j + 1)).getD j 0 = u by rw [← HL.out]; simp] at h
          have fx := HDr.out.ox.free j
          have hSet : (pre ++ u :: p.fix.drop (j + 1)).set j f = pre ++ f :: p.fix.drop (j + 1) := by rw [← HL.out]; simp
          obtain ⟨hD2, hB2⟩ := HDr.out.put j f
          rw [hSet] at hD2
          have HD2 := Lib.hid hD2
          have HB3 := Lib.hid (hB.trans hB2)
          clear hD2 hB2 hSet ht0 ht1 hy ht
          go_wp2_with fail
          go_end0
          exact ⟨rfl, ⟨_, by rw [HUe2.out, ← HS.out]; exact HD2.out⟩, HB3.out⟩
      · have hdl : decide (v + rb ≤ β.2) = false := by simpa [e1] using hcut
        clear hcut HGo e1
        have hq : ∀ w, (binOp .neq 22 (.slice (some ⟨g1, 0, none⟩) n1 c1) (.slice none 0 0)).run Try.prog w = .ok (.bool true) w := fun w => neq_nil (P := Try.prog) w (some ⟨g1, 0, none⟩) n1 c1 Try.underlying22
        generalize hb2 : β.2 = b2 at *
        have HB2 := Lib.hid hb2
        clear hb2
        go_enter Try.func41, Try.ntmps41
        go_wp2_with fail
        refine wp_region_ext w.heap.size w (by kernel_rfl) (by kernel_rfl) (Below.refl _ _) ?_
        repeat (first | go_big_quiet_step (first | with_reducible exact q1 _ | with_reducible exact q2 _))
        refine wpQuiet_nil ?_
        intro W
        have hbW := W.2
        generalize W.1 = w1 at *
        clear q1 q2 e4 e5
        have HD1 := Lib.hid (HDy.out.below hbW)
        have hB1 : But H.F w w1 := But.of hbW
        have hBw1 : B ≤ w1.heap.size := by have := hbW.size; omega
        have k3 : w1.cell? ⟨H.g, 3, none⟩ = some (.slice (some ⟨H.gx, 0, none⟩) H.n H.cx) := (blk_cell HD1.out.blk 3).trans rfl
        have px : w1.cell? ⟨H.gx, j, none⟩ = some (.int .i64 f) := by have h := HD1.out.ox.cellAt j hj; rwa [show (pre ++ f :: p.fix.drop (j + 1)).getD j 0 = f by rw [← HL.out]; simp] at h
        have hde : ((j : Int) == (H.n : Int)) = false := by simp; omega
        have hde2 : (j == H.n) = false := by simp; omega
        clear HDy hq hbW
        go_wp2_with fail
        clear k3 px hde hde2
        have HSt0 := Lib.hid (show ((f = -1 ∨ f = 1) → stM p.rows p.val f (p.fix.drop (j + 1)) pre v β 1 = fromM p.rows p.val (p.fix.drop (j + 1)) (pre ++ [1]) (v + vj) (stM p.rows p.val f (p.fix.drop (j + 1)) pre v β 0)) ∧ (¬(f = -1 ∨ f = 1) → stM p.rows p.val f (p.fix.drop (j + 1)) pre v β 1 = stM p.rows p.val f (p.fix.drop (j + 1)) pre v β 0) from ⟨fun h => by simp only [stM, tryM]; rw [if_pos h, HL.out, HVj.out, Int.one_mul], fun h => by simp only [stM, tryM]; rw [if_neg h]⟩)
        have HSt1 := Lib.hid (show ((f = -1 ∨ f = 0) → stM p.rows p.val f (p.fix.drop (j + 1)) pre v β 2 = fromM p.rows p.val (p.fix.drop (j + 1)) (pre ++ [0]) v (stM p.rows p.val f (p.fix.drop (j + 1)) pre v β 1)) ∧ (¬(f = -1 ∨ f = 0) → stM p.rows p.val f (p.fix.drop (j + 1)) pre v β 2 = stM p.rows p.val f (p.fix.drop (j + 1)) pre v β 1) from ⟨fun h => by simp only [stM]; rw [tryM, if_pos h, HL.out, HVj.out, Int.zero_mul, Int.add_zero], fun h => by simp only [stM]; rw [tryM, if_neg h]⟩)
        have HUe2 := Lib.hid (show U = stM p.rows p.val f (p.fix.drop (j + 1)) pre v β 2 from HUe.out)
        clear HUe
        go_loopw [7] (fun i wr => ∃ (t : Nat) (y u : Int) (β' : Option (List Int) × Int) (vb' : Value), t ≤ 2 ∧ y = 1 - (t : Int) ∧ i = .int .i64 y ∧ But H.F w wr ∧ B ≤ wr.heap.size ∧ Hid (RD wr B H (pre ++ u :: p.fix.drop (j + 1)) β' vb') ∧ Hid (β' = stM p.rows p.val f (p.fix.drop (j + 1)) pre v β t)) (fun i _ => (intOf i + 1).toNat)
        case atStart => exact ⟨0, 1, f, β, _, by omega, by omega, rfl, hB1, hBw1, HD1, Lib.hid rfl⟩
        case round =>
          clear HD1 hB1 hBw1
          obtain ⟨t, y, u, β', vb', ht, hy, rfl, hB, hBr, HDr, HS⟩ := hrel
          have k3 : wr.cell? ⟨H.g, 3, none⟩ = some (.slice (some ⟨H.gx, 0, none⟩) H.n H.cx) := (blk_cell HDr.out.blk 3).trans rfl
          by_cases ht0 : t = 0
          · obtain rfl : y = 1 := by omega
            subst ht0
            clear hy ht
            have px : wr.cell? ⟨H.gx, j, none⟩ = some (.int .i64 u) := by have h := HDr.out.ox.cellAt j hj; rwa [show (pre ++ u :: p.fix.drop (j + 1)).getD j 0 = u by rw [← HL.out]; simp] at h
            have fx := HDr.out.ox.free j
            by_cases hf1 : f = -1
            · have HTk := Lib.hid (show f = -1 ∨ f = 1 from .inl hf1)
              have hd1 : (f == -1) = true := by simp [hf1]
              clear hf1
              have hSet : (pre ++ u :: p.fix.drop (j + 1)).set j 1 = (pre ++ [1]) ++ p.fix.drop (j + 1) := by rw [← HL.out]; simp
              obtain ⟨hD2, hB2⟩ := HDr.out.put j 1
              rw [hSet] at hD2
              have hB3 := hB.trans hB2
              have hs3 := hB2.size
              have HD2 := Lib.hid hD2
              obtain ⟨bv, ov, hva, hvl, hcv⟩ := (HSt.out _ hB3).val.2.2.at hj
              have pv := hcv j hj _ (Below.refl _ _)
              rw [HVj.out] at pv
              have k0 : (wr.setCell ⟨H.gx, j, none⟩ (.int .i64 1)).cell? ⟨H.g, 0, none⟩ = some (.slice H.a0 H.n H.c0) := (blk_cell hD2.blk 0).trans rfl
              rw [hva] at k0
              clear hD2 hB2 hSet hcv hva hvl
              go_wp2_with fail
              generalize (wr.setCell ⟨H.gx, j, none⟩ (.int .i64 1)) = w2 at *
              go_wp2_with fail
              refine (HIH.out (pre ++ [1]) (v + vj) β' vb' w2 (by rw [List.length_append, HL.out]; rfl) (bits_snoc HBt.out (by omega)) (by omega) (fun w' h => HSt.out w' (hB3.trans h)) HD2.out (by omega)).mono ?_
              rintro e w3 ⟨rfl, ⟨vb3, hD3⟩, hbb⟩
              have HD3 := Lib.hid (show RD w3 B H (pre ++ 1 :: p.fix.drop (j + 1)) (fromM p.rows p.val (p.fix.drop (j + 1)) (pre ++ [1]) (v + vj) β') vb3 by simpa using hD3)
              have hB4 := hB3.trans hbb
              have hs4 := hbb.size
              have HS2 := Lib.hid (show fromM p.rows p.val (p.fix.drop (j + 1)) (pre ++ [1]) (v + vj) β' = stM p.rows p.val f (p.fix.drop (j + 1)) pre v β 1 by rw [HS.out]; exact (HSt0.out.1 HTk.out).symm)
              generalize fromM p.rows p.val (p.fix.drop (j + 1)) (pre ++ [1]) (v + vj) β' = β3 at *
              clear hD3 hbb hB hB3 HDr HD2 HS
              go_wp2_with fail
              go_roundw
              case rel => exact ⟨1, 0, 1, β3, vb3, by omega, by omega, by go_num, hB4, by omega, HD3, HS2⟩
              case measure => simp [intOf]
            · have hd1 : (f == -1) = false := by simp [hf1]
              by_cases hf2 : f = 1
              · have HTk := Lib.hid (show f = -1 ∨ f = 1 from .inr hf2)
                have hd2 : (f == 1) = true := by simp [hf2]
                clear hf1 hf2
                have hSet : (pre ++ u :: p.fix.drop (j + 1)).set j 1 = (pre ++ [1]) ++ p.fix.drop (j + 1) := by rw [← HL.out]; simp
                obtain ⟨hD2, hB2⟩ := HDr.out.put j 1
                rw [hSet] at hD2
                have hB3 := hB.trans hB2
                have hs3 := hB2.size
                have HD2 := Lib.hid hD2
                obtain ⟨bv, ov, hva, hvl, hcv⟩ := (HSt.out _ hB3).val.2.2.at hj
                have pv := hcv j hj _ (Below.refl _ _)
                rw [HVj.out] at pv
                have k0 : (wr.setCell ⟨H.gx, j, none⟩ (.int .i64 1)).cell? ⟨H.g, 0, none⟩ = some (.slice H.a0 H.n H.c0) := (blk_cell hD2.blk 0).trans rfl
                rw [hva] at k0
                clear hD2 hB2 hSet hcv hva hvl
                go_wp2_with fail
                generalize (wr.setCell ⟨H.gx, j, none⟩ (.int .i64 1)) = w2 at *
                go_wp2_with fail
                refine (HIH.out (pre ++ [1]) (v + vj) β' vb' w2 (by rw [List.length_append, HL.out]; rfl) (bits_snoc HBt.out (by omega)) (by omega) (fun w' h => HSt.out w' (hB3.trans h)) HD2.out (by omega)).mono ?_
                rintro e w3 ⟨rfl, ⟨vb3, hD3⟩, hbb⟩
                have HD3 := Lib.hid (show RD w3 B H (pre ++ 1 :: p.fix.drop (j + 1)) (fromM p.rows p.val (p.fix.drop (j + 1)) (pre ++ [1]) (v + vj) β') vb3 by simpa using hD3)
                have hB4 := hB3.trans hbb
                have hs4 := hbb.size
                have HS2 := Lib.hid (show fromM p.rows p.val (p.fix.drop (j + 1)) (pre ++ [1]) (v + vj) β' = stM p.rows p.val f (p.fix.drop (j + 1)) pre v β 1 by rw [HS.out]; exact (HSt0.out.1 HTk.out).symm)
                generalize fromM p.rows p.val (p.fix.drop (j + 1)) (pre ++ [1]) (v + vj) β' = β3 at *
                clear hD3 hbb hB hB3 HDr HD2 HS
                go_wp2_with fail
                go_roundw
                case rel => exact ⟨1, 0, 1, β3, vb3, by omega, by omega, by go_num, hB4, by omega, HD3, HS2⟩
                case measure => simp [intOf]
              · have hd2 : (f == 1) = false := by simp [hf2]
                have HS2 := Lib.hid (show β' = stM p.rows p.val f (p.fix.drop (j + 1)) pre v β 1 by rw [HS.out]; exact (HSt0.out.2 (by omega)).symm)
                clear HS
                go_wp2_with fail
                go_roundw
                case rel => exact ⟨1, 0, u, β', vb', by omega, by omega, by go_num, hB, hBr, HDr, HS2⟩
                case measure => simp [intOf]
          by_cases ht1 : t = 1
          · obtain rfl : y = 0 := by omega
            subst ht1
            clear hy ht ht0
            have px : wr.cell? ⟨H.gx, j, none⟩ = some (.int .i64 u) := by have h := HDr.out.ox.cellAt j hj; rwa [show (pre ++ u :: p.fix.drop (j + 1)).getD j 0 = u by rw [← HL.out]; simp] at h
            have fx := HDr.out.ox.free j
            by_cases hf1 : f = -1
            · have HTk := Lib.hid (show f = -1 ∨ f = 0 from .inl hf1)
              have hd1 : (f == -1) = true := by simp [hf1]
              clear hf1
              have hSet : (pre ++ u :: p.fix.drop (j + 1)).set j 0 = (pre ++ [0]) ++ p.fix.drop (j + 1) := by rw [← HL.out]; simp
              obtain ⟨hD2, hB2⟩ := HDr.out.put j 0
              rw [hSet] at hD2
              have hB3 := hB.trans hB2
              have hs3 := hB2.size
              have HD2 := Lib.hid hD2
              obtain ⟨bv, ov, hva, hvl, hcv⟩ := (HSt.out _ hB3).val.2.2.at hj
              have pv := hcv j hj _ (Below.refl _ _)
              rw [HVj.out] at pv
              have k0 : (wr.setCell ⟨H.gx, j, none⟩ (.int .i64 0)).cell? ⟨H.g, 0, none⟩ = some (.slice H.a0 H.n H.c0) := (blk_cell hD2.blk 0).trans rfl
              rw [hva] at k0
              clear hD2 hB2 hSet hcv hva hvl
              go_wp2_with fail
              generalize (wr.setCell ⟨H.gx, j, none⟩ (.int .i64 0)) = w2 at *
              go_wp2_with fail
              refine (HIH.out (pre ++ [0]) (v) β' vb' w2 (by rw [List.length_append, HL.out]; rfl) (bits_snoc HBt.out (by omega)) (by omega) (fun w' h => HSt.out w' (hB3.trans h)) HD2.out (by omega)).mono ?_
              rintro e w3 ⟨rfl, ⟨vb3, hD3⟩, hbb⟩
              have HD3 := Lib.hid (show RD w3 B H (pre ++ 0 :: p.fix.drop (j + 1)) (fromM p.rows p.val (p.fix.drop (j + 1)) (pre ++ [0]) (v) β') vb3 by simpa using hD3)
              have hB4 := hB3.trans hbb
              have hs4 := hbb.size
              have HS2 := Lib.hid (show fromM p.rows p.val (p.fix.drop (j + 1)) (pre ++ [0]) (v) β' = stM p.rows p.val f (p.fix.drop (j + 1)) pre v β 2 by rw [HS.out]; exact (HSt1.out.1 HTk.out).symm)
              generalize fromM p.rows p.val (p.fix.drop (j + 1)) (pre ++ [0]) (v) β' = β3 at *
              clear hD3 hbb hB hB3 HDr HD2 HS
              go_wp2_with fail
              go_roundw
              case rel => exact ⟨2, -1, 0, β3, vb3, by omega, by omega, by go_num, hB4, by omega, HD3, HS2⟩
              case measure => simp [intOf]
            · have hd1 : (f == -1) = false := by simp [hf1]
              by_cases hf2 : f = 0
              · have HTk := Lib.hid (show f = -1 ∨ f = 0 from .inr hf2)
                have hd2 : (f == 0) = true := by simp [hf2]
                clear hf1 hf2
                have hSet : (pre ++ u :: p.fix.drop (j + 1)).set j 0 = (pre ++ [0]) ++ p.fix.drop (j + 1) := by rw [← HL.out]; simp
                obtain ⟨hD2, hB2⟩ := HDr.out.put j 0
                rw [hSet] at hD2
                have hB3 := hB.trans hB2
                have hs3 := hB2.size
                have HD2 := Lib.hid hD2
                obtain ⟨bv, ov, hva, hvl, hcv⟩ := (HSt.out _ hB3).val.2.2.at hj
                have pv := hcv j hj _ (Below.refl _ _)
                rw [HVj.out] at pv
                have k0 : (wr.setCell ⟨H.gx, j, none⟩ (.int .i64 0)).cell? ⟨H.g, 0, none⟩ = some (.slice H.a0 H.n H.c0) := (blk_cell hD2.blk 0).trans rfl
                rw [hva] at k0
                clear hD2 hB2 hSet hcv hva hvl
                go_wp2_with fail
                generalize (wr.setCell ⟨H.gx, j, none⟩ (.int .i64 0)) = w2 at *
                go_wp2_with fail
                refine (HIH.out (pre ++ [0]) (v) β' vb' w2 (by rw [List.length_append, HL.out]; rfl) (bits_snoc HBt.out (by omega)) (by omega) (fun w' h => HSt.out w' (hB3.trans h)) HD2.out (by omega)).mono ?_
                rintro e w3 ⟨rfl, ⟨vb3, hD3⟩, hbb⟩
                have HD3 := Lib.hid (show RD w3 B H (pre ++ 0 :: p.fix.drop (j + 1)) (fromM p.rows p.val (p.fix.drop (j + 1)) (pre ++ [0]) (v) β') vb3 by simpa using hD3)
                have hB4 := hB3.trans hbb
                have hs4 := hbb.size
                have HS2 := Lib.hid (show fromM p.rows p.val (p.fix.drop (j + 1)) (pre ++ [0]) (v) β' = stM p.rows p.val f (p.fix.drop (j + 1)) pre v β 2 by rw [HS.out]; exact (HSt1.out.1 HTk.out).symm)
                generalize fromM p.rows p.val (p.fix.drop (j + 1)) (pre ++ [0]) (v) β' = β3 at *
                clear hD3 hbb hB hB3 HDr HD2 HS
                go_wp2_with fail
                go_roundw
                case rel => exact ⟨2, -1, 0, β3, vb3, by omega, by omega, by go_num, hB4, by omega, HD3, HS2⟩
                case measure => simp [intOf]
              · have hd2 : (f == 0) = false := by simp [hf2]
                have HS2 := Lib.hid (show β' = stM p.rows p.val f (p.fix.drop (j + 1)) pre v β 2 by rw [HS.out]; exact (HSt1.out.2 (by omega)).symm)
                clear HS
                go_wp2_with fail
                go_roundw
                case rel => exact ⟨2, -1, u, β', vb', by omega, by omega, by go_num, hB, hBr, HDr, HS2⟩
                case measure => simp [intOf]
          obtain rfl : t = 2 := by omega
          obtain rfl : y = -1 := by omega
          have px : wr.cell? ⟨H.gx, j, none⟩ = some (.int .i64 u) := by have h := HDr.out.ox.cellAt j hj; rwa [show (pre ++ u :: p.fix.drop (j + 1)).getD j 0 = u by rw [← HL.out]; simp] at h
          have fx := HDr.out.ox.free j
          have hSet : (pre ++ u :: p.fix.drop (j + 1)).set j f = pre ++ f :: p.fix.drop (j + 1) := by rw [← HL.out]; simp
          obtain ⟨hD2, hB2⟩ := HDr.out.put j f
          rw [hSet] at hD2
          have HD2 := Lib.hid hD2
          have HB3 := Lib.hid (hB.trans hB2)
          clear hD2 hB2 hSet ht0 ht1 hy ht
          go_wp2_with fail
          go_end0
          exact ⟨rfl, ⟨_, by rw [HUe2.out, ← HS.out]; exact HD2.out⟩, HB3.out⟩
  · have hUe := HNo.out rfl
    clear HNo HLf HOb
    subst hUe
    go_enter Try.func41, Try.ntmps41
    go_wp2_with fail
    refine wp_region_ext w.heap.size w (by kernel_rfl) (by kernel_rfl) (Below.refl _ _) ?_
    repeat (first | go_big_quiet_step (first | with_reducible exact q1 _ | with_reducible exact q2 _))
    refine wpQuiet_nil ?_
    intro W
    have hbW := W.2
    generalize W.1 = w1 at *
    clear q1 q2 e4 e5
    go_wp2_with fail
    refine bodyPost_ret (results_none rfl _ _ _) rfl ?_
    exact ⟨rfl, ⟨_, HDy.out.below hbW⟩, But.of hbW⟩

theorem from_any (H : Rh) (p : ProbM) (B : Nat) (hP : RP H p) : ∀ (t j : Nat), j + t = H.n → ∀ (pre : List Int) (v : Int) (β : Option (List Int) × Int) (vb : Value) (w : World), pre.length = j → Bits01 pre → (-1000000 * (j : Int) ≤ v ∧ v ≤ 1000000 * (j : Int)) → (∀ w', But H.F w w' → RS w' H p) → RD w B H (pre ++ p.fix.drop j) β vb → B ≤ w.heap.size →
    Calls Try.prog 41 #[.pointer (some ⟨H.g, 0, none⟩), .int .i64 j, .int .i64 v] w fun e w' => e = .returned (.tuple #[]) ∧ (∃ vb', RD w' B H (pre ++ p.fix.drop j) (fromM p.rows p.val (p.fix.drop j) pre v β) vb') ∧ But H.F w w'
  | 0, j, hj, pre, v, β, vb, w, hl, hb, hv, hS, hD, hB => by
    obtain rfl : j = H.n := by omega
    have he : p.fix.drop H.n = [] := List.drop_eq_nil_of_le (by rw [hP.fixn]; exact Nat.le_refl _)
    rw [he, List.append_nil] at hD ⊢
    exact from_leaf_any H p B hP pre v β vb w hl hb hv hS hD hB
  | t + 1, j, hj, pre, v, β, vb, w, hl, hb, hv, hS, hD, hB => by
    refine from_node H p B j hP (by omega) (fun pre v β vb w h1 h2 h3 h4 h5 h6 => ?_) pre v β vb w hl hb hv hS hD hB
    have h := from_any H p B hP t (j + 1) (by omega) pre v β vb w h1 h2 (by push_cast; omega) h4 h5 h6
    rwa [show ((j + 1 : Nat) : Int) = (j : Int) + 1 by omega] at h

end Go.Proofs.Ytkgikajfeihbbaa
