/- Journals: the statements' own function 'written': the journal of the first ten valid trees. -/
import Derived.Test.YthbfmioikbphgaaDoorJoT
import Derived.Test.YthbfmioikbphgaaDoorJoS
import Derived.Test.YthbfmioikbphgaaDoorJoO
import Derived.Test.YthbfmioikbphgaaDoorInts
namespace Go.Proofs.YthbfmioikbphgaaDoor
set_option maxRecDepth 100000
open Go.RowKit

mutual
theorem NodeIn.toS {w : World} : ∀ (t : NodeT) (v : Value), NodeIn w t v → NodeS (fun b => b < w.heap.size) w t v
  | .mk tag kind n s kids, v, h => by
    simp only [NodeIn] at h
    simp only [NodeS]
    obtain ⟨a, len, cap, e, h0, h1, h2, h3, h4, h5⟩ := h
    refine ⟨a, len, cap, e, h0, h1, h2, h3, h4, ?_⟩
    rcases h5 with h5 | ⟨b, off, rfl, hlt, hk⟩
    · exact .inl h5
    · exact .inr ⟨b, off, rfl, hlt, hlt, KidsIn.toS b off kids hk⟩
theorem KidsIn.toS {w : World} (b : Nat) : ∀ (off : Nat) (ts : List NodeT), KidsIn w b off ts → KidsS (fun b => b < w.heap.size) w b off ts
  | _, [], _ => by simp [KidsS]
  | off, t :: ts, h => by
    simp only [KidsIn] at h
    simp only [KidsS]
    obtain ⟨⟨v0, v1, v2, v3, v4, c0, c1, c2, c3, c4, hn⟩, hr⟩ := h
    exact ⟨⟨v0, v1, v2, v3, v4, c0, c1, c2, c3, c4, NodeIn.toS t _ hn⟩, KidsIn.toS b (off + 5) ts hr⟩
end
/-- two slices lie in different blocks -/
def DJ (v u : Value) : Prop := ∀ g, v.ownBlock = some g → u.ownBlock ≠ some g
theorem DJ.symm {v u : Value} (h : DJ v u) : DJ u v := fun g h1 h2 => h g h2 h1
theorem DJ.grew {w w' : World} {v u u' : Value} (h : DJ v u) (hG : Grew w w' u u') (hv : ∀ g, v.ownBlock = some g → g < w.heap.size) : DJ v u' := fun g h1 h2 => by
  rcases hG.2 with h3 | h3
  · exact h g h1 (h3 ▸ h2)
  · have := h3 g h2
    have := hv g h1
    omega
/-- a slice stays when another one grows -/
theorem OwnsK.beside {w w' : World} {B n k : Nat} {e : TypeId} {v u u' : Value} {cs : List Value} (h : OwnsK w B e k v n cs) (hG : Grew w w' u u') (hd : DJ v u) : OwnsK w' B e k v n cs :=
  h.at fun g hg => hG.1.block g (World.ownsRow.lt h g hg).2 fun h2 => hd g hg h2.symm
/-- an owned row of trees that lie below block B0 -/
def PN (B0 : Nat) (w : World) (B : Nat) (u : Value) (n : Nat) (ts : List NodeT) : Prop := ts.length = n ∧ ∃ cs, OwnsK w B 25 5 u n cs ∧ KidsC (fun b => b < B0) w cs ts
theorem PN.below {B0 : Nat} {w w' : World} {B n : Nat} {u : Value} {ts : List NodeT} (h : PN B0 w B u n ts) (hb : Below w.heap.size w w') : PN B0 w' B u n ts := by
  obtain ⟨h0, cs, h1, h2⟩ := h
  exact ⟨h0, cs, h1.later hb, h2.keep hb.size fun b h h3 => ⟨h, hb.block b h3⟩⟩
theorem PN.beside {B0 : Nat} {w w' : World} {B n : Nat} {v u u' : Value} {ts : List NodeT} (h : PN B0 w B v n ts) (hG : Grew w w' u u') (hd : DJ v u) (hu : ∀ g, u.ownBlock = some g → B0 ≤ g) : PN B0 w' B v n ts := by
  obtain ⟨h0, cs, h1, h2⟩ := h
  exact ⟨h0, cs, h1.beside hG hd, h2.keep hG.1.size fun b h h3 => ⟨h, hG.1.block b h3 fun h4 => by have := hu b h4.symm; omega⟩⟩
theorem PN.slice {B0 : Nat} {w : World} {B n : Nat} {u : Value} {ts : List NodeT} (h : PN B0 w B u n ts) : ∃ a c, u = .slice a n c := by
  obtain ⟨-, cs, h1, -⟩ := h
  rcases h1.form with ⟨rfl, rfl, -⟩ | ⟨g, cap, rfl, -⟩
  · exact ⟨_, _, rfl⟩
  · exact ⟨_, _, rfl⟩
theorem PN.kids {B0 : Nat} {w : World} {B n : Nat} {a : Option Addr} {c : Nat} {ts : List NodeT} (h : PN B0 w B (.slice a n c) n ts) : Kids w a n c ts := by
  obtain ⟨h0, cs, h1, h2⟩ := h
  rcases h1.form with ⟨e, h3, -⟩ | ⟨g, cap, e, hnc, hcm, hBg, hlt, hc, -⟩
  · cases e
    exact ⟨h0, Nat.le_refl _, by simp [maxLen], fun _ => rfl, .inl rfl⟩
  · cases e
    exact ⟨h0, hnc, hcm, by simp, .inr ⟨g, 0, rfl, hlt, KidsS.in g 0 ts (KidsC.row cs ts 0 h2 fun j hj => by rw [Nat.zero_add]; exact hc j (by omega))⟩⟩
theorem PN.snoc {B0 : Nat} {w w' : World} {B n : Nat} {u u' : Value} {cs : List Value} {ts : List NodeT} {t : NodeT} {n0 n1 n2 n3 n4 : Value} (hl : ts.length = n) (hC : KidsC (fun b => b < B0) w cs ts) (hN : NodeS (fun b => b < B0) w t (.agg #[n0, n1, n2, n3, n4]))
    (hO' : OwnsK w' B 25 5 u' (n + 1) (cs ++ [n0, n1, n2, n3, n4])) (hG : Grew w w' u u') (hu : ∀ g, u.ownBlock = some g → B0 ≤ g) : PN B0 w' B u' (n + 1) (ts ++ [t]) := by
  have hk : ∀ b, b < B0 → b < w.heap.size → (b < B0 ∧ w'.heap[b]? = w.heap[b]?) := fun b h h3 => ⟨h, hG.1.block b h3 fun h4 => by have := hu b h4.symm; omega⟩
  exact ⟨by simp [hl], _, hO', KidsC.snoc (hN.keep hG.1.size hk) _ _ (hC.keep hG.1.size hk)⟩

def nvs (ns : List Nat) : List Value := ns.map fun n : Nat => Value.int .i64 (n : Int)
theorem nvs_len (ns : List Nat) : (nvs ns).length = ns.length := by simp [nvs]
theorem nvs_snoc (ns : List Nat) (n : Nat) : nvs (ns ++ [n]) = nvs ns ++ [.int .i64 (n : Int)] := by simp [nvs]
/-- what 'written' holds under way -/
structure WR (w : World) (B : Nat) (lg lv ev : Value) (ts : List NodeT) : Prop where
  L : Owns w B 5 lg (bvs (encJ (digOf []) ts))
  P : PN B w B lv ts.length ts
  E : Owns w B 3 ev (nvs (endsJ 0 ts))
  d1 : DJ lg lv
  d2 : DJ lg ev
  d3 : DJ lv ev
theorem WR.nil (w : World) (B : Nat) : WR w B (.slice none 0 0) (.slice none 0 0) (.slice none 0 0) [] :=
  ⟨Owns.nil _ _ _, ⟨rfl, [], OwnsK.nil _ _ _ _, trivial⟩, Owns.nil _ _ _, fun g h => by simp [Value.ownBlock] at h, fun g h => by simp [Value.ownBlock] at h, fun g h => by simp [Value.ownBlock] at h⟩
theorem WR.below {w w' : World} {B : Nat} {lg lv ev : Value} {ts : List NodeT} (h : WR w B lg lv ev ts) (hb : Below w.heap.size w w') : WR w' B lg lv ev ts :=
  ⟨h.L.later hb, h.P.below hb, h.E.later hb, h.d1, h.d2, h.d3⟩
theorem WR.forms {w : World} {B : Nat} {lg lv ev : Value} {ts : List NodeT} (h : WR w B lg lv ev ts) : ∃ a c a2 c2 a3 c3, lg = .slice a (lenJ ts) c ∧ lv = .slice a2 ts.length c2 ∧ ev = .slice a3 ts.length c3 ∧ Bytes w a (lenJ ts) c (encJ (digOf []) ts) := by
  obtain ⟨a, n, c, rfl, hB⟩ := h.L.bytes
  obtain rfl : lenJ ts = n := by rw [← hB.1, encJ_len]
  obtain ⟨a2, c2, rfl⟩ := h.P.slice
  obtain ⟨a3, c3, e3, -⟩ := h.E.form
  rw [nvs_len, endsJ_len] at e3
  exact ⟨a, c, a2, c2, a3, c3, rfl, rfl, e3, hB⟩

set_option maxHeartbeats 8000000 in
theorem written_any (nodes : List NodeT) (a : Option Addr) (len cap : Nat) (w : World) (hK : Kids w a len cap nodes) (hi : i64L nodes) (hg : ErrT w) :
    Calls Tryd.prog 15 #[.slice a len cap] w fun e w' => ∃ lg lv ev, e = .returned (.tuple #[lg, lv, ev, .bool true]) ∧ WR w' w.heap.size lg lv ev (selJ [] nodes) ∧ Below w.heap.size w w' := by
  have HK := Lib.hid hK
  have HI := Lib.hid hi
  have HG := Lib.hid hg
  have hla : nodes.length = len := hK.1
  have hlm : len ≤ 9223372036854775807 := by have := hK.2.1; have := hK.2.2.1; simp only [maxLen] at this; omega
  clear hK hi hg
  go_enter Tryd.func15, Tryd.ntmps15
  go_wp2_with fail
  go_loopw [6, 7, 8, 17] (fun lg lv ev i wr => ∃ (k : Nat) (ts : List NodeT), k ≤ len ∧ i = .int .i64 k ∧ Hid (WR wr w.heap.size lg lv ev ts) ∧ Below w.heap.size w wr ∧ Hid (selJ [] nodes = selJ ts (nodes.drop k)) ∧ Hid (∀ t ∈ ts, GoodJ t) ∧ ts.length ≤ 10) (fun _ _ _ i _ => len - (intOf i).toNat)
  case atStart => exact ⟨0, [], by omega, rfl, Lib.hid (WR.nil _ _), Below.refl _ _, Lib.hid rfl, Lib.hid (by simp), by simp⟩
  case round =>
    obtain ⟨k, ts, hk, rfl, HW, hB, HS, HGd, h10⟩ := hrel
    generalize wr = wq at *
    by_cases hlt : k < len
    · obtain ⟨b1, o1, rfl, tg, kd, n, s, a', l', c', x0, x1, x2, x3, x4, t, ht, hN1⟩ := HK.out.form hlt
      have hz0 : b1 < w.heap.size := by
        rcases Nat.lt_or_ge b1 w.heap.size with h | h
        · exact h
        · simp [World.cell?, Array.getElem?_eq_none h] at x0
      have y0 := bc hB hz0 x0
      have y1 := bc hB hz0 x1
      have y2 := bc hB hz0 x2
      have y3 := bc hB hz0 x3
      have y4 := bc hB hz0 x4
      have HTk := Lib.hid ht
      have HI6 := Lib.hid (i64L_mem HI.out t (List.mem_of_getElem? ht))
      have HNw := Lib.hid hN1
      obtain ⟨al, cl, a2, c2, a3, c3, rfl, rfl, rfl, hBL⟩ := HW.out.forms
      have HBL := Lib.hid hBL
      generalize hcn : ts.length = cn at *
      have HCn := Lib.hid hcn
      generalize hln : lenJ ts = ln at *
      have HLn := Lib.hid hln
      have hb1 : Below wq.heap.size wq (wq.alloc (.cells #[.int .i64 tg, .int .i64 kd, .int .i64 n, .string ⟨s.toArray⟩, .slice a' l' c'] 25)) := (Below.refl _ _).alloc (Nat.le_refl _) _
      have HA := Lib.hid (show (wq.alloc (.cells #[.int .i64 tg, .int .i64 kd, .int .i64 n, .string ⟨s.toArray⟩, .slice a' l' c'] 25)).heap[wq.heap.size]? = some (.cells #[.int .i64 tg, .int .i64 kd, .int .i64 n, .string ⟨s.toArray⟩, .slice a' l' c'] 25) from heap_alloc_new _ _)
      have HN1 := Lib.hid ((hN1.below hB).below hb1)
      clear hN1 ht x0 x1 x2 x3 x4 hcn hln hBL
      by_cases hq : okT t = true
      rotate_left
      · have HQ := Lib.hid (show okT t = false by simpa using hq)
        have HE0 := Lib.hid (show okE t = false by unfold okE; rw [HQ.out]; rfl)
        clear hq
        go_wp2_with fail
        clear y0 y1 y2 y3 y4
        refine (encode_no t _ _ HN1.out HI6.out HQ.out).mono ?_
        rintro e w2 ⟨rfl, hb2⟩
        have hb3 := hb1.trans (hb2.mono hb1.size)
        by_cases h9 : cn = 10
        · have d1 : ((cn : Int) == 10) = true := by simp; omega
          have d1' : (cn == 10) = true := by simp; omega
          clear h9
          go_wp2_with fail
          go_roundw
          case rel => exact ⟨k + 1, ts, by omega, by go_num, Lib.hid (HW.out.below hb3), hB.trans (hb3.mono hB.size), Lib.hid (by rw [HS.out, sel_skip HTk.out (.inr HE0.out)]), HGd, by rw [HCn.out]; exact h10⟩
          case measure => simp [intOf]; omega
        · have d1 : ((cn : Int) == 10) = false := by simp; omega
          have d1' : (cn == 10) = false := by simp; omega
          go_wp2_with fail
          go_roundw
          case rel => exact ⟨k + 1, ts, by omega, by go_num, Lib.hid (HW.out.below hb3), hB.trans (hb3.mono hB.size), Lib.hid (by rw [HS.out, sel_skip HTk.out (.inr HE0.out)]), HGd, by rw [HCn.out]; exact h10⟩
          case measure => simp [intOf]; omega
      have HQ := Lib.hid hq
      clear hq
      go_wp2_with fail
      clear y0 y1 y2 y3 y4
      refine (encode_ok t _ _ HN1.out HI6.out HQ.out).mono ?_
      rintro e w2 ⟨ap, np, cp, rfl, hP, hb2⟩
      have hb3 := hb1.trans (hb2.mono hb1.size)
      obtain ⟨_, _, _, hpe, hPB⟩ := hP.bytes
      cases hpe
      have HPl := Lib.hid hPB.1
      clear hP hPB
      by_cases h9 : cn = 10
      · have d1 : ((cn : Int) == 10) = true := by simp; omega
        have d1' : (cn == 10) = true := by simp; omega
        have H9 := Lib.hid h9
        clear h9
        go_wp2_with fail
        go_roundw
        case rel => exact ⟨k + 1, ts, by omega, by go_num, Lib.hid (HW.out.below hb3), hB.trans (hb3.mono hB.size), Lib.hid (by rw [HS.out, sel_skip HTk.out (.inl (by rw [HCn.out]; exact H9.out))]), HGd, by rw [HCn.out]; exact h10⟩
        case measure => simp [intOf]; omega
      have d1 : ((cn : Int) == 10) = false := by simp; omega
      have d1' : (cn == 10) = false := by simp; omega
      by_cases h20 : 2000 < np
      · have d2 : decide (2000 < (np : Int)) = true := by simp; omega
        have d2' : decide (2000 < np) = true := by simp; omega
        have HE0 := Lib.hid (show okE t = false by unfold okE; rw [HQ.out, HPl.out]; simp; omega)
        go_wp2_with fail
        go_roundw
        case rel => exact ⟨k + 1, ts, by omega, by go_num, Lib.hid (HW.out.below hb3), hB.trans (hb3.mono hB.size), Lib.hid (by rw [HS.out, sel_skip HTk.out (.inr HE0.out)]), HGd, by rw [HCn.out]; exact h10⟩
        case measure => simp [intOf]; omega
      have d2 : decide (2000 < (np : Int)) = false := by simp; omega
      have d2' : decide (2000 < np) = false := by simp; omega
      have HE0 := Lib.hid (show okE t = true by unfold okE; rw [HQ.out, HPl.out]; simp; omega)
      have HGt := Lib.hid (okE_good HE0.out HI6.out)
      have HAp := Lib.hid (appJ_enc HGd.out (show ts.length < 300 by rw [HCn.out]; omega) HGt.out)
      have hlw := blk_lt HA.out
      have hlnb : ln ≤ 20120 := by have := lenJ_le ts HGd.out; rw [HLn.out, HCn.out] at this; omega
      have hnpb : np ≤ 2000 := by omega
      have HA2 := Lib.hid ((hb2.block _ hlw).trans HA.out)
      have hlw2 := blk_lt HA2.out
      have c0 := blk_cell HA2.out 0
      have c1 := blk_cell HA2.out 1
      have c2' := blk_cell HA2.out 2
      have c3' := blk_cell HA2.out 3
      have c4 := blk_cell HA2.out 4
      simp at c0 c1 c2' c3' c4
      have HN2 := Lib.hid (HN1.out.below hb2)
      have HL2 := Lib.hid (HBL.out.below hb3)
      have HG2 := Lib.hid (HG.out.below (hB.trans (hb3.mono hB.size)))
      have HW2 := Lib.hid (HW.out.below hb3)
      have hB2 := hB.trans (hb3.mono hB.size)
      go_wp2_with fail
      refine (append_own HAp.out _ _ _ _ _ HL2.out HN2.out HI6.out HG2.out).mono ?_
      rintro e w3 ⟨b3, c3n, rfl, hO3, hb4⟩
      clear c0 c1 c2' c3' c4
      have HA3 := Lib.hid ((hb4.block _ hlw2).trans HA2.out)
      have c0 := blk_cell HA3.out 0
      have c1 := blk_cell HA3.out 1
      have c2' := blk_cell HA3.out 2
      have c3' := blk_cell HA3.out 3
      have c4 := blk_cell HA3.out 4
      simp at c0 c1 c2' c3' c4
      have hB3 := hB2.trans (hb4.mono hB2.size)
      have HL3 := Lib.hid (HL2.out.below hb4)
      have HW3 := Lib.hid (HW2.out.below hb4)
      have hnl : (encJ (digOf []) (ts ++ [t])).length = ln + (np + 12) := by rw [encJ_len, lenJ_app, HLn.out]; simp only [lenJ, sizJ, HPl.out, Nat.add_zero]
      obtain ⟨nl, hnl2⟩ : ∃ nl, nl = ln + (np + 12) := ⟨_, rfl⟩
      rw [← hnl2] at hnl
      rw [hnl] at hO3 ⊢
      have HO3 := Lib.hid hO3
      obtain ⟨_, _, _, he3, hX3⟩ := hO3.bytes
      cases he3
      have HX3 := Lib.hid hX3
      have HPre := Lib.hid (show decide (encJ (digOf []) ts <+: encJ (digOf []) (ts ++ [t])) = true by rw [decide_eq_true_eq, encJ_snoc]; exact List.prefix_append _ _)
      have hdd : ((nl : Int) != (ln : Int) + (np : Int) + 12) = false := by simp; omega
      have HN2l := Lib.hid hnl2
      clear hO3 hX3 hnl hnl2
      go_wp2_with fail
      refine (extends_any _ _ _ _ _ _ _ _ _ HX3.out HL3.out).mono ?_
      rw [HPre.out]
      rintro e w4 ⟨rfl, rfl⟩
      obtain ⟨hcn, cs, hOK, hC⟩ := HW3.out.P
      rw [HCn.out] at hOK
      have HOK := Lib.hid hOK
      have HC := Lib.hid hC
      have hsz3 := hB3.size
      have hn3 : NodeS (fun b => b < w.heap.size) w3 t (.agg #[.int .i64 tg, .int .i64 kd, .int .i64 n, .string ⟨s.toArray⟩, .slice a' l' c']) := NodeS.keep hB3.size (fun b h h3 => ⟨h, hB3.block b h3⟩) t _ (NodeIn.toS t _ HNw.out)
      have HN3 := Lib.hid hn3
      clear hOK hC hn3 hcn
      go_wp2_with (at_builtin; first
        | (refine wpList_app1 rfl _ _ 33 rfl w.heap.size 3 (.int .i64 0) 8 Tryd.underlying33 infoInt rfl (.slice a3 cn c3) (nvs (endsJ 0 ts)) rfl (.int .i64 (nl : Int)) rfl HE4.out rfl (by rw [nvs_len, endsJ_len, HCn.out]; omega) (by rw [nvs_len, endsJ_len, HCn.out]; simp only [maxLen]; omega) hsz4 fun v5 w5 g1 g2 => ?_)
        | (
          refine wpList_appK1 rfl _ _ 23 rfl w.heap.size 25 5 (by omega) _ 64 Tryd.underlying23 infoNode rfl (.slice a2 cn c2) cn cs rfl [.int .i64 tg, .int .i64 kd, .int .i64 n, .string ⟨s.toArray⟩, .slice a' l' c'] rfl (by simp [Value.oneCell']) HOK.out rfl (by omega) (by simp only [maxLen]; omega) hsz3 fun v4 w4 g1 g2 => ?_
          have hB4 := hB3.trans (g2.below hsz3 HOK.out.lt)
          have hsz4 := hB4.size
          have HP4 := Lib.hid (PN.snoc (B0 := w.heap.size) HCn.out HC.out HN3.out g1 g2 HOK.out.lt)
          have HE4 := Lib.hid (OwnsK.beside HW3.out.E g2 HW3.out.d3.symm)
          have HD34 := Lib.hid (HW3.out.d3.symm.grew g2 fun g hg => (World.ownsRow.lt HW3.out.E g hg).2)
          have hld : DJ (.slice b3 nl c3n) (.slice a2 cn c2) := fun g h1 h2 => by
            have h3 := (World.ownsRow.lt HO3.out g h1).1
            have h4 := (World.ownsRow.lt HW2.out.P.2.choose_spec.1 g h2).2
            omega
          have hle : DJ (.slice b3 nl c3n) (.slice a3 cn c3) := fun g h1 h2 => by
            have h3 := (World.ownsRow.lt HO3.out g h1).1
            have h4 := (World.ownsRow.lt HW2.out.E g h2).2
            omega
          have HL4 := Lib.hid (OwnsK.beside HO3.out g2 hld)
          have HD14 := Lib.hid (hld.grew g2 fun g hg => (World.ownsRow.lt HO3.out g hg).2)
          have HLE := Lib.hid hle
          clear g1 g2 hld hle))
      have hE4lt : ∀ g, (Value.slice a3 cn c3).ownBlock = some g → w.heap.size ≤ g := fun g hg => (World.ownsRow.lt HE4.out g hg).1
      have hB5 := hB4.trans (g2.below hsz4 hE4lt)
      have hw5 : WR w5 w.heap.size (.slice b3 nl c3n) v4 v5 (ts ++ [t]) := by
        refine ⟨?_, ?_, ?_, HD14.out, ?_, ?_⟩
        · exact (OwnsK.beside HL4.out g2 HLE.out).mono hB2.size
        · have h := HP4.out.beside g2 HD34.out.symm hE4lt
          rw [show (ts ++ [t]).length = cn + 1 by rw [List.length_append, HCn.out]; rfl]
          exact h
        · rw [endsJ_snoc, nvs_snoc, HLn.out, show ln + sizJ t = nl by unfold sizJ; rw [HPl.out, HN2l.out]]
          exact g1
        · exact HLE.out.grew g2 fun g hg => (World.ownsRow.lt HL4.out g hg).2
        · exact HD34.out.symm.grew g2 fun g hg => (World.ownsRow.lt HP4.out.2.choose_spec.1 g hg).2
      have HW5 := Lib.hid hw5
      clear g1 g2 hw5
      go_wp2_with fail
      go_roundw
      case rel => exact ⟨k + 1, ts ++ [t], by omega, by go_num, HW5, hB5, Lib.hid (by rw [HS.out, sel_take HTk.out (by rw [HCn.out]; exact h9) HE0.out]), Lib.hid (by intro u hu; rcases List.mem_append.1 hu with hu | hu; exact HGd.out u hu; rw [List.mem_singleton.1 hu]; exact HGt.out), by rw [List.length_append, HCn.out]; simp; omega⟩
      case measure => simp [intOf]; omega
    · have HF := Lib.hid (show selJ [] nodes = ts by rw [HS.out, List.drop_of_length_le (by omega)]; rfl)
      go_wp2_with fail
      exact bodyPost_ret (v := .tuple #[u6, u7, u8, .bool true]) (by simp [results, Tryd.results15, go_sem]) rfl ⟨u6, u7, u8, rfl, by rw [HF.out]; exact HW.out, hB⟩
end Go.Proofs.YthbfmioikbphgaaDoor
