/- The reference's decoder (at most 1048576 bytes): node, Decode. -/
import Derived.Test.YthbfmioikbphgaaDoorRDa
import Derived.Test.YthbfmioikbphgaaDoorJoC
namespace Go.Proofs.YthbfmioikbphgaaDoor
set_option maxRecDepth 100000
open Go.RowKit

theorem PK.set {w : World} {B n g o : Nat} {u v : Value} {ts : List NodeT} (h : PK w B u n ts) (hg : g < B) : PK (w.setCell ⟨g, o, none⟩ v) B u n ts := by
  obtain ⟨h0, cs, h1, h2⟩ := h
  refine ⟨h0, cs, h1.at fun b hb => ?_, h2.keep (by simp) fun b h h3 => ⟨h, ?_⟩⟩
  · exact heap_setCell_other w ⟨g, o, none⟩ b v (fun e => by have := (World.ownsRow.lt h1 b hb).1; simp at e; omega)
  · exact heap_setCell_other w ⟨g, o, none⟩ b v (fun e => by have := h.1; simp at e; omega)
theorem nodeS_alloc2 {S : Nat → Prop} {w : World} {t : NodeT} {v : Value} (h : NodeS S w t v) (o : Obj) : NodeS S (w.alloc o) t v := by
  have hb : Below w.heap.size w (w.alloc o) := (Below.refl _ _).alloc (Nat.le_refl _) _
  exact h.keep hb.size fun b h1 h2 => ⟨h1, hb.block b h2⟩
/-- what node returns -/
def NPr (w : World) (len : Nat) : Except Int (NodeT × List UInt8) → Ending → World → Prop
  | .error x, e, w' => e = .returned (.tuple #[.agg #[.int .i64 0, .int .i64 0, .int .i64 0, .string ⟨#[]⟩, .slice none 0 0], .int .i64 0, .int .i64 x]) ∧ Below w.heap.size w w'
  | .ok (t, l), e, w' => ∃ nv, e = .returned (.tuple #[nv, .int .i64 ((len - l.length : Nat) : Int), .int .i64 0]) ∧ NodeS (fun b => w.heap.size ≤ b) w' t nv ∧ Below w.heap.size w w'
theorem npr_err {w w' : World} {len : Nat} {r : Except Int (NodeT × List UInt8)} {x : Int} {e : Ending} (h : r = .error x) (h1 : e = .returned (.tuple #[.agg #[.int .i64 0, .int .i64 0, .int .i64 0, .string ⟨#[]⟩, .slice none 0 0], .int .i64 0, .int .i64 x])) (hb : Below w.heap.size w w') : NPr w len r e w' := by
  subst h; exact ⟨h1, hb⟩
theorem npr_ok {w w' : World} {len n : Nat} {r : Except Int (NodeT × List UInt8)} {t : NodeT} {l : List UInt8} {nv : Value} {e : Ending} (h : r = .ok (t, l)) (hn : len - l.length = n) (h1 : e = .returned (.tuple #[nv, .int .i64 (n : Int), .int .i64 0])) (hN : NodeS (fun b => w.heap.size ≤ b) w' t nv) (hb : Below w.heap.size w w') : NPr w len r e w' := by
  subst h; subst hn; exact ⟨nv, h1, hN, hb⟩
theorem vDec_suf {e : Int} : ∀ (l : List UInt8) (i acc x : Nat) (r : List UInt8), vDec e i acc l = .ok (x, r) → ∃ p, p ≠ [] ∧ l = p ++ r
  | [], i, acc, x, r, h => by simp [vDec] at h
  | c :: l, i, acc, x, r, h => by
    simp only [vDec] at h
    split at h
    · cases h
    · split at h
      · cases h; exact ⟨[c], by simp, rfl⟩
      · obtain ⟨p, -, hp⟩ := vDec_suf l _ _ _ _ h
        exact ⟨c :: p, by simp, by rw [hp]; rfl⟩
theorem drop_suf {bs p r : List UInt8} {at0 len : Nat} (hl : bs.length = len) (h : bs.drop at0 = p ++ r) (ha : at0 ≤ len) : bs.drop (len - r.length) = r ∧ len - r.length ≤ len ∧ (len - r.length) + r.length = len := by
  have hlen := congrArg List.length h
  rw [List.length_drop, List.length_append, hl] at hlen
  have e : bs = bs.take at0 ++ p ++ r := by rw [List.append_assoc, ← h, List.take_append_drop]
  refine ⟨?_, by omega, by omega⟩
  have hp : (bs.take at0 ++ p).length = len - r.length := by rw [List.length_append, List.length_take, hl]; omega
  conv => lhs; rw [e]
  rw [← hp, List.drop_left]

set_option maxHeartbeats 16000000 in
theorem rnode_any : ∀ (f lv : Nat), f + lv = 9 → ∀ (bs : List UInt8) (at0 : Nat) (a : Option Addr) (len cap : Nat) (w : World), Bytes w a len cap bs → len ≤ 1048576 → at0 ≤ len →
    Calls Tryd.prog 72 #[.slice a len cap, .int .i64 (at0 : Int), .int .i64 (lv : Int)] w (NPr w len (nodeD 4 f (bs.drop at0))) := by
  intro f
  induction f with
  | zero =>
    intro lv hf bs at0 a len cap w hx hl ha
    have d8 : decide (8 < (lv : Int)) = true := by simp; omega
    have hb1 : Below w.heap.size w (w.alloc (.cells #[.int .i64 0, .int .i64 0, .int .i64 0, .string ⟨#[]⟩, .slice none 0 0] 25)) := (Below.refl _ _).alloc (Nat.le_refl _) _
    clear hx
    go_enter Tryd.func72, Tryd.ntmps72
    go_wp2_with fail
    exact bodyPost_ret (v := .tuple #[.agg #[.int .i64 0, .int .i64 0, .int .i64 0, .string ⟨#[]⟩, .slice none 0 0], .int .i64 0, .int .i64 5]) (by simp [results, Tryd.results72, go_sem]) rfl (npr_err rfl rfl hb1)
  | succ f ih =>
    intro lv hf bs at0 a len cap w hx hl ha
    have d8 : decide (8 < (lv : Int)) = false := by simp; omega
    have HLv := Lib.hid (show (lv : Int) + 1 = ((lv + 1 : Nat) : Int) by omega)
    have hb1 : Below w.heap.size w (w.alloc (.cells #[.int .i64 0, .int .i64 0, .int .i64 0, .string ⟨#[]⟩, .slice none 0 0] 25)) := (Below.refl _ _).alloc (Nat.le_refl _) _
    have HX := Lib.hid hx
    have HX1 := Lib.hid (hx.below hb1)
    have hlc := hx.2.1
    have HL := Lib.hid hx.1
    have hn1 := rnumber_any bs at0 a len cap _ HX1.out hl ha
    clear hx
    cases hv1 : vDec 4 0 0 (bs.drop at0) with
    | error x =>
      have hx0 := vDec_ne (by decide) _ _ _ hv1
      have dx : (x != 0) = true := by simpa using hx0
      have HE := Lib.hid (nodeD_tag (f := f) hv1)
      rw [hv1] at hn1
      have HN1 := Lib.hid hn1
      clear hn1 hv1 hx0
      go_enter Tryd.func72, Tryd.ntmps72
      go_wp2_with fail
      refine (HN1.out).mono ?_
      rintro e w1 ⟨hq, rfl⟩
      cases hq
      go_wp2_with fail
      exact bodyPost_ret (v := .tuple #[.agg #[.int .i64 0, .int .i64 0, .int .i64 0, .string ⟨#[]⟩, .slice none 0 0], .int .i64 0, .int .i64 x]) (by simp [results, Tryd.results72, go_sem]) rfl (npr_err HE.out rfl hb1)
    | ok r =>
      obtain ⟨T, l1⟩ := r
      rw [hv1] at hn1
      have HN1 := Lib.hid hn1
      have hT64 := vDec_lt hv1
      obtain ⟨p1, -, hp1⟩ := vDec_suf _ _ _ _ _ hv1
      obtain ⟨hd1, hat1, hal1⟩ := drop_suf HL.out hp1 ha
      clear hn1 hp1
      by_cases hT : 9999999 < T
      · have dT : decide (9999999 < (T : Int)) = true := by simp; omega
        have HE := Lib.hid (nodeD_big (f := f) hv1 hT)
        generalize len - l1.length = at1 at *
        clear hv1
        go_enter Tryd.func72, Tryd.ntmps72
        go_wp2_with fail
        refine (HN1.out).mono ?_
        rintro e w1 ⟨hq, rfl⟩
        cases hq
        go_wp2_with fail
        exact bodyPost_ret (v := .tuple #[.agg #[.int .i64 0, .int .i64 0, .int .i64 0, .string ⟨#[]⟩, .slice none 0 0], .int .i64 0, .int .i64 3]) (by simp [results, Tryd.results72, go_sem]) rfl (npr_err HE.out rfl hb1)
      have dT : decide (9999999 < (T : Int)) = false := by simp; omega
      cases l1 with
      | nil =>
        have HE := Lib.hid (nodeD_nil (f := f) hv1 hT)
        simp only [List.length_nil, Nat.sub_zero] at HN1 hat1 hal1
        clear hv1
        go_enter Tryd.func72, Tryd.ntmps72
        go_wp2_with fail
        refine (HN1.out).mono ?_
        rintro e w1 ⟨hq, rfl⟩
        cases hq
        go_wp2_with fail
        refine (need_no len 1 len cap a _ hl (Nat.le_refl _) (by omega)).mono ?_
        rintro e w1 ⟨rfl, rfl⟩
        go_wp2_with fail
        exact bodyPost_ret (v := .tuple #[.agg #[.int .i64 0, .int .i64 0, .int .i64 0, .string ⟨#[]⟩, .slice none 0 0], .int .i64 0, .int .i64 4]) (by simp [results, Tryd.results72, go_sem]) rfl (npr_err HE.out rfl hb1)
      | cons k l2 =>
        generalize hA : len - (k :: l2).length = at1 at *
        have hn1 : Calls Tryd.prog 78 #[.slice a len cap, .int .i64 (at0 : Int)] (w.alloc (.cells #[.int .i64 0, .int .i64 0, .int .i64 0, .string ⟨#[]⟩, .slice none 0 0] 25)) fun e w' => e = .returned (.tuple #[.int .u64 (T : Int), .int .i64 (at1 : Int), .int .i64 0]) ∧ (w.alloc (.cells #[.int .i64 0, .int .i64 0, .int .i64 0, .string ⟨#[]⟩, .slice none 0 0] 25)) = w' := by have h := HN1.out; rw [← hA]; exact h
        have HM1 := Lib.hid hn1
        simp only [List.length_cons] at hal1
        have hk1 : bs.getD at1 0 = k := by
          have h : (bs.drop at1)[0]? = some k := by rw [hd1]; rfl
          rw [List.getElem?_drop] at h
          simp at h
          simp [List.getD, h]
        have hd2 : bs.drop (at1 + 1) = l2 := by rw [← List.drop_drop, hd1]; rfl
        obtain ⟨b, off, rfl, hbl, hcc⟩ := HX1.out.2.at (k := at1) (by omega)
        have y0 := hcc at1 (by omega) _ (Below.refl _ _)
        rw [hk1] at y0
        clear hcc hk1 hn1 HN1 hA hd1
        have hneed : at1 + 1 ≤ len := by omega
        have HAti := Lib.hid (show (at1 : Int) + 1 = ((at1 + 1 : Nat) : Int) by omega)
        have hwT : IntKind.i64.wrap (T : Int) = (T : Int) := by rw [IntWalk.i64_in _ (by omega)]
        have hk256 : k.toNat < 256 := k.toNat_lt
        generalize hkk : k.toNat = kb at *
        have hb2 : Below w.heap.size w ((w.alloc (.cells #[.int .i64 0, .int .i64 0, .int .i64 0, .string ⟨#[]⟩, .slice none 0 0] 25)).alloc (.cells #[.int .i64 (T : Int), .int .i64 (kb : Int), .int .i64 0, .string ⟨#[]⟩, .slice none 0 0] 25)) := hb1.alloc (by simp) _
        by_cases hk0 : kb < 1 ∨ 3 < kb
        · have HE := Lib.hid (nodeD_kind (f := f) hv1 hT (by rw [hkk]; exact hk0))
          clear hv1
          rcases hk0 with hk0 | hk0
          · have dk : decide ((kb : Int) < 1) = true := by simp; omega
            go_enter Tryd.func72, Tryd.ntmps72
            go_wp2_with fail
            refine (HM1.out).mono ?_
            rintro e w1 ⟨rfl, rfl⟩
            go_wp2_with fail
            refine (need_ok at1 1 len cap (some ⟨b, off, none⟩) _ hl (by omega) hneed).mono ?_
            rintro e w1 ⟨rfl, rfl⟩
            go_wp2_with fail
            exact bodyPost_ret (v := .tuple #[.agg #[.int .i64 0, .int .i64 0, .int .i64 0, .string ⟨#[]⟩, .slice none 0 0], .int .i64 0, .int .i64 2]) (by simp [results, Tryd.results72, go_sem]) rfl (npr_err HE.out rfl hb2)
          · have dk : decide ((kb : Int) < 1) = false := by simp; omega
            have dk3 : decide (3 < (kb : Int)) = true := by simp; omega
            go_enter Tryd.func72, Tryd.ntmps72
            go_wp2_with fail
            refine (HM1.out).mono ?_
            rintro e w1 ⟨rfl, rfl⟩
            go_wp2_with fail
            refine (need_ok at1 1 len cap (some ⟨b, off, none⟩) _ hl (by omega) hneed).mono ?_
            rintro e w1 ⟨rfl, rfl⟩
            go_wp2_with fail
            exact bodyPost_ret (v := .tuple #[.agg #[.int .i64 0, .int .i64 0, .int .i64 0, .string ⟨#[]⟩, .slice none 0 0], .int .i64 0, .int .i64 2]) (by simp [results, Tryd.results72, go_sem]) rfl (npr_err HE.out rfl hb2)
        have dk : decide ((kb : Int) < 1) = false := by simp; omega
        have dk3 : decide (3 < (kb : Int)) = false := by simp; omega
        have HX2 := Lib.hid (HX1.out.below (show Below ((w.alloc (.cells #[.int .i64 0, .int .i64 0, .int .i64 0, .string ⟨#[]⟩, .slice none 0 0] 25))).heap.size (w.alloc (.cells #[.int .i64 0, .int .i64 0, .int .i64 0, .string ⟨#[]⟩, .slice none 0 0] 25)) ((w.alloc (.cells #[.int .i64 0, .int .i64 0, .int .i64 0, .string ⟨#[]⟩, .slice none 0 0] 25)).alloc (.cells #[.int .i64 (T : Int), .int .i64 (kb : Int), .int .i64 0, .string ⟨#[]⟩, .slice none 0 0] 25)) from (Below.refl _ _).alloc (Nat.le_refl _) _))
        have hn2 := rnumber_any bs (at1 + 1) (some ⟨b, off, none⟩) len cap _ HX2.out hl hneed
        rw [hd2] at hn2
        cases hv2 : vDec 4 0 0 l2 with
        | error x =>
          have hx0 := vDec_ne (by decide) _ _ _ hv2
          have dx : (x != 0) = true := by simpa using hx0
          have HE := Lib.hid (nodeD_num (f := f) hv1 hT (by rw [hkk]; exact hk0) hv2)
          rw [hv2] at hn2
          have HN2 := Lib.hid hn2
          clear hn2 hv1 hv2 hx0
          go_enter Tryd.func72, Tryd.ntmps72
          go_wp2_with fail
          refine (HM1.out).mono ?_
          rintro e w1 ⟨rfl, rfl⟩
          go_wp2_with fail
          refine (need_ok at1 1 len cap (some ⟨b, off, none⟩) _ hl (by omega) hneed).mono ?_
          rintro e w1 ⟨rfl, rfl⟩
          go_wp2_with fail
          rw [HAti.out]
          refine (HN2.out).mono ?_
          rintro e w1 ⟨hq, rfl⟩
          cases hq
          go_wp2_with fail
          exact bodyPost_ret (v := .tuple #[.agg #[.int .i64 0, .int .i64 0, .int .i64 0, .string ⟨#[]⟩, .slice none 0 0], .int .i64 0, .int .i64 x]) (by simp [results, Tryd.results72, go_sem]) rfl (npr_err HE.out rfl hb2)
        | ok r =>
          obtain ⟨x, l3⟩ := r
          rw [hv2] at hn2
          have hx64 := vDec_lt hv2
          obtain ⟨p2, -, hp2⟩ := vDec_suf _ _ _ _ _ hv2
          obtain ⟨hd3, hat3, hal3⟩ := drop_suf (p := p2) (r := l3) HL.out (show bs.drop (at1 + 1) = p2 ++ l3 by rw [hd2, hp2]) hneed
          have HBo := Lib.hid (nodeD_body (f := f) hv1 hT (by rw [hkk]; exact hk0) hv2)
          rw [hkk] at HBo
          generalize hA : len - l3.length = at2 at *
          have HAt := Lib.hid hA
          have hn3 : Calls Tryd.prog 78 #[.slice (some ⟨b, off, none⟩) len cap, .int .i64 ((at1 + 1 : Nat) : Int)] ((w.alloc (.cells #[.int .i64 0, .int .i64 0, .int .i64 0, .string ⟨#[]⟩, .slice none 0 0] 25)).alloc (.cells #[.int .i64 (T : Int), .int .i64 (kb : Int), .int .i64 0, .string ⟨#[]⟩, .slice none 0 0] 25)) fun e w' => e = .returned (.tuple #[.int .u64 (x : Int), .int .i64 (at2 : Int), .int .i64 0]) ∧ ((w.alloc (.cells #[.int .i64 0, .int .i64 0, .int .i64 0, .string ⟨#[]⟩, .slice none 0 0] 25)).alloc (.cells #[.int .i64 (T : Int), .int .i64 (kb : Int), .int .i64 0, .string ⟨#[]⟩, .slice none 0 0] 25)) = w' := by have h := hn2; rw [← hA]; exact h
          have HM2 := Lib.hid hn3
          clear hn2 hn3 hv1 hv2 hp2 hA hd2
          by_cases hk1 : kb = 1
          · have d1 : ((kb : Int) == 1) = true := by simp; omega
            have d1' : (kb == 1) = true := by simp; omega
            have HE := Lib.hid (show nodeD 4 (f + 1) (bs.drop at0) = .ok (.mk (T : Int) 1 (unfoldN x) [] [], l3) by rw [HBo.out, hk1]; rfl)
            have HK1 := Lib.hid (show (kb : Int) = 1 by omega)
            obtain ⟨h, hh⟩ : ∃ h, h = x / 2 := ⟨_, rfl⟩
            have e1 : (x : Int) / 2 = (h : Int) := by omega
            have e3 : IntKind.i64.wrap (h : Int) = (h : Int) := by rw [IntWalk.i64_in _ (by omega)]
            have hN : ∀ (W : World), NodeS (fun b => w.heap.size ≤ b) W (.mk (T : Int) 1 (unfoldN x) [] []) (.agg #[.int .i64 (T : Int), .int .i64 (kb : Int), .int .i64 (unfoldN x), .string ⟨#[]⟩, .slice none 0 0]) := fun W => by
              rw [HK1.out]
              simp only [NodeS]
              exact ⟨none, 0, 0, rfl, by simp, rfl, Nat.le_refl _, by simp [maxLen], fun _ => rfl, .inl rfl⟩
            have HNo := Lib.hid hN
            by_cases hx2 : x % 2 = 1
            · have e2 : (x : Int) % 2 = 1 := by omega
              have HU := Lib.hid (show unfoldN x = -(h : Int) - 1 by unfold unfoldN; rw [if_neg (by omega), ← hh])
              rw [HU.out] at HNo HE
              clear hN hk1 hh
              go_enter Tryd.func72, Tryd.ntmps72
              go_wp2_with fail
              refine (HM1.out).mono ?_
              rintro e w1 ⟨rfl, rfl⟩
              go_wp2_with fail
              refine (need_ok at1 1 len cap (some ⟨b, off, none⟩) _ hl (by omega) hneed).mono ?_
              rintro e w1 ⟨rfl, rfl⟩
              go_wp2_with fail
              rw [HAti.out]
              refine (HM2.out).mono ?_
              rintro e w1 ⟨rfl, rfl⟩
              go_wp2_with fail
              exact bodyPost_ret (v := .tuple #[.agg #[.int .i64 (T : Int), .int .i64 (kb : Int), .int .i64 (-(h : Int) - 1), .string ⟨#[]⟩, .slice none 0 0], .int .i64 (at2 : Int), .int .i64 0]) (by simp [results, Tryd.results72, go_sem]) rfl (npr_ok HE.out HAt.out rfl (HNo.out _) (((Below.refl _ _).alloc (Nat.le_refl _) _).alloc (by simp) _))
            · have e2 : (x : Int) % 2 = 0 := by omega
              have HU := Lib.hid (show unfoldN x = (h : Int) by unfold unfoldN; rw [if_pos (by omega), ← hh])
              rw [HU.out] at HNo HE
              clear hN hk1 hh
              go_enter Tryd.func72, Tryd.ntmps72
              go_wp2_with fail
              refine (HM1.out).mono ?_
              rintro e w1 ⟨rfl, rfl⟩
              go_wp2_with fail
              refine (need_ok at1 1 len cap (some ⟨b, off, none⟩) _ hl (by omega) hneed).mono ?_
              rintro e w1 ⟨rfl, rfl⟩
              go_wp2_with fail
              rw [HAti.out]
              refine (HM2.out).mono ?_
              rintro e w1 ⟨rfl, rfl⟩
              go_wp2_with fail
              exact bodyPost_ret (v := .tuple #[.agg #[.int .i64 (T : Int), .int .i64 (kb : Int), .int .i64 (h : Int), .string ⟨#[]⟩, .slice none 0 0], .int .i64 (at2 : Int), .int .i64 0]) (by simp [results, Tryd.results72, go_sem]) rfl (npr_ok HE.out HAt.out rfl (HNo.out _) (((Below.refl _ _).alloc (Nat.le_refl _) _).alloc (by simp) _))
          have d1 : ((kb : Int) == 1) = false := by simp; omega
          have d1' : (kb == 1) = false := by simp; omega
          have hRz := heap_alloc_new w (.cells #[.int .i64 0, .int .i64 0, .int .i64 0, .string ⟨#[]⟩, .slice none 0 0] 25)
          have hR2 : (((w.alloc (.cells #[.int .i64 0, .int .i64 0, .int .i64 0, .string ⟨#[]⟩, .slice none 0 0] 25)).alloc (.cells #[.int .i64 (T : Int), .int .i64 (kb : Int), .int .i64 0, .string ⟨#[]⟩, .slice none 0 0] 25))).heap[w.heap.size]? = some (.cells #[.int .i64 0, .int .i64 0, .int .i64 0, .string ⟨#[]⟩, .slice none 0 0] 25) := ((Below.refl ((w.alloc (.cells #[.int .i64 0, .int .i64 0, .int .i64 0, .string ⟨#[]⟩, .slice none 0 0] 25))).heap.size ((w.alloc (.cells #[.int .i64 0, .int .i64 0, .int .i64 0, .string ⟨#[]⟩, .slice none 0 0] 25)))).alloc (Nat.le_refl _) _).block _ (blk_lt hRz) |>.trans hRz
          have HRz := Lib.hid hR2
          clear hRz hR2
          by_cases hk2 : kb = 2
          · have d2 : ((kb : Int) == 2) = true := by simp; omega
            have d2' : (kb == 2) = true := by simp; omega
            have hl3 := hal3
            by_cases hbig : 2000 < x
            · have HE := Lib.hid (show nodeD 4 (f + 1) (bs.drop at0) = .error 5 by rw [HBo.out, hk2]; simp [bodyD, hbig])
              clear hk1 hk2
              go_enter Tryd.func72, Tryd.ntmps72
              go_wp2_with fail
              refine (HM1.out).mono ?_
              rintro e w1 ⟨rfl, rfl⟩
              go_wp2_with fail
              refine (need_ok at1 1 len cap (some ⟨b, off, none⟩) _ hl (by omega) hneed).mono ?_
              rintro e w1 ⟨rfl, rfl⟩
              go_wp2_with fail
              rw [HAti.out]
              refine (HM2.out).mono ?_
              rintro e w1 ⟨rfl, rfl⟩
              go_wp2_with fail
              refine (rtext_long (T : Int) (kb : Int) x at2 len cap (some ⟨b, off, none⟩) _ hbig).mono ?_
              rintro e w3 ⟨rfl, hb3⟩
              have hR3 := (hb3.block _ (blk_lt HRz.out)).trans HRz.out
              have z0 := blk_cell hR3 0
              have z1 := blk_cell hR3 1
              have z2 := blk_cell hR3 2
              have z3 := blk_cell hR3 3
              have z4 := blk_cell hR3 4
              simp at z0 z1 z2 z3 z4
              have g0 := blk_free hR3 0
              have g1 := blk_free hR3 1
              have g2 := blk_free hR3 2
              have g3 := blk_free hR3 3
              have g4 := blk_free hR3 4
              have hb4 := hb2.trans (hb3.mono hb2.size)
              clear hR3
              go_wp2_with fail
              exact bodyPost_ret (v := .tuple #[.agg #[.int .i64 0, .int .i64 0, .int .i64 0, .string ⟨#[]⟩, .slice none 0 0], .int .i64 0, .int .i64 5]) (by simp [results, Tryd.results72, go_sem, z0, z1, z2, z3, z4]) rfl (npr_err HE.out rfl (below_set5 hb4 (Nat.le_refl _) _ _ _ _ _))
            by_cases hshort : at2 + x ≤ len
            rotate_left
            · have HE := Lib.hid (show nodeD 4 (f + 1) (bs.drop at0) = .error 4 by rw [HBo.out, hk2]; unfold bodyD; rw [if_neg (by decide), if_pos rfl, if_neg hbig, if_pos (by omega)])
              clear hk1 hk2
              go_enter Tryd.func72, Tryd.ntmps72
              go_wp2_with fail
              refine (HM1.out).mono ?_
              rintro e w1 ⟨rfl, rfl⟩
              go_wp2_with fail
              refine (need_ok at1 1 len cap (some ⟨b, off, none⟩) _ hl (by omega) hneed).mono ?_
              rintro e w1 ⟨rfl, rfl⟩
              go_wp2_with fail
              rw [HAti.out]
              refine (HM2.out).mono ?_
              rintro e w1 ⟨rfl, rfl⟩
              go_wp2_with fail
              refine (rtext_cut (T : Int) (kb : Int) x at2 len cap (some ⟨b, off, none⟩) _ hl hat3 hbig hshort).mono ?_
              rintro e w3 ⟨rfl, hb3⟩
              have hR3 := (hb3.block _ (blk_lt HRz.out)).trans HRz.out
              have z0 := blk_cell hR3 0
              have z1 := blk_cell hR3 1
              have z2 := blk_cell hR3 2
              have z3 := blk_cell hR3 3
              have z4 := blk_cell hR3 4
              simp at z0 z1 z2 z3 z4
              have g0 := blk_free hR3 0
              have g1 := blk_free hR3 1
              have g2 := blk_free hR3 2
              have g3 := blk_free hR3 3
              have g4 := blk_free hR3 4
              have hb4 := hb2.trans (hb3.mono hb2.size)
              clear hR3
              go_wp2_with fail
              exact bodyPost_ret (v := .tuple #[.agg #[.int .i64 0, .int .i64 0, .int .i64 0, .string ⟨#[]⟩, .slice none 0 0], .int .i64 0, .int .i64 4]) (by simp [results, Tryd.results72, go_sem, z0, z1, z2, z3, z4]) rfl (npr_err HE.out rfl (below_set5 hb4 (Nat.le_refl _) _ _ _ _ _))
            have HE := Lib.hid (show nodeD 4 (f + 1) (bs.drop at0) = .ok (.mk (T : Int) 2 0 (l3.take x) [], l3.drop x) by rw [HBo.out, hk2]; unfold bodyD; rw [if_neg (by decide), if_pos rfl, if_neg hbig, if_neg (by omega)])
            have HK2 := Lib.hid (show (kb : Int) = 2 by omega)
            have HAx := Lib.hid (show len - (l3.drop x).length = at2 + x by rw [List.length_drop]; omega)
            have hN : ∀ (W : World), NodeS (fun b => w.heap.size ≤ b) W (.mk (T : Int) 2 0 (l3.take x) []) (.agg #[.int .i64 (T : Int), .int .i64 (kb : Int), .int .i64 0, .string ⟨(l3.take x).toArray⟩, .slice none 0 0]) := fun W => by
              rw [HK2.out]
              simp only [NodeS]
              exact ⟨none, 0, 0, rfl, by rw [List.length_take]; simp only [maxLen]; omega, rfl, Nat.le_refl _, by simp [maxLen], fun _ => rfl, .inl rfl⟩
            have HNo := Lib.hid hN
            have htx := rtext_ok bs (T : Int) (kb : Int) x at2 len cap (some ⟨b, off, none⟩) _ HX2.out hl hat3 hbig hshort
            rw [hd3] at htx
            have HTx := Lib.hid htx
            clear htx hN hk1 hk2
            go_enter Tryd.func72, Tryd.ntmps72
            go_wp2_with fail
            refine (HM1.out).mono ?_
            rintro e w1 ⟨rfl, rfl⟩
            go_wp2_with fail
            refine (need_ok at1 1 len cap (some ⟨b, off, none⟩) _ hl (by omega) hneed).mono ?_
            rintro e w1 ⟨rfl, rfl⟩
            go_wp2_with fail
            rw [HAti.out]
            refine (HM2.out).mono ?_
            rintro e w1 ⟨rfl, rfl⟩
            go_wp2_with fail
            refine (HTx.out).mono ?_
            rintro e w3 ⟨rfl, hb3⟩
            have hR3 := (hb3.block _ (blk_lt HRz.out)).trans HRz.out
            have z0 := blk_cell hR3 0
            have z1 := blk_cell hR3 1
            have z2 := blk_cell hR3 2
            have z3 := blk_cell hR3 3
            have z4 := blk_cell hR3 4
            simp at z0 z1 z2 z3 z4
            have g0 := blk_free hR3 0
            have g1 := blk_free hR3 1
            have g2 := blk_free hR3 2
            have g3 := blk_free hR3 3
            have g4 := blk_free hR3 4
            have hb4 := hb2.trans (hb3.mono hb2.size)
            clear hR3
            go_wp2_with fail
            exact bodyPost_ret (v := .tuple #[.agg #[.int .i64 (T : Int), .int .i64 (kb : Int), .int .i64 0, .string ⟨(l3.take x).toArray⟩, .slice none 0 0], .int .i64 ((at2 + x : Nat) : Int), .int .i64 0]) (by simp [results, Tryd.results72, go_sem, z0, z1, z2, z3, z4]) rfl (npr_ok HE.out HAx.out rfl (HNo.out _) (below_set5 hb4 (Nat.le_refl _) _ _ _ _ _))
          have d2 : ((kb : Int) == 2) = false := by simp; omega
          have d2' : (kb == 2) = false := by simp; omega
          have hk3 : kb = 3 := by omega
          by_cases hbig : 1024 < x
          · have HE := Lib.hid (show nodeD 4 (f + 1) (bs.drop at0) = .error 5 by rw [HBo.out, hk3]; unfold bodyD; rw [if_neg (by decide), if_neg (by decide), if_pos hbig])
            have d3 : decide (1024 < (x : Int)) = true := by simp; omega
            clear hk1 hk2 hk3
            go_enter Tryd.func72, Tryd.ntmps72
            go_wp2_with fail
            refine (HM1.out).mono ?_
            rintro e w1 ⟨rfl, rfl⟩
            go_wp2_with fail
            refine (need_ok at1 1 len cap (some ⟨b, off, none⟩) _ hl (by omega) hneed).mono ?_
            rintro e w1 ⟨rfl, rfl⟩
            go_wp2_with fail
            rw [HAti.out]
            refine (HM2.out).mono ?_
            rintro e w1 ⟨rfl, rfl⟩
            go_wp2_with fail
            exact bodyPost_ret (v := .tuple #[.agg #[.int .i64 0, .int .i64 0, .int .i64 0, .string ⟨#[]⟩, .slice none 0 0], .int .i64 0, .int .i64 5]) (by simp [results, Tryd.results72, go_sem]) rfl (npr_err HE.out rfl hb2)
          have d3 : decide (1024 < (x : Int)) = false := by simp; omega
          have HD0 := Lib.hid (show nodeD 4 (f + 1) (bs.drop at0) = fin3 T (repK [] (repD (nodeD 4 f) (x - 0) (bs.drop at2))) by rw [HBo.out, hk3, hd3]; exact body3 hbig)
          have HK3 := Lib.hid (show (kb : Int) = 3 by omega)
          have hwx : IntKind.i64.wrap (x : Int) = (x : Int) := by rw [IntWalk.i64_in _ (by omega)]
          have HOz := Lib.hid (show (((w.alloc (.cells #[.int .i64 0, .int .i64 0, .int .i64 0, .string ⟨#[]⟩, .slice none 0 0] 25)).alloc (.cells #[.int .i64 (T : Int), .int .i64 (kb : Int), .int .i64 0, .string ⟨#[]⟩, .slice none 0 0] 25))).heap[w.heap.size + 1]? = some (.cells #[.int .i64 (T : Int), .int .i64 (kb : Int), .int .i64 0, .string ⟨#[]⟩, .slice none 0 0] 25) from alloc_at (by simp))
          have hs2 : w.heap.size + 1 < (((w.alloc (.cells #[.int .i64 0, .int .i64 0, .int .i64 0, .string ⟨#[]⟩, .slice none 0 0] 25)).alloc (.cells #[.int .i64 (T : Int), .int .i64 (kb : Int), .int .i64 0, .string ⟨#[]⟩, .slice none 0 0] 25))).heap.size := by simp
          clear hk1 hk2 hk3 hd3
          go_enter Tryd.func72, Tryd.ntmps72
          go_wp2_with fail
          refine (HM1.out).mono ?_
          rintro e w1 ⟨rfl, rfl⟩
          go_wp2_with fail
          refine (need_ok at1 1 len cap (some ⟨b, off, none⟩) _ hl (by omega) hneed).mono ?_
          rintro e w1 ⟨rfl, rfl⟩
          go_wp2_with fail
          rw [HAti.out]
          refine (HM2.out).mono ?_
          rintro e w1 ⟨rfl, rfl⟩
          go_wp2_with fail
          generalize ((w.alloc (.cells #[.int .i64 0, .int .i64 0, .int .i64 0, .string ⟨#[]⟩, .slice none 0 0] 25)).alloc (.cells #[.int .i64 (T : Int), .int .i64 (kb : Int), .int .i64 0, .string ⟨#[]⟩, .slice none 0 0] 25)) = w2 at *
          go_loopw [1, 13] (fun p y wr => ∃ (j atj : Nat) (ts : List NodeT) (u : Value), j ≤ x ∧ atj ≤ len ∧ p = .int .i64 (atj : Int) ∧ y = .int .i64 (j : Int) ∧ Hid (PK wr w2.heap.size u j ts) ∧ Hid (wr.heap[w.heap.size + 1]? = some (.cells #[.int .i64 (T : Int), .int .i64 (kb : Int), .int .i64 0, .string ⟨#[]⟩, u] 25)) ∧ Hid (wr.heap[w.heap.size]? = some (.cells #[.int .i64 0, .int .i64 0, .int .i64 0, .string ⟨#[]⟩, .slice none 0 0] 25)) ∧ Below w.heap.size w wr ∧ w2.heap.size ≤ wr.heap.size ∧ Hid (nodeD 4 (f + 1) (bs.drop at0) = fin3 T (repK ts (repD (nodeD 4 f) (x - j) (bs.drop atj))))) (fun _ y _ => x - (intOf y).toNat)
          case atStart => exact ⟨0, at2, [], .slice none 0 0, by omega, hat3, rfl, rfl, Lib.hid (PK.nil _ _), HOz, HRz, hb2, Nat.le_refl _, HD0⟩
          case round =>
            obtain ⟨j, atj, ts, u, hj, hatj, rfl, rfl, HP, HO, HR, hB, hsz, HD⟩ := hrel
            generalize wr = wq at *
            have HXr := Lib.hid (HX.out.below hB)
            have o0 := blk_cell HO.out 0
            have o1 := blk_cell HO.out 1
            have o2 := blk_cell HO.out 2
            have o3 := blk_cell HO.out 3
            have o4 := blk_cell HO.out 4
            simp at o0 o1 o2 o3 o4
            by_cases hlt : j < x
            · obtain ⟨au, cu, rfl⟩ := HP.out.slice
              have hih := ih (lv + 1) (by omega) bs atj (some ⟨b, off, none⟩) len cap wq HXr.out hl hatj
              cases hq : nodeD 4 f (bs.drop atj) with
              | error y =>
                have hy0 := nodeD_ne (by decide) _ _ hq
                have dy : (y != 0) = true := by simpa using hy0
                have HE := Lib.hid (show nodeD 4 (f + 1) (bs.drop at0) = .error y by rw [HD.out, show x - j = (x - (j + 1)) + 1 by omega]; simp only [repD, hq]; rfl)
                rw [hq] at hih
                have HI := Lib.hid hih
                clear hih hq hy0
                go_wp2_with fail
                rw [HLv.out]
                refine (HI.out).mono ?_
                rintro e w3 ⟨rfl, hb3⟩
                clear o0 o1 o2 o3 o4
                have hR3 := (hb3.block _ (blk_lt HR.out)).trans HR.out
                have hlz := blk_lt hR3
                have z0 := blk_cell hR3 0
                have z1 := blk_cell hR3 1
                have z2 := blk_cell hR3 2
                have z3 := blk_cell hR3 3
                have z4 := blk_cell hR3 4
                simp at z0 z1 z2 z3 z4
                have g0 := blk_free hR3 0
                have g1 := blk_free hR3 1
                have g2 := blk_free hR3 2
                have g3 := blk_free hR3 3
                have g4 := blk_free hR3 4
                have hb4 := hB.trans (hb3.mono hB.size)
                clear hR3
                go_wp2_with fail
                exact bodyPost_ret (v := .tuple #[.agg #[.int .i64 0, .int .i64 0, .int .i64 0, .string ⟨#[]⟩, .slice none 0 0], .int .i64 0, .int .i64 y]) (by simp [results, Tryd.results72, go_sem, World.cell?_alloc_lt, hlz, z0, z1, z2, z3, z4]) rfl (npr_err HE.out rfl (by first | exact below_set5 (hb4.alloc (Nat.le_trans hB.size hb3.size) _) (Nat.le_refl _) _ _ _ _ _ | exact (below_set5 hb4 (Nat.le_refl _) _ _ _ _ _).alloc (by simp; exact Nat.le_trans hB.size hb3.size) _))
              | ok r =>
                obtain ⟨t, l4⟩ := r
                obtain ⟨-, -, hp4⟩ := node_made 4 f _ t l4 (by omega) hq
                obtain ⟨hd4, hat4, hal4⟩ := drop_suf HL.out hp4 hatj
                have HD2 := Lib.hid (show nodeD 4 (f + 1) (bs.drop at0) = fin3 T (repK (ts ++ [t]) (repD (nodeD 4 f) (x - (j + 1)) (bs.drop (len - l4.length)))) by rw [HD.out, show x - j = (x - (j + 1)) + 1 by omega, rep_step hq, hd4])
                rw [hq] at hih
                have HI := Lib.hid hih
                have hin := HP.out.in
                have HIn := Lib.hid hin
                obtain ⟨hTl, cs, hOK, hC⟩ := HP.out
                clear hih hq hp4 hd4 hal4 hin
                go_wp2_with fail
                rw [HLv.out]
                refine (HI.out).mono ?_
                rintro e w3 ⟨nv, rfl, hN, hb3⟩
                obtain ⟨n0, n1, n2, n3, n4, n5, n6, rfl⟩ := hN.vals
                generalize len - l4.length = at4 at *
                have hb4 := hB.trans (hb3.mono hB.size)
                have hsz3 := hb3.size
                have hbk : Below w3.heap.size w3 (w3.alloc (.cells #[.int .i64 n0, .int .i64 n1, .int .i64 n2, .string ⟨n3.toArray⟩, .slice n4 n5 n6] 25)) := (Below.refl _ _).alloc (Nat.le_refl _) _
                have HOK := Lib.hid ((hOK.later hb3).later hbk)
                have HC := Lib.hid ((hC.keep (S' := fun b => w2.heap.size ≤ b ∧ some b ≠ (Value.slice au j cu).ownBlock) hb3.size fun b h h3 => ⟨h, hb3.block b h3⟩).keep (S' := fun b => w2.heap.size ≤ b ∧ some b ≠ (Value.slice au j cu).ownBlock) hbk.size fun b h h3 => ⟨h, hbk.block b h3⟩)
                have HN := Lib.hid (nodeS_alloc2 hN (.cells #[.int .i64 n0, .int .i64 n1, .int .i64 n2, .string ⟨n3.toArray⟩, .slice n4 n5 n6] 25))
                have HO3 := Lib.hid ((hb3.block _ (blk_lt HO.out)).trans HO.out)
                have HR3 := Lib.hid ((hb3.block _ (blk_lt HR.out)).trans HR.out)
                have ho3 := blk_lt HO3.out
                have hr3 := blk_lt HR3.out
                clear o0 o1 o2 o3 o4 hOK hC hN
                have o4 := blk_cell HO3.out 4
                simp at o4
                have hbK := hb4.trans (hbk.mono hb4.size)
                have HHk := Lib.hid (show (w3.alloc (.cells #[.int .i64 n0, .int .i64 n1, .int .i64 n2, .string ⟨n3.toArray⟩, .slice n4 n5 n6] 25)).heap.size = w3.heap.size + 1 by simp)
                have hwk : w2.heap.size ≤ (w3.alloc (.cells #[.int .i64 n0, .int .i64 n1, .int .i64 n2, .string ⟨n3.toArray⟩, .slice n4 n5 n6] 25)).heap.size := by rw [HHk.out]; omega
                have HOk := Lib.hid ((hbk.block _ ho3).trans HO3.out)
                have HRk := Lib.hid ((hbk.block _ hr3).trans HR3.out)
                go_wp2_with (at_builtin; go_must (refine wpList_appK1 rfl _ _ 23 rfl w2.heap.size 25 5 (by omega) _ 64 Tryd.underlying23 infoNode rfl (.slice au j cu) j cs rfl [.int .i64 n0, .int .i64 n1, .int .i64 n2, .string ⟨n3.toArray⟩, .slice n4 n5 n6] rfl (by simp [Value.oneCell']) HOK.out (by simp [Act.eval]) (by omega) (by simp only [maxLen]; omega) hwk fun v' w4 g1 g2 => ?_); obtain ⟨av, mv, cv, rfl⟩ := own_slice g1; have HO4 := Lib.hid ((g2.1.block _ (by rw [HHk.out]; omega) (fun hh => by have := (HIn.out _ hh.symm).1; omega)).trans HOk.out); have zc := blk_cell HO4.out 4; have zf := blk_free HO4.out 4; simp at zc; have HG1 := Lib.hid g1; have HG2 := Lib.hid g2; clear g1 g2)
                have HP5 := Lib.hid (PK.set (g := w.heap.size + 1) (o := 4) (v := .slice av mv cv) (PK.snoc (w0 := wq) hTl HC.out (fun g hg => (HIn.out g hg).2) hsz HN.out HG1.out HG2.out) hs2)
                have HO5 := Lib.hid (blk_set (o := 4) HO4.out (.slice av mv cv))
                have HR5 := Lib.hid (blk_other (o := 4) (g' := w.heap.size + 1) ((HG2.out.1.block _ (by rw [HHk.out]; omega) (fun hh => by have := (HIn.out _ hh.symm).1; omega)).trans HRk.out) (.slice av mv cv) (by omega))
                have hB5 : Below w.heap.size w w4 := hbK.trans (HG2.out.below hbK.size (fun g hg => by have := (HIn.out g hg).1; omega))
                have hB6 := hB5.setCell (p := ⟨w.heap.size + 1, 4, none⟩) (show w.heap.size ≤ w.heap.size + 1 by omega) (.slice av mv cv)
                have hs5 : w2.heap.size ≤ (w4.setCell ⟨w.heap.size + 1, 4, none⟩ (.slice av mv cv)).heap.size := by have := HG2.out.1.size; rw [HHk.out] at this; simp; omega
                go_wp2_with fail
                go_roundw
                case rel => exact ⟨j + 1, at4, ts ++ [t], .slice av mv cv, by omega, hat4, rfl, by go_num, HP5, HO5, HR5, hB6, hs5, HD2⟩
                case measure => simp [intOf]; omega
            · obtain rfl : j = x := by omega
              obtain ⟨au, cu, rfl⟩ := HP.out.slice
              have hej : len - (bs.drop atj).length = atj := by rw [List.length_drop, HL.out]; omega
              have HEj := Lib.hid hej
              have HE := Lib.hid (show nodeD 4 (f + 1) (bs.drop at0) = .ok (.mk (T : Int) 3 0 [] ts, bs.drop atj) by rw [HD.out, Nat.sub_self]; simp [repD, repK, fin3])
              obtain ⟨hTl, cs, hOK, hC⟩ := HP.out
              have hNd : NodeS (fun b => w2.heap.size ≤ b) wq (.mk (T : Int) 3 0 [] ts) (.agg #[.int .i64 (T : Int), .int .i64 3, .int .i64 0, .string ⟨#[]⟩, .slice au j cu]) := kids_node hOK hC hTl (fun b h _ => h.1) (fun b h _ => h) _ _ _ [] (by simp)
              have HRz2 := HR.out
              have z0 := blk_cell HRz2 0
              have z1 := blk_cell HRz2 1
              have z2 := blk_cell HRz2 2
              have z3 := blk_cell HRz2 3
              have z4 := blk_cell HRz2 4
              simp at z0 z1 z2 z3 z4
              have g0 := blk_free HRz2 0
              have g1 := blk_free HRz2 1
              have g2 := blk_free HRz2 2
              have g3 := blk_free HRz2 3
              have g4 := blk_free HRz2 4
              have HNs := Lib.hid (show ∀ v0 v1 v2 v3 v4 : Value, NodeS (fun b => w.heap.size ≤ b) (((((wq.setCell ⟨w.heap.size, 0, none⟩ v0).setCell ⟨w.heap.size, 1, none⟩ v1).setCell ⟨w.heap.size, 2, none⟩ v2).setCell ⟨w.heap.size, 3, none⟩ v3).setCell ⟨w.heap.size, 4, none⟩ v4) (.mk (T : Int) 3 0 [] ts) (.agg #[.int .i64 (T : Int), .int .i64 (kb : Int), .int .i64 0, .string ⟨#[]⟩, .slice au j cu]) from fun v0 v1 v2 v3 v4 => by
                rw [HK3.out]
                exact NodeS.keep (by simp) (fun b h1 _ => ⟨Nat.le_trans (by omega) h1, set5_other _ _ _ _ _ (by omega)⟩) _ _ hNd)
              clear hej hOK hC hNd HRz2
              go_wp2_with fail
              exact bodyPost_ret (v := .tuple #[.agg #[.int .i64 (T : Int), .int .i64 (kb : Int), .int .i64 0, .string ⟨#[]⟩, .slice au j cu], .int .i64 (atj : Int), .int .i64 0]) (by simp [results, Tryd.results72, go_sem, z0, z1, z2, z3, z4]) rfl (npr_ok HE.out HEj.out rfl (HNs.out _ _ _ _ _) (below_set5 hB (Nat.le_refl _) _ _ _ _ _))
end Go.Proofs.YthbfmioikbphgaaDoor
