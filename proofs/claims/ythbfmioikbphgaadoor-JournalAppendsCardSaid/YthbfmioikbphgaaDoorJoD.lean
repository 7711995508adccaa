/- Journals: what Read returns, in memory. -/
import Derived.Test.YthbfmioikbphgaaDoorJoC
import Derived.Test.YthbfmioikbphgaaDoorJoE
import Derived.BigQuiet
namespace Go.Proofs.YthbfmioikbphgaaDoor
set_option maxRecDepth 100000
open Go.RowKit

/-- the cell of errors.errorType -/
def ErrT (w : World) : Prop := w.cell? ⟨0, 0, none⟩ = some (.iface 99 (.agg #[.pointer (some ⟨1, 60, none⟩)]))
theorem ErrT.pos {w : World} (h : ErrT w) : 0 < w.heap.size := by
  rcases Nat.eq_zero_or_pos w.heap.size with h0 | h1
  · simp [ErrT, World.cell?, h0] at h
  · exact h1
theorem ErrT.below {w w' : World} (h : ErrT w) (hb : Below w.heap.size w w') : ErrT w' := bc hb h.pos h
theorem ErrT.keep {B : Nat} {w w' : World} (h : ErrT w) (hb : Below B w w') (hB : 0 < B) : ErrT w' := by
  unfold ErrT World.cell?
  rw [hb.block 0 hB]
  exact h

theorem rp_mk {w w' : World} {r : RdR} {ts : List NodeT} {n k c : Nat} {d : UInt64} {x : Int} {a : Option Addr} (hr : r = ⟨ts, n, d, x⟩) (hk : ts.length = k) (hK : Kids w' a k c ts) (hB : Below w.heap.size w w') : RP w r (.returned (.tuple #[.slice a k c, .int .i64 (n : Int), .int .i64 x])) w' := by
  subst hr
  subst hk
  exact ⟨a, c, rfl, hK, hB⟩
set_option maxHeartbeats 4000000 in
theorem read_any (log : List UInt8) (a : Option Addr) (len cap : Nat) (w : World) (hx : Bytes w a len cap log) (hg : ErrT w) :
    Calls Tryd.prog 17 #[.slice a len cap] w (RP w (rdJ log)) := by
  have HX := Lib.hid hx
  have HG := Lib.hid hg
  have hl := hx.1
  have hlc := hx.2.1
  have hlm : len ≤ 9223372036854775807 := by have h1 := hx.2.1; have h2 := hx.2.2.1; unfold maxLen at h2; omega
  have hnil : Bytes w none 0 0 [] := ⟨rfl, Nat.le_refl _, by simp [maxLen], fun _ => rfl, .inl rfl⟩
  have hw0 := hg.pos
  clear hx hg
  go_enter Tryd.func17, Tryd.ntmps17
  go_wp2_with fail
  refine (of_any [] none 0 0 _ hnil).mono ?_
  rintro e w1 ⟨rfl, rfl⟩
  go_wp2_with fail
  go_loopw [5, 6, 7] (fun u i d wr => ∃ (c p : Nat) (s : UInt64) (ts : List NodeT), c ≤ 300 ∧ p ≤ len ∧ i = .int .i64 p ∧ d = .int .u64 s.toNat ∧ Hid (PK wr w.heap.size u c ts) ∧ Below w.heap.size w wr ∧ Hid (rdJ log = ⟨ts ++ (frJ (log.drop p) s c).l, p + (frJ (log.drop p) s c).n, (frJ (log.drop p) s c).d, (frJ (log.drop p) s c).e⟩)) (fun _ i _ _ => len - (intOf i).toNat)
  case atStart => exact ⟨0, 0, digOf [], [], by omega, by omega, rfl, rfl, Lib.hid (PK.nil _ _), Below.refl _ _, Lib.hid (by rw [List.drop_zero, List.nil_append, Nat.zero_add]; rfl)⟩
  case round =>
    obtain ⟨c, p, s, ts, hc, hp, rfl, rfl, HU, hB, HR⟩ := hrel
    have HGr := Lib.hid (HG.out.below hB)
    generalize wr = wq at *
    by_cases hlt : p < len
    · obtain ⟨ba, oa, rfl, -, -⟩ := HX.out.2.at hlt
      have HX1 := Lib.hid ((HX.out.below hB).suf p hp)
      obtain ⟨au, cu, rfl⟩ := HU.out.slice
      cases hq : entJ (log.drop p) s c with
      | error x =>
        have hRd : rdJ log = ⟨ts, p, s, x⟩ := by
          rw [HR.out, frJ_err (by intro e; have := congrArg List.length e; rw [List.length_drop] at this; simp at this; omega) hq]; simp
        have HRd := Lib.hid hRd
        have HQ := Lib.hid hq
        clear hRd hq HR
        go_wp2_with fail
        refine (entry_any (log.drop p) s c _ _ _ _ HX1.out hc).mono ?_
        rw [HQ.out]
        rintro e w1 ⟨rfl, hb1⟩
        have hB1 := hB.trans (hb1.mono hB.size)
        have HU1 := Lib.hid (HU.out.below hb1)
        have HG1 := Lib.hid (HGr.out.below hb1)
        have hsz := hB1.size
        have hb0 : Below w1.heap.size w1 ((w1.alloc (.cells #[.int .i64 0, .int .i64 0, .int .i64 0, .string ⟨#[]⟩, .slice none 0 0] 25)).alloc (.cells #[.int .i64 0] 64)) := ((Below.refl _ _).alloc (Nat.le_refl _) _).alloc (by simp) _
        have HG2 := Lib.hid (HG1.out.below hb0)
        have HZ2 := Lib.hid (show ((w1.alloc (.cells #[.int .i64 0, .int .i64 0, .int .i64 0, .string ⟨#[]⟩, .slice none 0 0] 25)).alloc (.cells #[.int .i64 0] 64)).cell? ⟨w1.heap.size + 1, 0, none⟩ = some (.int .i64 0) ∧ ((w1.alloc (.cells #[.int .i64 0, .int .i64 0, .int .i64 0, .string ⟨#[]⟩, .slice none 0 0] 25)).alloc (.cells #[.int .i64 0] 64)).frozen? ⟨w1.heap.size + 1, 0, none⟩ = false from by constructor <;> go_simp)
        go_wp2_with fail
        refine (as_err w1.heap.size x (w1.heap.size + 1) (.int .i64 0) _ HG2.out HZ2.out.1 HZ2.out.2 (by omega) (by simp; omega)).mono ?_
        rintro e w2 ⟨rfl, hc2, hb2⟩
        have hb3 := hb0.trans hb2
        have HU2 := Lib.hid (HU1.out.below hb3)
        have hB2 := hB1.trans (hb3.mono hsz)
        clear HG2 HZ2 hb2 hb0
        go_wp2_with fail
        go_quiet (fail)
        go_wp2_with fail
        go_ret3
        exact rp_mk HRd.out HU2.out.1 (HU2.out.below (below_drewN (Below.refl _ _) _)).kids (below_drewN hB2 _)
      | ok r =>
        obtain ⟨t, k, s'⟩ := r
        have hRd : rdJ log = ⟨(ts ++ [t]) ++ (frJ (log.drop (p + k)) s' (c + 1)).l, (p + k) + (frJ (log.drop (p + k)) s' (c + 1)).n, (frJ (log.drop (p + k)) s' (c + 1)).d, (frJ (log.drop (p + k)) s' (c + 1)).e⟩ := by
          rw [HR.out, frJ_ok hq, List.drop_drop]; simp [Nat.add_assoc]
        have HRd := Lib.hid hRd
        have HQ := Lib.hid hq
        have hcl := (ent_ok hq).1
        have hkl := ent_len hq
        rw [List.length_drop] at hkl
        clear hRd hq HR
        go_wp2_with fail
        refine (entry_any (log.drop p) s c _ _ _ _ HX1.out hc).mono ?_
        rw [HQ.out]
        rintro e w1 ⟨nv, rfl, hN, hb1⟩
        obtain ⟨n0, n1, n2, n3, n4, n5, n6, rfl⟩ := hN.vals
        have hB1 := hB.trans (hb1.mono hB.size)
        have hsz := hB1.size
        have hsz1 := hb1.size
        obtain ⟨-, cs, hO, hC⟩ := HU.out
        have hTl := HU.out.1
        have HOi := Lib.hid hO.in
        have hO1 := hO.later hb1
        have hC1 := hC.keep hb1.size fun b h h3 => ⟨h, hb1.block b h3⟩
        have HN := Lib.hid hN
        have hb0 : Below w1.heap.size w1 ((w1.alloc (.cells #[.int .i64 n0, .int .i64 n1, .int .i64 n2, .string ⟨n3.toArray⟩, .slice n4 n5 n6] 25)).alloc (.cells #[.int .i64 0] 64)) := ((Below.refl _ _).alloc (Nat.le_refl _) _).alloc (by simp) _
        have HO1 := Lib.hid (hO1.later hb0)
        have HC1 := Lib.hid (hC1.keep (S' := fun b => w.heap.size ≤ b ∧ some b ≠ (Value.slice au c cu).ownBlock) hb0.size fun b h h3 => ⟨h, hb0.block b h3⟩)
        have HN1 := Lib.hid (nodeS_alloc (nodeS_alloc HN.out (.cells #[.int .i64 n0, .int .i64 n1, .int .i64 n2, .string ⟨n3.toArray⟩, .slice n4 n5 n6] 25)) (.cells #[.int .i64 0] 64))
        have hB2 := hB1.trans (hb0.mono hsz)
        clear hO hC hO1 hC1 hN HN HX1 HQ
        go_wp2_with fail
        refine (as_nil _ _).mono ?_
        rintro e w2 ⟨rfl, rfl⟩
        have hszb := hB2.size
        have hz2 : (Value.slice (some ⟨w1.heap.size + 1 + 1, 0, none⟩) 1 1) = .slice (some ⟨((w1.alloc (.cells #[.int .i64 n0, .int .i64 n1, .int .i64 n2, .string ⟨n3.toArray⟩, .slice n4 n5 n6] 25)).alloc (.cells #[.int .i64 0] 64)).heap.size, 0, none⟩) 1 1 := by simp
        go_wp2_with (at_builtin; go_must (refine wpList_appK1 rfl _ _ 23 rfl w.heap.size 25 5 (by omega) _ 64 Tryd.underlying23 infoNode rfl (.slice au c cu) c cs rfl [.int .i64 n0, .int .i64 n1, .int .i64 n2, .string ⟨n3.toArray⟩, .slice n4 n5 n6] rfl (by simp [Value.oneCell']) HO1.out (by simp [Act.eval]) (by omega) (by simp only [maxLen]; omega) hszb fun v' w2 g1 g2 => ?_))
        have HU2 := Lib.hid (PK.snoc (w0 := wq) hTl HC1.out HOi.out hB.size HN1.out g1 g2)
        have HB2 := Lib.hid (hB2.trans (g2.below hszb HO1.out.lt))
        clear g1 g2
        go_wp2_with fail
        go_roundw
        case rel => exact ⟨c + 1, p + k, s', ts ++ [t], by omega, by omega, by go_num, rfl, HU2, HB2.out, HRd⟩
        case measure => simp [intOf]; omega
    · have hpl : p = len := by omega
      have HRd := Lib.hid (show rdJ log = ⟨ts, p, s, 0⟩ by
        rw [HR.out, hpl, List.drop_of_length_le (by omega), frJ_nil]; simp)
      obtain ⟨au, cu, rfl⟩ := HU.out.slice
      have hTl := HU.out.1
      have HK := Lib.hid HU.out.kids
      clear HR HU
      go_wp2_with fail
      go_ret3
      exact rp_mk HRd.out hTl HK.out hB
end Go.Proofs.YthbfmioikbphgaaDoor
