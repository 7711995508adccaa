/- Uploads: what agree returns. Condition: packets of one log, by their positions. -/
import Derived.Test.YtpdodapdaeochaaUpH
namespace Go.Proofs.Ytpdodapdaeochaa
set_option maxRecDepth 100000
open Go.RowKit

theorem Owns.cut0 {w : World} {B : Nat} {e : TypeId} {a : Option Addr} {n c : Nat} {xs : List Value} (h : Owns w B e (.slice a n c) xs) : Owns w B e (.slice a 0 c) [] := by
  rcases h.form2 with ⟨h1, -⟩ | ⟨g, cap, h1, -⟩
  · cases h1; exact Owns.nil _ _ _
  · have hl := h.len
    cases h1
    have := h.shrink 0 (by omega)
    simpa using this
theorem seg_zero (log : List UInt8) (p : Nat) : seg log (p, 0) = [] := by simp [seg]
theorem seg_app {log : List UInt8} {p n q m : Nat} (_ : p ≤ q) (h2 : q ≤ p + n) (h3 : p + n ≤ q + m) : seg log (p, n) ++ (seg log (q, m)).drop (p + n - q) = seg log (p, q + m - p) := by
  unfold seg
  simp only [List.drop_take, List.drop_drop]
  rw [show q + (p + n - q) = p + n by omega, show m - (p + n - q) = q + m - (p + n) by omega, show q + m - p = n + (q + m - (p + n)) by omega, List.take_add, List.drop_drop]
theorem Bytes.congrB {w : World} {a : Option Addr} {n c : Nat} {xs ys : List UInt8} (h : Bytes w a n c xs) (e : xs = ys) : Bytes w a n c ys := e ▸ h
set_option maxHeartbeats 2000000 in
theorem agree_any (log : List UInt8) (f : Nat → PkM) (a : Option Addr) (len cap : Nat) (w : World) (hL : log.length ≤ 1048576) (hx : PksIn w a len cap f) (hf : ∀ i, i < len → OfLog log (f i)) (hp : ∀ i, i + 1 < len → (f i).pos ≤ (f (i + 1)).pos) (hlen : len ≤ 1048576) :
    Calls Try.prog 45 #[.slice a len cap] w fun e w' => e = .returned (.bool true) ∧ Below w.heap.size w w' := by
  have HX := Lib.hid hx
  have HF := Lib.hid hf
  have HP := Lib.hid hp
  clear hx hf hp
  go_enter Try.func45, Try.ntmps45
  go_wp2_with fail
  go_loopw [3, 4, 11] (fun s u i wr => ∃ k st kn : Nat, k ≤ len ∧ i = .int .i64 k ∧ s = .int .i64 st ∧ Hid (Owns wr w.heap.size 5 u (bvs (seg log (st, kn)))) ∧ st + kn ≤ log.length ∧ Hid (k < len → st ≤ (f k).pos) ∧ Below w.heap.size w wr) (fun _ _ i _ => len - (intOf i).toNat)
  case atStart => exact ⟨0, 0, 0, by omega, rfl, rfl, Lib.hid (by rw [seg_zero]; exact Owns.nil _ _ _), by omega, Lib.hid (fun _ => by omega), Below.refl _ _⟩
  case round =>
    generalize wr = wq at *
    obtain ⟨k, st, kn, hk, rfl, rfl, HO, hsk, HK, hB⟩ := hrel
    by_cases hlt : k < len
    · obtain ⟨b, off, rfl, hbs, hcc⟩ := HX.out.at hlt
      obtain ⟨a1, n, c1, e0, e1, e2, e3, hb1⟩ := (hcc k hlt).below hbs hB
      have hst := HK.out hlt
      have HN := Lib.hid (fun (h : k + 1 < len) => HP.out k h)
      have HM := Lib.hid (HF.out k hlt)
      generalize hfk : f k = m at *
      have HFk := Lib.hid hfk
      have hmn := HM.out.len hb1
      have HBt := Lib.hid (HM.out.bytes hb1)
      have hsegl : (bvs (seg log (st, kn))).length = kn := by rw [bvs_length, seg_len hsk]
      obtain ⟨a0, c0, hu, -⟩ := HO.out.form
      rw [hsegl] at hu
      subst hu
      obtain ⟨a0', n0', c0', he, hbk⟩ := Owns.bytes HO.out
      obtain ⟨h81, h82, h83⟩ : a0' = a0 ∧ n0' = kn ∧ c0' = c0 := by cases he; exact ⟨rfl, rfl, rfl⟩
      rw [h81, h82, h83] at hbk
      have HBk := Lib.hid hbk
      have hkc := hbk.2.1
      have hkm := hbk.2.2.1
      have hnc := hb1.2.1
      have hnm := hb1.2.2.1
      unfold maxLen at hkm hnm
      have hbx : Below wq.heap.size wq (wq.alloc (.cells #[.int .i64 m.se, .int .i64 m.pos, .slice a1 n c1, .int .u64 (m.su.toNat : Int)] 35)) := (Below.refl _ _).alloc (Nat.le_refl _) _
      clear hcc hb1 hbk he hfk HK h81 h82 h83 a0' n0' c0'
      by_cases hgap : st + kn < m.pos
      · -- a gap
        have d0 : decide ((st : Int) + kn < m.pos) = true := decide_eq_true (by omega)
        have hgt : (st : Int) + kn < m.pos := by omega
        have HS1 := Lib.hid (show Bytes (wq.alloc (.cells #[.int .i64 m.se, .int .i64 m.pos, .slice a1 n c1, .int .u64 (m.su.toNat : Int)] 35)) a0 0 c0 [] from ((HBk.out.below hbx).pre 0 (Nat.zero_le _)).congrB rfl)
        have HS2 := Lib.hid (show Bytes (wq.alloc (.cells #[.int .i64 m.se, .int .i64 m.pos, .slice a1 n c1, .int .u64 (m.su.toNat : Int)] 35)) a1 0 c1 [] from ((HBt.out.below hbx).pre 0 (Nat.zero_le _)).congrB rfl)
        have HO1 := Lib.hid ((HO.out.later hbx).cut0)
        have HT := Lib.hid (HBt.out.below hbx)
        have HJ := Lib.hid (show ([] : List Value) ++ bvs (seg log (m.pos, n)) = bvs (seg log (m.pos, n)) from rfl)
        go_wp2_with fail
        have cP2 : (wq.alloc (.cells #[.int .i64 m.se, .int .i64 m.pos, .slice a1 n c1, .int .u64 (m.su.toNat : Int)] 35)).cell? ⟨wq.heap.size, 2, none⟩ = some (.slice a1 n c1) := by go_simp
        have hPl : wq.heap.size < (wq.alloc (.cells #[.int .i64 m.se, .int .i64 m.pos, .slice a1 n c1, .int .u64 (m.su.toNat : Int)] 35)).heap.size := by simp
        have hB1 : Below w.heap.size w (wq.alloc (.cells #[.int .i64 m.se, .int .i64 m.pos, .slice a1 n c1, .int .u64 (m.su.toNat : Int)] 35)) := hB.trans (hbx.mono hB.size)
        clear HBk HBt HO hbx
        generalize (wq.alloc (.cells #[.int .i64 m.se, .int .i64 m.pos, .slice a1 n c1, .int .u64 (m.su.toNat : Int)] 35)) = wx at *
        go_quiet (first | (go_at_call 55; exact Calls.quiet_of_same (bequal_same _ _ _ _ _ _ _ _ (HS1.out.below (below_drewN (Below.refl _ _) _)) (HS2.out.below (below_drewN (Below.refl _ _) _)))))
        have hd : Below wx.heap.size wx (wx.drewN nq) := below_drewN (Below.refl _ _) _
        replace HO1 := Lib.hid (HO1.out.later hd)
        replace HT := Lib.hid (HT.out.below hd)
        replace cP2 := bc hd hPl cP2
        replace hB1 := hB1.trans (hd.mono hB1.size)
        have hsz := hB1.size
        have HLn := Lib.hid HT.out.1
        have HLt := Lib.hid HO1.out.lt
        clear hd HS1 HS2 hPl
        generalize wx.drewN nq = wy at *
        go_wp2_with (at_builtin; go_must (refine wpList_app rfl _ _ 22 rfl w.heap.size 5 (.int .u8 0) 1 Try.underlying22 infoByte rfl (.slice a0 0 c0) [] rfl HO1.out a1 n c1 (bvs (seg log (m.pos, n))) rfl (by rw [bvs_length]; exact HLn.out) HT.out.vals (bvs_one _) (by first | (rw [hsegl]; omega) | (simp only [List.length_nil]; omega)) (by first | (rw [hsegl]; simp only [maxLen]; omega) | (simp only [List.length_nil, maxLen]; omega)) hsz fun v1 w2 h1 h2 => ?_))
        rw [HJ.out] at h1
        have H1 := Lib.hid h1
        have HB2 := Lib.hid (hB1.trans (h2.below hsz HLt.out))
        clear h1 h2
        go_wp2_with fail
        go_roundw
        case rel => exact ⟨k + 1, m.pos, n, by omega, by go_num, rfl, H1, by omega, Lib.hid (fun h9 => by have := HN.out h9; omega), HB2.out⟩
        case measure => simp [intOf]; omega
      · by_cases hfar : st + kn ≤ m.pos + n
        · -- further
          obtain ⟨FR, hFR⟩ : ∃ FR : Nat, FR = m.pos - st := ⟨_, rfl⟩
          obtain ⟨CM, hCM⟩ : ∃ CM : Nat, CM = st + kn - m.pos := ⟨_, rfl⟩
          have q1 : (m.pos : Int) - st = FR := by omega
          have q2 : (st : Int) + kn - m.pos = CM := by omega
          have d0 : decide ((st : Int) + kn < m.pos) = false := decide_eq_false (by omega)
          have d1 : decide ((CM : Int) ≤ n) = true := decide_eq_true (by omega)
          have hle1 : (m.pos : Int) ≤ (st : Int) + kn := by omega
          have hle2 : CM ≤ n := by omega
          have hw : IntKind.i64.wrap ((FR : Int) + CM) = kn := by rw [IntWalk.i64_in _ (by omega)]; omega
          have g1 : FR ≤ kn := by omega
          have m1 : max (kn : Int) 0 = kn := by omega
          have g3 : CM ≤ c1 := by omega
          have HS1 := Lib.hid (show Bytes (wq.alloc (.cells #[.int .i64 m.se, .int .i64 m.pos, .slice a1 n c1, .int .u64 (m.su.toNat : Int)] 35)) (if c0 = FR then a0 else Option.map (fun x => x.add FR) a0) (kn - FR) (c0 - FR) (seg log (m.pos, CM)) from ((HBk.out.below hbx).sub FR (kn - FR) (by omega)).congrB (by rw [seg_sub (by omega), show st + FR = m.pos by omega, show kn - FR = CM by omega]))
          have HS2 := Lib.hid (show Bytes (wq.alloc (.cells #[.int .i64 m.se, .int .i64 m.pos, .slice a1 n c1, .int .u64 (m.su.toNat : Int)] 35)) a1 CM c1 (seg log (m.pos, CM)) from ((HBt.out.below hbx).pre CM (by omega)).congrB (by unfold seg; rw [List.take_take, Nat.min_eq_left (by omega)]))
          have HO1 := Lib.hid (HO.out.later hbx)
          have HT := Lib.hid (show Bytes (wq.alloc (.cells #[.int .i64 m.se, .int .i64 m.pos, .slice a1 n c1, .int .u64 (m.su.toNat : Int)] 35)) (if c1 = CM then a1 else Option.map (fun x => x.add CM) a1) (n - CM) (c1 - CM) ((seg log (m.pos, n)).drop CM) from ((HBt.out.below hbx).sub CM (n - CM) (by omega)).congrB (by rw [List.take_of_length_le]; rw [List.length_drop, seg_len hmn]; omega))
          have HJ := Lib.hid (show bvs (seg log (st, kn)) ++ bvs ((seg log (m.pos, n)).drop CM) = bvs (seg log (st, m.pos + n - st)) by rw [← bvs_append, hCM, seg_app hst (by omega) (by omega)])
          clear hFR hCM
          go_wp2_with fail
          have cP2 : (wq.alloc (.cells #[.int .i64 m.se, .int .i64 m.pos, .slice a1 n c1, .int .u64 (m.su.toNat : Int)] 35)).cell? ⟨wq.heap.size, 2, none⟩ = some (.slice a1 n c1) := by go_simp
          have hPl : wq.heap.size < (wq.alloc (.cells #[.int .i64 m.se, .int .i64 m.pos, .slice a1 n c1, .int .u64 (m.su.toNat : Int)] 35)).heap.size := by simp
          have hB1 : Below w.heap.size w (wq.alloc (.cells #[.int .i64 m.se, .int .i64 m.pos, .slice a1 n c1, .int .u64 (m.su.toNat : Int)] 35)) := hB.trans (hbx.mono hB.size)
          clear HBk HBt HO hbx
          generalize (wq.alloc (.cells #[.int .i64 m.se, .int .i64 m.pos, .slice a1 n c1, .int .u64 (m.su.toNat : Int)] 35)) = wx at *
          go_quiet (first | (go_at_call 55; exact Calls.quiet_of_same (bequal_same _ _ _ _ _ _ _ _ (HS1.out.below (below_drewN (Below.refl _ _) _)) (HS2.out.below (below_drewN (Below.refl _ _) _)))))
          have hd : Below wx.heap.size wx (wx.drewN nq) := below_drewN (Below.refl _ _) _
          replace HO1 := Lib.hid (HO1.out.later hd)
          replace HT := Lib.hid (HT.out.below hd)
          replace cP2 := bc hd hPl cP2
          replace hB1 := hB1.trans (hd.mono hB1.size)
          have hsz := hB1.size
          have HLn := Lib.hid HT.out.1
          have HLt := Lib.hid HO1.out.lt
          clear hd HS1 HS2 hPl
          generalize wx.drewN nq = wy at *
          go_wp2_with (at_builtin; go_must (refine wpList_app rfl _ _ 22 rfl w.heap.size 5 (.int .u8 0) 1 Try.underlying22 infoByte rfl (.slice a0 kn c0) (bvs (seg log (st, kn))) rfl HO1.out (if c1 = CM then a1 else Option.map (fun x => x.add CM) a1) (n - CM) (c1 - CM) (bvs ((seg log (m.pos, n)).drop CM)) rfl (by rw [bvs_length]; exact HLn.out) HT.out.vals (bvs_one _) (by first | (rw [hsegl]; omega) | (simp only [List.length_nil]; omega)) (by first | (rw [hsegl]; simp only [maxLen]; omega) | (simp only [List.length_nil, maxLen]; omega)) hsz fun v1 w2 h1 h2 => ?_))
          rw [HJ.out] at h1
          have H1 := Lib.hid h1
          have HB2 := Lib.hid (hB1.trans (h2.below hsz HLt.out))
          clear h1 h2
          go_wp2_with fail
          go_roundw
          case rel => exact ⟨k + 1, st, m.pos + n - st, by omega, by go_num, rfl, H1, by omega, Lib.hid (fun h9 => by have := HN.out h9; omega), HB2.out⟩
          case measure => simp [intOf]; omega
        · -- inside
          obtain ⟨FR, hFR⟩ : ∃ FR : Nat, FR = m.pos - st := ⟨_, rfl⟩
          obtain ⟨SS, hSS⟩ : ∃ SS : Nat, SS = FR + n := ⟨_, rfl⟩
          have q1 : (m.pos : Int) - st = FR := by omega
          have d0 : decide ((st : Int) + kn < m.pos) = false := decide_eq_false (by omega)
          have d1 : decide ((st : Int) + kn - m.pos ≤ n) = false := decide_eq_false (by omega)
          have hle1 : (m.pos : Int) ≤ (st : Int) + kn := by omega
          have hle2 : (n : Int) < (st : Int) + kn - m.pos := by omega
          have hw : IntKind.i64.wrap ((FR : Int) + n) = SS := by rw [IntWalk.i64_in _ (by omega)]; omega
          have g1 : FR ≤ SS := by omega
          have g2 : SS ≤ c0 := by omega
          have m1 : max (SS : Int) 0 = SS := by omega
          have HS1 := Lib.hid (show Bytes (wq.alloc (.cells #[.int .i64 m.se, .int .i64 m.pos, .slice a1 n c1, .int .u64 (m.su.toNat : Int)] 35)) (if c0 = FR then a0 else Option.map (fun x => x.add FR) a0) (SS - FR) (c0 - FR) (seg log (m.pos, n)) from ((HBk.out.below hbx).sub FR (SS - FR) (by omega)).congrB (by rw [seg_sub (by omega), show st + FR = m.pos by omega, show SS - FR = n by omega]))
          have HS2 := Lib.hid (HBt.out.below hbx)
          have HO1 := Lib.hid (HO.out.later hbx)
          have HT := Lib.hid (show Bytes (wq.alloc (.cells #[.int .i64 m.se, .int .i64 m.pos, .slice a1 n c1, .int .u64 (m.su.toNat : Int)] 35)) (if c1 = n then a1 else Option.map (fun x => x.add n) a1) 0 (c1 - n) [] from ((HBt.out.below hbx).sub n 0 (by omega)).congrB (by simp))
          have HJ := Lib.hid (show bvs (seg log (st, kn)) ++ bvs [] = bvs (seg log (st, kn)) by simp [bvs])
          clear hFR hSS
          go_wp2_with fail
          have cP2 : (wq.alloc (.cells #[.int .i64 m.se, .int .i64 m.pos, .slice a1 n c1, .int .u64 (m.su.toNat : Int)] 35)).cell? ⟨wq.heap.size, 2, none⟩ = some (.slice a1 n c1) := by go_simp
          have hPl : wq.heap.size < (wq.alloc (.cells #[.int .i64 m.se, .int .i64 m.pos, .slice a1 n c1, .int .u64 (m.su.toNat : Int)] 35)).heap.size := by simp
          have hB1 : Below w.heap.size w (wq.alloc (.cells #[.int .i64 m.se, .int .i64 m.pos, .slice a1 n c1, .int .u64 (m.su.toNat : Int)] 35)) := hB.trans (hbx.mono hB.size)
          clear HBk HBt HO hbx
          generalize (wq.alloc (.cells #[.int .i64 m.se, .int .i64 m.pos, .slice a1 n c1, .int .u64 (m.su.toNat : Int)] 35)) = wx at *
          go_quiet (first | (go_at_call 55; exact Calls.quiet_of_same (bequal_same _ _ _ _ _ _ _ _ (HS1.out.below (below_drewN (Below.refl _ _) _)) (HS2.out.below (below_drewN (Below.refl _ _) _)))))
          have hd : Below wx.heap.size wx (wx.drewN nq) := below_drewN (Below.refl _ _) _
          replace HO1 := Lib.hid (HO1.out.later hd)
          replace HT := Lib.hid (HT.out.below hd)
          replace cP2 := bc hd hPl cP2
          replace hB1 := hB1.trans (hd.mono hB1.size)
          have hsz := hB1.size
          have HLn := Lib.hid HT.out.1
          have HLt := Lib.hid HO1.out.lt
          clear hd HS1 HS2 hPl
          generalize wx.drewN nq = wy at *
          go_wp2_with (at_builtin; go_must (refine wpList_app rfl _ _ 22 rfl w.heap.size 5 (.int .u8 0) 1 Try.underlying22 infoByte rfl (.slice a0 kn c0) (bvs (seg log (st, kn))) rfl HO1.out (if c1 = n then a1 else Option.map (fun x => x.add n) a1) 0 (c1 - n) (bvs []) rfl (by rw [bvs_length]; exact HLn.out) HT.out.vals (bvs_one _) (by first | (rw [hsegl]; omega) | (simp only [List.length_nil]; omega)) (by first | (rw [hsegl]; simp only [maxLen]; omega) | (simp only [List.length_nil, maxLen]; omega)) hsz fun v1 w2 h1 h2 => ?_))
          rw [HJ.out] at h1
          have H1 := Lib.hid h1
          have HB2 := Lib.hid (hB1.trans (h2.below hsz HLt.out))
          clear h1 h2
          go_wp2_with fail
          go_roundw
          case rel => exact ⟨k + 1, st, kn, by omega, by go_num, rfl, H1, by omega, Lib.hid (fun h9 => by have := HN.out h9; omega), HB2.out⟩
          case measure => simp [intOf]; omega
    · obtain rfl : k = len := by omega
      go_wp2_with fail
      go_ret
      exact ⟨rfl, hB⟩

end Go.Proofs.Ytpdodapdaeochaa
