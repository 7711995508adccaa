/- 0-1 programs: what the library's stable sort does to a short slice of ints, for the two comparisons of the search. -/
import Derived.Test.YtkgikajfeihbbaaZsA
namespace Go.Proofs.Ytkgikajfeihbbaa
set_option maxRecDepth 100000
open Go.RowKit

theorem OwnI.cellAt {w : World} {B g n c : Nat} {xs : List Int} (h : OwnI w B (.slice (some ⟨g, 0, none⟩) n c) xs) (j : Nat) (hj : j < n) : w.cell? ⟨g, j, none⟩ = some (.int .i64 (xs.getD j 0)) := by
  have hl : xs.length = n := by have := Owns.len h; rw [ivs_len] at this; exact this
  have h1 := Owns.cell h j hj
  rw [ivs_at xs j (by omega)] at h1
  exact h1
theorem OwnI.len' {w : World} {B : Nat} {a : Option Addr} {n c : Nat} {xs : List Int} (h : OwnI w B (.slice a n c) xs) : xs.length = n := by have := Owns.len h; rw [ivs_len] at this; exact this
theorem OwnI.drew {w : World} {B : Nat} {v : Value} {xs : List Int} (h : OwnI w B v xs) : OwnI w.drew B v xs := Owns.drew h
theorem mem_getDI {xs : List Int} {i : Nat} (h : i < xs.length) : xs.getD i 0 ∈ xs := by simp [List.getD, List.getElem?_eq_getElem h]
theorem swapL_len (ys : List Int) (j : Nat) : (swapL ys j).length = ys.length := by simp [swapL]
theorem srt_zero (v : Int → Int) (ys : List Int) : SrtTo v ys 0 := fun a b hab hb => by omega
theorem But.drew {F : Nat → Prop} {w w' : World} (h : But F w w') : But F w w'.drew := ⟨h.os, h.tape, h.output, h.size, h.block⟩

/-- the sorted list -/
def SortOf (V : Int → Int) (xs ys : List Int) : Prop := ys.Perm xs ∧ SrtTo V ys (xs.length - 1)
theorem stableNil_any (fv : Value) (w : World) : Calls Try.prog 48 #[.slice none 0 0, fv] w fun e w' => e = .returned (.tuple #[]) ∧ w = w' := by
  have HI := Lib.hid (show Calls Try.prog 60 #[.slice none 0 0, .int .i64 0, .int .i64 0, fv] w fun e w' => e = .returned (.tuple #[]) ∧ w = w' by
    go_enter Try.func60, Try.ntmps60
    go_wp2_with fail
    go_loop [8] (fun a => a = .int .i64 1) (fun _ => 0)
    case atStart => exact rfl
    case round =>
      obtain rfl := hrel
      go_wp2_with fail
      go_end0
      exact ⟨rfl, rfl⟩)
  have HI2 := Lib.hid (show Calls Try.prog 54 #[.slice none 0 0, .int .i64 0, fv] w fun e w' => e = .returned (.tuple #[]) ∧ w = w' by
    go_enter Try.func54, Try.ntmps54
    go_wp2_with fail
    go_loop [7, 8] (fun a b => a = .int .i64 0 ∧ b = .int .i64 20) (fun _ _ => 0)
    case atStart => exact ⟨rfl, rfl⟩
    case round =>
      obtain ⟨rfl, rfl⟩ := hrel
      go_wp2_with fail
      refine HI.out.mono ?_
      rintro e w1 ⟨rfl, rfl⟩
      go_wp2_with fail
      go_loop [6, 7, 8, 9] (fun a _ _ _ => a = .int .i64 20) (fun _ _ _ _ => 0)
      case atStart => exact rfl
      case round =>
        obtain rfl := hrel
        go_wp2_with fail
        go_end0
        exact ⟨rfl, rfl⟩)
  clear HI
  go_enter Try.func48, Try.ntmps48
  go_wp2_with fail
  refine HI2.out.mono ?_
  rintro e w1 ⟨rfl, rfl⟩
  go_wp2_with fail
  go_end0
  exact ⟨rfl, rfl⟩

set_option maxHeartbeats 4000000 in
theorem isortV_any (V : Int → Int) (g n c B K : Nat) (xs : List Int) (w : World) (hO : OwnI w B (.slice (some ⟨g, 0, none⟩) n c) xs) (hn : n ≤ 19) (hC : ∀ w', But (fun i => i = g) w w' → ∀ x y, x ∈ xs → y ∈ xs → Calls Try.prog 49 #[.int .i64 x, .int .i64 y, .pointer (some ⟨K, 0, none⟩)] w' fun e w'' => e = .returned (.int .i64 (V y - V x)) ∧ Below w'.heap.size w' w'') :
    Calls Try.prog 60 #[.slice (some ⟨g, 0, none⟩) n c, .int .i64 0, .int .i64 n, .func (.func 49) #[] #[.pointer (some ⟨K, 0, none⟩)]] w fun e w' => e = .returned (.tuple #[]) ∧ ∃ ys : List Int, ys.Perm xs ∧ SrtTo V ys (n - 1) ∧ OwnI w' B (.slice (some ⟨g, 0, none⟩) n c) ys ∧ But (fun i => i = g) w w' := by
  have HO0 := Lib.hid hO
  have HC := Lib.hid hC
  have hgl : g < w.heap.size := Owns.in hO g rfl
  clear hO hC
  go_enter Try.func60, Try.ntmps60
  go_wp2_with fail
  go_loopw [8] (fun i wr => ∃ (k : Nat) (ys : List Int), 1 ≤ k ∧ (k ≤ n ∨ k = 1) ∧ i = .int .i64 k ∧ Hid (OwnI wr B (.slice (some ⟨g, 0, none⟩) n c) ys) ∧ Hid (ys.Perm xs) ∧ Hid (SrtTo V ys (k - 1)) ∧ But (fun i => i = g) w wr) (fun i _ => n - (intOf i).toNat)
  case atStart => exact ⟨1, xs, by omega, by omega, rfl, HO0, Lib.hid (List.Perm.refl _), Lib.hid (srt_zero _ _), But.refl _ _⟩
  case round =>
    clear HO0
    obtain ⟨k, ys, hk1, hk2, rfl, HO, HP, HS, hB⟩ := hrel
    by_cases hlt : k < n
    · have HS0 := Lib.hid (show SrtBut V ys k k by have := srt_start HS.out; rwa [show k - 1 + 1 = k by omega] at this)
      clear HS
      go_wp2_with fail
      go_loopw [9] (fun j wz => ∃ (m : Nat) (zs : List Int), m ≤ k ∧ j = .int .i64 m ∧ Hid (OwnI wz B (.slice (some ⟨g, 0, none⟩) n c) zs) ∧ Hid (zs.Perm xs) ∧ Hid (SrtBut V zs k m) ∧ But (fun i => i = g) w wz) (fun j _ => (intOf j).toNat)
      case atStart => exact ⟨k, ys, by omega, rfl, HO, HP, HS0, hB⟩
      case round =>
        clear HO HP HS0 hB
        generalize wr = wz at *
        obtain ⟨m, zs, hm, rfl, HO, HP, HS, hB⟩ := hrel
        have hzl := HO.out.len'
        by_cases hm0 : m = 0
        · subst hm0
          have HS2 := Lib.hid (show SrtTo V zs (k + 1 - 1) by rw [Nat.add_sub_cancel]; exact srt_done HS.out (.inl rfl))
          have d0 : decide ((0 : Int) < ((0 : Nat) : Int)) = false := by decide
          clear HS
          go_wp2_with fail
          go_quiet (fail)
          have hq := below_drewN (Below.refl wz.heap.size wz) nq
          have hBW := hB.trans (But.of hq)
          have HOW := Lib.hid (HO.out.below hq)
          go_wp2_with fail
          go_roundw
          case rel => exact ⟨k + 1, zs, by omega, by omega, by go_num, HOW, HP, HS2, hBW⟩
          case measure => simp [intOf]; omega
        · have c1 := HO.out.cellAt m (by omega)
          have c2 := HO.out.cellAt (m - 1) (by omega)
          have f1 := HO.out.free m
          have f2 := HO.out.free (m - 1)
          have HX := Lib.hid (HP.out.mem_iff.1 (mem_getDI (show m < zs.length by omega)))
          have HY := Lib.hid (HP.out.mem_iff.1 (mem_getDI (show m - 1 < zs.length by omega)))
          have hm1 : ((m : Int) - 1).toNat = m - 1 := by omega
          have hm2 : (m : Int) - 1 = ((m - 1 : Nat) : Int) := by omega
          have HSw := Lib.hid (show V (zs.getD (m - 1) 0) < V (zs.getD m 0) → SrtBut V (swapL zs m) k (m - 1) from fun h => srt_swap HS.out (by omega) hm (by omega) h)
          have HDn := Lib.hid (show V (zs.getD m 0) ≤ V (zs.getD (m - 1) 0) → SrtTo V zs k from fun h => srt_done HS.out (.inr h))
          have HPs := Lib.hid ((swapL_perm (ys := zs) (j := m) (by omega) (by omega)).trans HP.out)
          have HO2 := Lib.hid (show OwnI ((wz.setCell ⟨g, m, none⟩ (.int .i64 (zs.getD (m - 1) 0))).setCell ⟨g, m - 1, none⟩ (.int .i64 (zs.getD m 0))) B (.slice (some ⟨g, 0, none⟩) n c) (swapL zs m) from ((HO.out.store m (zs.getD (m - 1) 0)).1.store (m - 1) (zs.getD m 0)).1)
          generalize hx : zs.getD m 0 = x at *
          generalize hy : zs.getD (m - 1) 0 = y at *
          have hgz : g < wz.heap.size := by have := hB.size; omega
          have q1 : ∀ W : Ext wz.heap.size wz, Calls Try.prog 49 #[.int .i64 x, .int .i64 y, .pointer (some ⟨K, 0, none⟩)] W.1 fun e w'' => e = .returned (.int .i64 (V y - V x)) ∧ ∃ W' : Ext wz.heap.size wz, w'' = W'.val := fun W => Calls.ext W (HC.out W.1 (hB.trans (But.of W.2)) x y HX.out HY.out)
          have e1 : ∀ W : Ext wz.heap.size wz, W.1.cell? ⟨g, m, none⟩ = some (.int .i64 x) := fun W => by rw [W.2.cell (p := ⟨g, m, none⟩) hgz]; exact c1
          have e2 : ∀ W : Ext wz.heap.size wz, W.1.cell? ⟨g, m - 1, none⟩ = some (.int .i64 y) := fun W => by rw [W.2.cell (p := ⟨g, m - 1, none⟩) hgz]; exact c2
          have HE := Lib.hid (show swapL zs m = (zs.set m y).set (m - 1) x by unfold swapL; rw [hx, hy])
          have HV := Lib.hid (show V y - V x < 0 ↔ V y < V x by omega)
          generalize hd : V y - V x = d at *
          have hmn : 0 < m := by omega
          have hmd : decide (0 < m) = true := by simp [hmn]
          clear HS hx hy hd
          go_wp2_with fail
          refine wp_region_ext wz.heap.size wz (by kernel_rfl) (by kernel_rfl) (Below.refl _ _) ?_
          repeat (first | go_big_quiet_step (first | with_reducible exact q1 _))
          refine wpQuiet_nil ?_
          intro W
          have hBW := hB.trans (But.of W.2)
          have HOW := Lib.hid (HO.out.below W.2)
          have c1 := e1 W
          have c2 := e2 W
          have HOX := Lib.hid ((HOW.out.store m y).1.store (m - 1) x)
          have hWl : g < W.1.heap.size := by have := W.2.size; omega
          have f1 := HOW.out.free m
          have f2 := HOW.out.free (m - 1)
          clear q1 e1 e2 hgz hB
          generalize W.1 = w3 at *
          by_cases hdn : d < 0
          · have HS2 := Lib.hid (HSw.out (HV.out.1 hdn))
            have HB2 := Lib.hid (show But (fun i => i = g) w ((w3.setCell ⟨g, m, none⟩ (.int .i64 y)).setCell ⟨g, m - 1, none⟩ (.int .i64 x)).drew from ((hBW.trans (But.set w3 g m (.int .i64 y) fun _ => rfl)).trans (But.set _ g (m - 1) (.int .i64 x) fun _ => rfl)).drew)
            have HOD := Lib.hid HOX.out.1.drew
            rw [← HE.out] at HOD
            clear hBW HOX HO2 HOW
            go_wp2_with fail
            go_region
            go_wp2_with fail
            go_roundw
            case rel => exact ⟨m - 1, swapL zs m, by omega, by go_num, HOD, HPs, HS2, HB2.out⟩
            case measure => simp [intOf]; omega
          · have HS2 := Lib.hid (show SrtTo V zs (k + 1 - 1) by rw [Nat.add_sub_cancel]; exact HDn.out (Int.not_lt.1 fun h => hdn (HV.out.2 h)))
            go_wp2_with fail
            go_roundw
            case rel => exact ⟨k + 1, zs, by omega, by omega, by go_num, HOW, HP, HS2, hBW⟩
            case measure => simp [intOf]; omega
    · have HS2 := Lib.hid (show SrtTo V ys (n - 1) from fun a b hab hb => HS.out a b hab (by omega))
      go_wp2_with fail
      go_end0
      exact ⟨rfl, ys, HP.out, HS2.out, HO.out, hB⟩

set_option maxHeartbeats 2000000 in
theorem stableV_any (V : Int → Int) (g n c B K : Nat) (xs : List Int) (w : World) (hO : OwnI w B (.slice (some ⟨g, 0, none⟩) n c) xs) (hn : n ≤ 19) (hC : ∀ w', But (fun i => i = g) w w' → ∀ x y, x ∈ xs → y ∈ xs → Calls Try.prog 49 #[.int .i64 x, .int .i64 y, .pointer (some ⟨K, 0, none⟩)] w' fun e w'' => e = .returned (.int .i64 (V y - V x)) ∧ Below w'.heap.size w' w'') :
    Calls Try.prog 48 #[.slice (some ⟨g, 0, none⟩) n c, .func (.func 49) #[] #[.pointer (some ⟨K, 0, none⟩)]] w fun e w' => e = .returned (.tuple #[]) ∧ ∃ ys : List Int, SortOf V xs ys ∧ OwnI w' B (.slice (some ⟨g, 0, none⟩) n c) ys ∧ But (fun i => i = g) w w' := by
  have hl := hO.len'
  have HI := Lib.hid (isortV_any V g n c B K xs w hO hn hC)
  clear hO hC
  have HI2 := Lib.hid (show Calls Try.prog 54 #[.slice (some ⟨g, 0, none⟩) n c, .int .i64 n, .func (.func 49) #[] #[.pointer (some ⟨K, 0, none⟩)]] w fun e w' => e = .returned (.tuple #[]) ∧ ∃ ys : List Int, ys.Perm xs ∧ SrtTo V ys (n - 1) ∧ OwnI w' B (.slice (some ⟨g, 0, none⟩) n c) ys ∧ But (fun i => i = g) w w' by
    go_enter Try.func54, Try.ntmps54
    go_wp2_with fail
    go_loop [7, 8] (fun a b => a = .int .i64 0 ∧ b = .int .i64 20) (fun _ _ => 0)
    case atStart => exact ⟨rfl, rfl⟩
    case round =>
      obtain ⟨rfl, rfl⟩ := hrel
      have hd : decide (20 ≤ n) = false := by simp; omega
      go_wp2_with fail
      refine HI.out.mono ?_
      rintro e w1 ⟨rfl, ys, h1, h2, h3, h4⟩
      have HF := Lib.hid (And.intro h1 (And.intro h2 (And.intro h3 h4)))
      clear h1 h2 h3 h4
      go_wp2_with fail
      go_loop [6, 7, 8, 9] (fun a _ _ _ => a = .int .i64 20) (fun _ _ _ _ => 0)
      case atStart => exact rfl
      case round =>
        obtain rfl := hrel
        have hd : decide (20 < n) = false := by simp; omega
        go_wp2_with fail
        go_end0
        exact ⟨rfl, ys, HF.out.1, HF.out.2.1, HF.out.2.2.1, HF.out.2.2.2⟩)
  clear HI
  go_enter Try.func48, Try.ntmps48
  go_wp2_with fail
  refine HI2.out.mono ?_
  rintro e w1 ⟨rfl, ys, h1, h2, h3, h4⟩
  have HF := Lib.hid (And.intro h1 (And.intro h2 (And.intro h3 h4)))
  clear h1 h2 h3 h4
  go_wp2_with fail
  go_end0
  exact ⟨rfl, ys, ⟨HF.out.1, by rw [hl]; exact HF.out.2.1⟩, HF.out.2.2.1, HF.out.2.2.2⟩

set_option maxHeartbeats 4000000 in
theorem isortP_any (V : Int → Int) (g n c B K K2 : Nat) (xs : List Int) (w : World) (hO : OwnI w B (.slice (some ⟨g, 0, none⟩) n c) xs) (hn : n ≤ 19) (hC : ∀ w', But (fun i => i = g) w w' → ∀ x y, x ∈ xs → y ∈ xs → Calls Try.prog 56 #[.int .i64 x, .int .i64 y, .pointer (some ⟨K, 0, none⟩), .pointer (some ⟨K2, 0, none⟩)] w' fun e w'' => e = .returned (.int .i64 (V y - V x)) ∧ Below w'.heap.size w' w'') :
    Calls Try.prog 60 #[.slice (some ⟨g, 0, none⟩) n c, .int .i64 0, .int .i64 n, .func (.func 56) #[] #[.pointer (some ⟨K, 0, none⟩), .pointer (some ⟨K2, 0, none⟩)]] w fun e w' => e = .returned (.tuple #[]) ∧ ∃ ys : List Int, ys.Perm xs ∧ SrtTo V ys (n - 1) ∧ OwnI w' B (.slice (some ⟨g, 0, none⟩) n c) ys ∧ But (fun i => i = g) w w' := by
  have HO0 := Lib.hid hO
  have HC := Lib.hid hC
  have hgl : g < w.heap.size := Owns.in hO g rfl
  clear hO hC
  go_enter Try.func60, Try.ntmps60
  go_wp2_with fail
  go_loopw [8] (fun i wr => ∃ (k : Nat) (ys : List Int), 1 ≤ k ∧ (k ≤ n ∨ k = 1) ∧ i = .int .i64 k ∧ Hid (OwnI wr B (.slice (some ⟨g, 0, none⟩) n c) ys) ∧ Hid (ys.Perm xs) ∧ Hid (SrtTo V ys (k - 1)) ∧ But (fun i => i = g) w wr) (fun i _ => n - (intOf i).toNat)
  case atStart => exact ⟨1, xs, by omega, by omega, rfl, HO0, Lib.hid (List.Perm.refl _), Lib.hid (srt_zero _ _), But.refl _ _⟩
  case round =>
    clear HO0
    obtain ⟨k, ys, hk1, hk2, rfl, HO, HP, HS, hB⟩ := hrel
    by_cases hlt : k < n
    · have HS0 := Lib.hid (show SrtBut V ys k k by have := srt_start HS.out; rwa [show k - 1 + 1 = k by omega] at this)
      clear HS
      go_wp2_with fail
      go_loopw [9] (fun j wz => ∃ (m : Nat) (zs : List Int), m ≤ k ∧ j = .int .i64 m ∧ Hid (OwnI wz B (.slice (some ⟨g, 0, none⟩) n c) zs) ∧ Hid (zs.Perm xs) ∧ Hid (SrtBut V zs k m) ∧ But (fun i => i = g) w wz) (fun j _ => (intOf j).toNat)
      case atStart => exact ⟨k, ys, by omega, rfl, HO, HP, HS0, hB⟩
      case round =>
        clear HO HP HS0 hB
        generalize wr = wz at *
        obtain ⟨m, zs, hm, rfl, HO, HP, HS, hB⟩ := hrel
        have hzl := HO.out.len'
        by_cases hm0 : m = 0
        · subst hm0
          have HS2 := Lib.hid (show SrtTo V zs (k + 1 - 1) by rw [Nat.add_sub_cancel]; exact srt_done HS.out (.inl rfl))
          have d0 : decide ((0 : Int) < ((0 : Nat) : Int)) = false := by decide
          clear HS
          go_wp2_with fail
          go_quiet (fail)
          have hq := below_drewN (Below.refl wz.heap.size wz) nq
          have hBW := hB.trans (But.of hq)
          have HOW := Lib.hid (HO.out.below hq)
          go_wp2_with fail
          go_roundw
          case rel => exact ⟨k + 1, zs, by omega, by omega, by go_num, HOW, HP, HS2, hBW⟩
          case measure => simp [intOf]; omega
        · have c1 := HO.out.cellAt m (by omega)
          have c2 := HO.out.cellAt (m - 1) (by omega)
          have f1 := HO.out.free m
          have f2 := HO.out.free (m - 1)
          have HX := Lib.hid (HP.out.mem_iff.1 (mem_getDI (show m < zs.length by omega)))
          have HY := Lib.hid (HP.out.mem_iff.1 (mem_getDI (show m - 1 < zs.length by omega)))
          have hm1 : ((m : Int) - 1).toNat = m - 1 := by omega
          have hm2 : (m : Int) - 1 = ((m - 1 : Nat) : Int) := by omega
          have HSw := Lib.hid (show V (zs.getD (m - 1) 0) < V (zs.getD m 0) → SrtBut V (swapL zs m) k (m - 1) from fun h => srt_swap HS.out (by omega) hm (by omega) h)
          have HDn := Lib.hid (show V (zs.getD m 0) ≤ V (zs.getD (m - 1) 0) → SrtTo V zs k from fun h => srt_done HS.out (.inr h))
          have HPs := Lib.hid ((swapL_perm (ys := zs) (j := m) (by omega) (by omega)).trans HP.out)
          have HO2 := Lib.hid (show OwnI ((wz.setCell ⟨g, m, none⟩ (.int .i64 (zs.getD (m - 1) 0))).setCell ⟨g, m - 1, none⟩ (.int .i64 (zs.getD m 0))) B (.slice (some ⟨g, 0, none⟩) n c) (swapL zs m) from ((HO.out.store m (zs.getD (m - 1) 0)).1.store (m - 1) (zs.getD m 0)).1)
          generalize hx : zs.getD m 0 = x at *
          generalize hy : zs.getD (m - 1) 0 = y at *
          have hgz : g < wz.heap.size := by have := hB.size; omega
          have q1 : ∀ W : Ext wz.heap.size wz, Calls Try.prog 56 #[.int .i64 x, .int .i64 y, .pointer (some ⟨K, 0, none⟩), .pointer (some ⟨K2, 0, none⟩)] W.1 fun e w'' => e = .returned (.int .i64 (V y - V x)) ∧ ∃ W' : Ext wz.heap.size wz, w'' = W'.val := fun W => Calls.ext W (HC.out W.1 (hB.trans (But.of W.2)) x y HX.out HY.out)
          have e1 : ∀ W : Ext wz.heap.size wz, W.1.cell? ⟨g, m, none⟩ = some (.int .i64 x) := fun W => by rw [W.2.cell (p := ⟨g, m, none⟩) hgz]; exact c1
          have e2 : ∀ W : Ext wz.heap.size wz, W.1.cell? ⟨g, m - 1, none⟩ = some (.int .i64 y) := fun W => by rw [W.2.cell (p := ⟨g, m - 1, none⟩) hgz]; exact c2
          have HE := Lib.hid (show swapL zs m = (zs.set m y).set (m - 1) x by unfold swapL; rw [hx, hy])
          have HV := Lib.hid (show V y - V x < 0 ↔ V y < V x by omega)
          generalize hd : V y - V x = d at *
          have hmn : 0 < m := by omega
          have hmd : decide (0 < m) = true := by simp [hmn]
          clear HS hx hy hd
          go_wp2_with fail
          refine wp_region_ext wz.heap.size wz (by kernel_rfl) (by kernel_rfl) (Below.refl _ _) ?_
          repeat (first | go_big_quiet_step (first | with_reducible exact q1 _))
          refine wpQuiet_nil ?_
          intro W
          have hBW := hB.trans (But.of W.2)
          have HOW := Lib.hid (HO.out.below W.2)
          have c1 := e1 W
          have c2 := e2 W
          have HOX := Lib.hid ((HOW.out.store m y).1.store (m - 1) x)
          have hWl : g < W.1.heap.size := by have := W.2.size; omega
          have f1 := HOW.out.free m
          have f2 := HOW.out.free (m - 1)
          clear q1 e1 e2 hgz hB
          generalize W.1 = w3 at *
          by_cases hdn : d < 0
          · have HS2 := Lib.hid (HSw.out (HV.out.1 hdn))
            have HB2 := Lib.hid (show But (fun i => i = g) w ((w3.setCell ⟨g, m, none⟩ (.int .i64 y)).setCell ⟨g, m - 1, none⟩ (.int .i64 x)).drew from ((hBW.trans (But.set w3 g m (.int .i64 y) fun _ => rfl)).trans (But.set _ g (m - 1) (.int .i64 x) fun _ => rfl)).drew)
            have HOD := Lib.hid HOX.out.1.drew
            rw [← HE.out] at HOD
            clear hBW HOX HO2 HOW
            go_wp2_with fail
            go_region
            go_wp2_with fail
            go_roundw
            case rel => exact ⟨m - 1, swapL zs m, by omega, by go_num, HOD, HPs, HS2, HB2.out⟩
            case measure => simp [intOf]; omega
          · have HS2 := Lib.hid (show SrtTo V zs (k + 1 - 1) by rw [Nat.add_sub_cancel]; exact HDn.out (Int.not_lt.1 fun h => hdn (HV.out.2 h)))
            go_wp2_with fail
            go_roundw
            case rel => exact ⟨k + 1, zs, by omega, by omega, by go_num, HOW, HP, HS2, hBW⟩
            case measure => simp [intOf]; omega
    · have HS2 := Lib.hid (show SrtTo V ys (n - 1) from fun a b hab hb => HS.out a b hab (by omega))
      go_wp2_with fail
      go_end0
      exact ⟨rfl, ys, HP.out, HS2.out, HO.out, hB⟩

set_option maxHeartbeats 2000000 in
theorem stableP_any (V : Int → Int) (g n c B K K2 : Nat) (xs : List Int) (w : World) (hO : OwnI w B (.slice (some ⟨g, 0, none⟩) n c) xs) (hn : n ≤ 19) (hC : ∀ w', But (fun i => i = g) w w' → ∀ x y, x ∈ xs → y ∈ xs → Calls Try.prog 56 #[.int .i64 x, .int .i64 y, .pointer (some ⟨K, 0, none⟩), .pointer (some ⟨K2, 0, none⟩)] w' fun e w'' => e = .returned (.int .i64 (V y - V x)) ∧ Below w'.heap.size w' w'') :
    Calls Try.prog 48 #[.slice (some ⟨g, 0, none⟩) n c, .func (.func 56) #[] #[.pointer (some ⟨K, 0, none⟩), .pointer (some ⟨K2, 0, none⟩)]] w fun e w' => e = .returned (.tuple #[]) ∧ ∃ ys : List Int, SortOf V xs ys ∧ OwnI w' B (.slice (some ⟨g, 0, none⟩) n c) ys ∧ But (fun i => i = g) w w' := by
  have hl := hO.len'
  have HI := Lib.hid (isortP_any V g n c B K K2 xs w hO hn hC)
  clear hO hC
  have HI2 := Lib.hid (show Calls Try.prog 54 #[.slice (some ⟨g, 0, none⟩) n c, .int .i64 n, .func (.func 56) #[] #[.pointer (some ⟨K, 0, none⟩), .pointer (some ⟨K2, 0, none⟩)]] w fun e w' => e = .returned (.tuple #[]) ∧ ∃ ys : List Int, ys.Perm xs ∧ SrtTo V ys (n - 1) ∧ OwnI w' B (.slice (some ⟨g, 0, none⟩) n c) ys ∧ But (fun i => i = g) w w' by
    go_enter Try.func54, Try.ntmps54
    go_wp2_with fail
    go_loop [7, 8] (fun a b => a = .int .i64 0 ∧ b = .int .i64 20) (fun _ _ => 0)
    case atStart => exact ⟨rfl, rfl⟩
    case round =>
      obtain ⟨rfl, rfl⟩ := hrel
      have hd : decide (20 ≤ n) = false := by simp; omega
      go_wp2_with fail
      refine HI.out.mono ?_
      rintro e w1 ⟨rfl, ys, h1, h2, h3, h4⟩
      have HF := Lib.hid (And.intro h1 (And.intro h2 (And.intro h3 h4)))
      clear h1 h2 h3 h4
      go_wp2_with fail
      go_loop [6, 7, 8, 9] (fun a _ _ _ => a = .int .i64 20) (fun _ _ _ _ => 0)
      case atStart => exact rfl
      case round =>
        obtain rfl := hrel
        have hd : decide (20 < n) = false := by simp; omega
        go_wp2_with fail
        go_end0
        exact ⟨rfl, ys, HF.out.1, HF.out.2.1, HF.out.2.2.1, HF.out.2.2.2⟩)
  clear HI
  go_enter Try.func48, Try.ntmps48
  go_wp2_with fail
  refine HI2.out.mono ?_
  rintro e w1 ⟨rfl, ys, h1, h2, h3, h4⟩
  have HF := Lib.hid (And.intro h1 (And.intro h2 (And.intro h3 h4)))
  clear h1 h2 h3 h4
  go_wp2_with fail
  go_end0
  exact ⟨rfl, ys, ⟨HF.out.1, by rw [hl]; exact HF.out.2.1⟩, HF.out.2.2.1, HF.out.2.2.2⟩

end Go.Proofs.Ytkgikajfeihbbaa
