/- Uploads: what BinarySearchFunc returns. Condition: a list that is sorted. -/
import Derived.Test.YtpdodapdaeochaaUpG
import Derived.Test.YtpdodapdaeochaaGuard
namespace Go.Proofs.Ytpdodapdaeochaa
set_option maxRecDepth 100000
open Go.RowKit

theorem ordP_lt {p1 n1 p2 n2 : Nat} : ordP p1 n1 p2 n2 < 0 ↔ ltP (p1, n1) (p2, n2) := by
  unfold ordP orI ordC ltP
  simp only []
  split <;> split <;> (try split) <;> (try split) <;> omega
theorem ordP_eq {p1 n1 p2 n2 : Nat} : ordP p1 n1 p2 n2 = 0 ↔ p1 = p2 ∧ n1 = n2 := by
  unfold ordP orI ordC
  split <;> split <;> (try split) <;> (try split) <;> omega
theorem place_eq {p : PK} : ∀ {l : List PK} {i : Nat}, i ≤ l.length → (∀ k, k < i → ltP (l.getD k (0, 0)) p) → (i < l.length → ¬ ltP (l.getD i (0, 0)) p) → place p l = i
  | [], i, h, _, _ => by simp at h; subst h; rfl
  | q :: qs, 0, _, _, h => by
    have := h (by simp)
    simp at this
    simp [place, this]
  | q :: qs, i + 1, h, h1, h2 => by
    have h3 := h1 0 (by omega)
    simp at h3
    simp only [place]
    rw [if_pos h3, place_eq (l := qs) (i := i) (by simp at h; omega) (fun k hk => by have := h1 (k + 1) (by omega); simpa using this) (fun hi => by have := h2 (by simp; omega); simpa using this)]
theorem srt_at {l : List PK} (h : Srt l) {i j : Nat} (hij : i < j) (hj : j < l.length) : ltP (l.getD i (0, 0)) (l.getD j (0, 0)) := by
  have h1 := List.pairwise_iff_getElem.1 h i j (by omega) hj hij
  simpa [List.getD, List.getElem?_eq_getElem, hj, (by omega : i < l.length)] using h1
theorem mem_place {p : PK} {l : List PK} {i : Nat} (hs : Srt l) (hi : i ≤ l.length) (h1 : ∀ k, k < i → ltP (l.getD k (0, 0)) p) (h2 : i < l.length → ¬ ltP (l.getD i (0, 0)) p) : p ∈ l ↔ i < l.length ∧ l.getD i (0, 0) = p := by
  constructor
  · intro h
    obtain ⟨k, hk, e⟩ := List.mem_iff_getElem.1 h
    have e' : l.getD k (0, 0) = p := by simp [List.getD, hk, e]
    rcases Nat.lt_trichotomy k i with h3 | h3 | h3
    · have := h1 k h3; rw [e'] at this; exact absurd this (ltP_irr p)
    · subst h3; exact ⟨hk, e'⟩
    · have h4 := srt_at hs h3 hk
      rw [e'] at h4
      exact absurd h4 (h2 (by omega))
  · rintro ⟨hlt, e⟩
    rw [← e]; simp [List.getD, hlt]
/-- packets of a list of positions and lengths -/
def LsOf (l : List PK) (f : Nat → PkM) (len : Nat) : Prop := l.length = len ∧ ∀ i, i < len → (f i).pos = (l.getD i (0, 0)).1 ∧ (f i).da.length = (l.getD i (0, 0)).2
set_option maxHeartbeats 2000000 in
theorem bsearch_any (l : List PK) (f : Nat → PkM) (m : PkM) (a a1 : Option Addr) (len cap n c : Nat) (w : World) (hx : PksIn w a len cap f) (hl : LsOf l f len) (hs : Srt l) (hlen : len ≤ 1048576) :
    Calls Try.prog 30 #[.slice a len cap, .agg #[.int .i64 m.se, .int .i64 m.pos, .slice a1 n c, .int .u64 (m.su.toNat : Int)], .func (.func 31) #[] #[]] w fun e w' => e = .returned (.tuple #[.int .i64 (place (m.pos, n) l : Nat), .bool (decide ((m.pos, n) ∈ l))]) ∧ Below w.heap.size w w' := by
  have HX := Lib.hid hx
  have HL := Lib.hid hl
  have HLn := Lib.hid hl.1
  have HS := Lib.hid hs
  clear hx hl hs
  go_enter Try.func30, Try.ntmps30
  go_wp2_with fail
  have hbx : Below w.heap.size w (w.alloc (.cells #[.int .i64 m.se, .int .i64 m.pos, .slice a1 n c, .int .u64 (m.su.toNat : Int)] 35)) := ((Below.refl _ _).alloc (Nat.le_refl _) _)
  generalize hWW : (w.alloc (.cells #[.int .i64 m.se, .int .i64 m.pos, .slice a1 n c, .int .u64 (m.su.toNat : Int)] 35)) = w0 at *
  replace HX := Lib.hid (HX.out.below hbx)
  have cK0 : w0.cell? ⟨w.heap.size, 0, none⟩ = some (.int .i64 m.se) := by subst hWW; go_simp
  have cK1 : w0.cell? ⟨w.heap.size, 1, none⟩ = some (.int .i64 m.pos) := by subst hWW; go_simp
  have cK2 : w0.cell? ⟨w.heap.size, 2, none⟩ = some (.slice a1 n c) := by subst hWW; go_simp
  have cK3 : w0.cell? ⟨w.heap.size, 3, none⟩ = some (.int .u64 (m.su.toNat : Int)) := by subst hWW; go_simp
  have ltK : w.heap.size < w0.heap.size := by subst hWW; simp
  have hB := hbx
  clear hbx hWW
  go_wp2_with fail
  go_loopw [9, 10] (fun u v wr => ∃ i j : Nat, i ≤ j ∧ j ≤ len ∧ u = .int .i64 i ∧ v = .int .i64 j ∧ Hid (∀ k, k < i → ltP (l.getD k (0, 0)) (m.pos, n)) ∧ Hid (∀ k, j ≤ k → k < len → ¬ ltP (l.getD k (0, 0)) (m.pos, n)) ∧ Below w0.heap.size w0 wr) (fun u v _ => (intOf v).toNat - (intOf u).toNat)
  case atStart => exact ⟨0, len, by omega, by omega, rfl, rfl, Lib.hid (fun k hk => by omega), Lib.hid (fun k h1 h2 => by omega), Below.refl _ _⟩
  case round =>
    generalize wr = wq at *
    obtain ⟨i, j, hij, hj, rfl, rfl, H1, H2, hBq⟩ := hrel
    by_cases hlt : i < j
    · obtain ⟨h, hh⟩ : ∃ h : Nat, h = (i + j) / 2 := ⟨_, rfl⟩
      have hh1 : i ≤ h := by omega
      have hh2 : h < j := by omega
      have hh3 : ((i : Int) + j) / 2 = (h : Int) := by omega
      have hhl : h < len := by omega
      obtain ⟨b, off, rfl, hbs, hcc⟩ := HX.out.at hhl
      obtain ⟨a2, n2, c2, e0, e1, e2, e3, hb1⟩ := (hcc h hhl).below hbs hBq
      have HN := Lib.hid (show n2 = (l.getD h (0, 0)).2 by rw [← hb1.1]; exact (HL.out.2 h hhl).2)
      have HQ := Lib.hid (show (f h).pos = (l.getD h (0, 0)).1 from (HL.out.2 h hhl).1)
      have HR := Lib.hid hb1
      replace cK0 := bc hBq ltK cK0
      replace cK1 := bc hBq ltK cK1
      replace cK2 := bc hBq ltK cK2
      replace cK3 := bc hBq ltK cK3
      have hqs : b < wq.heap.size := bl hBq hbs
      have hks : w.heap.size < wq.heap.size := bl hBq ltK
      clear hcc hb1 hh
      generalize hfm : f h = r at *
      have HFm := Lib.hid hfm
      clear hfm
      by_cases hc : ltP (l.getD h (0, 0)) (m.pos, n)
      · have HO := Lib.hid (show decide (ordP r.pos n2 m.pos n < 0) = true from decide_eq_true (ordP_lt.2 (by rw [HQ.out, HN.out]; exact hc)))
        have HO2 := Lib.hid HO.out
        have HC := Lib.hid hc
        clear hc HO2
        go_wp2_with fail
        have eK0 := box_ext (B := wq.heap.size) cK0 hks
        have eE0 := box_ext (B := wq.heap.size) e0 hqs
        have eK1 := box_ext (B := wq.heap.size) cK1 hks
        have eE1 := box_ext (B := wq.heap.size) e1 hqs
        have eK2 := box_ext (B := wq.heap.size) cK2 hks
        have eE2 := box_ext (B := wq.heap.size) e2 hqs
        have eK3 := box_ext (B := wq.heap.size) cK3 hks
        have eE3 := box_ext (B := wq.heap.size) e3 hqs
        refine wp_region_sched [(0, false), (1, false), (2, false), (3, false), (4, false), (5, false), (6, true), (7, false)] (fun w' => ∃ W : Ext wq.heap.size wq, w' = W.1) (by kernel_rfl) (by kernel_rfl) ⟨⟨wq.drew, (Below.refl _ _).drew⟩, rfl⟩ ?_
        repeat (refine wpSched_calm rfl (fun K hK => ?_); go_simp; refine hK _ ?_; clear hK K)
        clear eK0 eE0 eK1 eE1 eK2 eE2 eK3 eE3
        have hM : Below wq.heap.size wq wq.drew := (Below.refl _ _).drew
        refine wpSched_eff rfl rfl (fun K hK => ?_)
        go_simp
        refine (order_any r m a2 a1 n2 c2 n c _).mono ?_
        rintro e w2 ⟨rfl, hb⟩
        replace hM := hM.trans (hb.mono hM.size)
        generalize ordP r.pos n2 m.pos n = o at *
        refine hK _ _ ⟨⟨w2, hM⟩, rfl⟩ ?_
        clear hK K hb
        have d0 := HO.out
        clear HO
        repeat (refine wpSched_calm rfl (fun K hK => ?_); go_simp; refine hK _ ?_; clear hK K)
        refine wpSched_nil ?_
        go_wp2_with fail
        go_roundw
        case rel => exact ⟨h + 1, j, by omega, hj, by go_num, rfl, Lib.hid (fun k hk => by
            by_cases hkh : k = h
            · subst hkh; exact HC.out
            · exact ltP_trans (srt_at HS.out (show k < h by omega) (by rw [HLn.out]; exact hhl)) HC.out), H2, hBq.trans (hM.mono hBq.size)⟩
        case measure => simp [intOf]; omega
      · have HO := Lib.hid (show decide (ordP r.pos n2 m.pos n < 0) = false from decide_eq_false (fun h9 => hc (by have := ordP_lt.1 h9; rw [HQ.out, HN.out] at this; exact this)))
        have HO2 := Lib.hid HO.out
        have HC := Lib.hid hc
        clear hc HO2
        go_wp2_with fail
        have eK0 := box_ext (B := wq.heap.size) cK0 hks
        have eE0 := box_ext (B := wq.heap.size) e0 hqs
        have eK1 := box_ext (B := wq.heap.size) cK1 hks
        have eE1 := box_ext (B := wq.heap.size) e1 hqs
        have eK2 := box_ext (B := wq.heap.size) cK2 hks
        have eE2 := box_ext (B := wq.heap.size) e2 hqs
        have eK3 := box_ext (B := wq.heap.size) cK3 hks
        have eE3 := box_ext (B := wq.heap.size) e3 hqs
        refine wp_region_sched [(0, false), (1, false), (2, false), (3, false), (4, false), (5, false), (6, true), (7, false)] (fun w' => ∃ W : Ext wq.heap.size wq, w' = W.1) (by kernel_rfl) (by kernel_rfl) ⟨⟨wq.drew, (Below.refl _ _).drew⟩, rfl⟩ ?_
        repeat (refine wpSched_calm rfl (fun K hK => ?_); go_simp; refine hK _ ?_; clear hK K)
        clear eK0 eE0 eK1 eE1 eK2 eE2 eK3 eE3
        have hM : Below wq.heap.size wq wq.drew := (Below.refl _ _).drew
        refine wpSched_eff rfl rfl (fun K hK => ?_)
        go_simp
        refine (order_any r m a2 a1 n2 c2 n c _).mono ?_
        rintro e w2 ⟨rfl, hb⟩
        replace hM := hM.trans (hb.mono hM.size)
        generalize ordP r.pos n2 m.pos n = o at *
        refine hK _ _ ⟨⟨w2, hM⟩, rfl⟩ ?_
        clear hK K hb
        have d0 := HO.out
        clear HO
        repeat (refine wpSched_calm rfl (fun K hK => ?_); go_simp; refine hK _ ?_; clear hK K)
        refine wpSched_nil ?_
        go_wp2_with fail
        go_roundw
        case rel => exact ⟨i, h, hh1, by omega, rfl, by go_num, H1, Lib.hid (fun k h8 h9 => by
            by_cases hkh : k = h
            · subst hkh; exact HC.out
            · exact fun h7 => HC.out (ltP_trans (srt_at HS.out (show h < k by omega) (by rw [HLn.out]; exact h9)) h7)), hBq.trans (hM.mono hBq.size)⟩
        case measure => simp [intOf]; omega
    · obtain rfl : i = j := by omega
      have HPl := Lib.hid (place_eq (p := (m.pos, n)) (l := l) (i := i) (by rw [HLn.out]; exact hj) H1.out (fun h9 => H2.out i (by omega) (by rw [HLn.out] at h9; exact h9)))
      have HMm := Lib.hid (mem_place (p := (m.pos, n)) HS.out (by rw [HLn.out]; exact hj) H1.out (fun h9 => H2.out i (by omega) (by rw [HLn.out] at h9; exact h9)))
      have hB2 := hB.trans (hBq.mono hB.size)
      by_cases hhl : i < len
      · obtain ⟨b, off, rfl, hbs, hcc⟩ := HX.out.at hhl
        obtain ⟨a2, n2, c2, e0, e1, e2, e3, hb1⟩ := (hcc i hhl).below hbs hBq
        have HN := Lib.hid (show n2 = (l.getD i (0, 0)).2 by rw [← hb1.1]; exact (HL.out.2 i hhl).2)
        have HQ := Lib.hid (show (f i).pos = (l.getD i (0, 0)).1 from (HL.out.2 i hhl).1)
        replace cK0 := bc hBq ltK cK0
        replace cK1 := bc hBq ltK cK1
        replace cK2 := bc hBq ltK cK2
        replace cK3 := bc hBq ltK cK3
        have hqs : b < wq.heap.size := bl hBq hbs
        have hks : w.heap.size < wq.heap.size := bl hBq ltK
        clear hcc hb1
        generalize hfm : f i = r at *
        clear hfm
        have HO := Lib.hid (show (ordP r.pos n2 m.pos n == 0) = decide ((m.pos, n) ∈ l) by
          rw [Bool.eq_iff_iff]; simp only [beq_iff_eq, decide_eq_true_eq]
          rw [ordP_eq, HMm.out, HQ.out, HN.out, HLn.out]
          constructor
          · intro h9; exact ⟨hhl, Prod.ext h9.1 h9.2⟩
          · intro h9; rw [h9.2]; exact ⟨rfl, rfl⟩)
        clear HMm
        go_wp2_with fail
        have eK0 := box_ext (B := wq.heap.size) cK0 hks
        have eE0 := box_ext (B := wq.heap.size) e0 hqs
        have eK1 := box_ext (B := wq.heap.size) cK1 hks
        have eE1 := box_ext (B := wq.heap.size) e1 hqs
        have eK2 := box_ext (B := wq.heap.size) cK2 hks
        have eE2 := box_ext (B := wq.heap.size) e2 hqs
        have eK3 := box_ext (B := wq.heap.size) cK3 hks
        have eE3 := box_ext (B := wq.heap.size) e3 hqs
        refine wp_region_sched [(0, false), (1, false), (2, false), (3, false), (4, false), (5, false), (6, false), (7, false), (8, false), (9, false), (10, false), (11, true), (12, false), (13, false), (14, false), (15, false)] (fun w' => ∃ W : Ext wq.heap.size wq, w' = W.1) (by kernel_rfl) (by kernel_rfl) ⟨⟨wq.drew, (Below.refl _ _).drew⟩, rfl⟩ ?_
        repeat (refine wpSched_calm rfl (fun K hK => ?_); go_simp; refine hK _ ?_; clear hK K)
        clear eK0 eE0 eK1 eE1 eK2 eE2 eK3 eE3
        have hM : Below wq.heap.size wq wq.drew := (Below.refl _ _).drew
        refine wpSched_geff rfl ?_ (fun K hK => ?_)
        · go_simp
        go_simp
        refine (order_any r m a2 a1 n2 c2 n c _).mono ?_
        rintro e w2 ⟨rfl, hb⟩
        replace hM := hM.trans (hb.mono hM.size)
        generalize ordP r.pos n2 m.pos n = o at *
        refine hK _ _ ⟨⟨w2, hM⟩, rfl⟩ ?_
        clear hK K hb
        repeat (refine wpSched_calm rfl (fun K hK => ?_); go_simp; refine hK _ ?_; clear hK K)
        refine wpSched_nil ?_
        go_wp2_with fail
        go_ret2
        exact ⟨by rw [HPl.out, ← HO.out]; rfl, hB2.trans (hM.mono hB2.size)⟩
      · have HO := Lib.hid (show decide ((m.pos, n) ∈ l) = false from decide_eq_false (fun h9 => hhl (by have := (HMm.out.1 h9).1; rw [HLn.out] at this; exact this)))
        have hge : len ≤ i := by omega
        have d0 : decide ((i : Int) < len) = false := decide_eq_false (by omega)
        clear HMm
        go_wp2_with fail
        refine wp_region_sched [(0, false), (1, false), (2, false), (3, false), (4, false), (5, false), (6, false), (7, false), (8, false), (9, false), (10, false), (11, true), (12, false), (13, false), (14, false), (15, false)] (fun w' => ∃ W : Ext wq.heap.size wq, w' = W.1) (by kernel_rfl) (by kernel_rfl) ⟨⟨wq.drew, (Below.refl _ _).drew⟩, rfl⟩ ?_
        repeat (refine wpSched_calm rfl (fun K hK => ?_); go_simp; refine hK _ ?_; clear hK K)
        have hM : Below wq.heap.size wq wq.drew := (Below.refl _ _).drew
        generalize wq.drew = w2 at *
        refine wpSched_skip rfl ?_ ⟨⟨w2, hM⟩, rfl⟩ ?_
        · go_simp
        go_simp
        repeat (refine wpSched_calm rfl (fun K hK => ?_); go_simp; refine hK _ ?_; clear hK K)
        refine wpSched_nil ?_
        go_wp2_with fail
        go_ret2
        exact ⟨by rw [HPl.out, HO.out]; rfl, hB2.trans (hM.mono hB2.size)⟩

end Go.Proofs.Ytpdodapdaeochaa
