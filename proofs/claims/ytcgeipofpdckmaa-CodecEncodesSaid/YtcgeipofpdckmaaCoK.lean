/- The codec: what Int, String, List (of two leaves) and Find (of a leaf) return. -/
import Derived.Test.YtcgeipofpdckmaaCoJ
namespace Go.Proofs.Ytcgeipofpdckmaa
set_option maxRecDepth 100000
open Go.RowKit

theorem leaf_in (w : World) (tag kind n : Int) (s : List UInt8) (hs : s.length ≤ maxLen) : NodeIn w (.mk tag kind n s []) (.agg #[.int .i64 tag, .int .i64 kind, .int .i64 n, .string ⟨s.toArray⟩, .slice none 0 0]) :=
  nodeIn_mk.2 ⟨none, 0, 0, rfl, hs, rfl, Nat.le_refl _, by simp [maxLen], fun _ => rfl, .inl rfl⟩
set_option maxHeartbeats 1000000 in
theorem int_any (tag n : Int) (w : World) : Calls Try.prog 20 #[.int .i64 tag, .int .i64 n] w fun e w' => e = .returned (.agg #[.int .i64 tag, .int .i64 1, .int .i64 n, .string ⟨#[]⟩, .slice none 0 0]) ∧ Below w.heap.size w w' := by
  have hb : ∀ v0 v1 v2 v3 v4 : Value, Below w.heap.size w (w.alloc (.cells #[v0, v1, v2, v3, v4] 24)) := fun _ _ _ _ _ => (Below.refl _ _).alloc (Nat.le_refl _) _
  go_enter Try.func20, Try.ntmps20
  go_wp2_with fail
  refine bodyPost_ret (v := .agg #[.int .i64 tag, .int .i64 1, .int .i64 n, .string ⟨#[]⟩, .slice none 0 0]) (by simp [results, Try.results20, go_sem]) rfl ⟨rfl, hb _ _ _ _ _⟩
set_option maxHeartbeats 1000000 in
theorem string_any (tag : Int) (s : ByteArray) (w : World) : Calls Try.prog 21 #[.int .i64 tag, .string s] w fun e w' => e = .returned (.agg #[.int .i64 tag, .int .i64 2, .int .i64 0, .string s, .slice none 0 0]) ∧ Below w.heap.size w w' := by
  have hb : ∀ v0 v1 v2 v3 v4 : Value, Below w.heap.size w (w.alloc (.cells #[v0, v1, v2, v3, v4] 24)) := fun _ _ _ _ _ => (Below.refl _ _).alloc (Nat.le_refl _) _
  go_enter Try.func21, Try.ntmps21
  go_wp2_with fail
  refine bodyPost_ret (v := .agg #[.int .i64 tag, .int .i64 2, .int .i64 0, .string s, .slice none 0 0]) (by simp [results, Try.results21, go_sem]) rfl ⟨rfl, hb _ _ _ _ _⟩
set_option maxHeartbeats 1000000 in
theorem copies_nil (a : Option Addr) (cap : Nat) (w : World) : Calls Try.prog 30 #[.slice a 0 cap] w fun e w' => e = .returned (.slice none 0 0) ∧ w = w' := by
  go_enter Try.func30, Try.ntmps30
  go_wp2_with fail
  go_ret
  exact ⟨rfl, rfl⟩
/-- 'make([]T, n)' of elements of k cells, in a walk -/
theorem wpList_mknK {P : Program} {w : World} {ops : Array Oper} {rest : List Oper} {o : Oper} {a : Act} {Q : Exit → Act → World → Prop} (hgd : o.guard = none) (l c : Operand) (t : TypeId) (hop : o.op = Op.makeSlice t l c)
    (e : TypeId) (z : Value) (k bytes : Nat) (ht : P.underlying t = some (.slice e)) (hi : (P.info? e).map (fun i => (i.zero, i.size, i.bytes)) = some (some z, k, bytes))
    (kl kc : IntKind) (L C : Int) (n : Nat) (hl : a.eval l = .int kl L) (hc : a.eval c = .int kc C) (hL : L = (n : Int)) (hC : C = (n : Int)) (hb : bytes * n ≤ 281474976710656) (hn : n ≤ maxLen)
    (hK : ∀ w', OwnsK w' w.heap.size e k (.slice (some ⟨w.heap.size, 0, none⟩) n n) n (madeCells z.cells (n * k)).toList → Below w.heap.size w w' → wpList P ops Q rest (a.put o.dst (.slice (some ⟨w.heap.size, 0, none⟩) n n)) w') : wpList P ops Q (o :: rest) a w := by
  obtain ⟨i, hi', hz, hsize, hby⟩ := info_parts hi
  exact wpList_make_full w hgd l c t hop w.heap.size e i z k ht hi' hz hsize kl kc L C n hl hc hL hC (by rw [hby]; exact hb) hn (Nat.le_refl _) fun w' h1 h2 => hK w' h1 ((Below.refl _ _).grown h2 (Nat.le_refl _) (by simp))

/-- the cells of a leaf -/
def lfc (tag kind n : Int) (s : List UInt8) : List Value := [.int .i64 tag, .int .i64 kind, .int .i64 n, .string ⟨s.toArray⟩, .slice none 0 0]
theorem kids_two {w : World} {g o cap : Nat} {t1 k1 n1 t2 k2 n2 : Int} {s1 s2 : List UInt8} (hs1 : s1.length ≤ maxLen) (hs2 : s2.length ≤ maxLen) (hc : 2 ≤ cap) (hm : cap ≤ maxLen) (hlt : g < w.heap.size) (h : ∀ j, j < 10 → w.cell? ⟨g, o + j, none⟩ = some ((lfc t1 k1 n1 s1 ++ lfc t2 k2 n2 s2).getD j .nilFunc)) :
    Kids w (some ⟨g, o, none⟩) 2 cap [.mk t1 k1 n1 s1 [], .mk t2 k2 n2 s2 []] := by
  refine ⟨rfl, hc, hm, by simp, .inr ⟨g, o, rfl, hlt, ?_⟩⟩
  simp only [KidsIn]
  refine ⟨⟨_, _, _, _, _, h 0 (by omega), h 1 (by omega), h 2 (by omega), h 3 (by omega), h 4 (by omega), leaf_in w t1 k1 n1 s1 hs1⟩, ⟨_, _, _, _, _, h 5 (by omega), h 6 (by omega), h 7 (by omega), h 8 (by omega), h 9 (by omega), leaf_in w t2 k2 n2 s2 hs2⟩, trivial⟩
def cps (t1 k1 n1 t2 k2 n2 : Int) (s1 s2 : List UInt8) : Nat → Array Value
  | 0 => #[.int .i64 0, .int .i64 0, .int .i64 0, .string ⟨#[]⟩, .slice none 0 0] ++ #[.int .i64 0, .int .i64 0, .int .i64 0, .string ⟨#[]⟩, .slice none 0 0]
  | 1 => (lfc t1 k1 n1 s1).toArray ++ #[.int .i64 0, .int .i64 0, .int .i64 0, .string ⟨#[]⟩, .slice none 0 0]
  | _ => (lfc t1 k1 n1 s1 ++ lfc t2 k2 n2 s2).toArray
set_option maxHeartbeats 4000000 in
theorem copies_two (t1 k1 n1 t2 k2 n2 : Int) (s1 s2 : List UInt8) (b off cap : Nat) (w : World) (hlt : b < w.heap.size) (h : ∀ j, j < 10 → w.cell? ⟨b, off + j, none⟩ = some ((lfc t1 k1 n1 s1 ++ lfc t2 k2 n2 s2).getD j .nilFunc)) :
    Calls Try.prog 30 #[.slice (some ⟨b, off, none⟩) 2 cap] w fun e w' => ∃ g, e = .returned (.slice (some ⟨g, 0, none⟩) 2 2) ∧ w'.heap[g]? = some (.cells (lfc t1 k1 n1 s1 ++ lfc t2 k2 n2 s2).toArray 24) ∧ w.heap.size ≤ g ∧ Below w.heap.size w w' := by
  have H0 := Lib.hid h
  clear h
  go_enter Try.func30, Try.ntmps30
  go_wp2_with (at_make; refine wpList_mknK rfl _ _ 22 rfl 24 (.agg #[.int .i64 0, .int .i64 0, .int .i64 0, .string ⟨#[]⟩, .slice none 0 0]) 5 64 Try.underlying22 infoNode _ _ _ _ 2 rfl rfl rfl rfl (by omega) (by simp only [maxLen]; omega) fun w1 h1 h2 => ?_)
  have hgb : w1.heap[w.heap.size]? = some (.cells (#[.int .i64 0, .int .i64 0, .int .i64 0, .string ⟨#[]⟩, .slice none 0 0] ++ #[.int .i64 0, .int .i64 0, .int .i64 0, .string ⟨#[]⟩, .slice none 0 0]) 24) := by
    rcases h1.2 with ⟨h', -⟩ | ⟨g, c, cur, hv, -, hh, -, -, hcs, htk⟩
    · cases h'
    · cases hv
      rw [hh]
      have e1 : cur.toList.length = 10 := by simpa using hcs
      rw [List.take_of_length_le (by omega)] at htk
      have e2 : cur = #[.int .i64 0, .int .i64 0, .int .i64 0, .string ⟨#[]⟩, .slice none 0 0] ++ #[.int .i64 0, .int .i64 0, .int .i64 0, .string ⟨#[]⟩, .slice none 0 0] := by
        apply Array.toList_inj.1
        rw [htk]; kernel_rfl
      rw [e2]
  have HB1 := Lib.hid h2
  have HG1 := Lib.hid hgb
  clear h1 h2 hgb
  go_wp2_with fail
  go_loopw [14] (fun i wr => ∃ k : Nat, k ≤ 2 ∧ i = .int .i64 k ∧ Hid (Below w.heap.size w wr) ∧ Hid (wr.heap[w.heap.size]? = some (.cells (cps t1 k1 n1 t2 k2 n2 s1 s2 k) 24))) (fun i _ => 2 - (intOf i).toNat)
  case atStart => exact ⟨0, by omega, rfl, HB1, HG1⟩
  case round =>
    obtain ⟨k, hk, rfl, HBr, HGr⟩ := hrel
    have hsrc : ∀ j, j < 10 → wr.cell? ⟨b, off + j, none⟩ = some ((lfc t1 k1 n1 s1 ++ lfc t2 k2 n2 s2).getD j .nilFunc) := fun j hj => by rw [HBr.out.cell (p := ⟨b, off + j, none⟩) hlt]; exact H0.out j hj
    have hkk : k = 0 ∨ k = 1 ∨ k = 2 := by omega
    have hgl := blk_lt HGr.out
    rcases hkk with rfl | rfl | rfl
    · have x0 : wr.cell? ⟨b, off, none⟩ = some (.int .i64 t1) := hsrc 0 (by omega)
      have x1 : wr.cell? ⟨b, off + 1, none⟩ = some (.int .i64 k1) := hsrc 1 (by omega)
      have x2 : wr.cell? ⟨b, off + 2, none⟩ = some (.int .i64 n1) := hsrc 2 (by omega)
      have x3 : wr.cell? ⟨b, off + 3, none⟩ = some (.string ⟨s1.toArray⟩) := hsrc 3 (by omega)
      have x4 : wr.cell? ⟨b, off + 4, none⟩ = some (.slice none 0 0) := hsrc 4 (by omega)
      have y0 := blk_cell HGr.out 0
      have yf0 := blk_free HGr.out 0
      have y1 := blk_cell HGr.out 1
      have yf1 := blk_free HGr.out 1
      have y2 := blk_cell HGr.out 2
      have yf2 := blk_free HGr.out 2
      have y3 := blk_cell HGr.out 3
      have yf3 := blk_free HGr.out 3
      have y4 := blk_cell HGr.out 4
      have yf4 := blk_free HGr.out 4
      simp [cps] at y0 y1 y2 y3 y4
      clear hsrc
      go_wp2_with fail
      refine (copies_nil none 0 _).mono ?_
      rintro e w2 ⟨rfl, rfl⟩
      have hz5 : ((((((wr.setCell ⟨w.heap.size, 0, none⟩ (.int .i64 t1)).setCell ⟨w.heap.size, 1, none⟩ (.int .i64 k1)).setCell ⟨w.heap.size, 2, none⟩ (.int .i64 n1)).setCell ⟨w.heap.size, 3, none⟩ (.string ⟨s1.toArray⟩)).setCell ⟨w.heap.size, 4, none⟩ (.slice none 0 0)).alloc (.cells #[.int .i64 t1, .int .i64 k1, .int .i64 n1, .string ⟨s1.toArray⟩, .slice none 0 0] 24)).heap[w.heap.size]? = some (.cells (cps t1 k1 n1 t2 k2 n2 s1 s2 1) 24) := by
        have := blk_set (o := 4) (blk_set (o := 3) (blk_set (o := 2) (blk_set (o := 1) (blk_set (o := 0) HGr.out (.int .i64 t1)) (.int .i64 k1)) (.int .i64 n1)) (.string ⟨s1.toArray⟩)) (.slice none 0 0)
        rw [heap_alloc_old _ _ (blk_lt this)]
        exact this
      have hbz : Below w.heap.size w ((((((wr.setCell ⟨w.heap.size, 0, none⟩ (.int .i64 t1)).setCell ⟨w.heap.size, 1, none⟩ (.int .i64 k1)).setCell ⟨w.heap.size, 2, none⟩ (.int .i64 n1)).setCell ⟨w.heap.size, 3, none⟩ (.string ⟨s1.toArray⟩)).setCell ⟨w.heap.size, 4, none⟩ (.slice none 0 0)).alloc (.cells #[.int .i64 t1, .int .i64 k1, .int .i64 n1, .string ⟨s1.toArray⟩, .slice none 0 0] 24)) := (((((HBr.out.setCell (p := ⟨w.heap.size, 0, none⟩) (Nat.le_refl _) _).setCell (p := ⟨w.heap.size, 1, none⟩) (Nat.le_refl _) _).setCell (p := ⟨w.heap.size, 2, none⟩) (Nat.le_refl _) _).setCell (p := ⟨w.heap.size, 3, none⟩) (Nat.le_refl _) _).setCell (p := ⟨w.heap.size, 4, none⟩) (Nat.le_refl _) _).alloc (by simp; omega) _
      clear y0 y1 y2 y3 y4 yf0 yf1 yf2 yf3 yf4 x0 x1 x2 x3 x4
      generalize ((((((wr.setCell ⟨w.heap.size, 0, none⟩ (.int .i64 t1)).setCell ⟨w.heap.size, 1, none⟩ (.int .i64 k1)).setCell ⟨w.heap.size, 2, none⟩ (.int .i64 n1)).setCell ⟨w.heap.size, 3, none⟩ (.string ⟨s1.toArray⟩)).setCell ⟨w.heap.size, 4, none⟩ (.slice none 0 0)).alloc (.cells #[.int .i64 t1, .int .i64 k1, .int .i64 n1, .string ⟨s1.toArray⟩, .slice none 0 0] 24)) = wz at *
      have HZ := Lib.hid (blk_set (o := 4) hz5 (.slice none 0 0))
      have HBz := Lib.hid (hbz.setCell (p := ⟨w.heap.size, 4, none⟩) (Nat.le_refl _) (.slice none 0 0))
      have y4 := blk_cell hz5 4
      have yf4 := blk_free hz5 4
      simp [cps, lfc] at y4
      clear hz5 hbz
      go_wp2_with fail
      go_roundw
      case rel => exact ⟨1, by omega, by go_num, HBz, HZ⟩
      case measure => simp [intOf]
    · have x0 : wr.cell? ⟨b, off + 5, none⟩ = some (.int .i64 t2) := hsrc 5 (by omega)
      have x1 : wr.cell? ⟨b, off + 5 + 1, none⟩ = some (.int .i64 k2) := hsrc 6 (by omega)
      have x2 : wr.cell? ⟨b, off + 5 + 2, none⟩ = some (.int .i64 n2) := hsrc 7 (by omega)
      have x3 : wr.cell? ⟨b, off + 5 + 3, none⟩ = some (.string ⟨s2.toArray⟩) := hsrc 8 (by omega)
      have x4 : wr.cell? ⟨b, off + 5 + 4, none⟩ = some (.slice none 0 0) := hsrc 9 (by omega)
      have y0 := blk_cell HGr.out 5
      have yf0 := blk_free HGr.out 5
      have y1 := blk_cell HGr.out 6
      have yf1 := blk_free HGr.out 6
      have y2 := blk_cell HGr.out 7
      have yf2 := blk_free HGr.out 7
      have y3 := blk_cell HGr.out 8
      have yf3 := blk_free HGr.out 8
      have y4 := blk_cell HGr.out 9
      have yf4 := blk_free HGr.out 9
      simp [cps, lfc] at y0 y1 y2 y3 y4
      clear hsrc
      go_wp2_with fail
      refine (copies_nil none 0 _).mono ?_
      rintro e w2 ⟨rfl, rfl⟩
      have hz5 : ((((((wr.setCell ⟨w.heap.size, 5, none⟩ (.int .i64 t2)).setCell ⟨w.heap.size, 6, none⟩ (.int .i64 k2)).setCell ⟨w.heap.size, 7, none⟩ (.int .i64 n2)).setCell ⟨w.heap.size, 8, none⟩ (.string ⟨s2.toArray⟩)).setCell ⟨w.heap.size, 9, none⟩ (.slice none 0 0)).alloc (.cells #[.int .i64 t2, .int .i64 k2, .int .i64 n2, .string ⟨s2.toArray⟩, .slice none 0 0] 24)).heap[w.heap.size]? = some (.cells (cps t1 k1 n1 t2 k2 n2 s1 s2 2) 24) := by
        have := blk_set (o := 9) (blk_set (o := 8) (blk_set (o := 7) (blk_set (o := 6) (blk_set (o := 5) HGr.out (.int .i64 t2)) (.int .i64 k2)) (.int .i64 n2)) (.string ⟨s2.toArray⟩)) (.slice none 0 0)
        rw [heap_alloc_old _ _ (blk_lt this)]
        exact this
      have hbz : Below w.heap.size w ((((((wr.setCell ⟨w.heap.size, 5, none⟩ (.int .i64 t2)).setCell ⟨w.heap.size, 6, none⟩ (.int .i64 k2)).setCell ⟨w.heap.size, 7, none⟩ (.int .i64 n2)).setCell ⟨w.heap.size, 8, none⟩ (.string ⟨s2.toArray⟩)).setCell ⟨w.heap.size, 9, none⟩ (.slice none 0 0)).alloc (.cells #[.int .i64 t2, .int .i64 k2, .int .i64 n2, .string ⟨s2.toArray⟩, .slice none 0 0] 24)) := (((((HBr.out.setCell (p := ⟨w.heap.size, 5, none⟩) (Nat.le_refl _) _).setCell (p := ⟨w.heap.size, 6, none⟩) (Nat.le_refl _) _).setCell (p := ⟨w.heap.size, 7, none⟩) (Nat.le_refl _) _).setCell (p := ⟨w.heap.size, 8, none⟩) (Nat.le_refl _) _).setCell (p := ⟨w.heap.size, 9, none⟩) (Nat.le_refl _) _).alloc (by simp; omega) _
      clear y0 y1 y2 y3 y4 yf0 yf1 yf2 yf3 yf4 x0 x1 x2 x3 x4
      generalize ((((((wr.setCell ⟨w.heap.size, 5, none⟩ (.int .i64 t2)).setCell ⟨w.heap.size, 6, none⟩ (.int .i64 k2)).setCell ⟨w.heap.size, 7, none⟩ (.int .i64 n2)).setCell ⟨w.heap.size, 8, none⟩ (.string ⟨s2.toArray⟩)).setCell ⟨w.heap.size, 9, none⟩ (.slice none 0 0)).alloc (.cells #[.int .i64 t2, .int .i64 k2, .int .i64 n2, .string ⟨s2.toArray⟩, .slice none 0 0] 24)) = wz at *
      have HZ := Lib.hid (blk_set (o := 9) hz5 (.slice none 0 0))
      have HBz := Lib.hid (hbz.setCell (p := ⟨w.heap.size, 9, none⟩) (Nat.le_refl _) (.slice none 0 0))
      have y4 := blk_cell hz5 9
      have yf4 := blk_free hz5 9
      simp [cps, lfc] at y4
      clear hz5 hbz
      go_wp2_with fail
      go_roundw
      case rel => exact ⟨2, by omega, by go_num, HBz, HZ⟩
      case measure => simp [intOf]
    · go_wp2_with fail
      go_ret
      exact ⟨_, rfl, HGr.out, Nat.le_refl _, HBr.out⟩

set_option maxHeartbeats 2000000 in
theorem list_two (tag t1 k1 n1 t2 k2 n2 : Int) (s1 s2 : List UInt8) (b off cap : Nat) (w : World) (hlt : b < w.heap.size) (h : ∀ j, j < 10 → w.cell? ⟨b, off + j, none⟩ = some ((lfc t1 k1 n1 s1 ++ lfc t2 k2 n2 s2).getD j .nilFunc)) :
    Calls Try.prog 19 #[.int .i64 tag, .slice (some ⟨b, off, none⟩) 2 cap] w fun e w' => ∃ g, e = .returned (.agg #[.int .i64 tag, .int .i64 3, .int .i64 0, .string ⟨#[]⟩, .slice (some ⟨g, 0, none⟩) 2 2]) ∧ w'.heap[g]? = some (.cells (lfc t1 k1 n1 s1 ++ lfc t2 k2 n2 s2).toArray 24) ∧ w.heap.size < g ∧ Below w.heap.size w w' := by
  have hb0 : Below w.heap.size w (w.alloc (.cells #[.int .i64 0, .int .i64 0, .int .i64 0, .string ⟨#[]⟩, .slice none 0 0] 24)) := (Below.refl _ _).alloc (Nat.le_refl _) _
  have HZ := Lib.hid (heap_alloc_new w (.cells #[.int .i64 0, .int .i64 0, .int .i64 0, .string ⟨#[]⟩, .slice none 0 0] 24))
  have H0 := Lib.hid (show ∀ j, j < 10 → (w.alloc (.cells #[.int .i64 0, .int .i64 0, .int .i64 0, .string ⟨#[]⟩, .slice none 0 0] 24)).cell? ⟨b, off + j, none⟩ = some ((lfc t1 k1 n1 s1 ++ lfc t2 k2 n2 s2).getD j .nilFunc) from fun j hj => by rw [hb0.cell (p := ⟨b, off + j, none⟩) hlt]; exact h j hj)
  clear h
  go_enter Try.func19, Try.ntmps19
  go_wp2_with fail
  generalize w.alloc (.cells #[.int .i64 0, .int .i64 0, .int .i64 0, .string ⟨#[]⟩, .slice none 0 0] 24) = w0 at *
  refine (copies_two t1 k1 n1 t2 k2 n2 s1 s2 b off cap w0 (Nat.lt_of_lt_of_le hlt hb0.size) H0.out).mono ?_
  rintro e w1 ⟨g, rfl, hg, hgn, hb1⟩
  have hz0 := blk_lt HZ.out
  have HZ1 := Lib.hid ((hb1.block w.heap.size hz0).trans HZ.out)
  have HGb := Lib.hid hg
  have HB := Lib.hid (hb0.trans (hb1.mono hb0.size))
  clear hg hb1
  have z0 := blk_cell HZ1.out 0
  have z1 := blk_cell HZ1.out 1
  have z2 := blk_cell HZ1.out 2
  have z3 := blk_cell HZ1.out 3
  have z4 := blk_cell HZ1.out 4
  simp at z0 z1 z2 z3 z4
  have zf0 := blk_free HZ1.out 0
  have zf1 := blk_free HZ1.out 1
  have zf2 := blk_free HZ1.out 2
  have zf3 := blk_free HZ1.out 3
  have zf4 := blk_free HZ1.out 4
  go_wp2_with fail
  refine bodyPost_ret (v := .agg #[.int .i64 tag, .int .i64 3, .int .i64 0, .string ⟨#[]⟩, .slice (some ⟨g, 0, none⟩) 2 2]) (by simp [results, Try.results19, go_sem, z0, z1, z2, z3, z4]) rfl ⟨g, rfl, ?_, by omega, below_set5 HB.out (Nat.le_refl _) _ _ _ _ _⟩
  rw [set5_other _ _ _ _ _ (by omega)]
  exact HGb.out

def find2 (t2 k2 n2 : Int) (s2 : List UInt8) (x : Int) : Value := if t2 = x then .tuple #[.agg #[.int .i64 t2, .int .i64 k2, .int .i64 n2, .string ⟨s2.toArray⟩, .slice none 0 0], .bool true] else .tuple #[.agg #[.int .i64 0, .int .i64 0, .int .i64 0, .string ⟨#[]⟩, .slice none 0 0], .bool false]
set_option maxHeartbeats 4000000 in
theorem find_two (tag kind n x t1 k1 n1 t2 k2 n2 : Int) (s s1 s2 : List UInt8) (b cap : Nat) (w : World) (hx : t1 ≠ x) (hb : w.heap[b]? = some (.cells (lfc t1 k1 n1 s1 ++ lfc t2 k2 n2 s2).toArray 24)) :
    Calls Try.prog 22 #[.agg #[.int .i64 tag, .int .i64 kind, .int .i64 n, .string ⟨s.toArray⟩, .slice (some ⟨b, 0, none⟩) 2 cap], .int .i64 x] w fun e w' => e = .returned (find2 t2 k2 n2 s2 x) ∧ Below w.heap.size w w' := by
  have hlt := blk_lt hb
  have hbA : Below w.heap.size w ((w.alloc (.cells #[.int .i64 tag, .int .i64 kind, .int .i64 n, .string ⟨s.toArray⟩, .slice (some ⟨b, 0, none⟩) 2 cap] 24)).alloc (.cells #[.int .i64 0, .int .i64 0, .int .i64 0, .string ⟨#[]⟩, .slice none 0 0] 24)) := ((Below.refl _ _).alloc (Nat.le_refl _) _).alloc (by simp) _
  have HZ := Lib.hid (show ((w.alloc (.cells #[.int .i64 tag, .int .i64 kind, .int .i64 n, .string ⟨s.toArray⟩, .slice (some ⟨b, 0, none⟩) 2 cap] 24)).alloc (.cells #[.int .i64 0, .int .i64 0, .int .i64 0, .string ⟨#[]⟩, .slice none 0 0] 24)).heap[w.heap.size + 1]? = some (.cells #[.int .i64 0, .int .i64 0, .int .i64 0, .string ⟨#[]⟩, .slice none 0 0] 24) from alloc_at (by simp))
  have HBb := Lib.hid hb
  clear hb
  go_enter Try.func22, Try.ntmps22
  go_wp2_with fail
  generalize (w.alloc (.cells #[.int .i64 tag, .int .i64 kind, .int .i64 n, .string ⟨s.toArray⟩, .slice (some ⟨b, 0, none⟩) 2 cap] 24)).alloc (.cells #[.int .i64 0, .int .i64 0, .int .i64 0, .string ⟨#[]⟩, .slice none 0 0] 24) = w0 at *
  have hzl := blk_lt HZ.out
  go_loopw [11] (fun i wr => ∃ k : Nat, k ≤ 2 ∧ i = .int .i64 k ∧ Hid (Below w0.heap.size w0 wr) ∧ (k = 2 → t2 ≠ x)) (fun i _ => 2 - (intOf i).toNat)
  case atStart => exact ⟨0, by omega, rfl, Lib.hid (Below.refl _ _), by omega⟩
  case round =>
    obtain ⟨k, hk, rfl, HBr, hne⟩ := hrel
    have hbw : Below w.heap.size w wr := hbA.trans (HBr.out.mono hbA.size)
    have hbb := (hbw.block b hlt).trans HBb.out
    have HZr := Lib.hid ((HBr.out.block _ hzl).trans HZ.out)
    have hwr : w0.heap.size ≤ wr.heap.size := HBr.out.size
    have hkk : k = 0 ∨ k = 1 ∨ k = 2 := by omega
    rcases hkk with rfl | rfl | rfl
    · have y0 := blk_cell hbb 0
      have y1 := blk_cell hbb 1
      have y2 := blk_cell hbb 2
      have y3 := blk_cell hbb 3
      have y4 := blk_cell hbb 4
      simp [lfc] at y0 y1 y2 y3 y4
      have d0 : (t1 == x) = false := by simpa using hx
      have hb2 : Below w0.heap.size w0 (wr.alloc (.cells #[.int .i64 t1, .int .i64 k1, .int .i64 n1, .string ⟨s1.toArray⟩, .slice none 0 0] 24)) := HBr.out.alloc HBr.out.size _
      clear hbb hbw
      go_wp2_with fail
      go_roundw
      case rel => exact ⟨1, by omega, by go_num, hb2, by omega⟩
      case measure => simp [intOf]
    · have y0 := blk_cell hbb 5
      have y1 := blk_cell hbb 6
      have y2 := blk_cell hbb 7
      have y3 := blk_cell hbb 8
      have y4 := blk_cell hbb 9
      simp [lfc] at y0 y1 y2 y3 y4
      have hb2 : Below w0.heap.size w0 (wr.alloc (.cells #[.int .i64 t2, .int .i64 k2, .int .i64 n2, .string ⟨s2.toArray⟩, .slice none 0 0] 24)) := HBr.out.alloc HBr.out.size _
      by_cases h2 : t2 = x
      · subst h2
        have HF := Lib.hid (show find2 t2 k2 n2 s2 t2 = .tuple #[.agg #[.int .i64 t2, .int .i64 k2, .int .i64 n2, .string ⟨s2.toArray⟩, .slice none 0 0], .bool true] from if_pos rfl)
        have HK := Lib.hid (heap_alloc_new wr (.cells #[.int .i64 t2, .int .i64 k2, .int .i64 n2, .string ⟨s2.toArray⟩, .slice none 0 0] 24))
        clear hbb hbw
        go_wp2_with fail
        refine (copies_nil none 0 _).mono ?_
        rintro e w2 ⟨rfl, rfl⟩
        generalize wr.alloc (.cells #[.int .i64 t2, .int .i64 k2, .int .i64 n2, .string ⟨s2.toArray⟩, .slice none 0 0] 24) = w3 at *
        clear y0 y1 y2 y3 y4
        have HZ3 := Lib.hid ((hb2.block _ hzl).trans HZ.out)
        have y0 := blk_cell HK.out 0
        have y1 := blk_cell HK.out 1
        have y2 := blk_cell HK.out 2
        have y3 := blk_cell HK.out 3
        have y4 := blk_cell HK.out 4
        simp at y0 y1 y2 y3 y4
        have yf4 := blk_free HK.out 4
        have z0 := blk_cell HZ3.out 0
        have z1 := blk_cell HZ3.out 1
        have z2 := blk_cell HZ3.out 2
        have z3 := blk_cell HZ3.out 3
        have z4 := blk_cell HZ3.out 4
        simp at z0 z1 z2 z3 z4
        have zf0 := blk_free HZ3.out 0
        have zf1 := blk_free HZ3.out 1
        have zf2 := blk_free HZ3.out 2
        have zf3 := blk_free HZ3.out 3
        have zf4 := blk_free HZ3.out 4
        have hnn : w.heap.size + 1 < wr.heap.size := by omega
        have hbf : Below w.heap.size w (w3.setCell ⟨wr.heap.size, 4, none⟩ (.slice none 0 0)) := (hbA.trans (hb2.mono hbA.size)).setCell (p := ⟨wr.heap.size, 4, none⟩) (by simp; omega) _
        go_wp2_with fail
        refine bodyPost_ret (v := .tuple #[.agg #[.int .i64 t2, .int .i64 k2, .int .i64 n2, .string ⟨s2.toArray⟩, .slice none 0 0], .bool true]) (by simp [results, Try.results22, go_sem, z0, z1, z2, z3, z4]) rfl ⟨by rw [HF.out], below_set5 hbf (by omega) _ _ _ _ _⟩
      · have d0 : (t2 == x) = false := by simpa using h2
        clear hbb hbw
        go_wp2_with fail
        go_roundw
        case rel => exact ⟨2, by omega, by go_num, hb2, fun _ => h2⟩
        case measure => simp [intOf]
    · have HF := Lib.hid (show find2 t2 k2 n2 s2 x = .tuple #[.agg #[.int .i64 0, .int .i64 0, .int .i64 0, .string ⟨#[]⟩, .slice none 0 0], .bool false] from if_neg (hne rfl))
      have z0 := blk_cell HZr.out 0
      have z1 := blk_cell HZr.out 1
      have z2 := blk_cell HZr.out 2
      have z3 := blk_cell HZr.out 3
      have z4 := blk_cell HZr.out 4
      simp at z0 z1 z2 z3 z4
      have zf0 := blk_free HZr.out 0
      have zf1 := blk_free HZr.out 1
      have zf2 := blk_free HZr.out 2
      have zf3 := blk_free HZr.out 3
      have zf4 := blk_free HZr.out 4
      go_wp2_with fail
      refine bodyPost_ret (v := .tuple #[.agg #[.int .i64 0, .int .i64 0, .int .i64 0, .string ⟨#[]⟩, .slice none 0 0], .bool false]) (by simp [results, Try.results22, go_sem, z0, z1, z2, z3, z4]) rfl ⟨by rw [HF.out], below_set5 hbw (by omega) _ _ _ _ _⟩

end Go.Proofs.Ytcgeipofpdckmaa
