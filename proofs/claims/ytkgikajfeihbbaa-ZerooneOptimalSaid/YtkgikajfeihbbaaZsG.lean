/- 0-1 programs: a search that is being laid, in memory. -/
import Derived.Test.YtkgikajfeihbbaaZsF
namespace Go.Proofs.Ytkgikajfeihbbaa
set_option maxRecDepth 100000
open Go.RowKit

theorem infoInts : (Try.prog.info? 22).map (fun i => (i.zero, i.size, i.bytes)) = some (some (.slice none 0 0), 1, 24) := by kernel_rfl
theorem ivs_zeros (n : Nat) : List.replicate n (Value.int .i64 0) = ivs (List.replicate n 0) := by simp [ivs, iv]
/-- a search that is being laid: its cells, its assignment, its sums -/
structure NS (w : World) (B g gx gs n m : Nat) (V : Array Value) (xs ss : List Int) : Prop where
  blk : w.heap[g]? = some (.cells V 71)
  ox : OwnI w B (.slice (some ⟨gx, 0, none⟩) n n) xs
  os : OwnI w B (.slice (some ⟨gs, 0, none⟩) m m) ss
theorem NS.below {w w' : World} {B g gx gs n m : Nat} {V : Array Value} {xs ss : List Int} (h : NS w B g gx gs n m V xs ss) (hb : Below w.heap.size w w') : NS w' B g gx gs n m V xs ss :=
  ⟨by rw [hb.block g (blk_lt h.blk)]; exact h.blk, h.ox.below hb, h.os.below hb⟩
theorem NS.but {F : Nat → Prop} {w w' : World} {B g gx gs n m : Nat} {V : Array Value} {xs ss : List Int} (h : NS w B g gx gs n m V xs ss) (hb : But F w w') (h1 : ¬ F g) (h2 : ¬ F gx) (h3 : ¬ F gs) : NS w' B g gx gs n m V xs ss :=
  ⟨hb.blk h1 h.blk, hb.own h.ox (by simp [Value.ownBlock]; exact h2), hb.own h.os (by simp [Value.ownBlock]; exact h3)⟩
theorem NS.set {w : World} {B g gx gs n m : Nat} {V : Array Value} {xs ss : List Int} (h : NS w B g gx gs n m V xs ss) (hgx : gx ≠ g) (hgs : gs ≠ g) (o : Nat) (v : Value) : NS (w.setCell ⟨g, o, none⟩ v) B g gx gs n m (V.setIfInBounds o v) xs ss :=
  ⟨heap_setCell_same w g o _ _ v h.blk, h.ox.by (gby_set _ _ _ _) (.inr (by simp [Value.ownBlock]; exact hgx)), h.os.by (gby_set _ _ _ _) (.inr (by simp [Value.ownBlock]; exact hgs))⟩
/-- the rows from d on of a table lie from E on and below E2 -/
structure TB (w : World) (gl k m d E E2 : Nat) (arr : Array Value) (f : Nat → List Int) : Prop where
  blk : w.heap[gl]? = some (.cells arr 22)
  size : arr.size = k + 1
  rows : ∀ i, d ≤ i → i ≤ k → ∃ b, arr[i]? = some (.slice (some ⟨b, 0, none⟩) m m) ∧ OwnI w E (.slice (some ⟨b, 0, none⟩) m m) (f i) ∧ b < E2
theorem TB.but {F : Nat → Prop} {w w' : World} {gl k m d E E2 : Nat} {arr : Array Value} {f : Nat → List Int} (h : TB w gl k m d E E2 arr f) (hb : But F w w') (h1 : ¬ F gl) (h2 : ∀ i, E ≤ i → i < E2 → ¬ F i) : TB w' gl k m d E E2 arr f :=
  ⟨hb.blk h1 h.blk, h.size, fun i hi hk => by
    obtain ⟨b, e, ho, hl⟩ := h.rows i hi hk
    exact ⟨b, e, hb.own ho (fun j hj => by have := ho.lt j hj; cases hj; exact h2 _ this hl), hl⟩⟩
theorem TB.below {w w' : World} {gl k m d E E2 : Nat} {arr : Array Value} {f : Nat → List Int} (h : TB w gl k m d E E2 arr f) (hb : Below w.heap.size w w') : TB w' gl k m d E E2 arr f :=
  h.but (F := fun _ => False) (But.of hb) (fun h => h) (fun _ _ _ h => h)
theorem TB.more {w : World} {gl k m d E E2 E3 : Nat} {arr : Array Value} {f : Nat → List Int} (h : TB w gl k m d E E2 arr f) (hE : E2 ≤ E3) : TB w gl k m d E E3 arr f :=
  ⟨h.blk, h.size, fun i hi hk => by
    obtain ⟨b, e, ho, hl⟩ := h.rows i hi hk
    exact ⟨b, e, ho, by omega⟩⟩
/-- one more row: its slice is stored -/
theorem TB.put {w : World} {gl k m d E E2 : Nat} {arr : Array Value} {f : Nat → List Int} (h : TB w gl k m (d + 1) E E2 arr f) (hgl : gl < E) (v : Value) : TB (w.setCell ⟨gl, d, none⟩ v) gl k m (d + 1) E E2 (arr.setIfInBounds d v) f := by
  refine ⟨heap_setCell_same w gl d _ _ v h.blk, by simp [h.size], fun i hi hk => ?_⟩
  obtain ⟨b, e, ho, hl⟩ := h.rows i hi hk
  refine ⟨b, ?_, ho.by (gby_set _ _ _ _) (own_ne ho.lt hgl), hl⟩
  rw [Array.getElem?_setIfInBounds_ne (by omega)]; exact e
theorem TB.fill {w : World} {gl k m d E E2 E3 b : Nat} {arr : Array Value} {f : Nat → List Int} (h : TB w gl k m (d + 1) E E2 (arr.setIfInBounds d (.slice (some ⟨b, 0, none⟩) m m)) f) (hd : d < arr.size) (ho : OwnI w E (.slice (some ⟨b, 0, none⟩) m m) (f d)) (hb : b < E3) (hE : E2 ≤ E3) :
    TB w gl k m d E E3 (arr.setIfInBounds d (.slice (some ⟨b, 0, none⟩) m m)) f := by
  refine ⟨h.blk, h.size, fun i hi hk => ?_⟩
  by_cases hid : i = d
  · subst hid
    exact ⟨b, by simp [hd], ho, hb⟩
  · obtain ⟨b', e, ho', hl⟩ := h.rows i (by omega) hk
    exact ⟨b', e, ho', by omega⟩
theorem TB.cell {w : World} {gl k m d E E2 : Nat} {arr : Array Value} {f : Nat → List Int} (h : TB w gl k m d E E2 arr f) {i : Nat} (hi : d ≤ i) (hk : i ≤ k) : ∃ b, w.cell? ⟨gl, i, none⟩ = some (.slice (some ⟨b, 0, none⟩) m m) ∧ OwnI w E (.slice (some ⟨b, 0, none⟩) m m) (f i) ∧ b < E2 := by
  obtain ⟨b, e, ho, hl⟩ := h.rows i hi hk
  exact ⟨b, (blk_cell h.blk i).trans e, ho, hl⟩
/-- the table as it is read -/
theorem TB.tab {w : World} {gl k m E E2 : Nat} {arr : Array Value} {f : Nat → List Int} (h : TB w gl k m 0 E E2 arr f) : Tab w (some ⟨gl, 0, none⟩) (k + 1) m f := by
  refine ⟨gl, 0, rfl, blk_lt h.blk, fun i hi => ?_⟩
  obtain ⟨b, e, ho, -⟩ := h.cell (i := i) (by omega) (by omega)
  exact ⟨_, _, by rw [Nat.zero_add]; exact e, Owns.ints' ho⟩
theorem lows_nil : ∀ rs : List RowM, lowsS rs [] = List.replicate rs.length 0
  | [] => rfl
  | q :: rs => by
    have h := lows_nil rs
    unfold lowsS at h ⊢
    rw [List.map_cons, h, List.length_cons, List.replicate_succ]; rfl
theorem highs_nil : ∀ rs : List RowM, highsS rs [] = List.replicate rs.length 0
  | [] => rfl
  | q :: rs => by
    have h := highs_nil rs
    unfold highsS at h ⊢
    rw [List.map_cons, h, List.length_cons, List.replicate_succ]; rfl
theorem lows_len (rs : List RowM) (r : List Nat) : (lowsS rs r).length = rs.length := by simp [lowsS]
theorem highs_len (rs : List RowM) (r : List Nat) : (highsS rs r).length = rs.length := by simp [highsS]
theorem x0_len (fs : List Int) : (x0Of fs).length = fs.length := by simp [x0Of]
theorem x0_at (fs : List Int) (i : Nat) (h : i < fs.length) : (x0Of fs).getD i 0 = max (fs.getD i 0) 0 := by simp [x0Of, List.getD, h]
theorem rep_at (n i : Nat) : (List.replicate n (0 : Int)).getD i 0 = 0 := by
  simp only [List.getD, List.getElem?_replicate]; split <;> rfl
theorem x0_bits {fs : List Int} (h : Trits fs) : Bits01 (x0Of fs) := fun k hk => by
  rw [x0_len] at hk
  rw [x0_at fs k hk]
  have := h k hk
  omega
/-- the positions of the positive values -/
def posOf (val : List Int) (free : List Nat) (j : Nat) : List Nat := (List.range j).filter fun e => decide (0 < val.getD (free.getD e 0) 0)
theorem pos_succ (val : List Int) (free : List Nat) (j : Nat) : posOf val free (j + 1) = posOf val free j ++ if 0 < val.getD (free.getD j 0) 0 then [j] else [] := by
  unfold posOf
  rw [List.range_succ, List.filter_append]
  congr 1
  by_cases h : 0 < val.getD (free.getD j 0) 0
  · rw [List.filter_cons_of_pos (by simpa using h), if_pos h]; rfl
  · rw [List.filter_cons_of_neg (by simpa using h), if_neg h]; rfl
theorem pos_len (val : List Int) (free : List Nat) (j : Nat) : (posOf val free j).length ≤ j := by
  unfold posOf
  have := List.length_filter_le (fun e => decide (0 < val.getD (free.getD e 0) 0)) (List.range j)
  simpa using this

theorem own_arr {w : World} {B g n : Nat} {e : TypeId} {xs : List Value} (h : Owns w B e (.slice (some ⟨g, 0, none⟩) n n) xs) : ∃ arr : Array Value, w.heap[g]? = some (.cells arr e) ∧ arr.size = n := by
  have hl := h.len
  subst hl
  rcases h.2 with ⟨h', _⟩ | ⟨g', cap', cur, h', hb, hg, hnc, hcm, hcs, htk⟩
  · cases h'
  · cases h'
    exact ⟨cur, hg, by simpa using hcs⟩
theorem TB.start {w : World} {B gl k m E E2 : Nat} {xs : List Value} {f : Nat → List Int} (h : Owns w B 22 (.slice (some ⟨gl, 0, none⟩) (k + 1) (k + 1)) xs) : ∃ arr, TB w gl k m (k + 1) E E2 arr f := by
  obtain ⟨arr, h1, h2⟩ := own_arr h
  exact ⟨arr, h1, h2, fun i h1 h2 => by omega⟩
theorem Below.of' {B : Nat} {F : Nat → Prop} {w w1 w2 : World} (h : Below w.heap.size w w1) (k : But F w1 w2) (hF : B ≤ w.heap.size ∧ ∀ i, F i → B ≤ i) : Below B w w2 := (h.mono hF.1).trans (k.below (Nat.le_trans hF.1 h.size) hF.2)
/-- worlds that differ in block b alone -/
structure BC (b : Nat) (w : World) where
  val : World
  prop : But (fun i => i = b) w val
instance (b : Nat) (w : World) : Nonempty (BC b w) := ⟨⟨w, But.refl _ _⟩⟩
theorem BC.cell {b g o : Nat} {w : World} {v : Value} (h : w.cell? ⟨g, o, none⟩ = some v) (hg : g < w.heap.size) (hne : g ≠ b) : ∀ W : BC b w, W.1.cell? ⟨g, o, none⟩ = some v := fun W => W.2.cell hg hne h

/-- 'make([]T, n)': one operation -/
theorem wp_mkn {P : Program} {w : World} {o : Oper} {a : Act} {K : Act → World → Prop} {Q : Exit → Act → World → Prop} (l c : Operand) (t : TypeId) (hop : o.op = Op.makeSlice t l c)
    (e : TypeId) (z : Value) (bytes : Nat) (ht : P.underlying t = some (.slice e)) (hi : (P.info? e).map (fun i => (i.zero, i.size, i.bytes)) = some (some z, 1, bytes)) (hz1 : z.cells = #[z])
    (kl kc : IntKind) (L C : Int) (n : Nat) (hl : a.eval l = .int kl L) (hc : a.eval c = .int kc C) (hL : L = (n : Int)) (hC : C = (n : Int)) (hb : bytes * n ≤ 281474976710656) (hn : n ≤ maxLen)
    (hK : ∀ w', Owns w' w.heap.size e (.slice (some ⟨w.heap.size, 0, none⟩) n n) (List.replicate n z) → Below w.heap.size w w' → K (a.put o.dst (.slice (some ⟨w.heap.size, 0, none⟩) n n)) w') : o.wp P a w K Q := by
  obtain ⟨i, hi', hz, hsize, hby⟩ := info_parts hi
  obtain ⟨w', hrun, r1, r2⟩ := run_make_full (P := P) w w.heap.size t e i z 1 ht hi' hz hsize kl kc n (by rw [hby]; exact hb) hn (Nat.le_refl _)
  subst hL; subst hC
  unfold Oper.wp
  simp [execOp, hop, hl, hc, hrun, Result.andThen]
  rw [Nat.mul_one, hz1, toList_madeCells_one] at r1
  refine hK w' ?_ ((Below.refl _ _).grown r2 (Nat.le_refl _) (by simp))
  unfold Owns; rw [List.length_replicate]; exact r1

set_option maxHeartbeats 2000000 in
theorem cmpP_any (K K2 : Nat) (val : List Int) (free : List Nat) (a0 af : Option Addr) (n c0 k cf : Nat) (i j : Nat) (w : World) (hc : w.cell? ⟨K, 0, none⟩ = some (.slice a0 n c0)) (hc2 : w.cell? ⟨K2, 0, none⟩ = some (.slice af k cf)) (h0 : Row .i64 w a0 n c0 val) (hf : Ints w af k cf (ixs free)) (hs : Small val) (hfl : ∀ e, e < k → free.getD e 0 < n) (hi : i < k) (hj : j < k) :
    Calls Try.prog 56 #[.int .i64 i, .int .i64 j, .pointer (some ⟨K, 0, none⟩), .pointer (some ⟨K2, 0, none⟩)] w fun e w' => e = .returned (.int .i64 (val.getD (free.getD j 0) 0 - val.getD (free.getD i 0) 0)) ∧ Below w.heap.size w w' := by
  have hc0 := h0.2.2.1
  obtain ⟨bf0, of0, rfl, hbf, hcf⟩ := hf.2.at hi
  have y0 := hcf i hi _ (Below.refl _ _)
  have y1 := hcf j hj _ (Below.refl _ _)
  rw [ixs_at] at y0 y1
  have hi2 := hfl i hi
  have hj2 := hfl j hj
  generalize free.getD i 0 = i2 at *
  generalize free.getD j 0 = j2 at *
  obtain ⟨b, off, rfl, hbs, hcc⟩ := h0.2.2.at hi2
  have z0 := hcc i2 hi2 _ (Below.refl _ _)
  have z1 := hcc j2 hj2 _ (Below.refl _ _)
  have s1 := hs i2
  have s2 := hs j2
  clear hcc h0 hf hcf
  generalize val.getD i2 0 = x at *
  generalize val.getD j2 0 = y at *
  go_enter Try.func56, Try.ntmps56
  go_wp2_with fail
  go_quiet (fail)
  go_wp2_with fail
  go_ret
  exact ⟨by go_num, below_drewN (Below.refl _ _) _⟩

end Go.Proofs.Ytkgikajfeihbbaa
