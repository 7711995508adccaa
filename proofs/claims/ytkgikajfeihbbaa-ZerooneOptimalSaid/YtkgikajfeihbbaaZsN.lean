/- 0-1 programs: what newSearch promises, from what it has laid. -/
import Derived.Test.YtkgikajfeihbbaaZsG
namespace Go.Proofs.Ytkgikajfeihbbaa
set_option maxRecDepth 100000
open Go.RowKit

/-- what newSearch promises -/
structure NewS (w w' : World) (S : Sh) (p : ProbM) (free ord : List Nat) : Prop where
  pu : Pu S p free ord
  st : ∀ w'', But S.F w' w'' → St w'' S p free ord
  dy : Dy w' w.heap.size S p (x0Of p.fix) ⟨0, [], 0, false⟩ (.slice none 0 0)
  fr : ∀ i, S.F i → w.heap.size ≤ i
  one : S.one = false
  once : S.once = false
  perm : ord.Perm (posOf p.val free free.length)
  srt : ord.Pairwise fun a b => p.val.getD (free.getD b 0) 0 ≤ p.val.getD (free.getD a 0) 0
  bel : Below w.heap.size w w'
theorem But.grow {F : Nat → Prop} {w w1 w2 : World} (h : But F w w1) (k : Below w.heap.size w1 w2) : But F w w2 :=
  ⟨k.os.trans h.os, k.tape.trans h.tape, k.output.trans h.output, Nat.le_trans h.size k.size, fun i hi hF => (k.block i hi).trans (h.block i hi hF)⟩
theorem ixs_inj : ∀ {a b : List Nat}, ixs a = ixs b → a = b := by
  intro a b h
  have h2 : (ixs a).map Int.toNat = (ixs b).map Int.toNat := by rw [h]
  simpa [ixs, Function.comp_def] using h2
theorem ixs_toNat (a : List Nat) : (ixs a).map Int.toNat = a := by simp [ixs, Function.comp_def]
theorem perm_ixs {ys : List Int} {l : List Nat} (h : ys.Perm (ixs l)) : ∃ o : List Nat, ys = ixs o ∧ o.Perm l := by
  refine ⟨ys.map Int.toNat, ?_, ?_⟩
  · have hp : ∀ y ∈ ys, 0 ≤ y := fun y hy => by
      have := h.mem_iff.1 hy
      simp only [ixs, List.mem_map] at this
      obtain ⟨n, -, rfl⟩ := this
      omega
    simp only [ixs, List.map_map]
    conv => lhs; rw [← List.map_id ys]
    apply List.map_congr_left
    intro y hy
    have := hp y hy
    simp only [id, Function.comp]
    omega
  · have := h.map Int.toNat
    rwa [ixs_toNat] at this
theorem srt_pair {V : Int → Int} {v : Nat → Int} (hV : ∀ e : Nat, V (e : Int) = v e) {o : List Nat} (h : SrtTo V (ixs o) (o.length - 1)) : o.Pairwise fun a b => v b ≤ v a := by
  rw [List.pairwise_iff_getElem]
  intro i j hi hj hij
  have := h i j hij (by omega)
  rw [ixs_at, ixs_at, hV, hV] at this
  simpa [List.getD, hi, hj] using this
theorem pos_lt {val : List Int} {free : List Nat} {k : Nat} {e : Nat} (h : e ∈ posOf val free k) : e < k := by
  unfold posOf at h
  simp only [List.mem_filter, List.mem_range] at h
  exact h.1
def VCells (a0 : Option Addr) (n c0 : Nat) (a1 : Option Addr) (m c1 : Nat) (a2 : Option Addr) (c2 : Nat) (af : Option Addr) (k cf gx : Nat) (value : Int) (gs gl gh : Nat) (wd : Int) (vo : Value) : Array Value :=
  #[.slice a0 n c0, .slice a1 m c1, .slice a2 n c2, .slice af k cf, .bool false, .bool false, .slice (some ⟨gx, 0, none⟩) n n, .int .i64 value, .slice (some ⟨gs, 0, none⟩) m m, .slice (some ⟨gl, 0, none⟩) (k + 1) (k + 1), .slice (some ⟨gh, 0, none⟩) (k + 1) (k + 1), .int .i64 wd, vo, .int .i64 0, .slice none 0 0, .int .i64 0, .bool false]

theorem newS_make {w wc w' : World} {p : ProbM} {free : List Nat} {ys : List Int} {a0 a1 a2 af ao : Option Addr} {n m k c0 c1 c2 cf g gx gs gl gh E lo co : Nat} {wd : Int} {arl arh V : Array Value} {VV : Int → Int}
    (HAw : ∀ w', Below w.heap.size w w' → Row .i64 w' a0 n c0 p.val ∧ RowsIn w' a1 m c1 p.rows ∧ Row .i64 w' a2 n c2 p.fix ∧ Ints w' af k cf (ixs free))
    (hv : ValidM p) (hlt : ∀ i ∈ free, i < n) (hnd : free.Nodup) (hk : k ≤ n) (hwd : WideOk p.rows wd)
    (hg : w.heap.size ≤ g ∧ g < gx ∧ gx < gs ∧ gs < E ∧ gl < E ∧ gh < E ∧ g ≠ gl ∧ g ≠ gh ∧ gx ≠ gl ∧ gx ≠ gh ∧ gs ≠ gl ∧ gs ≠ gh) (hE : E ≤ wc.heap.size) (hbw : Below w.heap.size w wc)
    (HNS : NS wc w.heap.size g gx gs n m V (x0Of p.fix) (sumsS p.rows (x0Of p.fix)))
    (HTl : TB wc gl k m 0 E wc.heap.size arl fun d => lowsS p.rows (free.drop d)) (HTh : TB wc gh k m 0 E wc.heap.size arh fun d => highsS p.rows (free.drop d))
    (hB : But (fun i => i = g) wc w') (hK : w'.heap[g]? = some (.cells (VCells a0 n c0 a1 m c1 a2 c2 af k cf gx (dotL p.val (x0Of p.fix)) gs gl gh wd (.slice ao lo co)) 71))
    (HO : OwnI w' wc.heap.size (.slice ao lo co) ys) (hp : ys.Perm (ixs (posOf p.val free k))) (hs : SrtTo VV ys (lo - 1)) (hVV : ∀ e : Nat, VV (e : Int) = p.val.getD (free.getD e 0) 0) :
    ∃ S ord, g = Sh.g S ∧ NewS w w' S p free ord := by
  obtain ⟨ord, rfl, hpo⟩ := perm_ixs hp
  obtain ⟨g1, g2, g3, g4, g5, g6, g7, g8, g9, g10, g11, g12⟩ := hg
  obtain ⟨q0, q1, q2, q3⟩ := HAw w (Below.refl _ _)
  have hf : free.length = k := by have := q3.1; rwa [ixs_len] at this
  have hlo : ord.length = lo := by have := HO.len'; rwa [ixs_len] at this
  have hws := hbw.size
  have hbw' : Below w.heap.size w w' := hbw.trans (hB.below hws fun i hi => by omega)
  have hFr : ∀ i, (i = g ∨ i = gx ∨ i = gs) → w.heap.size ≤ i := fun i hi => by omega
  have hlk : lo ≤ k := by rw [← hlo, hpo.length_eq]; exact pos_len _ _ _
  have o1 : OwnI w' w.heap.size (.slice (some ⟨gx, 0, none⟩) n n) (x0Of p.fix) := hB.own HNS.ox (by simp [Value.ownBlock]; omega)
  have o2 : OwnI w' w.heap.size (.slice (some ⟨gs, 0, none⟩) m m) (sumsS p.rows (x0Of p.fix)) := hB.own HNS.os (by simp [Value.ownBlock]; omega)
  let S : Sh := ⟨g, gx, gs, n, m, k, lo, n, m, a0, c0, a1, c1, a2, c2, af, cf, some ⟨gl, 0, none⟩, k + 1, some ⟨gh, 0, none⟩, k + 1, ao, co, false, false, wd⟩
  have n1 : g ≠ gx := by omega
  have n2 : g ≠ gs := by omega
  have n3 : gx ≠ gs := by omega
  refine ⟨S, ord, rfl, ?_⟩
  have hX : But (fun i => i = g ∨ i = gx ∨ i = gs) wc w' := hB.mono fun i _ hi => .inl hi
  have hgl : ¬ (gl = g ∨ gl = gx ∨ gl = gs) := by omega
  have hgh : ¬ (gh = g ∨ gh = gx ∨ gh = gs) := by omega
  have hEi : ∀ i, E ≤ i → ¬ (i = g ∨ i = gx ∨ i = gs) := fun i h => by omega
  exact {
    pu := ⟨hv, q0.1, q1.1, hf, hk, hlt, hnd, hlo, fun e he => pos_lt (hpo.mem_iff.1 he), hlk, hwd, n1, n2, n3⟩
    st := fun w'' h => by
      have h' : But (fun i => i = g ∨ i = gx ∨ i = gs) w' w'' := h
      have hb2 : Below w.heap.size w w'' := hbw'.trans (h'.below (Nat.le_trans hws hB.size) hFr)
      obtain ⟨r0, r1, r2, r3⟩ := HAw w'' hb2
      have hcc := hX.trans h'
      exact ⟨r0, r1, r3, (HTl.but hcc hgl fun i h1 _ => hEi i h1).tab, (HTh.but hcc hgh fun i h1 _ => hEi i h1).tab,
        Owns.ints' (h'.own HO fun j hj => hEi j (Nat.le_trans hE (HO.lt j hj)))⟩
    dy := ⟨hK, o1, o2, by simpa [OwnI, ivs] using Owns.nil w' w.heap.size 3, fun j hj => by cases hj⟩
    fr := hFr
    one := rfl
    once := rfl
    perm := by rw [hf]; exact hpo
    srt := srt_pair hVV (by rw [hlo]; exact hs)
    bel := hbw' }

end Go.Proofs.Ytkgikajfeihbbaa
