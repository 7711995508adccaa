/- From a walk to a law's row: if the law returns true in every world that its arguments can be read in, and changes no block that was there, then its row holds. Conditions: those of the lemmas. -/
import Derived.Test.YthbfmioikbphgaaDoorBase
import Derived.Test.YthbfmioikbphgaaDoorRows
import Derived.ProofKit
import Derived.OpenShut
import Derived.ShutString
import Derived.ChangeOld
import Derived.SizedLaws
import Derived.JoinedCond
import Derived.Deep.CondSized
namespace Go.Proofs.YthbfmioikbphgaaDoor
set_option maxRecDepth 100000
open Go.ChangeShapes Go.WideShapes Go.ChangeAt Go.RowKit
open Go.ChangeMaps (open_string shut_string)

theorem own : ownKnob Tryd.prog.godebug = none := by kernel_rfl
theorem laidOut : laidOutB Tryd.prog = true := by kernel_rfl

section
variable {H : Type} {enc : TypeId × Value → H}

/-- all arguments read as they did -/
theorem trodAll_stays {W W' : World} (hb : Below W.heap.size W W') : ∀ (ts : List TypeId) (vs : List Value) (ds : List (DataW H)) (ps : List MemPlace),
    (∀ t ∈ ts, Tryd.prog.readableRec t = true ∧ t < Tryd.prog.types.size) → (∀ x ∈ ps, x.block < W.heap.size) →
    DataW.TrodAll enc Tryd.prog W 0 (fun _ => true) true ts vs ds ps → DataW.TrodAll enc Tryd.prog W' 0 (fun b => decide (b < W.heap.size)) true ts vs ds ps
  | [], [], [], _, _, _, h => h
  | t :: ts, v :: vs, d :: ds, ps, hr, hlt, h => by
    obtain ⟨p, q, h1, h2, rfl⟩ := h
    refine ⟨p, q, Below.trod laidOut (hr t (by simp)).1 (hr t (by simp)).2 h1 hb (fun x hx => hlt x (by simp [hx])), trodAll_stays hb ts vs ds q (fun t' ht' => hr t' (by simp [ht'])) (fun x hx => hlt x (by simp [hx])) h2, rfl⟩
  | [], [], _ :: _, _, _, _, h => h.elim
  | [], _ :: _, [], _, _, _, h => h.elim
  | [], _ :: _, _ :: _, _, _, _, h => h.elim
  | _ :: _, [], [], _, _, _, h => h.elim
  | _ :: _, [], _ :: _, _, _, _, h => h.elim
  | _ :: _, _ :: _, [], _, _, _, h => h.elim

theorem trodAll_lt {W : World} : ∀ (ts : List TypeId) (vs : List Value) (ds : List (DataW H)) (ps : List MemPlace),
    DataW.TrodAll enc Tryd.prog W 0 (fun _ => true) true ts vs ds ps → ∀ x ∈ ps, x.block < W.heap.size
  | [], [], [], _, h => by simp [DataW.TrodAll] at h; subst h; simp
  | t :: ts, v :: vs, d :: ds, ps, h => by
    obtain ⟨p, q, ⟨m, hm⟩, h2, rfl⟩ := h
    intro x hx
    rcases List.mem_append.1 hx with hx | hx
    · exact DataW.trod_lt m _ _ _ hm x hx
    · exact trodAll_lt ts vs ds q h2 x hx
  | [], [], _ :: _, _, h => h.elim
  | [], _ :: _, [], _, h => h.elim
  | [], _ :: _, _ :: _, _, h => h.elim
  | _ :: _, [], [], _, h => h.elim
  | _ :: _, [], _ :: _, _, h => h.elim
  | _ :: _, _ :: _, [], _, h => h.elim

theorem trodAll_length {W : World} : ∀ (ts : List TypeId) (vs : List Value) (ds : List (DataW H)) (ps : List MemPlace),
    DataW.TrodAll enc Tryd.prog W 0 (fun _ => true) true ts vs ds ps → ds.length = ts.length
  | [], [], [], _, _ => rfl
  | t :: ts, v :: vs, d :: ds, ps, h => by
    obtain ⟨p, q, _, h2, rfl⟩ := h
    simp [trodAll_length ts vs ds q h2]
  | [], [], _ :: _, _, h => h.elim
  | [], _ :: _, [], _, h => h.elim
  | [], _ :: _, _ :: _, _, h => h.elim
  | _ :: _, [], [], _, h => h.elim
  | _ :: _, [], _ :: _, _, h => h.elim
  | _ :: _, _ :: _, [], _, h => h.elim

/-- what a walk gives is what the row asks -/
theorem law_post {s : ChangeSpec} {f : FuncId} {fn : Func} {W : World} {args : Array Value} {ds gs : List (DataW H)} {before : List MemPlace}
    (hv : s.vars = []) (hres : fn.resultTypes = #[4]) (hps0 : (fn.params.toList.all fun t => Tryd.prog.readableRec t && decide (t < Tryd.prog.types.size)) = true)
    (hfn0 : ∀ ds : List (DataW H), ds.length = fn.params.toList.length → (s.fn H ds).results = [.lit (.bool true)] ∧ (s.fn H ds).args = ds ∧ (s.fn H ds).vars = [])
    (hW : DataW.Whole enc Tryd.prog fn.params.toList s.vars false W args.toList ds gs before)
    (walk : Calls Tryd.prog f args W fun e w' => e = .returned (.bool true) ∧ Below W.heap.size W w') :
    Calls Tryd.prog f args W fun e W' => ∃ v, e = .returned v ∧ s.post enc Tryd.prog fn false true false false W args v W' := by
  have hW' := hW
  obtain ⟨p, q, hA, hV, rfl, hfz, hnd⟩ := hW
  rw [hv] at hV
  obtain ⟨rfl, rfl⟩ := trodVars_none hV
  have hps : ∀ t ∈ fn.params.toList, Tryd.prog.readableRec t = true ∧ t < Tryd.prog.types.size := fun t ht => by
    have := List.all_eq_true.1 hps0 t ht
    simpa using this
  have hfn := hfn0 (ds ++ []) (by simpa using trodAll_length _ _ _ _ hA)
  simp only [List.append_nil] at hfn ⊢
  refine walk.mono fun e W' ⟨he, bel⟩ => ⟨_, he, ds, [], p ++ [], [], p, [], hW', ?_, ?_, ?_, bel.frame _, fun h => by cases h⟩
  · rw [List.append_nil, hfn.1, hres]; exact trodAll_mk1 (shut_bool Tryd.underlying4 _)
  · rw [List.append_nil, hfn.2.1]; exact trodAll_stays bel _ _ _ _ hps (trodAll_lt _ _ _ _ hA) hA
  · rw [List.append_nil, hfn.2.2, hv]; rfl

/-! ### Opening the arguments -/
variable {W : World} {base : Nat}

theorem open_row {k : IntKind} {t e : TypeId} (ht : Tryd.prog.underlying t = some (.slice e)) (he : Tryd.prog.underlying e = some (.int k)) (hce : Tryd.prog.cellsOf e = 1) {v : Value} {d : DataW H} {p : List MemPlace}
    (hv : Value.okWide Tryd.prog W .any base t v) (h : DataW.Trod enc Tryd.prog W 0 (fun _ => true) true t v d p) :
    ∃ a len cap xs, v = .slice a len cap ∧ Row k W a len cap xs ∧ ∃ zs, (d = .nil ∧ cap = 0 ∧ xs = [] ∨ d = .slice (lits k xs) (lits k zs) ∧ cap = xs.length + zs.length) := by
  obtain ⟨a, len, cap, rfl⟩ := okWide_slice ht hv
  have hlt : ∀ x ∈ p, x.block < W.heap.size := by obtain ⟨m, hm⟩ := h; exact DataW.trod_lt m _ _ _ hm
  obtain ⟨fuel, hf⟩ := h
  rcases open_ints ht he hce hf with ⟨hcs, hx⟩ | ⟨x, l, c, zs, hcs, hb, hl, hm, hz, hx, hcell, hwz⟩
  · simp [Value.cells] at hcs
    obtain ⟨rfl, rfl, rfl⟩ := hcs
    simp at hx
    exact ⟨none, 0, 0, [], rfl, ⟨rfl, by simp, Nat.le_refl _, by simp, by simp, .inl rfl⟩, [], .inl ⟨hx.1, rfl, rfl⟩⟩
  · simp [Value.cells] at hcs
    obtain ⟨rfl, rfl, rfl⟩ := hcs
    have hz' : zs.length = cap := by simpa using hz
    refine ⟨some x, len, cap, zs.take len, rfl, ⟨by simp; omega, fun n hn => hwz n (List.mem_of_mem_take hn), hl, hm, by simp, ?_⟩, zs.drop len, ?_⟩
    · by_cases h0 : len = 0
      · exact .inl h0
      · right
        obtain ⟨b, off, spot⟩ := x
        have hc := hcell 0 (by simp at hz; omega)
        have hspot : spot = none := by simpa [Addr.add] using World.cell?_spot hc
        subst hspot
        refine ⟨b, off, rfl, ?_, fun i hi => ?_⟩
        · simp only [World.cell?, Addr.add, if_pos] at hc
          rcases Nat.lt_or_ge b W.heap.size with hlt' | hge
          · exact hlt'
          · rw [Array.getElem?_eq_none hge] at hc; cases hc
        · have := hcell i (by simp at hz; omega)
          have e : (⟨b, off, none⟩ : Addr).add i = ⟨b, off + i, none⟩ := by
            unfold Addr.add; split
            · subst_vars; rfl
            · rfl
          rw [e] at this; rw [this]
          simp [List.getD, hi]
    · right
      simp only [Prod.mk.injEq] at hx
      exact ⟨hx.1, by simp; omega⟩

/-- a list of numbers of kind u8 is a list of bytes -/
theorem bytes_of {k : IntKind} (hk : k = .u8) {a : Option Addr} {len cap : Nat} {xs : List Int} (h : Row k W a len cap xs) : ∃ ys : List UInt8, xs = ys.map (fun y => (y.toNat : Int)) ∧ Bytes W a len cap ys := by
  subst hk
  obtain ⟨h1, h2, h3⟩ := h
  have hex : ∃ ys : List UInt8, xs = ys.map (fun y => (y.toNat : Int)) := by
    clear h1 h3
    induction xs with
    | nil => exact ⟨[], rfl⟩
    | cons x xs ih =>
      obtain ⟨u, hu⟩ := u8_of x (h2 x (by simp))
      obtain ⟨ys, rfl⟩ := ih (fun n hn => h2 n (by simp [hn]))
      exact ⟨u :: ys, by simp [hu]⟩
  obtain ⟨ys, rfl⟩ := hex
  refine ⟨ys, rfl, by simpa using h1, h3.congr fun i hi => ?_⟩
  have hi' : i < ys.length := by simp at h1; omega
  simp [List.getD, hi']

theorem words_of {k : IntKind} (hk : k = .u64) {a : Option Addr} {len cap : Nat} {xs : List Int} (h : Row k W a len cap xs) : ∃ ys : List UInt64, xs = ys.map (fun y => (y.toNat : Int)) ∧ Words W a len cap ys := by
  subst hk
  obtain ⟨h1, h2, h3⟩ := h
  have hex : ∃ ys : List UInt64, xs = ys.map (fun y => (y.toNat : Int)) := by
    clear h1 h3
    induction xs with
    | nil => exact ⟨[], rfl⟩
    | cons x xs ih =>
      obtain ⟨u, hu⟩ := u64_of x (h2 x (by simp))
      obtain ⟨ys, rfl⟩ := ih (fun n hn => h2 n (by simp [hn]))
      exact ⟨u :: ys, by simp [hu]⟩
  obtain ⟨ys, rfl⟩ := hex
  refine ⟨ys, rfl, by simpa using h1, h3.congr fun i hi => ?_⟩
  have hi' : i < ys.length := by simp at h1; omega
  simp [List.getD, hi']

theorem open_num {k : IntKind} {t : TypeId} (ht : Tryd.prog.underlying t = some (.int k)) {v : Value} {d : DataW H} {p : List MemPlace}
    (hv : Value.okWide Tryd.prog W .any base t v) (h : DataW.Trod enc Tryd.prog W 0 (fun _ => true) true t v d p) : ∃ n, v = .int k n ∧ d = .lit (.int k n) ∧ (Lit.int k n).wf = true := by
  obtain ⟨n, rfl, rfl, _, wn⟩ := open_int ht hv h
  exact ⟨n, rfl, rfl, wn⟩

theorem reach_row {ts : List TypeId} {ds : List (DataW H)} (hsz : (DataW.weightsEach Tryd.prog ts ds).all (· ≤ reachBytes) = true) (j : Nat) {t e : TypeId} {k : IntKind} (ht : ts[j]? = some t) {d : DataW H} (hd : ds[j]? = some d) (hu : Tryd.prog.underlying t = some (.slice e)) {cap : Nat} {xs : List Int}
    (h : ∃ zs, (d = .nil ∧ cap = 0 ∧ xs = [] ∨ d = .slice (lits k xs) (lits k zs) ∧ cap = xs.length + zs.length)) : xs.length * Tryd.prog.bytesOf e ≤ reachBytes := by
  obtain ⟨zs, ⟨_, _, rfl⟩ | ⟨rfl, _⟩⟩ := h
  · simp
  · have := sized_slice hsz ht hd hu
    refine Nat.le_trans (Nat.mul_le_mul_right _ ?_) this
    simp [lits]
end
end Go.Proofs.YthbfmioikbphgaaDoor
