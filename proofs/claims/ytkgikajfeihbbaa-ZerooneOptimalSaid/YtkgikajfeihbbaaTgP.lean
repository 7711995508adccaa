/- 0-1 programs, plain: fixing variables by single rows leads to the least closed extension, which is the only one. -/
import Derived.Test.YtkgikajfeihbbaaZoB
namespace Go.Proofs.Ytkgikajfeihbbaa
set_option maxRecDepth 100000
open Go.RowKit

/-- whether a row can be satisfied, as far as its least and greatest sums tell -/
def canB (r : RowM) (fs : List Int) : Bool := decide (loOf r.coef fs ≤ r.mx) && decide (r.mn ≤ hiOf r.coef fs) && decide (r.mn ≤ r.mx)
/-- g has the values of f where f is fixed -/
def Sup (f g : List Int) : Prop := f.length = g.length ∧ ∀ i, i < f.length → f.getD i 0 = -1 ∨ g.getD i 0 = f.getD i 0
def Trits (f : List Int) : Prop := ∀ i, i < f.length → f.getD i 0 = -1 ∨ f.getD i 0 = 0 ∨ f.getD i 0 = 1
def RowClosed (r : RowM) (g : List Int) : Prop := ∀ i, i < g.length → g.getD i 0 = -1 → canB r (g.set i 0) = true ∧ canB r (g.set i 1) = true
def Closed (rs : List RowM) (g : List Int) : Prop := Trits g ∧ ∀ r, r ∈ rs → canB r g = true ∧ RowClosed r g

theorem sup_refl (f : List Int) : Sup f f := ⟨rfl, fun _ _ => .inr rfl⟩
theorem loT_mono {c a b : Int} (h : a = -1 ∨ b = a) : loT c a ≤ loT c b := by
  rcases h with rfl | rfl
  · unfold loT; split <;> split <;> omega
  · exact Int.le_refl _
theorem hiT_mono {c a b : Int} (h : a = -1 ∨ b = a) : hiT c b ≤ hiT c a := by
  rcases h with rfl | rfl
  · unfold hiT; split <;> split <;> omega
  · exact Int.le_refl _
theorem sup_tail {a b : Int} {f g : List Int} (h : Sup (a :: f) (b :: g)) : (a = -1 ∨ b = a) ∧ Sup f g := by
  refine ⟨by simpa using h.2 0 (by simp), by simpa using h.1, fun i hi => by simpa using h.2 (i + 1) (by simpa using hi)⟩
theorem lo_mono (cs : List Int) : ∀ {f g : List Int}, Sup f g → loOf cs f ≤ loOf cs g := by
  induction cs with
  | nil => intro f g _; cases f <;> cases g <;> simp [loOf]
  | cons c cs ih =>
    intro f g h
    match f, g, h with
    | [], [], _ => simp [loOf]
    | [], _ :: _, h => exact absurd h.1 (by simp)
    | _ :: _, [], h => exact absurd h.1 (by simp)
    | a :: f, b :: g, h =>
      obtain ⟨h1, h2⟩ := sup_tail h
      have := ih h2
      have := loT_mono (c := c) h1
      simp only [loOf]; omega
theorem hi_mono (cs : List Int) : ∀ {f g : List Int}, Sup f g → hiOf cs g ≤ hiOf cs f := by
  induction cs with
  | nil => intro f g _; cases f <;> cases g <;> simp [hiOf]
  | cons c cs ih =>
    intro f g h
    match f, g, h with
    | [], [], _ => simp [hiOf]
    | [], _ :: _, h => exact absurd h.1 (by simp)
    | _ :: _, [], h => exact absurd h.1 (by simp)
    | a :: f, b :: g, h =>
      obtain ⟨h1, h2⟩ := sup_tail h
      have := ih h2
      have := hiT_mono (c := c) h1
      simp only [hiOf]; omega
theorem can_mono {r : RowM} {f g : List Int} (h : Sup f g) (hg : canB r g = true) : canB r f = true := by
  have h1 := lo_mono r.coef h
  have h2 := hi_mono r.coef h
  unfold canB at hg ⊢
  simp only [Bool.and_eq_true, decide_eq_true_eq] at hg ⊢
  omega
theorem getD_set (f : List Int) (i j : Nat) (v : Int) (hi : i < f.length) : (f.set i v).getD j 0 = if i = j then v else f.getD j 0 := by
  simp only [List.getD, List.getElem?_set]
  split
  · subst_vars; simp
  · rfl
theorem sup_set {f g : List Int} {i : Nat} {v : Int} (h : Sup f g) (hi : i < f.length) (hv : v = -1 ∨ g.getD i 0 = v) : Sup (f.set i v) g := by
  refine ⟨by simpa using h.1, fun j hj => ?_⟩
  rw [getD_set f i j v hi]
  split
  · subst_vars; exact hv
  · exact h.2 j (by simpa using hj)
theorem sup_set2 {f g : List Int} {i : Nat} (v : Int) (h : Sup f g) (hi : i < f.length) : Sup (f.set i v) (g.set i v) := by
  refine ⟨by simpa using h.1, fun j hj => ?_⟩
  rw [getD_set f i j v hi, getD_set g i j v (by rw [← h.1]; exact hi)]
  split
  · exact .inr rfl
  · exact h.2 j (by simpa using hj)
theorem set_self (f : List Int) (i : Nat) (hi : i < f.length) {v : Int} (h : f.getD i 0 = v) : f.set i v = f := by
  apply List.ext_getElem?
  intro j
  rw [List.getElem?_set]
  split
  · subst_vars; simp [List.getD, hi]
  · rfl
theorem sup_trans {f g h : List Int} (h1 : Sup f g) (h2 : Sup g h) : Sup f h := by
  refine ⟨h1.1.trans h2.1, fun i hi => ?_⟩
  rcases h1.2 i hi with a | a
  · exact .inl a
  · rcases h2.2 i (by rw [← h1.1]; exact hi) with b | b
    · exact .inl (a ▸ b)
    · exact .inr (b.trans a)
theorem sup_antisymm {f g : List Int} (h1 : Sup f g) (h2 : Sup g f) : f = g := by
  apply List.ext_getElem h1.1
  intro i hi hg
  have a := h1.2 i hi
  have b := h2.2 i hg
  simp [List.getD, List.getElem?_eq_getElem hi, List.getElem?_eq_getElem hg] at a b
  omega

/-- what a row says of a free variable -/
theorem must {rs : List RowM} {r : RowM} {f h : List Int} {i : Nat} (hc : Closed rs h) (hs : Sup f h) (hr : r ∈ rs) (hi : i < f.length) {v : Int} (hv : v = 0 ∨ v = 1) (hno : canB r (f.set i v) = false) : h.getD i 0 = 1 - v := by
  have hih : i < h.length := by rw [← hs.1]; exact hi
  have k0 : h.getD i 0 ≠ v := fun e => by
    have := can_mono (sup_set hs hi (.inr e)) (hc.2 r hr).1
    rw [hno] at this; cases this
  have k1 : h.getD i 0 ≠ -1 := fun e => by
    have h2 := (hc.2 r hr).2 i hih e
    have := can_mono (sup_set2 v hs hi) (by rcases hv with rfl | rfl; exact h2.1; exact h2.2)
    rw [hno] at this; cases this
  rcases hc.1 i hih with e | e | e <;> rcases hv with rfl | rfl <;> omega

/-- what is known on the way -/
structure Way (rs : List RowM) (f0 f : List Int) : Prop where
  trits : Trits f
  sup : Sup f0 f
  least : ∀ h, Closed rs h → Sup f0 h → Sup f h
theorem way_start {rs : List RowM} {f : List Int} (h : Trits f) : Way rs f f := ⟨h, sup_refl f, fun _ _ h => h⟩
theorem way_set {rs : List RowM} {f0 f : List Int} {r : RowM} {i : Nat} {v : Int} (hw : Way rs f0 f) (hr : r ∈ rs) (hi : i < f.length) (hf : f.getD i 0 = -1) (hv : v = 0 ∨ v = 1) (hno : canB r (f.set i v) = false) : Way rs f0 (f.set i (1 - v)) := by
  refine ⟨fun j hj => ?_, ⟨by simpa using hw.sup.1, fun j hj => ?_⟩, fun h hc hs => ?_⟩
  · rw [getD_set f i j _ hi]
    split
    · omega
    · exact hw.trits j (by simpa using hj)
  · rw [getD_set f i j _ hi]
    split
    · rename_i e0
      subst e0
      rcases hw.sup.2 _ hj with e | e
      · exact .inl e
      · exact .inl (by omega)
    · exact hw.sup.2 j hj
  · exact sup_set (hw.least h hc hs) hi (.inr (must hc (hw.least h hc hs) hr hi hv hno))
/-- where it ends -/
def TightTo (rs : List RowM) (f0 : List Int) : Option (List Int) → Prop
  | some g => Closed rs g ∧ Sup f0 g ∧ ∀ h, Closed rs h → Sup f0 h → Sup g h
  | none => ∀ h, Closed rs h → ¬ Sup f0 h
theorem way_no {rs : List RowM} {f0 f : List Int} {r : RowM} (hw : Way rs f0 f) (hr : r ∈ rs) (hno : canB r f = false) : TightTo rs f0 none := fun h hc hs => by
  have := can_mono (hw.least h hc hs) (hc.2 r hr).1
  rw [hno] at this; cases this
theorem way_no2 {rs : List RowM} {f0 f : List Int} {r : RowM} {i : Nat} (hw : Way rs f0 f) (hr : r ∈ rs) (hi : i < f.length) (h0 : canB r (f.set i 0) = false) (h1 : canB r (f.set i 1) = false) : TightTo rs f0 none := fun h hc hs => by
  have a := must hc (hw.least h hc hs) hr hi (.inl rfl) h0
  have b := must hc (hw.least h hc hs) hr hi (.inr rfl) h1
  omega
theorem way_yes {rs : List RowM} {f0 f : List Int} (hw : Way rs f0 f) (hc : ∀ r, r ∈ rs → canB r f = true ∧ RowClosed r f) : TightTo rs f0 (some f) := ⟨⟨hw.trits, hc⟩, hw.sup, hw.least⟩
theorem tight_one {rs : List RowM} {f0 : List Int} {a b : Option (List Int)} (ha : TightTo rs f0 a) (hb : TightTo rs f0 b) : a = b := by
  match a, b, ha, hb with
  | none, none, _, _ => rfl
  | some g, none, ha, hb => exact absurd ha.2.1 (hb g ha.1)
  | none, some g, ha, hb => exact absurd hb.2.1 (ha g hb.1)
  | some g, some h, ha, hb => exact congrArg some (sup_antisymm (ha.2.2 h hb.1 hb.2.1) (hb.2.2 g ha.1 ha.2.1))

/-- how many variables are free -/
def freeN (f : List Int) : Nat := f.countP (fun x => x == -1)
theorem free_set {f : List Int} {i : Nat} {v : Int} (hi : i < f.length) (hf : f.getD i 0 = -1) (hv : v ≠ -1) : freeN (f.set i v) + 1 = freeN f := by
  induction f generalizing i with
  | nil => simp at hi
  | cons a f ih =>
    cases i with
    | zero => simp at hf; subst hf; simp [freeN, hv]
    | succ i =>
      have := ih (i := i) (by simpa using hi) (by simpa using hf)
      unfold freeN at this ⊢
      simp only [List.set_cons_succ, List.countP_cons]
      omega

end Go.Proofs.Ytkgikajfeihbbaa
