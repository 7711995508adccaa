/- The codec: what appendNode returns. -/
import Derived.Test.YthbfmioikbphgaaDoorCoC
import Derived.Test.YthbfmioikbphgaaDoorPair
import Derived.Test.YthbfmioikbphgaaDoorStrA
namespace Go.Proofs.YthbfmioikbphgaaDoor
set_option maxRecDepth 100000
open Go.RowKit

/-- a world that has grown out of w: the block r excepted as w was -/
def KeptV (r : Option Nat) (w w' : World) : Prop := w.heap.size ≤ w'.heap.size ∧ ∀ i, i < w.heap.size → some i ≠ r → w'.heap[i]? = w.heap[i]?
structure GrV (r : Option Nat) (w : World) where
  val : World
  prop : KeptV r w val
instance (r : Option Nat) (w : World) : Nonempty (GrV r w) := ⟨⟨w, Nat.le_refl _, fun _ _ _ => rfl⟩⟩
theorem KeptV.cell {r : Option Nat} {g o : Nat} {w w' : World} {v : Option Value} (hk : KeptV r w w') (h : w.cell? ⟨g, o, none⟩ = v) (hg : g < w.heap.size) (hne : ∀ j, r = some j → j ≠ g) : w'.cell? ⟨g, o, none⟩ = v := by
  have hb := hk.2 g hg (fun e => hne g e.symm rfl)
  rw [← h]; simp only [World.cell?, hb]
theorem GrV.cell {r : Option Nat} {g o : Nat} {w : World} {v : Value} (h : w.cell? ⟨g, o, none⟩ = some v) (hg : g < w.heap.size) (hne : ∀ j, r = some j → j ≠ g) : ∀ W : GrV r w, W.1.cell? ⟨g, o, none⟩ = some v := fun W => W.2.cell h hg hne
theorem Grew.keptV {w w' : World} {v v' : Value} (h : Grew w w' v v') : KeptV v.ownBlock w w' := ⟨h.1.size, fun i hi hne => h.1.block i hi hne⟩
theorem Grew.ne {w w' : World} {v v' : Value} {g : Nat} (h : Grew w w' v v') (hg : g < w.heap.size) (hne : ∀ j, v.ownBlock = some j → j ≠ g) : ∀ j, v'.ownBlock = some j → j ≠ g := fun j hj => by
  rcases h.2 with h2 | h2
  · exact hne j (h2 ▸ hj)
  · have := h2 j hj; omega
theorem KeptV.below {r : Option Nat} {w w1 w2 : World} (h : KeptV r w w1) (hb : Below w1.heap.size w1 w2) : KeptV r w w2 :=
  ⟨Nat.le_trans h.1 hb.size, fun i hi hne => (hb.block i (Nat.lt_of_lt_of_le hi h.1)).trans (h.2 i hi hne)⟩
theorem KeptV.refl (r : Option Nat) (w : World) : KeptV r w w := ⟨Nat.le_refl _, fun _ _ _ => rfl⟩
theorem grew_below {w w1 w2 : World} {v v' : Value} (hb : Below w.heap.size w w1) (h : Grew w1 w2 v v') : Grew w w2 v v' := Grew.after hb rfl h
theorem grew_base {w0 w w' : World} {B : Nat} {v v' : Value} (hW : Below w0.heap.size w0 w) (hB0 : w0.heap.size ≤ B) (hv : ∀ j, v.ownBlock = some j → B ≤ j) (h : Grew w w' v v') : Below w0.heap.size w0 w' :=
  hW.trans (h.below (B := w0.heap.size) hW.size (fun j hj => Nat.le_trans hB0 (hv j hj)))
theorem enc_le {lv : Nat} {t : NodeT} {ts : List NodeT} {i : Nat} : fitL lv ts = true → ts[i]? = some t → fitT lv t = true := by
  induction ts generalizing i with
  | nil => intro _ h; simp at h
  | cons u ts ih =>
    intro hf h
    simp only [fitL, Bool.and_eq_true] at hf
    cases i with
    | zero => simp at h; subst h; exact hf.1
    | succ i => exact ih hf.2 (by simpa using h)

set_option maxHeartbeats 16000000 in
theorem anode_any (w0 : World) (B : Nat) (hB0 : w0.heap.size ≤ B) : ∀ (f : Nat) (t : NodeT) (nv v : Value) (xs : List UInt8) (w : World), f ≤ 8 → fitT (9 - f) t = true → i64T t → NodeIn w0 t nv → Below w0.heap.size w0 w → Owns w B 5 v (bvs xs) → xs.length + (encT t).length ≤ 2097152 → B ≤ w.heap.size →
    Calls Tryd.prog 45 #[v, nv] w fun e w' => ∃ v', e = .returned v' ∧ Owns w' B 5 v' (bvs (xs ++ encT t)) ∧ Grew w w' v v' := by
  intro f
  induction f with
  | zero => intro t nv v xs w hf hfit; obtain ⟨tag, kind, n, s, kids⟩ := t; rw [fitT_iff] at hfit; omega
  | succ f ih =>
    intro t nv v xs w hf hfit hi hN hW hO hlen hB
    obtain ⟨tag, kind, n, s, a, len, cap, kids, rfl, rfl, hs, hk⟩ := hN.form
    rw [fitT_iff] at hfit
    obtain ⟨-, q2, q3, q4, q5, q6, q7, q8, q9, q10, q11⟩ := hfit
    obtain ⟨T, rfl⟩ : ∃ T : Nat, tag = (T : Int) := ⟨tag.toNat, by omega⟩
    have hT : T < 18446744073709551616 := by omega
    have HT := Lib.hid hT
    have HK := Lib.hid hk
    simp only [i64T] at hi
    have HI := Lib.hid hi
    have HO := Lib.hid hO
    have HW := Lib.hid hW
    have HL := Lib.hid hlen
    have hkl : kids.length = len := hk.1
    have HF := Lib.hid q11
    have HB := Lib.hid hB
    have hne0 : ∀ j, v.ownBlock = some j → j ≠ w.heap.size := fun j hj => by have := hO.in j hj; omega
    have HNe := Lib.hid hne0
    have HOin := Lib.hid hO.lt
    clear hN hi hk hO hW hlen q11 hB hne0
    have hkk : kind = 1 ∨ kind = 2 ∨ kind = 3 := by omega
    rcases hkk with rfl | rfl | rfl
    · have hs0 : s = [] := q7.resolve_left (by omega)
      have hk0 : kids = [] := q8.resolve_left (by omega)
      subst hs0; subst hk0
      obtain rfl : len = 0 := hkl.symm
      have hnf := fold_lt HI.out.2.2.1
      have HE := Lib.hid (show encT (.mk (T : Int) 1 n [] []) = vEnc T ++ [UInt8.ofNat 1] ++ vEnc (foldN n) by simp [encT])
      go_enter Tryd.func45, Tryd.ntmps45
      go_wp2_with fail
      have hb0 : Below w.heap.size w (w.alloc (.cells #[.int .i64 (T : Int), .int .i64 1, .int .i64 n, .string ⟨#[]⟩, .slice a 0 cap] 25)) := (Below.refl _ _).alloc (Nat.le_refl _) _
      have hbe : w.heap.size < (w.alloc (.cells #[.int .i64 (T : Int), .int .i64 1, .int .i64 n, .string ⟨#[]⟩, .slice a 0 cap] 25)).heap.size := by simp
      generalize hWW : w.alloc (.cells #[.int .i64 (T : Int), .int .i64 1, .int .i64 n, .string ⟨#[]⟩, .slice a 0 cap] 25) = w1 at *
      have c0 : w1.cell? ⟨w.heap.size, 0, none⟩ = some (.int .i64 (T : Int)) := by subst hWW; go_simp
      have c1 : w1.cell? ⟨w.heap.size, 1, none⟩ = some (.int .i64 1) := by subst hWW; go_simp
      have c2 : w1.cell? ⟨w.heap.size, 2, none⟩ = some (.int .i64 n) := by subst hWW; go_simp
      have c3 : w1.cell? ⟨w.heap.size, 3, none⟩ = some (.string ⟨#[]⟩) := by subst hWW; go_simp
      have c4 : w1.cell? ⟨w.heap.size, 4, none⟩ = some (.slice a 0 cap) := by subst hWW; go_simp
      clear hWW
      have hB1 : B ≤ w1.heap.size := Nat.le_trans HB.out hb0.size
      have HO1 := Lib.hid (Owns.later HO.out hb0)
      have e0 := GrV.cell (r := v.ownBlock) c0 hbe HNe.out
      have e1 := GrV.cell (r := v.ownBlock) c1 hbe HNe.out
      refine wp_region_pair [(0, false), (1, false), (2, false), (3, false), (5, false), (6, false), (7, false)] 4 8 [(9, true), (10, false)] (fun w' => ∃ W : GrV v.ownBlock w1, w' = W.1) (by kernel_rfl) (by kernel_rfl) ⟨⟨w1.drew, (KeptV.refl _ _).below (Below.refl _ _).drew⟩, rfl⟩ ?_
      have hw0 : IntKind.u64.wrap (T : Int) = (T : Int) := by rw [IntKind.wrap_u64]; omega
      have hw1 : IntKind.u8.wrap 1 = 1 := by decide
      repeat (refine wpPr_calm rfl (fun K hK => ?_); go_simp; refine hK _ ?_; clear hK K)
      clear e0 e1
      have hxl : xs.length ≤ 2097152 := by have := HL.out; omega
      have hbd : Below w1.heap.size w1 w1.drew := (Below.refl _ _).drew
      have hBd : B ≤ w1.drew.heap.size := hB1
      have HOd := Lib.hid (Owns.later HO1.out hbd)
      have hdk : KeptV v.ownBlock w1 w1.drew := (KeptV.refl _ _).below hbd
      have HSd := Lib.hid (show w1.drew.heap.size = w1.heap.size from rfl)
      generalize w1.drew = w2 at *
      refine wpPr_both (fun x y w' => Owns w' B 5 x (bvs (xs ++ vEnc T)) ∧ Grew w2 w' v x ∧ ∃ g, y = .slice (some ⟨g, 0, none⟩) 1 1 ∧ Cells w' (some ⟨g, 0, none⟩) 1 1 (fun i => [Value.int .u8 1].getD i .nilFunc)) rfl rfl rfl rfl rfl rfl rfl ?_ ?_ ?_
      · intro K hK
        go_simp
        refine (avarint_any B v xs T _ HOd.out hT hxl hBd).mono ?_
        rintro e w3 ⟨v', rfl, h1, h2⟩
        have h1' := Lib.hid h1
        have h2' := Lib.hid h2
        clear h1 h2
        have hk3 : KeptV v.ownBlock w1 w3 := ⟨Nat.le_trans hdk.1 h2'.out.keptV.1, fun i hi hne => (h2'.out.keptV.2 i (by rw [HSd.out]; exact hi) hne).trans (hdk.2 i hi hne)⟩
        refine hK _ _ _ rfl ⟨⟨w3, hk3⟩, rfl⟩ (fun K2 hK2 => ?_)
        clear hK K
        go_simp
        have hbl : Below w3.heap.size w3 (w3.alloc (.cells #[.int .u8 1] 5)) := (Below.refl _ _).alloc (Nat.le_refl _) _
        refine hK2 _ _ _ rfl ⟨⟨_, hk3.below hbl⟩, rfl⟩ ⟨h1'.out.later hbl, h2'.out.then hbl, _, rfl, ?_⟩
        exact cells_lit w3 5 [.int .u8 1] (by simp [maxLen])
      · intro K hK
        go_simp
        have hbl : Below w2.heap.size w2 (w2.alloc (.cells #[.int .u8 1] 5)) := (Below.refl _ _).alloc (Nat.le_refl _) _
        have HCl := Lib.hid (cells_lit w2 5 [.int .u8 1] (by simp [maxLen]))
        have hbls : (w2.alloc (.cells #[.int .u8 1] 5)).heap.size = w2.heap.size + 1 := by simp
        refine hK _ _ _ rfl ⟨⟨_, hdk.below hbl⟩, rfl⟩ (fun K2 hK2 => ?_)
        clear hK K
        simp only [List.length_singleton] at HCl
        replace HCl : Hid (Cells (w2.alloc (.cells #[.int .u8 1] 5)) (some ⟨w2.heap.size, 0, none⟩) 1 1 (fun i => [Value.int .u8 1].getD i .nilFunc)) := HCl
        generalize w2.alloc (.cells #[.int .u8 1] 5) = w3 at *
        go_simp
        refine (avarint_any B v xs T _ (HOd.out.later hbl) hT hxl (by omega)).mono ?_
        rintro e w4 ⟨v', rfl, h1, h2⟩
        have hk4 : KeptV v.ownBlock w1 w4 := ⟨by have := h2.keptV.1; have := HSd.out; omega, fun i hi hne => (h2.keptV.2 i (by have := HSd.out; omega) hne).trans (((hdk.below hbl).2 i hi hne))⟩
        refine hK2 _ _ _ rfl ⟨⟨w4, hk4⟩, rfl⟩ ⟨h1, grew_below hbl h2, _, rfl, ?_⟩
        have hc := HCl.out
        refine ⟨hc.1, hc.2.1, by simp, .inr ⟨_, 0, rfl, by have := h2.keptV.1; omega, fun i hi => ?_⟩⟩
        obtain rfl : i = 0 := by omega
        rcases hc.2.2.2 with h0 | ⟨b, off, hbo, hlt, hcc⟩
        · omega
        cases hbo
        exact h2.keptV.cell (hcc 0 (by omega)) hlt (fun j hj => by have := HOd.out.in j hj; omega)
      rintro x y w3 hC ⟨hOx, hGx, g, rfl, hCl⟩
      clear hC
      have HOx := Lib.hid hOx
      have HGx := Lib.hid hGx
      have HCl := Lib.hid hCl
      clear hOx hGx hCl
      have hB3 : B ≤ w3.heap.size := Nat.le_trans hBd HGx.out.1.size
      go_simp
      refine wpSched_eff rfl rfl (fun K hK => ?_)
      refine wp_app (.tmp 11) (.tmp 15) 22 rfl B 5 (.int .u8 0) 1 Tryd.underlying22 infoByte rfl x (bvs (xs ++ vEnc T)) rfl HOx.out _ 1 1 [.int .u8 1] rfl rfl HCl.out (by intro u hu; simp at hu; subst hu; rfl) (by rw [bvs_length, List.length_append]; have := vEnc_le hT; omega) (by rw [bvs_length, List.length_append]; have := vEnc_le hT; simp only [maxLen]; omega) hB3 fun v3 w4 h3 h4 => ?_
      have HOy := Lib.hid (show Owns w4 B 5 v3 (bvs (xs ++ vEnc T ++ [UInt8.ofNat 1])) by rw [bvs_append]; exact h3)
      have HGy := Lib.hid (show Grew w w4 v v3 from grew_below hb0 (grew_below hbd (HGx.out.trans h4)))
      have hg2 : Grew w1 w4 v v3 := grew_below hbd (HGx.out.trans h4)
      replace c1 := hg2.keptV.cell c1 hbe HNe.out
      replace c2 := hg2.keptV.cell c2 hbe HNe.out
      replace c3 := hg2.keptV.cell c3 hbe HNe.out
      replace c4 := hg2.keptV.cell c4 hbe HNe.out
      replace HNe := Lib.hid (hg2.ne hbe HNe.out)
      have hbe4 : w.heap.size < w4.heap.size := Nat.lt_of_lt_of_le hbe hg2.1.size
      have hB4 : B ≤ w4.heap.size := Nat.le_trans hB1 hg2.1.size
      have HW4 := Lib.hid (show Below w0.heap.size w0 w4 from grew_base HW.out hB0 HOin.out HGy.out)
      have HOl := Lib.hid (Owns.lt HOy.out)
      refine hK _ _ ⟨⟨w4, hg2.keptV⟩, rfl⟩ ?_
      clear hK K h3 h4 hg2 HOx HGx HCl HOd HO1
      repeat (refine wpSched_calm rfl (fun K hK => ?_); go_simp; refine hK _ ?_; clear hK K)
      refine wpSched_nil ?_
      generalize hys : xs ++ vEnc T ++ [UInt8.ofNat 1] = ys at *
      have hyl : ys.length ≤ 2097152 := by have := HL.out; rw [HE.out, ← hys] at *; simp only [List.length_append] at this ⊢; omega
      go_wp2_with fail
      refine (fold_any n _ HI.out.2.2.1).mono ?_
      rintro e w5 ⟨rfl, rfl⟩
      go_wp2_with fail
      refine (avarint_any B v3 ys (foldN n) _ HOy.out hnf hyl hB4).mono ?_
      rintro e w5 ⟨v5, rfl, h5, h6⟩
      have HR := Lib.hid (show Owns w5 B 5 v5 (bvs (xs ++ encT (.mk (T : Int) 1 n [] []))) by rw [HE.out, ← List.append_assoc, ← List.append_assoc, hys]; exact h5)
      have HG := Lib.hid (HGy.out.trans h6)
      clear h5 h6
      go_wp2_with fail
      go_ret
      exact ⟨_, rfl, HR.out, HG.out⟩
    · have hn0 : n = 0 := q6.resolve_left (by omega)
      have hk0 : kids = [] := q8.resolve_left (by omega)
      subst hn0; subst hk0
      obtain rfl : len = 0 := hkl.symm
      have hsl : s.length < 18446744073709551616 := by omega
      have HS := Lib.hid hsl
      have HE := Lib.hid (show encT (.mk (T : Int) 2 0 s []) = vEnc T ++ [UInt8.ofNat 2] ++ vEnc s.length ++ s by simp [encT])
      go_enter Tryd.func45, Tryd.ntmps45
      go_wp2_with fail
      have hb0 : Below w.heap.size w (w.alloc (.cells #[.int .i64 (T : Int), .int .i64 2, .int .i64 0, .string ⟨s.toArray⟩, .slice a 0 cap] 25)) := (Below.refl _ _).alloc (Nat.le_refl _) _
      have hbe : w.heap.size < (w.alloc (.cells #[.int .i64 (T : Int), .int .i64 2, .int .i64 0, .string ⟨s.toArray⟩, .slice a 0 cap] 25)).heap.size := by simp
      generalize hWW : w.alloc (.cells #[.int .i64 (T : Int), .int .i64 2, .int .i64 0, .string ⟨s.toArray⟩, .slice a 0 cap] 25) = w1 at *
      have c0 : w1.cell? ⟨w.heap.size, 0, none⟩ = some (.int .i64 (T : Int)) := by subst hWW; go_simp
      have c1 : w1.cell? ⟨w.heap.size, 1, none⟩ = some (.int .i64 2) := by subst hWW; go_simp
      have c2 : w1.cell? ⟨w.heap.size, 2, none⟩ = some (.int .i64 0) := by subst hWW; go_simp
      have c3 : w1.cell? ⟨w.heap.size, 3, none⟩ = some (.string ⟨s.toArray⟩) := by subst hWW; go_simp
      have c4 : w1.cell? ⟨w.heap.size, 4, none⟩ = some (.slice a 0 cap) := by subst hWW; go_simp
      clear hWW
      have hB1 : B ≤ w1.heap.size := Nat.le_trans HB.out hb0.size
      have HO1 := Lib.hid (Owns.later HO.out hb0)
      have e0 := GrV.cell (r := v.ownBlock) c0 hbe HNe.out
      have e1 := GrV.cell (r := v.ownBlock) c1 hbe HNe.out
      refine wp_region_pair [(0, false), (1, false), (2, false), (3, false), (5, false), (6, false), (7, false)] 4 8 [(9, true), (10, false)] (fun w' => ∃ W : GrV v.ownBlock w1, w' = W.1) (by kernel_rfl) (by kernel_rfl) ⟨⟨w1.drew, (KeptV.refl _ _).below (Below.refl _ _).drew⟩, rfl⟩ ?_
      have hw0 : IntKind.u64.wrap (T : Int) = (T : Int) := by rw [IntKind.wrap_u64]; omega
      have hw1 : IntKind.u8.wrap 2 = 2 := by decide
      repeat (refine wpPr_calm rfl (fun K hK => ?_); go_simp; refine hK _ ?_; clear hK K)
      clear e0 e1
      have hxl : xs.length ≤ 2097152 := by have := HL.out; omega
      have hbd : Below w1.heap.size w1 w1.drew := (Below.refl _ _).drew
      have hBd : B ≤ w1.drew.heap.size := hB1
      have HOd := Lib.hid (Owns.later HO1.out hbd)
      have hdk : KeptV v.ownBlock w1 w1.drew := (KeptV.refl _ _).below hbd
      have HSd := Lib.hid (show w1.drew.heap.size = w1.heap.size from rfl)
      generalize w1.drew = w2 at *
      refine wpPr_both (fun x y w' => Owns w' B 5 x (bvs (xs ++ vEnc T)) ∧ Grew w2 w' v x ∧ ∃ g, y = .slice (some ⟨g, 0, none⟩) 1 1 ∧ Cells w' (some ⟨g, 0, none⟩) 1 1 (fun i => [Value.int .u8 2].getD i .nilFunc)) rfl rfl rfl rfl rfl rfl rfl ?_ ?_ ?_
      · intro K hK
        go_simp
        refine (avarint_any B v xs T _ HOd.out hT hxl hBd).mono ?_
        rintro e w3 ⟨v', rfl, h1, h2⟩
        have h1' := Lib.hid h1
        have h2' := Lib.hid h2
        clear h1 h2
        have hk3 : KeptV v.ownBlock w1 w3 := ⟨Nat.le_trans hdk.1 h2'.out.keptV.1, fun i hi hne => (h2'.out.keptV.2 i (by rw [HSd.out]; exact hi) hne).trans (hdk.2 i hi hne)⟩
        refine hK _ _ _ rfl ⟨⟨w3, hk3⟩, rfl⟩ (fun K2 hK2 => ?_)
        clear hK K
        go_simp
        have hbl : Below w3.heap.size w3 (w3.alloc (.cells #[.int .u8 2] 5)) := (Below.refl _ _).alloc (Nat.le_refl _) _
        refine hK2 _ _ _ rfl ⟨⟨_, hk3.below hbl⟩, rfl⟩ ⟨h1'.out.later hbl, h2'.out.then hbl, _, rfl, ?_⟩
        exact cells_lit w3 5 [.int .u8 2] (by simp [maxLen])
      · intro K hK
        go_simp
        have hbl : Below w2.heap.size w2 (w2.alloc (.cells #[.int .u8 2] 5)) := (Below.refl _ _).alloc (Nat.le_refl _) _
        have HCl := Lib.hid (cells_lit w2 5 [.int .u8 2] (by simp [maxLen]))
        have hbls : (w2.alloc (.cells #[.int .u8 2] 5)).heap.size = w2.heap.size + 1 := by simp
        refine hK _ _ _ rfl ⟨⟨_, hdk.below hbl⟩, rfl⟩ (fun K2 hK2 => ?_)
        clear hK K
        simp only [List.length_singleton] at HCl
        replace HCl : Hid (Cells (w2.alloc (.cells #[.int .u8 2] 5)) (some ⟨w2.heap.size, 0, none⟩) 1 1 (fun i => [Value.int .u8 2].getD i .nilFunc)) := HCl
        generalize w2.alloc (.cells #[.int .u8 2] 5) = w3 at *
        go_simp
        refine (avarint_any B v xs T _ (HOd.out.later hbl) hT hxl (by omega)).mono ?_
        rintro e w4 ⟨v', rfl, h1, h2⟩
        have hk4 : KeptV v.ownBlock w1 w4 := ⟨by have := h2.keptV.1; have := HSd.out; omega, fun i hi hne => (h2.keptV.2 i (by have := HSd.out; omega) hne).trans (((hdk.below hbl).2 i hi hne))⟩
        refine hK2 _ _ _ rfl ⟨⟨w4, hk4⟩, rfl⟩ ⟨h1, grew_below hbl h2, _, rfl, ?_⟩
        have hc := HCl.out
        refine ⟨hc.1, hc.2.1, by simp, .inr ⟨_, 0, rfl, by have := h2.keptV.1; omega, fun i hi => ?_⟩⟩
        obtain rfl : i = 0 := by omega
        rcases hc.2.2.2 with h0 | ⟨b, off, hbo, hlt, hcc⟩
        · omega
        cases hbo
        exact h2.keptV.cell (hcc 0 (by omega)) hlt (fun j hj => by have := HOd.out.in j hj; omega)
      rintro x y w3 hC ⟨hOx, hGx, g, rfl, hCl⟩
      clear hC
      have HOx := Lib.hid hOx
      have HGx := Lib.hid hGx
      have HCl := Lib.hid hCl
      clear hOx hGx hCl
      have hB3 : B ≤ w3.heap.size := Nat.le_trans hBd HGx.out.1.size
      go_simp
      refine wpSched_eff rfl rfl (fun K hK => ?_)
      refine wp_app (.tmp 11) (.tmp 15) 22 rfl B 5 (.int .u8 0) 1 Tryd.underlying22 infoByte rfl x (bvs (xs ++ vEnc T)) rfl HOx.out _ 1 1 [.int .u8 2] rfl rfl HCl.out (by intro u hu; simp at hu; subst hu; rfl) (by rw [bvs_length, List.length_append]; have := vEnc_le hT; omega) (by rw [bvs_length, List.length_append]; have := vEnc_le hT; simp only [maxLen]; omega) hB3 fun v3 w4 h3 h4 => ?_
      have HOy := Lib.hid (show Owns w4 B 5 v3 (bvs (xs ++ vEnc T ++ [UInt8.ofNat 2])) by rw [bvs_append]; exact h3)
      have HGy := Lib.hid (show Grew w w4 v v3 from grew_below hb0 (grew_below hbd (HGx.out.trans h4)))
      have hg2 : Grew w1 w4 v v3 := grew_below hbd (HGx.out.trans h4)
      replace c1 := hg2.keptV.cell c1 hbe HNe.out
      replace c2 := hg2.keptV.cell c2 hbe HNe.out
      replace c3 := hg2.keptV.cell c3 hbe HNe.out
      replace c4 := hg2.keptV.cell c4 hbe HNe.out
      replace HNe := Lib.hid (hg2.ne hbe HNe.out)
      have hbe4 : w.heap.size < w4.heap.size := Nat.lt_of_lt_of_le hbe hg2.1.size
      have hB4 : B ≤ w4.heap.size := Nat.le_trans hB1 hg2.1.size
      have HW4 := Lib.hid (show Below w0.heap.size w0 w4 from grew_base HW.out hB0 HOin.out HGy.out)
      have HOl := Lib.hid (Owns.lt HOy.out)
      refine hK _ _ ⟨⟨w4, hg2.keptV⟩, rfl⟩ ?_
      clear hK K h3 h4 hg2 HOx HGx HCl HOd HO1
      repeat (refine wpSched_calm rfl (fun K hK => ?_); go_simp; refine hK _ ?_; clear hK K)
      refine wpSched_nil ?_
      generalize hys : xs ++ vEnc T ++ [UInt8.ofNat 2] = ys at *
      have hyl : ys.length + (vEnc s.length).length + s.length ≤ 2097152 := by have := HL.out; rw [HE.out, ← hys] at *; simp only [List.length_append] at this ⊢; omega
      have HYl := Lib.hid hyl
      clear hyl
      have e3 := GrV.cell (r := v3.ownBlock) c3 hbe4 HNe.out
      go_wp2_with fail
      refine wp_region_sched [(0, false), (1, false), (2, false), (3, false), (4, false), (6, false), (7, false), (5, true), (8, true), (9, false)] (fun w' => ∃ W : GrV v3.ownBlock w4, w' = W.1) (by kernel_rfl) (by kernel_rfl) ⟨⟨w4.drew, (KeptV.refl _ _).below (Below.refl _ _).drew⟩, rfl⟩ ?_
      have hw2 : IntKind.u64.wrap (s.length : Int) = (s.length : Int) := by rw [IntKind.wrap_u64]; omega
      repeat (refine wpSched_calm rfl (fun K hK => ?_); go_simp; refine hK _ ?_; clear hK K)
      clear e3
      have hbd4 : Below w4.heap.size w4 w4.drew := (Below.refl _ _).drew
      have HOd4 := Lib.hid (Owns.later HOy.out hbd4)
      have hdk4 : KeptV v3.ownBlock w4 w4.drew := (KeptV.refl _ _).below hbd4
      have HSd4 := Lib.hid (show w4.drew.heap.size = w4.heap.size from rfl)
      generalize w4.drew = w5 at *
      refine wpSched_eff rfl rfl (fun K hK => ?_)
      go_simp
      refine (avarint_any B v3 ys s.length _ HOd4.out HS.out (by have := HYl.out; omega) (by rw [HSd4.out]; exact hB4)).mono ?_
      rintro e w6 ⟨v6, rfl, h5, h6⟩
      have HO6 := Lib.hid h5
      have HG6 := Lib.hid h6
      have hk6 : KeptV v3.ownBlock w4 w6 := ⟨by have := h6.keptV.1; have := HSd4.out; omega, fun i hi hne => (h6.keptV.2 i (by rw [HSd4.out]; exact hi) hne).trans (hdk4.2 i hi hne)⟩
      refine hK _ _ ⟨⟨w6, hk6⟩, rfl⟩ ?_
      clear hK K h5 h6
      refine wpSched_eff rfl rfl (fun K hK => ?_)
      refine wp_appS (.tmp 33) (.tmp 35) 22 9 rfl B 5 Tryd.underlying22 Tryd.underlying9 infoByte v6 (bvs (ys ++ vEnc s.length)) rfl HO6.out s rfl (by rw [bvs_length, List.length_append]; have := HYl.out; omega) (by have := hk6.1; omega) fun v7 w7 h7 h8 => ?_
      have HR := Lib.hid (show Owns w7 B 5 v7 (bvs (xs ++ encT (.mk (T : Int) 2 0 s []))) by
        rw [HE.out, ← List.append_assoc, ← List.append_assoc, ← List.append_assoc, hys, bvs_append]; exact h7)
      have hg7 : Grew w4 w7 v3 v7 := grew_below hbd4 (HG6.out.trans h8)
      have HG := Lib.hid (HGy.out.trans hg7)
      refine hK _ _ ⟨⟨w7, hg7.keptV⟩, rfl⟩ ?_
      clear hK K h7 h8 hg7
      repeat (refine wpSched_calm rfl (fun K hK => ?_); go_simp; refine hK _ ?_; clear hK K)
      refine wpSched_nil ?_
      go_wp2_with fail
      go_ret
      exact ⟨_, rfl, HR.out, HG.out⟩
    · have hn0 : n = 0 := q6.resolve_left (by omega)
      have hs0 : s = [] := q7.resolve_left (by omega)
      subst hn0; subst hs0
      have hlen10 : len ≤ 1024 := by omega
      have hll : len < 18446744073709551616 := by omega
      have HE := Lib.hid (show encT (.mk (T : Int) 3 0 [] kids) = vEnc T ++ [UInt8.ofNat 3] ++ vEnc len ++ encL kids by simp [encT, hkl])
      go_enter Tryd.func45, Tryd.ntmps45
      go_wp2_with fail
      have hb0 : Below w.heap.size w (w.alloc (.cells #[.int .i64 (T : Int), .int .i64 3, .int .i64 0, .string ⟨#[]⟩, .slice a len cap] 25)) := (Below.refl _ _).alloc (Nat.le_refl _) _
      have hbe : w.heap.size < (w.alloc (.cells #[.int .i64 (T : Int), .int .i64 3, .int .i64 0, .string ⟨#[]⟩, .slice a len cap] 25)).heap.size := by simp
      generalize hWW : w.alloc (.cells #[.int .i64 (T : Int), .int .i64 3, .int .i64 0, .string ⟨#[]⟩, .slice a len cap] 25) = w1 at *
      have c0 : w1.cell? ⟨w.heap.size, 0, none⟩ = some (.int .i64 (T : Int)) := by subst hWW; go_simp
      have c1 : w1.cell? ⟨w.heap.size, 1, none⟩ = some (.int .i64 3) := by subst hWW; go_simp
      have c2 : w1.cell? ⟨w.heap.size, 2, none⟩ = some (.int .i64 0) := by subst hWW; go_simp
      have c3 : w1.cell? ⟨w.heap.size, 3, none⟩ = some (.string ⟨#[]⟩) := by subst hWW; go_simp
      have c4 : w1.cell? ⟨w.heap.size, 4, none⟩ = some (.slice a len cap) := by subst hWW; go_simp
      clear hWW
      have hB1 : B ≤ w1.heap.size := Nat.le_trans HB.out hb0.size
      have HO1 := Lib.hid (Owns.later HO.out hb0)
      have e0 := GrV.cell (r := v.ownBlock) c0 hbe HNe.out
      have e1 := GrV.cell (r := v.ownBlock) c1 hbe HNe.out
      refine wp_region_pair [(0, false), (1, false), (2, false), (3, false), (5, false), (6, false), (7, false)] 4 8 [(9, true), (10, false)] (fun w' => ∃ W : GrV v.ownBlock w1, w' = W.1) (by kernel_rfl) (by kernel_rfl) ⟨⟨w1.drew, (KeptV.refl _ _).below (Below.refl _ _).drew⟩, rfl⟩ ?_
      have hw0 : IntKind.u64.wrap (T : Int) = (T : Int) := by rw [IntKind.wrap_u64]; omega
      have hw1 : IntKind.u8.wrap 3 = 3 := by decide
      repeat (refine wpPr_calm rfl (fun K hK => ?_); go_simp; refine hK _ ?_; clear hK K)
      clear e0 e1
      have hxl : xs.length ≤ 2097152 := by have := HL.out; omega
      have hbd : Below w1.heap.size w1 w1.drew := (Below.refl _ _).drew
      have hBd : B ≤ w1.drew.heap.size := hB1
      have HOd := Lib.hid (Owns.later HO1.out hbd)
      have hdk : KeptV v.ownBlock w1 w1.drew := (KeptV.refl _ _).below hbd
      have HSd := Lib.hid (show w1.drew.heap.size = w1.heap.size from rfl)
      generalize w1.drew = w2 at *
      refine wpPr_both (fun x y w' => Owns w' B 5 x (bvs (xs ++ vEnc T)) ∧ Grew w2 w' v x ∧ ∃ g, y = .slice (some ⟨g, 0, none⟩) 1 1 ∧ Cells w' (some ⟨g, 0, none⟩) 1 1 (fun i => [Value.int .u8 3].getD i .nilFunc)) rfl rfl rfl rfl rfl rfl rfl ?_ ?_ ?_
      · intro K hK
        go_simp
        refine (avarint_any B v xs T _ HOd.out hT hxl hBd).mono ?_
        rintro e w3 ⟨v', rfl, h1, h2⟩
        have h1' := Lib.hid h1
        have h2' := Lib.hid h2
        clear h1 h2
        have hk3 : KeptV v.ownBlock w1 w3 := ⟨Nat.le_trans hdk.1 h2'.out.keptV.1, fun i hi hne => (h2'.out.keptV.2 i (by rw [HSd.out]; exact hi) hne).trans (hdk.2 i hi hne)⟩
        refine hK _ _ _ rfl ⟨⟨w3, hk3⟩, rfl⟩ (fun K2 hK2 => ?_)
        clear hK K
        go_simp
        have hbl : Below w3.heap.size w3 (w3.alloc (.cells #[.int .u8 3] 5)) := (Below.refl _ _).alloc (Nat.le_refl _) _
        refine hK2 _ _ _ rfl ⟨⟨_, hk3.below hbl⟩, rfl⟩ ⟨h1'.out.later hbl, h2'.out.then hbl, _, rfl, ?_⟩
        exact cells_lit w3 5 [.int .u8 3] (by simp [maxLen])
      · intro K hK
        go_simp
        have hbl : Below w2.heap.size w2 (w2.alloc (.cells #[.int .u8 3] 5)) := (Below.refl _ _).alloc (Nat.le_refl _) _
        have HCl := Lib.hid (cells_lit w2 5 [.int .u8 3] (by simp [maxLen]))
        have hbls : (w2.alloc (.cells #[.int .u8 3] 5)).heap.size = w2.heap.size + 1 := by simp
        refine hK _ _ _ rfl ⟨⟨_, hdk.below hbl⟩, rfl⟩ (fun K2 hK2 => ?_)
        clear hK K
        simp only [List.length_singleton] at HCl
        replace HCl : Hid (Cells (w2.alloc (.cells #[.int .u8 3] 5)) (some ⟨w2.heap.size, 0, none⟩) 1 1 (fun i => [Value.int .u8 3].getD i .nilFunc)) := HCl
        generalize w2.alloc (.cells #[.int .u8 3] 5) = w3 at *
        go_simp
        refine (avarint_any B v xs T _ (HOd.out.later hbl) hT hxl (by omega)).mono ?_
        rintro e w4 ⟨v', rfl, h1, h2⟩
        have hk4 : KeptV v.ownBlock w1 w4 := ⟨by have := h2.keptV.1; have := HSd.out; omega, fun i hi hne => (h2.keptV.2 i (by have := HSd.out; omega) hne).trans (((hdk.below hbl).2 i hi hne))⟩
        refine hK2 _ _ _ rfl ⟨⟨w4, hk4⟩, rfl⟩ ⟨h1, grew_below hbl h2, _, rfl, ?_⟩
        have hc := HCl.out
        refine ⟨hc.1, hc.2.1, by simp, .inr ⟨_, 0, rfl, by have := h2.keptV.1; omega, fun i hi => ?_⟩⟩
        obtain rfl : i = 0 := by omega
        rcases hc.2.2.2 with h0 | ⟨b, off, hbo, hlt, hcc⟩
        · omega
        cases hbo
        exact h2.keptV.cell (hcc 0 (by omega)) hlt (fun j hj => by have := HOd.out.in j hj; omega)
      rintro x y w3 hC ⟨hOx, hGx, g, rfl, hCl⟩
      clear hC
      have HOx := Lib.hid hOx
      have HGx := Lib.hid hGx
      have HCl := Lib.hid hCl
      clear hOx hGx hCl
      have hB3 : B ≤ w3.heap.size := Nat.le_trans hBd HGx.out.1.size
      go_simp
      refine wpSched_eff rfl rfl (fun K hK => ?_)
      refine wp_app (.tmp 11) (.tmp 15) 22 rfl B 5 (.int .u8 0) 1 Tryd.underlying22 infoByte rfl x (bvs (xs ++ vEnc T)) rfl HOx.out _ 1 1 [.int .u8 3] rfl rfl HCl.out (by intro u hu; simp at hu; subst hu; rfl) (by rw [bvs_length, List.length_append]; have := vEnc_le hT; omega) (by rw [bvs_length, List.length_append]; have := vEnc_le hT; simp only [maxLen]; omega) hB3 fun v3 w4 h3 h4 => ?_
      have HOy := Lib.hid (show Owns w4 B 5 v3 (bvs (xs ++ vEnc T ++ [UInt8.ofNat 3])) by rw [bvs_append]; exact h3)
      have HGy := Lib.hid (show Grew w w4 v v3 from grew_below hb0 (grew_below hbd (HGx.out.trans h4)))
      have hg2 : Grew w1 w4 v v3 := grew_below hbd (HGx.out.trans h4)
      replace c1 := hg2.keptV.cell c1 hbe HNe.out
      replace c2 := hg2.keptV.cell c2 hbe HNe.out
      replace c3 := hg2.keptV.cell c3 hbe HNe.out
      replace c4 := hg2.keptV.cell c4 hbe HNe.out
      replace HNe := Lib.hid (hg2.ne hbe HNe.out)
      have hbe4 : w.heap.size < w4.heap.size := Nat.lt_of_lt_of_le hbe hg2.1.size
      have hB4 : B ≤ w4.heap.size := Nat.le_trans hB1 hg2.1.size
      have HW4 := Lib.hid (show Below w0.heap.size w0 w4 from grew_base HW.out hB0 HOin.out HGy.out)
      have HOl := Lib.hid (Owns.lt HOy.out)
      refine hK _ _ ⟨⟨w4, hg2.keptV⟩, rfl⟩ ?_
      clear hK K h3 h4 hg2 HOx HGx HCl HOd HO1
      repeat (refine wpSched_calm rfl (fun K hK => ?_); go_simp; refine hK _ ?_; clear hK K)
      refine wpSched_nil ?_
      generalize hys : xs ++ vEnc T ++ [UInt8.ofNat 3] = ys at *
      have hyl : ys.length + (vEnc len).length + (encL kids).length ≤ 2097152 := by have := HL.out; rw [HE.out, ← hys] at *; simp only [List.length_append] at this ⊢; omega
      have HYl := Lib.hid hyl
      clear hyl
      go_wp2_with fail
      refine (avarint_any B v3 ys len _ HOy.out hll (by have := HYl.out; omega) hB4).mono ?_
      rintro e w5 ⟨v5, rfl, h5, h6⟩
      have HO5 := Lib.hid h5
      have HG5 := Lib.hid (HGy.out.trans h6)
      replace c4 := h6.keptV.cell c4 hbe4 HNe.out
      have HR5 := Lib.hid (show xs ++ encT (.mk (T : Int) 3 0 [] kids) = (ys ++ vEnc len) ++ encL kids by rw [HE.out, ← hys]; simp only [List.append_assoc])
      clear h5 h6
      generalize hys5 : ys ++ vEnc len = ys5 at *
      have hy5 : ys5.length + (encL kids).length ≤ 2097152 := by have := HYl.out; rw [← hys5, List.length_append]; exact this
      have HY5 := Lib.hid hy5
      clear hys5 hy5 c0 c1 c2 c3 HYl HOy HGy HW4 HOl HNe
      go_wp2_with fail
      go_loopw [0, 46] (fun u i wr => ∃ (k : Nat) (zs : List UInt8), k ≤ len ∧ i = .int .i64 k ∧ Hid (Owns wr B 5 u (bvs zs)) ∧ Hid (Grew w wr v u) ∧ Hid (xs ++ encT (.mk (T : Int) 3 0 [] kids) = zs ++ encL (kids.drop k)) ∧ Hid (zs.length + (encL (kids.drop k)).length ≤ 2097152)) (fun _ i _ => len - (intOf i).toNat)
      case atStart => exact ⟨0, ys5, by omega, rfl, HO5, HG5, by rw [List.drop_zero]; exact HR5, by rw [List.drop_zero]; exact HY5⟩
      case round =>
        obtain ⟨k, zs, hk, rfl, HOk, HGk, HDk, HLk⟩ := hrel
        by_cases hlt : k < len
        · have hbr : Below w0.heap.size w0 wr := grew_base HW.out hB0 HOin.out HGk.out
          have hkw : Kids wr a len cap kids := HK.out.below hbr
          obtain ⟨b, off, rfl, hbl, tg', kd', n', s', a', len', cap', kids', hki, x0, x1, x2, x3, x4, hs', hk'⟩ := hkw.at hlt
          obtain ⟨b2, off2, hb2, -, tg2, kd2, n2, s2, a2, len2, cap2, kids2, hki2, y0, y1, y2, y3, y4, hs2, hk2⟩ := HK.out.at hlt
          cases hb2
          rw [hki] at hki2
          cases Option.some.inj hki2
          have hkd : kids.drop k = .mk tg' kd' n' s' kids' :: kids.drop (k + 1) := by
            have h1 : k < kids.length := by omega
            rw [List.drop_eq_getElem_cons h1]
            rw [List.getElem?_eq_getElem h1] at hki
            rw [Option.some.inj hki]
          have hbw : b < w0.heap.size := by
            rcases Nat.lt_or_ge b w0.heap.size with h | h
            · exact h
            · simp [World.cell?, Array.getElem?_eq_none h] at y0
          have z4 := y4
          rw [← hbr.cell (p := ⟨b, off + k * 5 + 4, none⟩) hbw, x4] at z4
          cases z4
          have HNd := Lib.hid (show NodeIn w0 (.mk tg' kd' n' s' kids') (.agg #[.int .i64 tg', .int .i64 kd', .int .i64 n', .string ⟨s'.toArray⟩, .slice a' len' cap']) from nodeIn_mk.2 ⟨a', len', cap', rfl, hs2, hk2⟩)
          have HI' := Lib.hid (i64L_at HI.out.2.2.2 hki)
          have HF' := Lib.hid (enc_le HF.out hki)
          rw [hkd] at HDk HLk
          have HD2 := Lib.hid HDk.out
          have HL2 := Lib.hid HLk.out
          clear HDk HLk hkd hki hki2 hk' hk2 y0 y1 y2 y3 y4 hkw hs2 hbw hbl
          generalize hQ : NodeT.mk tg' kd' n' s' kids' = kid at *
          have hBr : B ≤ wr.heap.size := Nat.le_trans HB.out HGk.out.1.size
          go_wp2_with fail
          have hba : Below wr.heap.size wr (wr.alloc (.cells #[.int .i64 tg', .int .i64 kd', .int .i64 n', .string ⟨s'.toArray⟩, .slice a' len' cap'] 25)) := (Below.refl _ _).alloc (Nat.le_refl _) _
          refine (ih kid _ u0 zs _ (by omega) (by have := HF'.out; rwa [show 9 - (f + 1) + 1 = 9 - f by omega] at this) HI'.out HNd.out (hbr.trans (hba.mono hbr.size)) (HOk.out.later hba) (by have := HL2.out; simp only [encL, List.length_append] at this; omega) (Nat.le_trans hBr hba.size)).mono ?_
          rintro e w6 ⟨v6, rfl, h5, h6⟩
          have HO6 := Lib.hid h5
          have HG6 := Lib.hid (HGk.out.trans (grew_below hba h6))
          clear h5 h6
          go_wp2_with fail
          go_roundw
          case rel => exact ⟨k + 1, zs ++ encT kid, by omega, by go_num, HO6, HG6, by unfold Hid; rw [HD2.out]; simp only [encL, List.append_assoc], by unfold Hid; have := HL2.out; simp only [encL, List.length_append] at this ⊢; omega⟩
          case measure => simp [intOf]; omega
        · obtain rfl : k = len := by omega
          have HFin := Lib.hid (show Owns wr B 5 u0 (bvs (xs ++ encT (.mk (T : Int) 3 0 [] kids))) by rw [HDk.out, List.drop_of_length_le (by omega)]; simpa [encL] using HOk.out)
          go_wp2_with fail
          go_ret
          exact ⟨_, rfl, HFin.out, HGk.out⟩

end Go.Proofs.YthbfmioikbphgaaDoor
