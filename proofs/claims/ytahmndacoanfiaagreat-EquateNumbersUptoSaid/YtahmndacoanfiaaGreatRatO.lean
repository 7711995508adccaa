/- Opening fractions among the arguments: from their reading as data to 'RatR', with the bounds on their lengths. Conditions: those of the lemmas. -/
import Derived.Test.YtahmndacoanfiaaGreatFrame
import Derived.Test.YtahmndacoanfiaaGreatRatB
namespace Go.Proofs.YtahmndacoanfiaaGreat
set_option maxRecDepth 100000
open Go.ChangeShapes Go.WideShapes Go.ChangeAt Go.RowKit
section
variable {H : Type} {enc : TypeId × Value → H} {W : World}
theorem bulkPos {H : Type} (d : DataW H) : 1 ≤ Rows.uptoBulk d := by
 cases d with
 | lit l => cases l <;> simp [Rows.uptoBulk]
 | _ => simp [Rows.uptoBulk]
theorem bulkLen {H : Type} : ∀ l : List (DataW H), l.length ≤ Rows.uptoBulkAll l
 | [] => by simp [Rows.uptoBulkAll]
 | d :: l => by
   have h1 := bulkPos d
   have h2 := bulkLen l
   simp only [Rows.uptoBulkAll, List.length_cons]; omega
theorem u32s_of (zs : List Int) (h : ∀ n ∈ zs, (Lit.int .u32 n).wf = true) : ∃ xs : List Nat, zs = xs.map (fun x : Nat => (x : Int)) ∧ Lim xs := by
 refine ⟨zs.map Int.toNat, ?_, fun x hx => ?_⟩
 · rw [List.map_map]
   refine (List.map_id _).symm.trans (List.map_congr_left fun n hn => ?_)
   have : 0 ≤ n ∧ n ≤ 4294967295 := by simpa [Lit.wf, IntKind.min, IntKind.max, IntKind.signed, IntKind.bits] using h n hn
   simp; omega
 · obtain ⟨n, hn, rfl⟩ := List.mem_map.1 hx
   have : 0 ≤ n ∧ n ≤ 4294967295 := by simpa [Lit.wf, IntKind.min, IntKind.max, IntKind.signed, IntKind.bits] using h n hn
   omega
theorem nat_trod {fuel : Nat} {cs : List Value} {x : DataW H × List MemPlace} (h : DataW.trod enc Tryz.prog W 0 (fun _ => true) true fuel 24 cs = some x) :
   ∃ a len cap xs, cs = [.slice a len cap] ∧ Limbs W a len cap xs ∧ (∀ M, (∀ n ∈ x.1.weights Tryz.prog 24, n ≤ M) → len * 4 ≤ M) ∧ len + 1 ≤ Rows.uptoBulk x.1 := by
 have hce : Tryz.prog.cellsOf 67 = 1 := by kernel_rfl
 have hby : Tryz.prog.bytesOf 67 = 4 := by kernel_rfl
 rcases open_ints Tryz.underlying24 Tryz.underlying67 hce h with ⟨rfl, rfl⟩ | ⟨x', l, c, zs, rfl, hb, hl, hm, hz, rfl, hcell, hwz⟩
 · exact ⟨none, 0, 0, [], rfl, limbs_nil _, fun M _ => by omega, by simp [Rows.uptoBulk]⟩
 · have hz' : zs.length = c := by simpa using hz
   obtain ⟨ys, hys, hlim⟩ := u32s_of zs hwz
   have hyl : ys.length = c := by rw [← hz', hys]; simp
   refine ⟨some x', l, c, ys.take l, rfl, ⟨by simp; omega, hlim.take l, hl, hm, by simp, ?_⟩, fun M hM => ?_, ?_⟩
   · by_cases h0 : l = 0
     · exact .inl h0
     · right
       obtain ⟨b, off, spot⟩ := x'
       have hc := hcell 0 (by omega)
       have hspot : spot = none := by simpa [Addr.add] using World.cell?_spot hc
       subst hspot
       refine ⟨b, off, rfl, ?_, fun i hi => ?_⟩
       · simp only [World.cell?, Addr.add, if_pos] at hc
         rcases Nat.lt_or_ge b W.heap.size with hlt' | hge
         · exact hlt'
         · rw [Array.getElem?_eq_none hge] at hc; cases hc
       · have := hcell i (by omega)
         rw [addr_add] at this; rw [this, hys]
         simp [List.getD, hi, show i < ys.length by omega]
   · have h1 := hM ((zs.take l).length * 4 + (zs.drop l).length * 4) (by
       simp only [DataW.weights, Tryz.underlying24, List.mem_cons, hby]
       left; simp [lits]; omega)
     simp at h1; omega
   · have h3 := bulkLen (lits (H := H) .u32 (zs.take l))
     simp only [Rows.uptoBulk]
     simp [lits] at h3 ⊢
     omega
theorem int_trod {fuel : Nat} {cs : List Value} {x : DataW H × List MemPlace} (h : DataW.trod enc Tryz.prog W 0 (fun _ => true) true fuel 26 cs = some x) :
   ∃ neg a len cap xs, cs = [.bool neg, .slice a len cap] ∧ Limbs W a len cap xs ∧ (∀ M, (∀ n ∈ x.1.weights Tryz.prog 26, n ≤ M) → len * 4 ≤ M) ∧ len + 1 ≤ Rows.uptoBulk x.1 := by
 obtain ⟨xs, n, -, rfl, hl, hx, hf⟩ := DataW.trod_struct Tryz.underlying26 h
 have c1 : Tryz.prog.cellsOf 4 = 1 := by kernel_rfl
 have c2 : Tryz.prog.cellsOf 24 = 1 := by kernel_rfl
 have c3 : Tryz.prog.cellsOf 26 = 2 := by kernel_rfl
 rw [c3] at hl
 match cs, hl with
 | [v0, v1], _ =>
 match xs, hx with
 | [y0, y1], _ =>
 have h0 := hf 0 _ rfl
 have h1 := hf 1 _ rfl
 simp [c1, c2] at h0 h1
 obtain ⟨b, e0, -⟩ := DataW.trod_bool Tryz.underlying4 h0
 obtain ⟨a, len, cap, ys, e1, hL, hW, hB⟩ := nat_trod h1
 simp at e0 e1
 subst e0 e1
 refine ⟨b, a, len, cap, ys, rfl, hL, fun M hM => hW M fun n hn => hM n ?_, ?_⟩
 · simp only [DataW.weights, Tryz.underlying26, List.map_cons, List.map_nil, DataW.weightsEach]
   simp [hn]
 · simp only [List.map_cons, List.map_nil, Rows.uptoBulk, Rows.uptoBulkAll]; omega
theorem ratio_trod {fuel : Nat} {cs : List Value} {x : DataW H × List MemPlace} (h : DataW.trod enc Tryz.prog W 0 (fun _ => true) true fuel 28 cs = some x) :
   ∃ v0 v1 v2 p q L, cs = [v0, v1, v2] ∧ RatR W (.agg #[v0, v1, v2]) p q L ∧ (∀ M, (∀ n ∈ x.1.weights Tryz.prog 28, n ≤ M) → L * 4 ≤ M) ∧ L + 1 ≤ Rows.uptoBulk x.1 := by
 obtain ⟨xs, n, -, rfl, hl, hx, hf⟩ := DataW.trod_struct Tryz.underlying28 h
 have c1 : Tryz.prog.cellsOf 26 = 2 := by kernel_rfl
 have c2 : Tryz.prog.cellsOf 24 = 1 := by kernel_rfl
 have c3 : Tryz.prog.cellsOf 28 = 3 := by kernel_rfl
 rw [c3] at hl
 match cs, hl with
 | [v0, v1, v2], _ =>
 match xs, hx with
 | [y0, y1], _ =>
 have h0 := hf 0 _ rfl
 have h1 := hf 1 _ rfl
 simp [c1, c2] at h0 h1
 obtain ⟨b, a', len', cap', xs, e0, hL, hW, hB⟩ := int_trod h0
 obtain ⟨a, len, cap, ys, e1, hL', hW', hB'⟩ := nat_trod h1
 simp at e0 e1
 obtain ⟨rfl, rfl⟩ := e0
 subst e1
 refine ⟨_, _, _, _, _, max len' len, rfl, ⟨b, a', len', cap', xs, a, len, cap, ys, rfl, hL, rfl, Nat.le_max_left _ _, hL', rfl, Nat.le_max_right _ _⟩, fun M hM => ?_, ?_⟩
 · have k1 := hW M fun n hn => hM n (by
     simp only [DataW.weights, Tryz.underlying28, List.map_cons, List.map_nil]
     simp [DataW.weightsEach, hn])
   have k2 := hW' M fun n hn => hM n (by
     simp only [DataW.weights, Tryz.underlying28, List.map_cons, List.map_nil]
     simp [DataW.weightsEach, hn])
   omega
 · simp only [List.map_cons, List.map_nil, Rows.uptoBulk, Rows.uptoBulkAll]; omega
end
end Go.Proofs.YtahmndacoanfiaaGreat
