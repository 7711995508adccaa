/- Journals: what 'written' and 'complete' return, written out. -/
import Derived.Test.YthbfmioikbphgaaDoorJoX
import Derived.Test.YthbfmioikbphgaaDoorJoW
namespace Go.Proofs.YthbfmioikbphgaaDoor
set_option maxRecDepth 100000
open Go.RowKit

theorem sel_good : ∀ (nodes acc : List NodeT), i64L nodes → (∀ t ∈ acc, GoodJ t) → acc.length ≤ 10 → (∀ t ∈ selJ acc nodes, GoodJ t) ∧ (selJ acc nodes).length ≤ 10
  | [], _, _, h1, h2 => ⟨h1, h2⟩
  | t :: ts, acc, hi, h1, h2 => by
    simp only [i64L] at hi
    simp only [selJ]
    by_cases h : acc.length = 10 ∨ okE t = false
    · rw [if_pos h]; exact sel_good ts acc hi.2 h1 h2
    · rw [if_neg h]
      have h' : acc.length ≠ 10 ∧ okE t = true := by simpa using h
      refine sel_good ts _ hi.2 (fun u hu => ?_) (by rw [List.length_append]; simp; omega)
      rcases List.mem_append.1 hu with hu | hu
      · exact h1 u hu
      · rw [List.mem_singleton.1 hu]; exact okE_good h'.2 hi.1

/-- a slice of numbers -/
def Nums (w : World) (a : Option Addr) (n c : Nat) (ns : List Nat) : Prop := ns.length = n ∧ Cells w a n c (fun i => (nvs ns).getD i .nilFunc)
theorem Nums.below {w w' : World} {a : Option Addr} {n c : Nat} {ns : List Nat} (h : Nums w a n c ns) (hb : Below w.heap.size w w') : Nums w' a n c ns := ⟨h.1, h.2.below hb⟩
theorem Nums.cell {w : World} {a : Option Addr} {n c : Nat} {ns : List Nat} (h : Nums w a n c ns) {k : Nat} (hk : k < n) : ∃ b off, a = some ⟨b, off, none⟩ ∧ b < w.heap.size ∧ w.cell? ⟨b, off + k, none⟩ = some (.int .i64 (ns.getD k 0 : Nat)) := by
  obtain ⟨b, off, rfl, hlt, hcc⟩ := h.2.at hk
  have hl := h.1
  refine ⟨b, off, rfl, hlt, (hcc k hk w (Below.refl _ _)).trans ?_⟩
  have hk' : k < ns.length := by omega
  simp [nvs, List.getD, hk']

set_option maxHeartbeats 1000000 in
theorem complete_any (ns : List Nat) (cut : Nat) (a : Option Addr) (n c : Nat) (w : World) (hN : Nums w a n c ns) (hb : ∀ x ∈ ns, x ≤ 1000000) :
    Calls Tryd.prog 16 #[.slice a n c, .int .i64 (cut : Int)] w fun e w' => e = .returned (.int .i64 (cntJ ns cut : Nat)) ∧ w = w' := by
  have HN := Lib.hid hN
  have HL := Lib.hid hN.1
  have HX := Lib.hid hb
  have hnm : n ≤ 9223372036854775807 := by have h1 := hN.2.1; have h2 := hN.2.2.1; unfold maxLen at h2; omega
  clear hN hb
  go_enter Tryd.func16, Tryd.ntmps16
  go_wp2_with fail
  go_loop [5, 10] (fun g i => ∃ (k v : Nat), k ≤ n ∧ i = .int .i64 k ∧ g = .int .i64 v ∧ Hid (v = cntJ (ns.take k) cut) ∧ v ≤ k) (fun _ i => n - (intOf i).toNat)
  case atStart => exact ⟨0, 0, by omega, rfl, rfl, Lib.hid rfl, by omega⟩
  case round =>
    obtain ⟨k, v, hk, rfl, rfl, HV, hv⟩ := hrel
    by_cases hlt : k < n
    · obtain ⟨b, off, rfl, -, c1⟩ := HN.out.cell hlt
      have HS := Lib.hid (show cntJ (ns.take (k + 1)) cut = cntJ (ns.take k) cut + if ns.getD k 0 ≤ cut then 1 else 0 by
        have hk' : k < ns.length := by rw [HL.out]; exact hlt
        rw [List.take_succ_eq_append_getElem hk']
        unfold cntJ
        rw [List.filter_append, List.length_append]
        have e : ns.getD k 0 = ns[k] := by simp [List.getD, hk']
        rw [e]
        by_cases h : ns[k] ≤ cut
        · rw [if_pos h, List.filter_cons_of_pos (by simpa using h)]; rfl
        · rw [if_neg h, List.filter_cons_of_neg (by simpa using h)]; rfl)
      have hx : ns.getD k 0 ≤ 1000000 := by
        have hk' : k < ns.length := by rw [HL.out]; exact hlt
        have e : ns.getD k 0 = ns[k] := by simp [List.getD, hk']
        rw [e]
        exact HX.out _ (List.getElem_mem hk')
      generalize ns.getD k 0 = x at *
      by_cases hle : x ≤ cut
      · have d1 : decide ((x : Int) ≤ (cut : Int)) = true := by simp; omega
        have d1' : decide (x ≤ cut) = true := by simp; omega
        have H1 := Lib.hid (show v + 1 = cntJ (ns.take (k + 1)) cut by rw [HS.out, if_pos hle, HV.out])
        go_wp2_with fail
        go_round
        case rel => exact ⟨k + 1, v + 1, by omega, by go_num, by go_num, H1, by omega⟩
        case measure => simp [intOf]; omega
      · have d1 : decide ((x : Int) ≤ (cut : Int)) = false := by simp; omega
        have d1' : decide (x ≤ cut) = false := by simp; omega
        have H1 := Lib.hid (show v = cntJ (ns.take (k + 1)) cut by rw [HS.out, if_neg hle, HV.out]; rfl)
        go_wp2_with fail
        go_round
        case rel => exact ⟨k + 1, v, by omega, by go_num, rfl, H1, by omega⟩
        case measure => simp [intOf]; omega
    · have HF := Lib.hid (show v = cntJ ns cut by rw [HV.out, List.take_of_length_le (by rw [HL.out]; omega)])
      go_wp2_with fail
      go_ret
      exact ⟨ret_int (by rw [HF.out]), rfl⟩

theorem ends_le : ∀ (ts : List NodeT) (o : Nat), ∀ x ∈ endsJ o ts, x ≤ o + lenJ ts
  | [], _, _, h => by simp [endsJ] at h
  | t :: ts, o, x, h => by
    simp only [endsJ, List.mem_cons] at h
    simp only [lenJ]
    rcases h with rfl | h
    · omega
    · have := ends_le ts (o + sizJ t) x h
      omega
/-- what 'written' returns, written out -/
theorem written_fix (nodes : List NodeT) (a : Option Addr) (len cap : Nat) (w : World) (hK : Kids w a len cap nodes) (hi : i64L nodes) (hg : ErrT w) :
    ∃ ts : List NodeT, (∀ t ∈ ts, GoodJ t) ∧ ts.length ≤ 10 ∧ Calls Tryd.prog 15 #[.slice a len cap] w fun e w' =>
      ∃ a1 c1 a2 c2 a3 c3, e = .returned (.tuple #[.slice a1 (lenJ ts) c1, .slice a2 ts.length c2, .slice a3 ts.length c3, .bool true]) ∧ Bytes w' a1 (lenJ ts) c1 (encJ (digOf []) ts) ∧ Kids w' a2 ts.length c2 ts ∧ Nums w' a3 ts.length c3 (endsJ 0 ts) ∧ Below w.heap.size w w' := by
  obtain ⟨h1, h2⟩ := sel_good nodes [] hi (by simp) (by simp)
  refine ⟨selJ [] nodes, h1, h2, (written_any nodes a len cap w hK hi hg).mono ?_⟩
  rintro e w' ⟨lg, lv, ev, rfl, hW, hb⟩
  obtain ⟨a1, c1, a2, c2, a3, c3, rfl, rfl, rfl, hB⟩ := hW.forms
  refine ⟨a1, c1, a2, c2, a3, c3, rfl, hB, hW.P.kids, ?_, hb⟩
  obtain ⟨a', c', e', hc⟩ := hW.E.form
  rw [nvs_len, endsJ_len] at e' hc
  cases e'
  exact ⟨endsJ_len _ _, hc⟩
end Go.Proofs.YthbfmioikbphgaaDoor
