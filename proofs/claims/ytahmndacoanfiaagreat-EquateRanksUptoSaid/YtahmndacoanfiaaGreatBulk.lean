/- What the bound of an '..UptoSaid' statement gives: each slice among the arguments is short. -/
import Derived.Test.YtahmndacoanfiaaGreatFrame
namespace Go.Proofs.YtahmndacoanfiaaGreat
set_option maxRecDepth 100000
open Go.ChangeShapes Go.WideShapes Go.ChangeAt Go.RowKit

theorem bulk_pos {H : Type} (d : DataW H) : 1 ≤ Rows.uptoBulk d := by
  cases d with
  | lit l => cases l <;> simp [Rows.uptoBulk]
  | _ => simp [Rows.uptoBulk]
theorem bulk_length {H : Type} : ∀ l : List (DataW H), l.length ≤ Rows.uptoBulkAll l
  | [] => by simp [Rows.uptoBulkAll]
  | d :: l => by
    have h1 := bulk_pos d
    have h2 := bulk_length l
    simp only [Rows.uptoBulkAll, List.length_cons]; omega
theorem bulk_part {H : Type} : ∀ (l : List (DataW H)) (j : Nat) (d : DataW H), l[j]? = some d → Rows.uptoBulk d ≤ Rows.uptoBulkAll l
  | [], _, _, h => by simp at h
  | x :: l, 0, d, h => by simp at h; subst h; simp only [Rows.uptoBulkAll]; omega
  | x :: l, j + 1, d, h => by
    have := bulk_part l j d (by simpa using h)
    simp only [Rows.uptoBulkAll]; omega
theorem bulk_all {H : Type} {l : List (DataW H)} (hk : Rows.uptoSmall H l = true) : Rows.uptoBulkAll l ≤ 1048576 := of_decide_eq_true hk
/-- a slice of integers is short -/
theorem bulk_row {H : Type} {ds : List (DataW H)} (hk : Rows.uptoSmall H ds = true) (j : Nat) {k : IntKind} {d : DataW H} (hd : ds[j]? = some d) {cap : Nat} {xs : List Int}
    (h : ∃ zs, (d = .nil ∧ cap = 0 ∧ xs = [] ∨ d = .slice (lits k xs) (lits k zs) ∧ cap = xs.length + zs.length)) : xs.length ≤ 1048576 ∧ cap ≤ 1048576 := by
  have h1 := bulk_all hk
  have h2 := bulk_part ds j d hd
  obtain ⟨zs, ⟨_, rfl, rfl⟩ | ⟨rfl, rfl⟩⟩ := h
  · simp
  · have h3 := bulk_length (lits (H := H) k xs)
    have h4 := bulk_length (lits (H := H) k zs)
    simp only [Rows.uptoBulk] at h2
    simp [lits] at h3 h4
    simp only [lits] at h2 h3 h4
    omega

end Go.Proofs.YtahmndacoanfiaaGreat
