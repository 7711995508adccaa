/-
  No cell of these rows narrows 'for every input' (looked for: loops, veiled, ifaces, maps, wideKeys, modest, calm, conditions, laid).
  DERIVED. THE GIVEN ROWS OF THIS SEAT. 4 by the template 'for every input the law returns true; each argument reads behind the call as it read before'; 0 by the template 'total and deterministic' (their statements: YtahmndacoanfiaaTotals.lean).
  GIVEN WITH THE SEED: the statements are not yours to turn. If you find one false, say at which input.
  Laid BY PROGRAM, IN A SANDBOX (cutbox-rows.mjs): the forced cells as the released guide's own fill.sh prints them over the translation 4531d052a4e076fe… (all of the seat's roots in one cut). By AI agents, Wed Nov 11 2026. No macro, syntax, notation, axiom, sorry.
-/
import Derived.Test.YtahmndacoanfiaaChecked
import GoSem.Claim
import GoSem.ClaimJoined
import GoSem.ClaimMapViews
import Derived.JoinedTies
import Derived.KernelRfl
namespace Go.Proofs.Ytahmndacoanfiaa
/- THE CELL 'sum', in the pinned program and in every row, IS THE sha256 OF THE DUMP (.gsa) THAT YtahmndacoanfiaaProg.lean LOADS. Nothing in Lean hashes anything: it is a label: what it is worth is what the hold of that sum in a sandbox is worth. -/
noncomputable def Try.pinned : Pinned := { name := "ytahmndacoanfiaa", sum := "4531d052a4e076fedeba8c925c9426159dffd21965bef3ff76c3d019b1809222", checked := Try.checked }
namespace Rows
def none {H : Type} : Left H := { results := [], args := [] }

/-- 'examboardlaw46.EquateIdentity': WHATEVER THE INPUT: true; the input reads as it did. -/
def equateIdentitySpec : ChangeSpec := { name := "equateIdentity", fn := fun _ => fun
  | [d1, d2] => { results := [.lit (.bool true)], args := [d1, d2] }
  | _ => none }
def equateIdentityRow : OpenClaim := { program := "ytahmndacoanfiaa", sum := "4531d052a4e076fedeba8c925c9426159dffd21965bef3ff76c3d019b1809222", func := "examboard/examboardlaw46.EquateIdentity", spec := "equateIdentity", apart := false }
def EquateIdentitySaid : Prop := equateIdentityRow.holds Try.pinned (OpenSpec.ofChange equateIdentitySpec)

/-- ITS FALSE NEIGHBOUR: 'it returns false'. Refute it at one input. -/
def equateIdentityWrong : ChangeSpec := { name := "equateIdentity", fn := fun _ => fun
  | [d1, d2] => { results := [.lit (.bool false)], args := [d1, d2] }
  | _ => none }
def EquateIdentityWrongFalsely : Prop := equateIdentityRow.holds Try.pinned (OpenSpec.ofChange equateIdentityWrong)

/-- 'examboardlaw46.EquateShares': WHATEVER THE INPUT: true; the input reads as it did. -/
def equateSharesSpec : ChangeSpec := { name := "equateShares", fn := fun _ => fun
  | [d1, d2, d3, d4] => { results := [.lit (.bool true)], args := [d1, d2, d3, d4] }
  | _ => none }
def equateSharesRow : OpenClaim := { program := "ytahmndacoanfiaa", sum := "4531d052a4e076fedeba8c925c9426159dffd21965bef3ff76c3d019b1809222", func := "examboard/examboardlaw46.EquateShares", spec := "equateShares", apart := false }
def EquateSharesSaid : Prop := equateSharesRow.holds Try.pinned (OpenSpec.ofChange equateSharesSpec)

/-- ITS FALSE NEIGHBOUR: 'it returns false'. Refute it at one input. -/
def equateSharesWrong : ChangeSpec := { name := "equateShares", fn := fun _ => fun
  | [d1, d2, d3, d4] => { results := [.lit (.bool false)], args := [d1, d2, d3, d4] }
  | _ => none }
def EquateSharesWrongFalsely : Prop := equateSharesRow.holds Try.pinned (OpenSpec.ofChange equateSharesWrong)

/-- 'examboardlaw46.EquateProportions': WHATEVER THE INPUT: true; the input reads as it did. -/
def equateProportionsSpec : ChangeSpec := { name := "equateProportions", fn := fun _ => fun
  | [d1, d2, d3, d4] => { results := [.lit (.bool true)], args := [d1, d2, d3, d4] }
  | _ => none }
def equateProportionsRow : OpenClaim := { program := "ytahmndacoanfiaa", sum := "4531d052a4e076fedeba8c925c9426159dffd21965bef3ff76c3d019b1809222", func := "examboard/examboardlaw46.EquateProportions", spec := "equateProportions", apart := false }
def EquateProportionsSaid : Prop := equateProportionsRow.holds Try.pinned (OpenSpec.ofChange equateProportionsSpec)

/-- ITS FALSE NEIGHBOUR: 'it returns false'. Refute it at one input. -/
def equateProportionsWrong : ChangeSpec := { name := "equateProportions", fn := fun _ => fun
  | [d1, d2, d3, d4] => { results := [.lit (.bool false)], args := [d1, d2, d3, d4] }
  | _ => none }
def EquateProportionsWrongFalsely : Prop := equateProportionsRow.holds Try.pinned (OpenSpec.ofChange equateProportionsWrong)

/-- 'examboardlaw46.EquateSpread': WHATEVER THE INPUT: true; the input reads as it did. -/
def equateSpreadSpec : ChangeSpec := { name := "equateSpread", fn := fun _ => fun
  | [d] => { results := [.lit (.bool true)], args := [d] }
  | _ => none }
def equateSpreadRow : OpenClaim := { program := "ytahmndacoanfiaa", sum := "4531d052a4e076fedeba8c925c9426159dffd21965bef3ff76c3d019b1809222", func := "examboard/examboardlaw46.EquateSpread", spec := "equateSpread", apart := false }
def EquateSpreadSaid : Prop := equateSpreadRow.holds Try.pinned (OpenSpec.ofChange equateSpreadSpec)

/-- ITS FALSE NEIGHBOUR: 'it returns false'. Refute it at one input. -/
def equateSpreadWrong : ChangeSpec := { name := "equateSpread", fn := fun _ => fun
  | [d] => { results := [.lit (.bool false)], args := [d] }
  | _ => none }
def EquateSpreadWrongFalsely : Prop := equateSpreadRow.holds Try.pinned (OpenSpec.ofChange equateSpreadWrong)

/- THE SECOND FORM. 'bulk': how many values and letters a reading holds, each counted each time it is reached (what is shared counts as often as it is met; a slice's spare places count too). A statement '..UptoSaid' is the law's where the arguments, and the package variables that the reading takes, are together of bulk at most 1048576: NARROWER than '..Said'. Prove '..Said' where nothing that the law and all that it calls make is longer than what came in: it says more and counts as full. Else prove '..UptoSaid'. A law counts once. -/
mutual
def uptoBulk {H : Type} : DataW H → Nat
  | .lit (.string bytes) => bytes.length + 1
  | .lit _ => 1
  | .nil => 1
  | .ptr d => uptoBulk d + 1
  | .slice elems spare => uptoBulkAll elems + uptoBulkAll spare + 1
  | .agg parts => uptoBulkAll parts + 1
  | .iface _ d => uptoBulk d + 1
  | .map entries => uptoBulkEntries entries + 1
  | .held _ => 1
def uptoBulkAll {H : Type} : List (DataW H) → Nat
  | [] => 0
  | d :: r => uptoBulk d + uptoBulkAll r
def uptoBulkEntries {H : Type} : List (Lit × DataW H) → Nat
  | [] => 0
  | x :: r => uptoBulkEntry x + uptoBulkEntries r
def uptoBulkEntry {H : Type} : Lit × DataW H → Nat
  | (.string bytes, d) => bytes.length + uptoBulk d + 1
  | (_, d) => uptoBulk d + 1
 end
def uptoSmall : (H : Type) → List (DataW H) → Bool := fun _ ds => decide (uptoBulkAll ds ≤ 1048576)
def OpenSpec.upto (s : _root_.Go.ChangeSpec) : _root_.Go.OpenSpec := { _root_.Go.OpenSpec.ofChange s with cond := some uptoSmall }

/-- 'examboardlaw46.EquateIdentity', WHERE WHAT IT READS IS OF BULK AT MOST 1048576: true; the input reads as it did. -/
def equateIdentityUptoRow : OpenClaim := { program := "ytahmndacoanfiaa", sum := "4531d052a4e076fedeba8c925c9426159dffd21965bef3ff76c3d019b1809222", func := "examboard/examboardlaw46.EquateIdentity", spec := "equateIdentity", apart := false, narrowed := true }
def EquateIdentityUptoSaid : Prop := equateIdentityUptoRow.holds Try.pinned (OpenSpec.upto equateIdentitySpec)

/-- 'examboardlaw46.EquateShares', WHERE WHAT IT READS IS OF BULK AT MOST 1048576: true; the input reads as it did. -/
def equateSharesUptoRow : OpenClaim := { program := "ytahmndacoanfiaa", sum := "4531d052a4e076fedeba8c925c9426159dffd21965bef3ff76c3d019b1809222", func := "examboard/examboardlaw46.EquateShares", spec := "equateShares", apart := false, narrowed := true }
def EquateSharesUptoSaid : Prop := equateSharesUptoRow.holds Try.pinned (OpenSpec.upto equateSharesSpec)

/-- 'examboardlaw46.EquateProportions', WHERE WHAT IT READS IS OF BULK AT MOST 1048576: true; the input reads as it did. -/
def equateProportionsUptoRow : OpenClaim := { program := "ytahmndacoanfiaa", sum := "4531d052a4e076fedeba8c925c9426159dffd21965bef3ff76c3d019b1809222", func := "examboard/examboardlaw46.EquateProportions", spec := "equateProportions", apart := false, narrowed := true }
def EquateProportionsUptoSaid : Prop := equateProportionsUptoRow.holds Try.pinned (OpenSpec.upto equateProportionsSpec)

/-- 'examboardlaw46.EquateSpread', WHERE WHAT IT READS IS OF BULK AT MOST 1048576: true; the input reads as it did. -/
def equateSpreadUptoRow : OpenClaim := { program := "ytahmndacoanfiaa", sum := "4531d052a4e076fedeba8c925c9426159dffd21965bef3ff76c3d019b1809222", func := "examboard/examboardlaw46.EquateSpread", spec := "equateSpread", apart := false, narrowed := true }
def EquateSpreadUptoSaid : Prop := equateSpreadUptoRow.holds Try.pinned (OpenSpec.upto equateSpreadSpec)

end Rows
end Go.Proofs.Ytahmndacoanfiaa
