/-
  No cell of these rows narrows 'for every input' (looked for: loops, veiled, ifaces, maps, wideKeys, modest, calm, conditions, laid).
  DERIVED. THE GIVEN ROWS OF THIS SEAT. 3 by the template 'for every input the law returns true; each argument reads behind the call as it read before'; 0 by the template 'total and deterministic' (their statements: YtahmndacoanfiaaGreatTotals.lean).
  GIVEN WITH THE SEED: the statements are not yours to turn. If you find one false, say at which input.
  Laid BY PROGRAM, IN A SANDBOX (cutbox-rows.mjs): the forced cells as the released guide's own fill.sh prints them over the translation fa6466e18030cd78… (all of the seat's roots in one cut). By AI agents, Wed Nov 11 2026. No macro, syntax, notation, axiom, sorry.
-/
import Derived.Test.YtahmndacoanfiaaGreatChecked
import GoSem.Claim
import GoSem.ClaimJoined
import GoSem.ClaimMapViews
import Derived.JoinedTies
import Derived.KernelRfl
namespace Go.Proofs.YtahmndacoanfiaaGreat
/- THE CELL 'sum', in the pinned program and in every row, IS THE sha256 OF THE DUMP (.gsa) THAT YtahmndacoanfiaaGreatProg.lean LOADS. Nothing in Lean hashes anything: it is a label: what it is worth is what the hold of that sum in a sandbox is worth. -/
noncomputable def Tryz.pinned : Pinned := { name := "ytahmndacoanfiaagreat", sum := "fa6466e18030cd78b72b3f0db68201f9f75b977e36cb59044151c1778c6bc5f7", checked := Tryz.checked }
namespace Rows
def none {H : Type} : Left H := { results := [], args := [] }

/-- 'examboardlaw46.EquateRanks': WHATEVER THE INPUT: true; the input reads as it did. -/
def equateRanksSpec : ChangeSpec := { name := "equateRanks", fn := fun _ => fun
  | [d1, d2, d3] => { results := [.lit (.bool true)], args := [d1, d2, d3] }
  | _ => none }
def equateRanksRow : OpenClaim := { program := "ytahmndacoanfiaagreat", sum := "fa6466e18030cd78b72b3f0db68201f9f75b977e36cb59044151c1778c6bc5f7", func := "examboard/examboardlaw46.EquateRanks", spec := "equateRanks", apart := false }
def EquateRanksSaid : Prop := equateRanksRow.holds Tryz.pinned (OpenSpec.ofChange equateRanksSpec)

/-- ITS FALSE NEIGHBOUR: 'it returns false'. Refute it at one input. -/
def equateRanksWrong : ChangeSpec := { name := "equateRanks", fn := fun _ => fun
  | [d1, d2, d3] => { results := [.lit (.bool false)], args := [d1, d2, d3] }
  | _ => none }
def EquateRanksWrongFalsely : Prop := equateRanksRow.holds Tryz.pinned (OpenSpec.ofChange equateRanksWrong)

/-- 'examboardlaw46.EquateTables': WHATEVER THE INPUT: true; the input reads as it did. -/
def equateTablesSpec : ChangeSpec := { name := "equateTables", fn := fun _ => fun
  | [d1, d2, d3] => { results := [.lit (.bool true)], args := [d1, d2, d3] }
  | _ => none }
def equateTablesRow : OpenClaim := { program := "ytahmndacoanfiaagreat", sum := "fa6466e18030cd78b72b3f0db68201f9f75b977e36cb59044151c1778c6bc5f7", func := "examboard/examboardlaw46.EquateTables", spec := "equateTables", apart := false }
def EquateTablesSaid : Prop := equateTablesRow.holds Tryz.pinned (OpenSpec.ofChange equateTablesSpec)

/-- ITS FALSE NEIGHBOUR: 'it returns false'. Refute it at one input. -/
def equateTablesWrong : ChangeSpec := { name := "equateTables", fn := fun _ => fun
  | [d1, d2, d3] => { results := [.lit (.bool false)], args := [d1, d2, d3] }
  | _ => none }
def EquateTablesWrongFalsely : Prop := equateTablesRow.holds Tryz.pinned (OpenSpec.ofChange equateTablesWrong)

/-- 'examboardlaw46.EquateNumbers': WHATEVER THE INPUT: true; the input reads as it did. -/
def equateNumbersSpec : ChangeSpec := { name := "equateNumbers", fn := fun _ => fun
  | [d1, d2, d3, d4, d5] => { results := [.lit (.bool true)], args := [d1, d2, d3, d4, d5] }
  | _ => none }
def equateNumbersRow : OpenClaim := { program := "ytahmndacoanfiaagreat", sum := "fa6466e18030cd78b72b3f0db68201f9f75b977e36cb59044151c1778c6bc5f7", func := "examboard/examboardlaw46.EquateNumbers", spec := "equateNumbers", apart := false }
def EquateNumbersSaid : Prop := equateNumbersRow.holds Tryz.pinned (OpenSpec.ofChange equateNumbersSpec)

/-- ITS FALSE NEIGHBOUR: 'it returns false'. Refute it at one input. -/
def equateNumbersWrong : ChangeSpec := { name := "equateNumbers", fn := fun _ => fun
  | [d1, d2, d3, d4, d5] => { results := [.lit (.bool false)], args := [d1, d2, d3, d4, d5] }
  | _ => none }
def EquateNumbersWrongFalsely : Prop := equateNumbersRow.holds Tryz.pinned (OpenSpec.ofChange equateNumbersWrong)

/- THE SECOND FORM. 'bulk': how many values and letters a reading holds, each counted each time it is reached (what is shared counts as often as it is met; a slice's spare places count too). A statement '..UptoSaid' is the law's where the arguments, and the package variables that the reading takes, are together of bulk at most 1048576: NARROWER than '..Said'. Prove '..Said' where nothing that the law and all that it calls make is longer than what came in: it says more and counts as full. Else prove '..UptoSaid'. A law counts once. -/
mutual
def uptoBulk {H : Type} : DataW H → Nat
  | .lit (.string bytes) => bytes.length + 1
  | .lit _ => 1
  | .nil => 1
  | .ptr d => uptoBulk d + 1
  | .slice elems spare => uptoBulkAll elems + uptoBulkAll spare + 1
  | .agg parts => uptoBulkAll parts + 1
  | .iface _ d => uptoBulk d + 1
  | .map entries => uptoBulkEntries entries + 1
  | .held _ => 1
def uptoBulkAll {H : Type} : List (DataW H) → Nat
  | [] => 0
  | d :: r => uptoBulk d + uptoBulkAll r
def uptoBulkEntries {H : Type} : List (Lit × DataW H) → Nat
  | [] => 0
  | x :: r => uptoBulkEntry x + uptoBulkEntries r
def uptoBulkEntry {H : Type} : Lit × DataW H → Nat
  | (.string bytes, d) => bytes.length + uptoBulk d + 1
  | (_, d) => uptoBulk d + 1
 end
def uptoSmall : (H : Type) → List (DataW H) → Bool := fun _ ds => decide (uptoBulkAll ds ≤ 1048576)
def OpenSpec.upto (s : _root_.Go.ChangeSpec) : _root_.Go.OpenSpec := { _root_.Go.OpenSpec.ofChange s with cond := some uptoSmall }

/-- 'examboardlaw46.EquateRanks', WHERE WHAT IT READS IS OF BULK AT MOST 1048576: true; the input reads as it did. -/
def equateRanksUptoRow : OpenClaim := { program := "ytahmndacoanfiaagreat", sum := "fa6466e18030cd78b72b3f0db68201f9f75b977e36cb59044151c1778c6bc5f7", func := "examboard/examboardlaw46.EquateRanks", spec := "equateRanks", apart := false, narrowed := true }
def EquateRanksUptoSaid : Prop := equateRanksUptoRow.holds Tryz.pinned (OpenSpec.upto equateRanksSpec)

/-- 'examboardlaw46.EquateTables', WHERE WHAT IT READS IS OF BULK AT MOST 1048576: true; the input reads as it did. -/
def equateTablesUptoRow : OpenClaim := { program := "ytahmndacoanfiaagreat", sum := "fa6466e18030cd78b72b3f0db68201f9f75b977e36cb59044151c1778c6bc5f7", func := "examboard/examboardlaw46.EquateTables", spec := "equateTables", apart := false, narrowed := true }
def EquateTablesUptoSaid : Prop := equateTablesUptoRow.holds Tryz.pinned (OpenSpec.upto equateTablesSpec)

/-- 'examboardlaw46.EquateNumbers', WHERE WHAT IT READS IS OF BULK AT MOST 1048576: true; the input reads as it did. -/
def equateNumbersUptoRow : OpenClaim := { program := "ytahmndacoanfiaagreat", sum := "fa6466e18030cd78b72b3f0db68201f9f75b977e36cb59044151c1778c6bc5f7", func := "examboard/examboardlaw46.EquateNumbers", spec := "equateNumbers", apart := false, narrowed := true }
def EquateNumbersUptoSaid : Prop := equateNumbersUptoRow.holds Tryz.pinned (OpenSpec.upto equateNumbersSpec)

end Rows
end Go.Proofs.YtahmndacoanfiaaGreat
