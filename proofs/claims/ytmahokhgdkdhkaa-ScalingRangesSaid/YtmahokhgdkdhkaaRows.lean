/-
  No cell of these rows narrows 'for every input' (looked for: loops, veiled, ifaces, maps, wideKeys, modest, calm, conditions, laid).
  DERIVED. THE GIVEN ROWS OF THIS SEAT. 5 by the template 'for every input the law returns true; each argument reads behind the call as it read before'; 0 by the template 'total and deterministic' (their statements: YtmahokhgdkdhkaaTotals.lean).
  GIVEN WITH THE SEED: the statements are not yours to turn. If you find one false, say at which input.
  Laid BY PROGRAM, IN A SANDBOX (cutbox-rows.mjs): the forced cells as the released guide's own fill.sh prints them over the translation 30065f2aedaabbfa… (all of the seat's roots in one cut). By AI agents, Wed Nov 11 2026. No macro, syntax, notation, axiom, sorry.
-/
import Derived.Test.YtmahokhgdkdhkaaChecked
import GoSem.Claim
import GoSem.ClaimJoined
import GoSem.ClaimMapViews
import Derived.JoinedTies
import Derived.KernelRfl
namespace Go.Proofs.Ytmahokhgdkdhkaa
/- THE CELL 'sum', in the pinned program and in every row, IS THE sha256 OF THE DUMP (.gsa) THAT YtmahokhgdkdhkaaProg.lean LOADS. Nothing in Lean hashes anything: it is a label: what it is worth is what the hold of that sum in a sandbox is worth. -/
noncomputable def Try.pinned : Pinned := { name := "ytmahokhgdkdhkaa", sum := "30065f2aedaabbfa2b3a046eeb6da66717544376138e51597b257813855f9b12", checked := Try.checked }
namespace Rows
def none {H : Type} : Left H := { results := [], args := [] }

/-- 'examboardlaw44.ScalingScores': WHATEVER THE INPUT: true; the input reads as it did. -/
def scalingScoresSpec : ChangeSpec := { name := "scalingScores", fn := fun _ => fun
  | [d1, d2] => { results := [.lit (.bool true)], args := [d1, d2] }
  | _ => none }
def scalingScoresRow : OpenClaim := { program := "ytmahokhgdkdhkaa", sum := "30065f2aedaabbfa2b3a046eeb6da66717544376138e51597b257813855f9b12", func := "examboard/examboardlaw44.ScalingScores", spec := "scalingScores", apart := false }
def ScalingScoresSaid : Prop := scalingScoresRow.holds Try.pinned (OpenSpec.ofChange scalingScoresSpec)

/-- ITS FALSE NEIGHBOUR: 'it returns false'. Refute it at one input. -/
def scalingScoresWrong : ChangeSpec := { name := "scalingScores", fn := fun _ => fun
  | [d1, d2] => { results := [.lit (.bool false)], args := [d1, d2] }
  | _ => none }
def ScalingScoresWrongFalsely : Prop := scalingScoresRow.holds Try.pinned (OpenSpec.ofChange scalingScoresWrong)

/-- 'examboardlaw44.ScalingMonotone': WHATEVER THE INPUT: true; the input reads as it did. -/
def scalingMonotoneSpec : ChangeSpec := { name := "scalingMonotone", fn := fun _ => fun
  | [d1, d2, d3] => { results := [.lit (.bool true)], args := [d1, d2, d3] }
  | _ => none }
def scalingMonotoneRow : OpenClaim := { program := "ytmahokhgdkdhkaa", sum := "30065f2aedaabbfa2b3a046eeb6da66717544376138e51597b257813855f9b12", func := "examboard/examboardlaw44.ScalingMonotone", spec := "scalingMonotone", apart := false }
def ScalingMonotoneSaid : Prop := scalingMonotoneRow.holds Try.pinned (OpenSpec.ofChange scalingMonotoneSpec)

/-- ITS FALSE NEIGHBOUR: 'it returns false'. Refute it at one input. -/
def scalingMonotoneWrong : ChangeSpec := { name := "scalingMonotone", fn := fun _ => fun
  | [d1, d2, d3] => { results := [.lit (.bool false)], args := [d1, d2, d3] }
  | _ => none }
def ScalingMonotoneWrongFalsely : Prop := scalingMonotoneRow.holds Try.pinned (OpenSpec.ofChange scalingMonotoneWrong)

/-- 'examboardlaw44.ScalingRanges': WHATEVER THE INPUT: true; the input reads as it did. -/
def scalingRangesSpec : ChangeSpec := { name := "scalingRanges", fn := fun _ => fun
  | [d1, d2] => { results := [.lit (.bool true)], args := [d1, d2] }
  | _ => none }
def scalingRangesRow : OpenClaim := { program := "ytmahokhgdkdhkaa", sum := "30065f2aedaabbfa2b3a046eeb6da66717544376138e51597b257813855f9b12", func := "examboard/examboardlaw44.ScalingRanges", spec := "scalingRanges", apart := false }
def ScalingRangesSaid : Prop := scalingRangesRow.holds Try.pinned (OpenSpec.ofChange scalingRangesSpec)

/-- ITS FALSE NEIGHBOUR: 'it returns false'. Refute it at one input. -/
def scalingRangesWrong : ChangeSpec := { name := "scalingRanges", fn := fun _ => fun
  | [d1, d2] => { results := [.lit (.bool false)], args := [d1, d2] }
  | _ => none }
def ScalingRangesWrongFalsely : Prop := scalingRangesRow.holds Try.pinned (OpenSpec.ofChange scalingRangesWrong)

/-- 'examboardlaw44.ScalingTables': WHATEVER THE INPUT: true; the input reads as it did. -/
def scalingTablesSpec : ChangeSpec := { name := "scalingTables", fn := fun _ => fun
  | [d1, d2, d3] => { results := [.lit (.bool true)], args := [d1, d2, d3] }
  | _ => none }
def scalingTablesRow : OpenClaim := { program := "ytmahokhgdkdhkaa", sum := "30065f2aedaabbfa2b3a046eeb6da66717544376138e51597b257813855f9b12", func := "examboard/examboardlaw44.ScalingTables", spec := "scalingTables", apart := false }
def ScalingTablesSaid : Prop := scalingTablesRow.holds Try.pinned (OpenSpec.ofChange scalingTablesSpec)

/-- ITS FALSE NEIGHBOUR: 'it returns false'. Refute it at one input. -/
def scalingTablesWrong : ChangeSpec := { name := "scalingTables", fn := fun _ => fun
  | [d1, d2, d3] => { results := [.lit (.bool false)], args := [d1, d2, d3] }
  | _ => none }
def ScalingTablesWrongFalsely : Prop := scalingTablesRow.holds Try.pinned (OpenSpec.ofChange scalingTablesWrong)

/-- 'examboardlaw44.ScalingReaches': WHATEVER THE INPUT: true; the input reads as it did. -/
def scalingReachesSpec : ChangeSpec := { name := "scalingReaches", fn := fun _ => fun
  | [d1, d2, d3] => { results := [.lit (.bool true)], args := [d1, d2, d3] }
  | _ => none }
def scalingReachesRow : OpenClaim := { program := "ytmahokhgdkdhkaa", sum := "30065f2aedaabbfa2b3a046eeb6da66717544376138e51597b257813855f9b12", func := "examboard/examboardlaw44.ScalingReaches", spec := "scalingReaches", apart := false }
def ScalingReachesSaid : Prop := scalingReachesRow.holds Try.pinned (OpenSpec.ofChange scalingReachesSpec)

/-- ITS FALSE NEIGHBOUR: 'it returns false'. Refute it at one input. -/
def scalingReachesWrong : ChangeSpec := { name := "scalingReaches", fn := fun _ => fun
  | [d1, d2, d3] => { results := [.lit (.bool false)], args := [d1, d2, d3] }
  | _ => none }
def ScalingReachesWrongFalsely : Prop := scalingReachesRow.holds Try.pinned (OpenSpec.ofChange scalingReachesWrong)

/- THE SECOND FORM. 'bulk': how many values and letters a reading holds, each counted each time it is reached (what is shared counts as often as it is met; a slice's spare places count too). A statement '..UptoSaid' is the law's where the arguments, and the package variables that the reading takes, are together of bulk at most 1048576: NARROWER than '..Said'. Prove '..Said' where nothing that the law and all that it calls make is longer than what came in: it says more and counts as full. Else prove '..UptoSaid'. A law counts once. -/
mutual
def uptoBulk {H : Type} : DataW H → Nat
  | .lit (.string bytes) => bytes.length + 1
  | .lit _ => 1
  | .nil => 1
  | .ptr d => uptoBulk d + 1
  | .slice elems spare => uptoBulkAll elems + uptoBulkAll spare + 1
  | .agg parts => uptoBulkAll parts + 1
  | .iface _ d => uptoBulk d + 1
  | .map entries => uptoBulkEntries entries + 1
  | .held _ => 1
def uptoBulkAll {H : Type} : List (DataW H) → Nat
  | [] => 0
  | d :: r => uptoBulk d + uptoBulkAll r
def uptoBulkEntries {H : Type} : List (Lit × DataW H) → Nat
  | [] => 0
  | x :: r => uptoBulkEntry x + uptoBulkEntries r
def uptoBulkEntry {H : Type} : Lit × DataW H → Nat
  | (.string bytes, d) => bytes.length + uptoBulk d + 1
  | (_, d) => uptoBulk d + 1
 end
def uptoSmall : (H : Type) → List (DataW H) → Bool := fun _ ds => decide (uptoBulkAll ds ≤ 1048576)
def OpenSpec.upto (s : _root_.Go.ChangeSpec) : _root_.Go.OpenSpec := { _root_.Go.OpenSpec.ofChange s with cond := some uptoSmall }

/-- 'examboardlaw44.ScalingScores', WHERE WHAT IT READS IS OF BULK AT MOST 1048576: true; the input reads as it did. -/
def scalingScoresUptoRow : OpenClaim := { program := "ytmahokhgdkdhkaa", sum := "30065f2aedaabbfa2b3a046eeb6da66717544376138e51597b257813855f9b12", func := "examboard/examboardlaw44.ScalingScores", spec := "scalingScores", apart := false, narrowed := true }
def ScalingScoresUptoSaid : Prop := scalingScoresUptoRow.holds Try.pinned (OpenSpec.upto scalingScoresSpec)

/-- 'examboardlaw44.ScalingMonotone', WHERE WHAT IT READS IS OF BULK AT MOST 1048576: true; the input reads as it did. -/
def scalingMonotoneUptoRow : OpenClaim := { program := "ytmahokhgdkdhkaa", sum := "30065f2aedaabbfa2b3a046eeb6da66717544376138e51597b257813855f9b12", func := "examboard/examboardlaw44.ScalingMonotone", spec := "scalingMonotone", apart := false, narrowed := true }
def ScalingMonotoneUptoSaid : Prop := scalingMonotoneUptoRow.holds Try.pinned (OpenSpec.upto scalingMonotoneSpec)

/-- 'examboardlaw44.ScalingRanges', WHERE WHAT IT READS IS OF BULK AT MOST 1048576: true; the input reads as it did. -/
def scalingRangesUptoRow : OpenClaim := { program := "ytmahokhgdkdhkaa", sum := "30065f2aedaabbfa2b3a046eeb6da66717544376138e51597b257813855f9b12", func := "examboard/examboardlaw44.ScalingRanges", spec := "scalingRanges", apart := false, narrowed := true }
def ScalingRangesUptoSaid : Prop := scalingRangesUptoRow.holds Try.pinned (OpenSpec.upto scalingRangesSpec)

/-- 'examboardlaw44.ScalingTables', WHERE WHAT IT READS IS OF BULK AT MOST 1048576: true; the input reads as it did. -/
def scalingTablesUptoRow : OpenClaim := { program := "ytmahokhgdkdhkaa", sum := "30065f2aedaabbfa2b3a046eeb6da66717544376138e51597b257813855f9b12", func := "examboard/examboardlaw44.ScalingTables", spec := "scalingTables", apart := false, narrowed := true }
def ScalingTablesUptoSaid : Prop := scalingTablesUptoRow.holds Try.pinned (OpenSpec.upto scalingTablesSpec)

/-- 'examboardlaw44.ScalingReaches', WHERE WHAT IT READS IS OF BULK AT MOST 1048576: true; the input reads as it did. -/
def scalingReachesUptoRow : OpenClaim := { program := "ytmahokhgdkdhkaa", sum := "30065f2aedaabbfa2b3a046eeb6da66717544376138e51597b257813855f9b12", func := "examboard/examboardlaw44.ScalingReaches", spec := "scalingReaches", apart := false, narrowed := true }
def ScalingReachesUptoSaid : Prop := scalingReachesUptoRow.holds Try.pinned (OpenSpec.upto scalingReachesSpec)

end Rows
end Go.Proofs.Ytmahokhgdkdhkaa
