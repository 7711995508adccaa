/-
  No cell of these rows narrows 'for every input' (looked for: loops, veiled, ifaces, maps, wideKeys, modest, calm, conditions, laid).
  DERIVED. THE GIVEN ROWS OF THIS SEAT. 7 by the template 'for every input the law returns true; each argument reads behind the call as it read before'; 0 by the template 'total and deterministic' (their statements: YtffngmoelkabjaaTotals.lean).
  GIVEN WITH THE SEED: the statements are not yours to turn. If you find one false, say at which input.
  Laid BY PROGRAM, IN A SANDBOX (cutbox-rows.mjs): the forced cells as the released guide's own fill.sh prints them over the translation 131af4cce8fbcbe8… (all of the seat's roots in one cut). By AI agents, Wed Nov 11 2026. No macro, syntax, notation, axiom, sorry.
-/
import Derived.Test.YtffngmoelkabjaaChecked
import GoSem.Claim
import GoSem.ClaimJoined
import GoSem.ClaimMapViews
import Derived.JoinedTies
import Derived.KernelRfl
namespace Go.Proofs.Ytffngmoelkabjaa
/- THE CELL 'sum', in the pinned program and in every row, IS THE sha256 OF THE DUMP (.gsa) THAT YtffngmoelkabjaaProg.lean LOADS. Nothing in Lean hashes anything: it is a label: what it is worth is what the hold of that sum in a sandbox is worth. -/
noncomputable def Try.pinned : Pinned := { name := "ytffngmoelkabjaa", sum := "131af4cce8fbcbe8a4550bd38914eb7563c6f9989455c289c23a4bd8b344742f", checked := Try.checked }
namespace Rows
def none {H : Type} : Left H := { results := [], args := [] }

/-- 'examboardlaw11.DigestRoots': WHATEVER THE INPUT: true; the input reads as it did. -/
def digestRootsSpec : ChangeSpec := { name := "digestRoots", fn := fun _ => fun
  | [d] => { results := [.lit (.bool true)], args := [d] }
  | _ => none }
def digestRootsRow : OpenClaim := { program := "ytffngmoelkabjaa", sum := "131af4cce8fbcbe8a4550bd38914eb7563c6f9989455c289c23a4bd8b344742f", func := "examboard/examboardlaw11.DigestRoots", spec := "digestRoots", apart := false }
def DigestRootsSaid : Prop := digestRootsRow.holds Try.pinned (OpenSpec.ofChange digestRootsSpec)

/-- ITS FALSE NEIGHBOUR: 'it returns false'. Refute it at one input. -/
def digestRootsWrong : ChangeSpec := { name := "digestRoots", fn := fun _ => fun
  | [d] => { results := [.lit (.bool false)], args := [d] }
  | _ => none }
def DigestRootsWrongFalsely : Prop := digestRootsRow.holds Try.pinned (OpenSpec.ofChange digestRootsWrong)

/-- 'examboardlaw11.DigestText': WHATEVER THE INPUT: true; the input reads as it did. -/
def digestTextSpec : ChangeSpec := { name := "digestText", fn := fun _ => fun
  | [d1, d2] => { results := [.lit (.bool true)], args := [d1, d2] }
  | _ => none }
def digestTextRow : OpenClaim := { program := "ytffngmoelkabjaa", sum := "131af4cce8fbcbe8a4550bd38914eb7563c6f9989455c289c23a4bd8b344742f", func := "examboard/examboardlaw11.DigestText", spec := "digestText", apart := false }
def DigestTextSaid : Prop := digestTextRow.holds Try.pinned (OpenSpec.ofChange digestTextSpec)

/-- ITS FALSE NEIGHBOUR: 'it returns false'. Refute it at one input. -/
def digestTextWrong : ChangeSpec := { name := "digestText", fn := fun _ => fun
  | [d1, d2] => { results := [.lit (.bool false)], args := [d1, d2] }
  | _ => none }
def DigestTextWrongFalsely : Prop := digestTextRow.holds Try.pinned (OpenSpec.ofChange digestTextWrong)

/-- 'examboardlaw11.DigestTree': WHATEVER THE INPUT: true; the input reads as it did. -/
def digestTreeSpec : ChangeSpec := { name := "digestTree", fn := fun _ => fun
  | [d1, d2, d3] => { results := [.lit (.bool true)], args := [d1, d2, d3] }
  | _ => none }
def digestTreeRow : OpenClaim := { program := "ytffngmoelkabjaa", sum := "131af4cce8fbcbe8a4550bd38914eb7563c6f9989455c289c23a4bd8b344742f", func := "examboard/examboardlaw11.DigestTree", spec := "digestTree", apart := false }
def DigestTreeSaid : Prop := digestTreeRow.holds Try.pinned (OpenSpec.ofChange digestTreeSpec)

/-- ITS FALSE NEIGHBOUR: 'it returns false'. Refute it at one input. -/
def digestTreeWrong : ChangeSpec := { name := "digestTree", fn := fun _ => fun
  | [d1, d2, d3] => { results := [.lit (.bool false)], args := [d1, d2, d3] }
  | _ => none }
def DigestTreeWrongFalsely : Prop := digestTreeRow.holds Try.pinned (OpenSpec.ofChange digestTreeWrong)

/-- 'examboardlaw11.DigestNotation': WHATEVER THE INPUT: true; the input reads as it did. -/
def digestNotationSpec : ChangeSpec := { name := "digestNotation", fn := fun _ => fun
  | [d1, d2] => { results := [.lit (.bool true)], args := [d1, d2] }
  | _ => none }
def digestNotationRow : OpenClaim := { program := "ytffngmoelkabjaa", sum := "131af4cce8fbcbe8a4550bd38914eb7563c6f9989455c289c23a4bd8b344742f", func := "examboard/examboardlaw11.DigestNotation", spec := "digestNotation", apart := false }
def DigestNotationSaid : Prop := digestNotationRow.holds Try.pinned (OpenSpec.ofChange digestNotationSpec)

/-- ITS FALSE NEIGHBOUR: 'it returns false'. Refute it at one input. -/
def digestNotationWrong : ChangeSpec := { name := "digestNotation", fn := fun _ => fun
  | [d1, d2] => { results := [.lit (.bool false)], args := [d1, d2] }
  | _ => none }
def DigestNotationWrongFalsely : Prop := digestNotationRow.holds Try.pinned (OpenSpec.ofChange digestNotationWrong)

/-- 'examboardlaw11.DigestBytes': WHATEVER THE INPUT: true; the input reads as it did. -/
def digestBytesSpec : ChangeSpec := { name := "digestBytes", fn := fun _ => fun
  | [d1, d2, d3] => { results := [.lit (.bool true)], args := [d1, d2, d3] }
  | _ => none }
def digestBytesRow : OpenClaim := { program := "ytffngmoelkabjaa", sum := "131af4cce8fbcbe8a4550bd38914eb7563c6f9989455c289c23a4bd8b344742f", func := "examboard/examboardlaw11.DigestBytes", spec := "digestBytes", apart := false }
def DigestBytesSaid : Prop := digestBytesRow.holds Try.pinned (OpenSpec.ofChange digestBytesSpec)

/-- ITS FALSE NEIGHBOUR: 'it returns false'. Refute it at one input. -/
def digestBytesWrong : ChangeSpec := { name := "digestBytes", fn := fun _ => fun
  | [d1, d2, d3] => { results := [.lit (.bool false)], args := [d1, d2, d3] }
  | _ => none }
def DigestBytesWrongFalsely : Prop := digestBytesRow.holds Try.pinned (OpenSpec.ofChange digestBytesWrong)

/-- 'examboardlaw11.DigestSplit': WHATEVER THE INPUT: true; the input reads as it did. -/
def digestSplitSpec : ChangeSpec := { name := "digestSplit", fn := fun _ => fun
  | [d1, d2, d3] => { results := [.lit (.bool true)], args := [d1, d2, d3] }
  | _ => none }
def digestSplitRow : OpenClaim := { program := "ytffngmoelkabjaa", sum := "131af4cce8fbcbe8a4550bd38914eb7563c6f9989455c289c23a4bd8b344742f", func := "examboard/examboardlaw11.DigestSplit", spec := "digestSplit", apart := false }
def DigestSplitSaid : Prop := digestSplitRow.holds Try.pinned (OpenSpec.ofChange digestSplitSpec)

/-- ITS FALSE NEIGHBOUR: 'it returns false'. Refute it at one input. -/
def digestSplitWrong : ChangeSpec := { name := "digestSplit", fn := fun _ => fun
  | [d1, d2, d3] => { results := [.lit (.bool false)], args := [d1, d2, d3] }
  | _ => none }
def DigestSplitWrongFalsely : Prop := digestSplitRow.holds Try.pinned (OpenSpec.ofChange digestSplitWrong)

/-- 'examboardlaw11.DigestChange': WHATEVER THE INPUT: true; the input reads as it did. -/
def digestChangeSpec : ChangeSpec := { name := "digestChange", fn := fun _ => fun
  | [d1, d2, d3, d4, d5] => { results := [.lit (.bool true)], args := [d1, d2, d3, d4, d5] }
  | _ => none }
def digestChangeRow : OpenClaim := { program := "ytffngmoelkabjaa", sum := "131af4cce8fbcbe8a4550bd38914eb7563c6f9989455c289c23a4bd8b344742f", func := "examboard/examboardlaw11.DigestChange", spec := "digestChange", apart := false }
def DigestChangeSaid : Prop := digestChangeRow.holds Try.pinned (OpenSpec.ofChange digestChangeSpec)

/-- ITS FALSE NEIGHBOUR: 'it returns false'. Refute it at one input. -/
def digestChangeWrong : ChangeSpec := { name := "digestChange", fn := fun _ => fun
  | [d1, d2, d3, d4, d5] => { results := [.lit (.bool false)], args := [d1, d2, d3, d4, d5] }
  | _ => none }
def DigestChangeWrongFalsely : Prop := digestChangeRow.holds Try.pinned (OpenSpec.ofChange digestChangeWrong)

/- THE SECOND FORM. 'bulk': how many values and letters a reading holds, each counted each time it is reached (what is shared counts as often as it is met; a slice's spare places count too). A statement '..UptoSaid' is the law's where the arguments, and the package variables that the reading takes, are together of bulk at most 1048576: NARROWER than '..Said'. Prove '..Said' where nothing that the law and all that it calls make is longer than what came in: it says more and counts as full. Else prove '..UptoSaid'. A law counts once. -/
mutual
def uptoBulk {H : Type} : DataW H → Nat
  | .lit (.string bytes) => bytes.length + 1
  | .lit _ => 1
  | .nil => 1
  | .ptr d => uptoBulk d + 1
  | .slice elems spare => uptoBulkAll elems + uptoBulkAll spare + 1
  | .agg parts => uptoBulkAll parts + 1
  | .iface _ d => uptoBulk d + 1
  | .map entries => uptoBulkEntries entries + 1
  | .held _ => 1
def uptoBulkAll {H : Type} : List (DataW H) → Nat
  | [] => 0
  | d :: r => uptoBulk d + uptoBulkAll r
def uptoBulkEntries {H : Type} : List (Lit × DataW H) → Nat
  | [] => 0
  | x :: r => uptoBulkEntry x + uptoBulkEntries r
def uptoBulkEntry {H : Type} : Lit × DataW H → Nat
  | (.string bytes, d) => bytes.length + uptoBulk d + 1
  | (_, d) => uptoBulk d + 1
 end
def uptoSmall : (H : Type) → List (DataW H) → Bool := fun _ ds => decide (uptoBulkAll ds ≤ 1048576)
def OpenSpec.upto (s : _root_.Go.ChangeSpec) : _root_.Go.OpenSpec := { _root_.Go.OpenSpec.ofChange s with cond := some uptoSmall }

/-- 'examboardlaw11.DigestRoots', WHERE WHAT IT READS IS OF BULK AT MOST 1048576: true; the input reads as it did. -/
def digestRootsUptoRow : OpenClaim := { program := "ytffngmoelkabjaa", sum := "131af4cce8fbcbe8a4550bd38914eb7563c6f9989455c289c23a4bd8b344742f", func := "examboard/examboardlaw11.DigestRoots", spec := "digestRoots", apart := false, narrowed := true }
def DigestRootsUptoSaid : Prop := digestRootsUptoRow.holds Try.pinned (OpenSpec.upto digestRootsSpec)

/-- 'examboardlaw11.DigestText', WHERE WHAT IT READS IS OF BULK AT MOST 1048576: true; the input reads as it did. -/
def digestTextUptoRow : OpenClaim := { program := "ytffngmoelkabjaa", sum := "131af4cce8fbcbe8a4550bd38914eb7563c6f9989455c289c23a4bd8b344742f", func := "examboard/examboardlaw11.DigestText", spec := "digestText", apart := false, narrowed := true }
def DigestTextUptoSaid : Prop := digestTextUptoRow.holds Try.pinned (OpenSpec.upto digestTextSpec)

/-- 'examboardlaw11.DigestTree', WHERE WHAT IT READS IS OF BULK AT MOST 1048576: true; the input reads as it did. -/
def digestTreeUptoRow : OpenClaim := { program := "ytffngmoelkabjaa", sum := "131af4cce8fbcbe8a4550bd38914eb7563c6f9989455c289c23a4bd8b344742f", func := "examboard/examboardlaw11.DigestTree", spec := "digestTree", apart := false, narrowed := true }
def DigestTreeUptoSaid : Prop := digestTreeUptoRow.holds Try.pinned (OpenSpec.upto digestTreeSpec)

/-- 'examboardlaw11.DigestNotation', WHERE WHAT IT READS IS OF BULK AT MOST 1048576: true; the input reads as it did. -/
def digestNotationUptoRow : OpenClaim := { program := "ytffngmoelkabjaa", sum := "131af4cce8fbcbe8a4550bd38914eb7563c6f9989455c289c23a4bd8b344742f", func := "examboard/examboardlaw11.DigestNotation", spec := "digestNotation", apart := false, narrowed := true }
def DigestNotationUptoSaid : Prop := digestNotationUptoRow.holds Try.pinned (OpenSpec.upto digestNotationSpec)

/-- 'examboardlaw11.DigestBytes', WHERE WHAT IT READS IS OF BULK AT MOST 1048576: true; the input reads as it did. -/
def digestBytesUptoRow : OpenClaim := { program := "ytffngmoelkabjaa", sum := "131af4cce8fbcbe8a4550bd38914eb7563c6f9989455c289c23a4bd8b344742f", func := "examboard/examboardlaw11.DigestBytes", spec := "digestBytes", apart := false, narrowed := true }
def DigestBytesUptoSaid : Prop := digestBytesUptoRow.holds Try.pinned (OpenSpec.upto digestBytesSpec)

/-- 'examboardlaw11.DigestSplit', WHERE WHAT IT READS IS OF BULK AT MOST 1048576: true; the input reads as it did. -/
def digestSplitUptoRow : OpenClaim := { program := "ytffngmoelkabjaa", sum := "131af4cce8fbcbe8a4550bd38914eb7563c6f9989455c289c23a4bd8b344742f", func := "examboard/examboardlaw11.DigestSplit", spec := "digestSplit", apart := false, narrowed := true }
def DigestSplitUptoSaid : Prop := digestSplitUptoRow.holds Try.pinned (OpenSpec.upto digestSplitSpec)

/-- 'examboardlaw11.DigestChange', WHERE WHAT IT READS IS OF BULK AT MOST 1048576: true; the input reads as it did. -/
def digestChangeUptoRow : OpenClaim := { program := "ytffngmoelkabjaa", sum := "131af4cce8fbcbe8a4550bd38914eb7563c6f9989455c289c23a4bd8b344742f", func := "examboard/examboardlaw11.DigestChange", spec := "digestChange", apart := false, narrowed := true }
def DigestChangeUptoSaid : Prop := digestChangeUptoRow.holds Try.pinned (OpenSpec.upto digestChangeSpec)

end Rows
end Go.Proofs.Ytffngmoelkabjaa
