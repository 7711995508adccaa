/-
  No cell of these rows narrows 'for every input' (looked for: loops, veiled, ifaces, maps, wideKeys, modest, calm, conditions, laid).
  DERIVED. THE GIVEN ROWS OF THIS SEAT. 8 by the template 'for every input the law returns true; each argument reads behind the call as it read before'; 0 by the template 'total and deterministic' (their statements: YtfedalipoknilaaTotals.lean).
  GIVEN WITH THE SEED: the statements are not yours to turn. If you find one false, say at which input.
  Laid BY PROGRAM, IN A SANDBOX (cutbox-rows.mjs): the forced cells as the released guide's own fill.sh prints them over the translation a69f9ea37aab3681… (all of the seat's roots in one cut). By AI agents, Wed Nov 11 2026. No macro, syntax, notation, axiom, sorry.
-/
import Derived.Test.YtfedalipoknilaaChecked
import GoSem.Claim
import GoSem.ClaimJoined
import GoSem.ClaimMapViews
import Derived.JoinedTies
import Derived.KernelRfl
namespace Go.Proofs.Ytfedalipoknilaa
/- THE CELL 'sum', in the pinned program and in every row, IS THE sha256 OF THE DUMP (.gsa) THAT YtfedalipoknilaaProg.lean LOADS. Nothing in Lean hashes anything: it is a label: what it is worth is what the hold of that sum in a sandbox is worth. -/
noncomputable def Try.pinned : Pinned := { name := "ytfedalipoknilaa", sum := "a69f9ea37aab36816ed3f30255c9145b95392ce246c55c007629175ee6d25075", checked := Try.checked }
namespace Rows
def none {H : Type} : Left H := { results := [], args := [] }

/-- 'examboardlaw44.ScalingBands': WHATEVER THE INPUT: true; the input reads as it did. -/
def scalingBandsSpec : ChangeSpec := { name := "scalingBands", fn := fun _ => fun
  | [d1, d2] => { results := [.lit (.bool true)], args := [d1, d2] }
  | _ => none }
def scalingBandsRow : OpenClaim := { program := "ytfedalipoknilaa", sum := "a69f9ea37aab36816ed3f30255c9145b95392ce246c55c007629175ee6d25075", func := "examboard/examboardlaw44.ScalingBands", spec := "scalingBands", apart := false }
def ScalingBandsSaid : Prop := scalingBandsRow.holds Try.pinned (OpenSpec.ofChange scalingBandsSpec)

/-- ITS FALSE NEIGHBOUR: 'it returns false'. Refute it at one input. -/
def scalingBandsWrong : ChangeSpec := { name := "scalingBands", fn := fun _ => fun
  | [d1, d2] => { results := [.lit (.bool false)], args := [d1, d2] }
  | _ => none }
def ScalingBandsWrongFalsely : Prop := scalingBandsRow.holds Try.pinned (OpenSpec.ofChange scalingBandsWrong)

/-- 'examboardlaw44.ScalingGrades': WHATEVER THE INPUT: true; the input reads as it did. -/
def scalingGradesSpec : ChangeSpec := { name := "scalingGrades", fn := fun _ => fun
  | [d1, d2, d3] => { results := [.lit (.bool true)], args := [d1, d2, d3] }
  | _ => none }
def scalingGradesRow : OpenClaim := { program := "ytfedalipoknilaa", sum := "a69f9ea37aab36816ed3f30255c9145b95392ce246c55c007629175ee6d25075", func := "examboard/examboardlaw44.ScalingGrades", spec := "scalingGrades", apart := false }
def ScalingGradesSaid : Prop := scalingGradesRow.holds Try.pinned (OpenSpec.ofChange scalingGradesSpec)

/-- ITS FALSE NEIGHBOUR: 'it returns false'. Refute it at one input. -/
def scalingGradesWrong : ChangeSpec := { name := "scalingGrades", fn := fun _ => fun
  | [d1, d2, d3] => { results := [.lit (.bool false)], args := [d1, d2, d3] }
  | _ => none }
def ScalingGradesWrongFalsely : Prop := scalingGradesRow.holds Try.pinned (OpenSpec.ofChange scalingGradesWrong)

/-- 'examboardlaw12.CipherDerives': WHATEVER THE INPUT: true; the input reads as it did. -/
def cipherDerivesSpec : ChangeSpec := { name := "cipherDerives", fn := fun _ => fun
  | [d1, d2] => { results := [.lit (.bool true)], args := [d1, d2] }
  | _ => none }
def cipherDerivesRow : OpenClaim := { program := "ytfedalipoknilaa", sum := "a69f9ea37aab36816ed3f30255c9145b95392ce246c55c007629175ee6d25075", func := "examboard/examboardlaw12.CipherDerives", spec := "cipherDerives", apart := false }
def CipherDerivesSaid : Prop := cipherDerivesRow.holds Try.pinned (OpenSpec.ofChange cipherDerivesSpec)

/-- ITS FALSE NEIGHBOUR: 'it returns false'. Refute it at one input. -/
def cipherDerivesWrong : ChangeSpec := { name := "cipherDerives", fn := fun _ => fun
  | [d1, d2] => { results := [.lit (.bool false)], args := [d1, d2] }
  | _ => none }
def CipherDerivesWrongFalsely : Prop := cipherDerivesRow.holds Try.pinned (OpenSpec.ofChange cipherDerivesWrong)

/-- 'examboardlaw12.CipherSeals': WHATEVER THE INPUT: true; the input reads as it did. -/
def cipherSealsSpec : ChangeSpec := { name := "cipherSeals", fn := fun _ => fun
  | [d1, d2, d3] => { results := [.lit (.bool true)], args := [d1, d2, d3] }
  | _ => none }
def cipherSealsRow : OpenClaim := { program := "ytfedalipoknilaa", sum := "a69f9ea37aab36816ed3f30255c9145b95392ce246c55c007629175ee6d25075", func := "examboard/examboardlaw12.CipherSeals", spec := "cipherSeals", apart := false }
def CipherSealsSaid : Prop := cipherSealsRow.holds Try.pinned (OpenSpec.ofChange cipherSealsSpec)

/-- ITS FALSE NEIGHBOUR: 'it returns false'. Refute it at one input. -/
def cipherSealsWrong : ChangeSpec := { name := "cipherSeals", fn := fun _ => fun
  | [d1, d2, d3] => { results := [.lit (.bool false)], args := [d1, d2, d3] }
  | _ => none }
def CipherSealsWrongFalsely : Prop := cipherSealsRow.holds Try.pinned (OpenSpec.ofChange cipherSealsWrong)

/-- 'examboardlaw12.CipherStream': WHATEVER THE INPUT: true; the input reads as it did. -/
def cipherStreamSpec : ChangeSpec := { name := "cipherStream", fn := fun _ => fun
  | [d1, d2, d3, d4] => { results := [.lit (.bool true)], args := [d1, d2, d3, d4] }
  | _ => none }
def cipherStreamRow : OpenClaim := { program := "ytfedalipoknilaa", sum := "a69f9ea37aab36816ed3f30255c9145b95392ce246c55c007629175ee6d25075", func := "examboard/examboardlaw12.CipherStream", spec := "cipherStream", apart := false }
def CipherStreamSaid : Prop := cipherStreamRow.holds Try.pinned (OpenSpec.ofChange cipherStreamSpec)

/-- ITS FALSE NEIGHBOUR: 'it returns false'. Refute it at one input. -/
def cipherStreamWrong : ChangeSpec := { name := "cipherStream", fn := fun _ => fun
  | [d1, d2, d3, d4] => { results := [.lit (.bool false)], args := [d1, d2, d3, d4] }
  | _ => none }
def CipherStreamWrongFalsely : Prop := cipherStreamRow.holds Try.pinned (OpenSpec.ofChange cipherStreamWrong)

/-- 'examboardlaw12.CipherOpens': WHATEVER THE INPUT: true; the input reads as it did. -/
def cipherOpensSpec : ChangeSpec := { name := "cipherOpens", fn := fun _ => fun
  | [d1, d2] => { results := [.lit (.bool true)], args := [d1, d2] }
  | _ => none }
def cipherOpensRow : OpenClaim := { program := "ytfedalipoknilaa", sum := "a69f9ea37aab36816ed3f30255c9145b95392ce246c55c007629175ee6d25075", func := "examboard/examboardlaw12.CipherOpens", spec := "cipherOpens", apart := false }
def CipherOpensSaid : Prop := cipherOpensRow.holds Try.pinned (OpenSpec.ofChange cipherOpensSpec)

/-- ITS FALSE NEIGHBOUR: 'it returns false'. Refute it at one input. -/
def cipherOpensWrong : ChangeSpec := { name := "cipherOpens", fn := fun _ => fun
  | [d1, d2] => { results := [.lit (.bool false)], args := [d1, d2] }
  | _ => none }
def CipherOpensWrongFalsely : Prop := cipherOpensRow.holds Try.pinned (OpenSpec.ofChange cipherOpensWrong)

/-- 'examboardlaw12.CipherRoundTrip': WHATEVER THE INPUT: true; the input reads as it did. -/
def cipherRoundTripSpec : ChangeSpec := { name := "cipherRoundTrip", fn := fun _ => fun
  | [d1, d2, d3] => { results := [.lit (.bool true)], args := [d1, d2, d3] }
  | _ => none }
def cipherRoundTripRow : OpenClaim := { program := "ytfedalipoknilaa", sum := "a69f9ea37aab36816ed3f30255c9145b95392ce246c55c007629175ee6d25075", func := "examboard/examboardlaw12.CipherRoundTrip", spec := "cipherRoundTrip", apart := false }
def CipherRoundTripSaid : Prop := cipherRoundTripRow.holds Try.pinned (OpenSpec.ofChange cipherRoundTripSpec)

/-- ITS FALSE NEIGHBOUR: 'it returns false'. Refute it at one input. -/
def cipherRoundTripWrong : ChangeSpec := { name := "cipherRoundTrip", fn := fun _ => fun
  | [d1, d2, d3] => { results := [.lit (.bool false)], args := [d1, d2, d3] }
  | _ => none }
def CipherRoundTripWrongFalsely : Prop := cipherRoundTripRow.holds Try.pinned (OpenSpec.ofChange cipherRoundTripWrong)

/-- 'examboardlaw12.CipherDetects': WHATEVER THE INPUT: true; the input reads as it did. -/
def cipherDetectsSpec : ChangeSpec := { name := "cipherDetects", fn := fun _ => fun
  | [d1, d2, d3, d4, d5] => { results := [.lit (.bool true)], args := [d1, d2, d3, d4, d5] }
  | _ => none }
def cipherDetectsRow : OpenClaim := { program := "ytfedalipoknilaa", sum := "a69f9ea37aab36816ed3f30255c9145b95392ce246c55c007629175ee6d25075", func := "examboard/examboardlaw12.CipherDetects", spec := "cipherDetects", apart := false }
def CipherDetectsSaid : Prop := cipherDetectsRow.holds Try.pinned (OpenSpec.ofChange cipherDetectsSpec)

/-- ITS FALSE NEIGHBOUR: 'it returns false'. Refute it at one input. -/
def cipherDetectsWrong : ChangeSpec := { name := "cipherDetects", fn := fun _ => fun
  | [d1, d2, d3, d4, d5] => { results := [.lit (.bool false)], args := [d1, d2, d3, d4, d5] }
  | _ => none }
def CipherDetectsWrongFalsely : Prop := cipherDetectsRow.holds Try.pinned (OpenSpec.ofChange cipherDetectsWrong)

/- THE SECOND FORM. 'bulk': how many values and letters a reading holds, each counted each time it is reached (what is shared counts as often as it is met; a slice's spare places count too). A statement '..UptoSaid' is the law's where the arguments, and the package variables that the reading takes, are together of bulk at most 1048576: NARROWER than '..Said'. Prove '..Said' where nothing that the law and all that it calls make is longer than what came in: it says more and counts as full. Else prove '..UptoSaid'. A law counts once. -/
mutual
def uptoBulk {H : Type} : DataW H → Nat
  | .lit (.string bytes) => bytes.length + 1
  | .lit _ => 1
  | .nil => 1
  | .ptr d => uptoBulk d + 1
  | .slice elems spare => uptoBulkAll elems + uptoBulkAll spare + 1
  | .agg parts => uptoBulkAll parts + 1
  | .iface _ d => uptoBulk d + 1
  | .map entries => uptoBulkEntries entries + 1
  | .held _ => 1
def uptoBulkAll {H : Type} : List (DataW H) → Nat
  | [] => 0
  | d :: r => uptoBulk d + uptoBulkAll r
def uptoBulkEntries {H : Type} : List (Lit × DataW H) → Nat
  | [] => 0
  | x :: r => uptoBulkEntry x + uptoBulkEntries r
def uptoBulkEntry {H : Type} : Lit × DataW H → Nat
  | (.string bytes, d) => bytes.length + uptoBulk d + 1
  | (_, d) => uptoBulk d + 1
 end
def uptoSmall : (H : Type) → List (DataW H) → Bool := fun _ ds => decide (uptoBulkAll ds ≤ 1048576)
def OpenSpec.upto (s : _root_.Go.ChangeSpec) : _root_.Go.OpenSpec := { _root_.Go.OpenSpec.ofChange s with cond := some uptoSmall }

/-- 'examboardlaw44.ScalingBands', WHERE WHAT IT READS IS OF BULK AT MOST 1048576: true; the input reads as it did. -/
def scalingBandsUptoRow : OpenClaim := { program := "ytfedalipoknilaa", sum := "a69f9ea37aab36816ed3f30255c9145b95392ce246c55c007629175ee6d25075", func := "examboard/examboardlaw44.ScalingBands", spec := "scalingBands", apart := false, narrowed := true }
def ScalingBandsUptoSaid : Prop := scalingBandsUptoRow.holds Try.pinned (OpenSpec.upto scalingBandsSpec)

/-- 'examboardlaw44.ScalingGrades', WHERE WHAT IT READS IS OF BULK AT MOST 1048576: true; the input reads as it did. -/
def scalingGradesUptoRow : OpenClaim := { program := "ytfedalipoknilaa", sum := "a69f9ea37aab36816ed3f30255c9145b95392ce246c55c007629175ee6d25075", func := "examboard/examboardlaw44.ScalingGrades", spec := "scalingGrades", apart := false, narrowed := true }
def ScalingGradesUptoSaid : Prop := scalingGradesUptoRow.holds Try.pinned (OpenSpec.upto scalingGradesSpec)

/-- 'examboardlaw12.CipherDerives', WHERE WHAT IT READS IS OF BULK AT MOST 1048576: true; the input reads as it did. -/
def cipherDerivesUptoRow : OpenClaim := { program := "ytfedalipoknilaa", sum := "a69f9ea37aab36816ed3f30255c9145b95392ce246c55c007629175ee6d25075", func := "examboard/examboardlaw12.CipherDerives", spec := "cipherDerives", apart := false, narrowed := true }
def CipherDerivesUptoSaid : Prop := cipherDerivesUptoRow.holds Try.pinned (OpenSpec.upto cipherDerivesSpec)

/-- 'examboardlaw12.CipherSeals', WHERE WHAT IT READS IS OF BULK AT MOST 1048576: true; the input reads as it did. -/
def cipherSealsUptoRow : OpenClaim := { program := "ytfedalipoknilaa", sum := "a69f9ea37aab36816ed3f30255c9145b95392ce246c55c007629175ee6d25075", func := "examboard/examboardlaw12.CipherSeals", spec := "cipherSeals", apart := false, narrowed := true }
def CipherSealsUptoSaid : Prop := cipherSealsUptoRow.holds Try.pinned (OpenSpec.upto cipherSealsSpec)

/-- 'examboardlaw12.CipherStream', WHERE WHAT IT READS IS OF BULK AT MOST 1048576: true; the input reads as it did. -/
def cipherStreamUptoRow : OpenClaim := { program := "ytfedalipoknilaa", sum := "a69f9ea37aab36816ed3f30255c9145b95392ce246c55c007629175ee6d25075", func := "examboard/examboardlaw12.CipherStream", spec := "cipherStream", apart := false, narrowed := true }
def CipherStreamUptoSaid : Prop := cipherStreamUptoRow.holds Try.pinned (OpenSpec.upto cipherStreamSpec)

/-- 'examboardlaw12.CipherOpens', WHERE WHAT IT READS IS OF BULK AT MOST 1048576: true; the input reads as it did. -/
def cipherOpensUptoRow : OpenClaim := { program := "ytfedalipoknilaa", sum := "a69f9ea37aab36816ed3f30255c9145b95392ce246c55c007629175ee6d25075", func := "examboard/examboardlaw12.CipherOpens", spec := "cipherOpens", apart := false, narrowed := true }
def CipherOpensUptoSaid : Prop := cipherOpensUptoRow.holds Try.pinned (OpenSpec.upto cipherOpensSpec)

/-- 'examboardlaw12.CipherRoundTrip', WHERE WHAT IT READS IS OF BULK AT MOST 1048576: true; the input reads as it did. -/
def cipherRoundTripUptoRow : OpenClaim := { program := "ytfedalipoknilaa", sum := "a69f9ea37aab36816ed3f30255c9145b95392ce246c55c007629175ee6d25075", func := "examboard/examboardlaw12.CipherRoundTrip", spec := "cipherRoundTrip", apart := false, narrowed := true }
def CipherRoundTripUptoSaid : Prop := cipherRoundTripUptoRow.holds Try.pinned (OpenSpec.upto cipherRoundTripSpec)

/-- 'examboardlaw12.CipherDetects', WHERE WHAT IT READS IS OF BULK AT MOST 1048576: true; the input reads as it did. -/
def cipherDetectsUptoRow : OpenClaim := { program := "ytfedalipoknilaa", sum := "a69f9ea37aab36816ed3f30255c9145b95392ce246c55c007629175ee6d25075", func := "examboard/examboardlaw12.CipherDetects", spec := "cipherDetects", apart := false, narrowed := true }
def CipherDetectsUptoSaid : Prop := cipherDetectsUptoRow.holds Try.pinned (OpenSpec.upto cipherDetectsSpec)

end Rows
end Go.Proofs.Ytfedalipoknilaa
