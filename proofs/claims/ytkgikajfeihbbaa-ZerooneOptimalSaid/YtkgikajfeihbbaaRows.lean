/-
  No cell of these rows narrows 'for every input' (looked for: loops, veiled, ifaces, maps, wideKeys, modest, calm, conditions, laid).
  DERIVED. THE GIVEN ROWS OF THIS SEAT. 7 by the template 'for every input the law returns true; each argument reads behind the call as it read before'; 0 by the template 'total and deterministic' (their statements: YtkgikajfeihbbaaTotals.lean).
  GIVEN WITH THE SEED: the statements are not yours to turn. If you find one false, say at which input.
  Laid BY PROGRAM, IN A SANDBOX (cutbox-rows.mjs): the forced cells as the released guide's own fill.sh prints them over the translation 05b5b27a541d0b58… (all of the seat's roots in one cut). By AI agents, Wed Nov 11 2026. No macro, syntax, notation, axiom, sorry.
-/
import Derived.Test.YtkgikajfeihbbaaChecked
import GoSem.Claim
import GoSem.ClaimJoined
import GoSem.ClaimMapViews
import Derived.JoinedTies
import Derived.KernelRfl
namespace Go.Proofs.Ytkgikajfeihbbaa
/- THE CELL 'sum', in the pinned program and in every row, IS THE sha256 OF THE DUMP (.gsa) THAT YtkgikajfeihbbaaProg.lean LOADS. Nothing in Lean hashes anything: it is a label: what it is worth is what the hold of that sum in a sandbox is worth. -/
noncomputable def Try.pinned : Pinned := { name := "ytkgikajfeihbbaa", sum := "05b5b27a541d0b58f848f3500fda4001064e77456bb7eb6a0828815b6e095c77", checked := Try.checked }
namespace Rows
def none {H : Type} : Left H := { results := [], args := [] }

/-- 'examboardlaw34.ZerooneChecks': WHATEVER THE INPUT: true; the input reads as it did. -/
def zerooneChecksSpec : ChangeSpec := { name := "zerooneChecks", fn := fun _ => fun
  | [d] => { results := [.lit (.bool true)], args := [d] }
  | _ => none }
def zerooneChecksRow : OpenClaim := { program := "ytkgikajfeihbbaa", sum := "05b5b27a541d0b58f848f3500fda4001064e77456bb7eb6a0828815b6e095c77", func := "examboard/examboardlaw34.ZerooneChecks", spec := "zerooneChecks", unfollowed := true, recurses := true, apart := false }
def ZerooneChecksSaid : Prop := zerooneChecksRow.holds Try.pinned (OpenSpec.ofChange zerooneChecksSpec)

/-- ITS FALSE NEIGHBOUR: 'it returns false'. Refute it at one input. -/
def zerooneChecksWrong : ChangeSpec := { name := "zerooneChecks", fn := fun _ => fun
  | [d] => { results := [.lit (.bool false)], args := [d] }
  | _ => none }
def ZerooneChecksWrongFalsely : Prop := zerooneChecksRow.holds Try.pinned (OpenSpec.ofChange zerooneChecksWrong)

/-- 'examboardlaw34.ZerooneValues': WHATEVER THE INPUT: true; the input reads as it did. -/
def zerooneValuesSpec : ChangeSpec := { name := "zerooneValues", fn := fun _ => fun
  | [d1, d2] => { results := [.lit (.bool true)], args := [d1, d2] }
  | _ => none }
def zerooneValuesRow : OpenClaim := { program := "ytkgikajfeihbbaa", sum := "05b5b27a541d0b58f848f3500fda4001064e77456bb7eb6a0828815b6e095c77", func := "examboard/examboardlaw34.ZerooneValues", spec := "zerooneValues", unfollowed := true, recurses := true, apart := false }
def ZerooneValuesSaid : Prop := zerooneValuesRow.holds Try.pinned (OpenSpec.ofChange zerooneValuesSpec)

/-- ITS FALSE NEIGHBOUR: 'it returns false'. Refute it at one input. -/
def zerooneValuesWrong : ChangeSpec := { name := "zerooneValues", fn := fun _ => fun
  | [d1, d2] => { results := [.lit (.bool false)], args := [d1, d2] }
  | _ => none }
def ZerooneValuesWrongFalsely : Prop := zerooneValuesRow.holds Try.pinned (OpenSpec.ofChange zerooneValuesWrong)

/-- 'examboardlaw34.ZerooneTightens': WHATEVER THE INPUT: true; the input reads as it did. -/
def zerooneTightensSpec : ChangeSpec := { name := "zerooneTightens", fn := fun _ => fun
  | [d] => { results := [.lit (.bool true)], args := [d] }
  | _ => none }
def zerooneTightensRow : OpenClaim := { program := "ytkgikajfeihbbaa", sum := "05b5b27a541d0b58f848f3500fda4001064e77456bb7eb6a0828815b6e095c77", func := "examboard/examboardlaw34.ZerooneTightens", spec := "zerooneTightens", unfollowed := true, recurses := true, apart := false }
def ZerooneTightensSaid : Prop := zerooneTightensRow.holds Try.pinned (OpenSpec.ofChange zerooneTightensSpec)

/-- ITS FALSE NEIGHBOUR: 'it returns false'. Refute it at one input. -/
def zerooneTightensWrong : ChangeSpec := { name := "zerooneTightens", fn := fun _ => fun
  | [d] => { results := [.lit (.bool false)], args := [d] }
  | _ => none }
def ZerooneTightensWrongFalsely : Prop := zerooneTightensRow.holds Try.pinned (OpenSpec.ofChange zerooneTightensWrong)

/-- 'examboardlaw34.ZerooneSolves': WHATEVER THE INPUT: true; the input reads as it did. -/
def zerooneSolvesSpec : ChangeSpec := { name := "zerooneSolves", fn := fun _ => fun
  | [d] => { results := [.lit (.bool true)], args := [d] }
  | _ => none }
def zerooneSolvesRow : OpenClaim := { program := "ytkgikajfeihbbaa", sum := "05b5b27a541d0b58f848f3500fda4001064e77456bb7eb6a0828815b6e095c77", func := "examboard/examboardlaw34.ZerooneSolves", spec := "zerooneSolves", unfollowed := true, recurses := true, apart := false }
def ZerooneSolvesSaid : Prop := zerooneSolvesRow.holds Try.pinned (OpenSpec.ofChange zerooneSolvesSpec)

/-- ITS FALSE NEIGHBOUR: 'it returns false'. Refute it at one input. -/
def zerooneSolvesWrong : ChangeSpec := { name := "zerooneSolves", fn := fun _ => fun
  | [d] => { results := [.lit (.bool false)], args := [d] }
  | _ => none }
def ZerooneSolvesWrongFalsely : Prop := zerooneSolvesRow.holds Try.pinned (OpenSpec.ofChange zerooneSolvesWrong)

/-- 'examboardlaw34.ZerooneOptimal': WHATEVER THE INPUT: true; the input reads as it did. -/
def zerooneOptimalSpec : ChangeSpec := { name := "zerooneOptimal", fn := fun _ => fun
  | [d] => { results := [.lit (.bool true)], args := [d] }
  | _ => none }
def zerooneOptimalRow : OpenClaim := { program := "ytkgikajfeihbbaa", sum := "05b5b27a541d0b58f848f3500fda4001064e77456bb7eb6a0828815b6e095c77", func := "examboard/examboardlaw34.ZerooneOptimal", spec := "zerooneOptimal", unfollowed := true, recurses := true, apart := false }
def ZerooneOptimalSaid : Prop := zerooneOptimalRow.holds Try.pinned (OpenSpec.ofChange zerooneOptimalSpec)

/-- ITS FALSE NEIGHBOUR: 'it returns false'. Refute it at one input. -/
def zerooneOptimalWrong : ChangeSpec := { name := "zerooneOptimal", fn := fun _ => fun
  | [d] => { results := [.lit (.bool false)], args := [d] }
  | _ => none }
def ZerooneOptimalWrongFalsely : Prop := zerooneOptimalRow.holds Try.pinned (OpenSpec.ofChange zerooneOptimalWrong)

/-- 'examboardlaw34.ZerooneBounds': WHATEVER THE INPUT: true; the input reads as it did. -/
def zerooneBoundsSpec : ChangeSpec := { name := "zerooneBounds", fn := fun _ => fun
  | [d] => { results := [.lit (.bool true)], args := [d] }
  | _ => none }
def zerooneBoundsRow : OpenClaim := { program := "ytkgikajfeihbbaa", sum := "05b5b27a541d0b58f848f3500fda4001064e77456bb7eb6a0828815b6e095c77", func := "examboard/examboardlaw34.ZerooneBounds", spec := "zerooneBounds", unfollowed := true, recurses := true, apart := false }
def ZerooneBoundsSaid : Prop := zerooneBoundsRow.holds Try.pinned (OpenSpec.ofChange zerooneBoundsSpec)

/-- ITS FALSE NEIGHBOUR: 'it returns false'. Refute it at one input. -/
def zerooneBoundsWrong : ChangeSpec := { name := "zerooneBounds", fn := fun _ => fun
  | [d] => { results := [.lit (.bool false)], args := [d] }
  | _ => none }
def ZerooneBoundsWrongFalsely : Prop := zerooneBoundsRow.holds Try.pinned (OpenSpec.ofChange zerooneBoundsWrong)

/-- 'examboardlaw34.ZerooneKeeps': WHATEVER THE INPUT: true; the input reads as it did. -/
def zerooneKeepsSpec : ChangeSpec := { name := "zerooneKeeps", fn := fun _ => fun
  | [d] => { results := [.lit (.bool true)], args := [d] }
  | _ => none }
def zerooneKeepsRow : OpenClaim := { program := "ytkgikajfeihbbaa", sum := "05b5b27a541d0b58f848f3500fda4001064e77456bb7eb6a0828815b6e095c77", func := "examboard/examboardlaw34.ZerooneKeeps", spec := "zerooneKeeps", unfollowed := true, recurses := true, apart := false }
def ZerooneKeepsSaid : Prop := zerooneKeepsRow.holds Try.pinned (OpenSpec.ofChange zerooneKeepsSpec)

/-- ITS FALSE NEIGHBOUR: 'it returns false'. Refute it at one input. -/
def zerooneKeepsWrong : ChangeSpec := { name := "zerooneKeeps", fn := fun _ => fun
  | [d] => { results := [.lit (.bool false)], args := [d] }
  | _ => none }
def ZerooneKeepsWrongFalsely : Prop := zerooneKeepsRow.holds Try.pinned (OpenSpec.ofChange zerooneKeepsWrong)

/- THE SECOND FORM. 'bulk': how many values and letters a reading holds, each counted each time it is reached (what is shared counts as often as it is met; a slice's spare places count too). A statement '..UptoSaid' is the law's where the arguments, and the package variables that the reading takes, are together of bulk at most 1048576: NARROWER than '..Said'. Prove '..Said' where nothing that the law and all that it calls make is longer than what came in: it says more and counts as full. Else prove '..UptoSaid'. A law counts once. -/
mutual
def uptoBulk {H : Type} : DataW H → Nat
  | .lit (.string bytes) => bytes.length + 1
  | .lit _ => 1
  | .nil => 1
  | .ptr d => uptoBulk d + 1
  | .slice elems spare => uptoBulkAll elems + uptoBulkAll spare + 1
  | .agg parts => uptoBulkAll parts + 1
  | .iface _ d => uptoBulk d + 1
  | .map entries => uptoBulkEntries entries + 1
  | .held _ => 1
def uptoBulkAll {H : Type} : List (DataW H) → Nat
  | [] => 0
  | d :: r => uptoBulk d + uptoBulkAll r
def uptoBulkEntries {H : Type} : List (Lit × DataW H) → Nat
  | [] => 0
  | x :: r => uptoBulkEntry x + uptoBulkEntries r
def uptoBulkEntry {H : Type} : Lit × DataW H → Nat
  | (.string bytes, d) => bytes.length + uptoBulk d + 1
  | (_, d) => uptoBulk d + 1
 end
def uptoSmall : (H : Type) → List (DataW H) → Bool := fun _ ds => decide (uptoBulkAll ds ≤ 1048576)
def OpenSpec.upto (s : _root_.Go.ChangeSpec) : _root_.Go.OpenSpec := { _root_.Go.OpenSpec.ofChange s with cond := some uptoSmall }

/-- 'examboardlaw34.ZerooneChecks', WHERE WHAT IT READS IS OF BULK AT MOST 1048576: true; the input reads as it did. -/
def zerooneChecksUptoRow : OpenClaim := { program := "ytkgikajfeihbbaa", sum := "05b5b27a541d0b58f848f3500fda4001064e77456bb7eb6a0828815b6e095c77", func := "examboard/examboardlaw34.ZerooneChecks", spec := "zerooneChecks", unfollowed := true, recurses := true, apart := false, narrowed := true }
def ZerooneChecksUptoSaid : Prop := zerooneChecksUptoRow.holds Try.pinned (OpenSpec.upto zerooneChecksSpec)

/-- 'examboardlaw34.ZerooneValues', WHERE WHAT IT READS IS OF BULK AT MOST 1048576: true; the input reads as it did. -/
def zerooneValuesUptoRow : OpenClaim := { program := "ytkgikajfeihbbaa", sum := "05b5b27a541d0b58f848f3500fda4001064e77456bb7eb6a0828815b6e095c77", func := "examboard/examboardlaw34.ZerooneValues", spec := "zerooneValues", unfollowed := true, recurses := true, apart := false, narrowed := true }
def ZerooneValuesUptoSaid : Prop := zerooneValuesUptoRow.holds Try.pinned (OpenSpec.upto zerooneValuesSpec)

/-- 'examboardlaw34.ZerooneTightens', WHERE WHAT IT READS IS OF BULK AT MOST 1048576: true; the input reads as it did. -/
def zerooneTightensUptoRow : OpenClaim := { program := "ytkgikajfeihbbaa", sum := "05b5b27a541d0b58f848f3500fda4001064e77456bb7eb6a0828815b6e095c77", func := "examboard/examboardlaw34.ZerooneTightens", spec := "zerooneTightens", unfollowed := true, recurses := true, apart := false, narrowed := true }
def ZerooneTightensUptoSaid : Prop := zerooneTightensUptoRow.holds Try.pinned (OpenSpec.upto zerooneTightensSpec)

/-- 'examboardlaw34.ZerooneSolves', WHERE WHAT IT READS IS OF BULK AT MOST 1048576: true; the input reads as it did. -/
def zerooneSolvesUptoRow : OpenClaim := { program := "ytkgikajfeihbbaa", sum := "05b5b27a541d0b58f848f3500fda4001064e77456bb7eb6a0828815b6e095c77", func := "examboard/examboardlaw34.ZerooneSolves", spec := "zerooneSolves", unfollowed := true, recurses := true, apart := false, narrowed := true }
def ZerooneSolvesUptoSaid : Prop := zerooneSolvesUptoRow.holds Try.pinned (OpenSpec.upto zerooneSolvesSpec)

/-- 'examboardlaw34.ZerooneOptimal', WHERE WHAT IT READS IS OF BULK AT MOST 1048576: true; the input reads as it did. -/
def zerooneOptimalUptoRow : OpenClaim := { program := "ytkgikajfeihbbaa", sum := "05b5b27a541d0b58f848f3500fda4001064e77456bb7eb6a0828815b6e095c77", func := "examboard/examboardlaw34.ZerooneOptimal", spec := "zerooneOptimal", unfollowed := true, recurses := true, apart := false, narrowed := true }
def ZerooneOptimalUptoSaid : Prop := zerooneOptimalUptoRow.holds Try.pinned (OpenSpec.upto zerooneOptimalSpec)

/-- 'examboardlaw34.ZerooneBounds', WHERE WHAT IT READS IS OF BULK AT MOST 1048576: true; the input reads as it did. -/
def zerooneBoundsUptoRow : OpenClaim := { program := "ytkgikajfeihbbaa", sum := "05b5b27a541d0b58f848f3500fda4001064e77456bb7eb6a0828815b6e095c77", func := "examboard/examboardlaw34.ZerooneBounds", spec := "zerooneBounds", unfollowed := true, recurses := true, apart := false, narrowed := true }
def ZerooneBoundsUptoSaid : Prop := zerooneBoundsUptoRow.holds Try.pinned (OpenSpec.upto zerooneBoundsSpec)

/-- 'examboardlaw34.ZerooneKeeps', WHERE WHAT IT READS IS OF BULK AT MOST 1048576: true; the input reads as it did. -/
def zerooneKeepsUptoRow : OpenClaim := { program := "ytkgikajfeihbbaa", sum := "05b5b27a541d0b58f848f3500fda4001064e77456bb7eb6a0828815b6e095c77", func := "examboard/examboardlaw34.ZerooneKeeps", spec := "zerooneKeeps", unfollowed := true, recurses := true, apart := false, narrowed := true }
def ZerooneKeepsUptoSaid : Prop := zerooneKeepsUptoRow.holds Try.pinned (OpenSpec.upto zerooneKeepsSpec)

end Rows
end Go.Proofs.Ytkgikajfeihbbaa
