/-
  No cell of these rows narrows 'for every input' (looked for: loops, veiled, ifaces, maps, wideKeys, modest, calm, conditions, laid).
  DERIVED. THE GIVEN ROWS OF THIS SEAT. 6 by the template 'for every input the law returns true; each argument reads behind the call as it read before'; 0 by the template 'total and deterministic' (their statements: YtpdodapdaeochaaTotals.lean).
  GIVEN WITH THE SEED: the statements are not yours to turn. If you find one false, say at which input.
  Laid BY PROGRAM, IN A SANDBOX (cutbox-rows.mjs): the forced cells as the released guide's own fill.sh prints them over the translation c7f4fd1975e12484… (all of the seat's roots in one cut). By AI agents, Wed Nov 11 2026. No macro, syntax, notation, axiom, sorry.
-/
import Derived.Test.YtpdodapdaeochaaChecked
import GoSem.Claim
import GoSem.ClaimJoined
import GoSem.ClaimMapViews
import Derived.JoinedTies
import Derived.KernelRfl
namespace Go.Proofs.Ytpdodapdaeochaa
/- THE CELL 'sum', in the pinned program and in every row, IS THE sha256 OF THE DUMP (.gsa) THAT YtpdodapdaeochaaProg.lean LOADS. Nothing in Lean hashes anything: it is a label: what it is worth is what the hold of that sum in a sandbox is worth. -/
noncomputable def Try.pinned : Pinned := { name := "ytpdodapdaeochaa", sum := "c7f4fd1975e12484e75949691d03a4464a29c16f4b5faa044c99f7fec10bc188", checked := Try.checked }
namespace Rows
def none {H : Type} : Left H := { results := [], args := [] }

/-- 'examboardlaw53.UploadOnce': WHATEVER THE INPUT: true; the input reads as it did. -/
def uploadOnceSpec : ChangeSpec := { name := "uploadOnce", fn := fun _ => fun
  | [d1, d2, d3] => { results := [.lit (.bool true)], args := [d1, d2, d3] }
  | _ => none }
def uploadOnceRow : OpenClaim := { program := "ytpdodapdaeochaa", sum := "c7f4fd1975e12484e75949691d03a4464a29c16f4b5faa044c99f7fec10bc188", func := "examboard/examboardlaw53.UploadOnce", spec := "uploadOnce", unfollowed := true, recurses := true, apart := false }
def UploadOnceSaid : Prop := uploadOnceRow.holds Try.pinned (OpenSpec.ofChange uploadOnceSpec)

/-- ITS FALSE NEIGHBOUR: 'it returns false'. Refute it at one input. -/
def uploadOnceWrong : ChangeSpec := { name := "uploadOnce", fn := fun _ => fun
  | [d1, d2, d3] => { results := [.lit (.bool false)], args := [d1, d2, d3] }
  | _ => none }
def UploadOnceWrongFalsely : Prop := uploadOnceRow.holds Try.pinned (OpenSpec.ofChange uploadOnceWrong)

/-- 'examboardlaw53.UploadOrder': WHATEVER THE INPUT: true; the input reads as it did. -/
def uploadOrderSpec : ChangeSpec := { name := "uploadOrder", fn := fun _ => fun
  | [d1, d2, d3, d4, d5] => { results := [.lit (.bool true)], args := [d1, d2, d3, d4, d5] }
  | _ => none }
def uploadOrderRow : OpenClaim := { program := "ytpdodapdaeochaa", sum := "c7f4fd1975e12484e75949691d03a4464a29c16f4b5faa044c99f7fec10bc188", func := "examboard/examboardlaw53.UploadOrder", spec := "uploadOrder", unfollowed := true, recurses := true, apart := false }
def UploadOrderSaid : Prop := uploadOrderRow.holds Try.pinned (OpenSpec.ofChange uploadOrderSpec)

/-- ITS FALSE NEIGHBOUR: 'it returns false'. Refute it at one input. -/
def uploadOrderWrong : ChangeSpec := { name := "uploadOrder", fn := fun _ => fun
  | [d1, d2, d3, d4, d5] => { results := [.lit (.bool false)], args := [d1, d2, d3, d4, d5] }
  | _ => none }
def UploadOrderWrongFalsely : Prop := uploadOrderRow.holds Try.pinned (OpenSpec.ofChange uploadOrderWrong)

/-- 'examboardlaw53.UploadPackets': WHATEVER THE INPUT: true; the input reads as it did. -/
def uploadPacketsSpec : ChangeSpec := { name := "uploadPackets", fn := fun _ => fun
  | [d1, d2, d3, d4] => { results := [.lit (.bool true)], args := [d1, d2, d3, d4] }
  | _ => none }
def uploadPacketsRow : OpenClaim := { program := "ytpdodapdaeochaa", sum := "c7f4fd1975e12484e75949691d03a4464a29c16f4b5faa044c99f7fec10bc188", func := "examboard/examboardlaw53.UploadPackets", spec := "uploadPackets", unfollowed := true, recurses := true, apart := false }
def UploadPacketsSaid : Prop := uploadPacketsRow.holds Try.pinned (OpenSpec.ofChange uploadPacketsSpec)

/-- ITS FALSE NEIGHBOUR: 'it returns false'. Refute it at one input. -/
def uploadPacketsWrong : ChangeSpec := { name := "uploadPackets", fn := fun _ => fun
  | [d1, d2, d3, d4] => { results := [.lit (.bool false)], args := [d1, d2, d3, d4] }
  | _ => none }
def UploadPacketsWrongFalsely : Prop := uploadPacketsRow.holds Try.pinned (OpenSpec.ofChange uploadPacketsWrong)

/-- 'examboardlaw53.UploadDamage': WHATEVER THE INPUT: true; the input reads as it did. -/
def uploadDamageSpec : ChangeSpec := { name := "uploadDamage", fn := fun _ => fun
  | [d1, d2, d3, d4, d5] => { results := [.lit (.bool true)], args := [d1, d2, d3, d4, d5] }
  | _ => none }
def uploadDamageRow : OpenClaim := { program := "ytpdodapdaeochaa", sum := "c7f4fd1975e12484e75949691d03a4464a29c16f4b5faa044c99f7fec10bc188", func := "examboard/examboardlaw53.UploadDamage", spec := "uploadDamage", unfollowed := true, recurses := true, apart := false }
def UploadDamageSaid : Prop := uploadDamageRow.holds Try.pinned (OpenSpec.ofChange uploadDamageSpec)

/-- ITS FALSE NEIGHBOUR: 'it returns false'. Refute it at one input. -/
def uploadDamageWrong : ChangeSpec := { name := "uploadDamage", fn := fun _ => fun
  | [d1, d2, d3, d4, d5] => { results := [.lit (.bool false)], args := [d1, d2, d3, d4, d5] }
  | _ => none }
def UploadDamageWrongFalsely : Prop := uploadDamageRow.holds Try.pinned (OpenSpec.ofChange uploadDamageWrong)

/-- 'examboardlaw53.UploadRests': WHATEVER THE INPUT: true; the input reads as it did. -/
def uploadRestsSpec : ChangeSpec := { name := "uploadRests", fn := fun _ => fun
  | [d1, d2, d3] => { results := [.lit (.bool true)], args := [d1, d2, d3] }
  | _ => none }
def uploadRestsRow : OpenClaim := { program := "ytpdodapdaeochaa", sum := "c7f4fd1975e12484e75949691d03a4464a29c16f4b5faa044c99f7fec10bc188", func := "examboard/examboardlaw53.UploadRests", spec := "uploadRests", unfollowed := true, recurses := true, apart := false }
def UploadRestsSaid : Prop := uploadRestsRow.holds Try.pinned (OpenSpec.ofChange uploadRestsSpec)

/-- ITS FALSE NEIGHBOUR: 'it returns false'. Refute it at one input. -/
def uploadRestsWrong : ChangeSpec := { name := "uploadRests", fn := fun _ => fun
  | [d1, d2, d3] => { results := [.lit (.bool false)], args := [d1, d2, d3] }
  | _ => none }
def UploadRestsWrongFalsely : Prop := uploadRestsRow.holds Try.pinned (OpenSpec.ofChange uploadRestsWrong)

/-- 'examboardlaw53.UploadRest': WHATEVER THE INPUT: true; the input reads as it did. -/
def uploadRestSpec : ChangeSpec := { name := "uploadRest", fn := fun _ => fun
  | [d1, d2, d3, d4] => { results := [.lit (.bool true)], args := [d1, d2, d3, d4] }
  | _ => none }
def uploadRestRow : OpenClaim := { program := "ytpdodapdaeochaa", sum := "c7f4fd1975e12484e75949691d03a4464a29c16f4b5faa044c99f7fec10bc188", func := "examboard/examboardlaw53.UploadRest", spec := "uploadRest", unfollowed := true, recurses := true, apart := false }
def UploadRestSaid : Prop := uploadRestRow.holds Try.pinned (OpenSpec.ofChange uploadRestSpec)

/-- ITS FALSE NEIGHBOUR: 'it returns false'. Refute it at one input. -/
def uploadRestWrong : ChangeSpec := { name := "uploadRest", fn := fun _ => fun
  | [d1, d2, d3, d4] => { results := [.lit (.bool false)], args := [d1, d2, d3, d4] }
  | _ => none }
def UploadRestWrongFalsely : Prop := uploadRestRow.holds Try.pinned (OpenSpec.ofChange uploadRestWrong)

/- THE SECOND FORM. 'bulk': how many values and letters a reading holds, each counted each time it is reached (what is shared counts as often as it is met; a slice's spare places count too). A statement '..UptoSaid' is the law's where the arguments, and the package variables that the reading takes, are together of bulk at most 1048576: NARROWER than '..Said'. Prove '..Said' where nothing that the law and all that it calls make is longer than what came in: it says more and counts as full. Else prove '..UptoSaid'. A law counts once. -/
mutual
def uptoBulk {H : Type} : DataW H → Nat
  | .lit (.string bytes) => bytes.length + 1
  | .lit _ => 1
  | .nil => 1
  | .ptr d => uptoBulk d + 1
  | .slice elems spare => uptoBulkAll elems + uptoBulkAll spare + 1
  | .agg parts => uptoBulkAll parts + 1
  | .iface _ d => uptoBulk d + 1
  | .map entries => uptoBulkEntries entries + 1
  | .held _ => 1
def uptoBulkAll {H : Type} : List (DataW H) → Nat
  | [] => 0
  | d :: r => uptoBulk d + uptoBulkAll r
def uptoBulkEntries {H : Type} : List (Lit × DataW H) → Nat
  | [] => 0
  | x :: r => uptoBulkEntry x + uptoBulkEntries r
def uptoBulkEntry {H : Type} : Lit × DataW H → Nat
  | (.string bytes, d) => bytes.length + uptoBulk d + 1
  | (_, d) => uptoBulk d + 1
 end
def uptoSmall : (H : Type) → List (DataW H) → Bool := fun _ ds => decide (uptoBulkAll ds ≤ 1048576)
def OpenSpec.upto (s : _root_.Go.ChangeSpec) : _root_.Go.OpenSpec := { _root_.Go.OpenSpec.ofChange s with cond := some uptoSmall }

/-- 'examboardlaw53.UploadOnce', WHERE WHAT IT READS IS OF BULK AT MOST 1048576: true; the input reads as it did. -/
def uploadOnceUptoRow : OpenClaim := { program := "ytpdodapdaeochaa", sum := "c7f4fd1975e12484e75949691d03a4464a29c16f4b5faa044c99f7fec10bc188", func := "examboard/examboardlaw53.UploadOnce", spec := "uploadOnce", unfollowed := true, recurses := true, apart := false, narrowed := true }
def UploadOnceUptoSaid : Prop := uploadOnceUptoRow.holds Try.pinned (OpenSpec.upto uploadOnceSpec)

/-- 'examboardlaw53.UploadOrder', WHERE WHAT IT READS IS OF BULK AT MOST 1048576: true; the input reads as it did. -/
def uploadOrderUptoRow : OpenClaim := { program := "ytpdodapdaeochaa", sum := "c7f4fd1975e12484e75949691d03a4464a29c16f4b5faa044c99f7fec10bc188", func := "examboard/examboardlaw53.UploadOrder", spec := "uploadOrder", unfollowed := true, recurses := true, apart := false, narrowed := true }
def UploadOrderUptoSaid : Prop := uploadOrderUptoRow.holds Try.pinned (OpenSpec.upto uploadOrderSpec)

/-- 'examboardlaw53.UploadPackets', WHERE WHAT IT READS IS OF BULK AT MOST 1048576: true; the input reads as it did. -/
def uploadPacketsUptoRow : OpenClaim := { program := "ytpdodapdaeochaa", sum := "c7f4fd1975e12484e75949691d03a4464a29c16f4b5faa044c99f7fec10bc188", func := "examboard/examboardlaw53.UploadPackets", spec := "uploadPackets", unfollowed := true, recurses := true, apart := false, narrowed := true }
def UploadPacketsUptoSaid : Prop := uploadPacketsUptoRow.holds Try.pinned (OpenSpec.upto uploadPacketsSpec)

/-- 'examboardlaw53.UploadDamage', WHERE WHAT IT READS IS OF BULK AT MOST 1048576: true; the input reads as it did. -/
def uploadDamageUptoRow : OpenClaim := { program := "ytpdodapdaeochaa", sum := "c7f4fd1975e12484e75949691d03a4464a29c16f4b5faa044c99f7fec10bc188", func := "examboard/examboardlaw53.UploadDamage", spec := "uploadDamage", unfollowed := true, recurses := true, apart := false, narrowed := true }
def UploadDamageUptoSaid : Prop := uploadDamageUptoRow.holds Try.pinned (OpenSpec.upto uploadDamageSpec)

/-- 'examboardlaw53.UploadRests', WHERE WHAT IT READS IS OF BULK AT MOST 1048576: true; the input reads as it did. -/
def uploadRestsUptoRow : OpenClaim := { program := "ytpdodapdaeochaa", sum := "c7f4fd1975e12484e75949691d03a4464a29c16f4b5faa044c99f7fec10bc188", func := "examboard/examboardlaw53.UploadRests", spec := "uploadRests", unfollowed := true, recurses := true, apart := false, narrowed := true }
def UploadRestsUptoSaid : Prop := uploadRestsUptoRow.holds Try.pinned (OpenSpec.upto uploadRestsSpec)

/-- 'examboardlaw53.UploadRest', WHERE WHAT IT READS IS OF BULK AT MOST 1048576: true; the input reads as it did. -/
def uploadRestUptoRow : OpenClaim := { program := "ytpdodapdaeochaa", sum := "c7f4fd1975e12484e75949691d03a4464a29c16f4b5faa044c99f7fec10bc188", func := "examboard/examboardlaw53.UploadRest", spec := "uploadRest", unfollowed := true, recurses := true, apart := false, narrowed := true }
def UploadRestUptoSaid : Prop := uploadRestUptoRow.holds Try.pinned (OpenSpec.upto uploadRestSpec)

end Rows
end Go.Proofs.Ytpdodapdaeochaa
