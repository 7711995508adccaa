/-
  DERIVED. GIVEN WITH THE SEED: THE CARDS: each row of YthbfmioikbphgaaDoorRows.lean that lists a variable, with what it lists TIED to the program's text (the seventh form; the later family's looks); each row that meets fmt, with fmt's text TOLD by the authors' own Lean function (tested against real Go, not proved from fmt's source: count such statements apart). THE CARD IS WHAT COUNTS. Prove the row's statement (the work); the ties are given (YthbfmioikbphgaaDoorTie.lean); close each card by the builder's one call (the guide's Derived/Test/ToyasCard.lean, 'card_holds'). Laid BY PROGRAM, IN A SANDBOX (cutbox-door.mjs). By AI agents, Wed Nov 11 2026. No macro, syntax, notation, axiom, sorry.
-/
import Derived.Test.YthbfmioikbphgaaDoorRows
import GoSem.ClaimSeven
namespace Go.Proofs.YthbfmioikbphgaaDoor
namespace Rows

/-- THE TIED CARD OF 'examboardlaw49.JournalAppends'. -/
def journalAppendsCard : Claim7 := { stood := { row := journalAppendsRow, standIns := [], harness := (true, "771dcf6727d06dda722914b79e1853659c676fd60553f432128d4f8f8db1732f"), looks := true }, kinds := [], alts := [], laidByText := true, laidKinds := [.handle], laidTests := true, laidLooks := .later }
def JournalAppendsCardSaid : Prop := Claim7.holds Tryd.pinned (.plain (OpenSpec.ofChange journalAppendsSpec)) journalAppendsCard

/-- THE TIED CARD OF 'examboardlaw49.JournalChange'. -/
def journalChangeCard : Claim7 := { stood := { row := journalChangeRow, standIns := [], harness := (true, "771dcf6727d06dda722914b79e1853659c676fd60553f432128d4f8f8db1732f"), looks := true }, kinds := [], alts := [], laidByText := true, laidKinds := [.handle], laidTests := true, laidLooks := .later }
def JournalChangeCardSaid : Prop := Claim7.holds Tryd.pinned (.plain (OpenSpec.ofChange journalChangeSpec)) journalChangeCard

/-- THE TIED CARD OF 'examboardlaw49.JournalAppend'. -/
def journalAppendCard : Claim7 := { stood := { row := journalAppendRow, standIns := [], harness := (true, "771dcf6727d06dda722914b79e1853659c676fd60553f432128d4f8f8db1732f"), looks := true }, kinds := [], alts := [], laidByText := true, laidKinds := [.handle], laidTests := true, laidLooks := .later }
def JournalAppendCardSaid : Prop := Claim7.holds Tryd.pinned (.plain (OpenSpec.ofChange journalAppendSpec)) journalAppendCard

/-- THE TIED CARD OF 'examboardlaw49.JournalReads'. -/
def journalReadsCard : Claim7 := { stood := { row := journalReadsRow, standIns := [], harness := (true, "771dcf6727d06dda722914b79e1853659c676fd60553f432128d4f8f8db1732f"), looks := true }, kinds := [], alts := [], laidByText := true, laidKinds := [.handle], laidTests := true, laidLooks := .later }
def JournalReadsCardSaid : Prop := Claim7.holds Tryd.pinned (.plain (OpenSpec.ofChange journalReadsSpec)) journalReadsCard

/-- THE TIED CARD OF 'examboardlaw49.JournalPrefix'. -/
def journalPrefixCard : Claim7 := { stood := { row := journalPrefixRow, standIns := [], harness := (true, "771dcf6727d06dda722914b79e1853659c676fd60553f432128d4f8f8db1732f"), looks := true }, kinds := [], alts := [], laidByText := true, laidKinds := [.handle], laidTests := true, laidLooks := .later }
def JournalPrefixCardSaid : Prop := Claim7.holds Tryd.pinned (.plain (OpenSpec.ofChange journalPrefixSpec)) journalPrefixCard

/-- THE TIED CARD OF 'examboardlaw49.JournalTrim'. -/
def journalTrimCard : Claim7 := { stood := { row := journalTrimRow, standIns := [], harness := (true, "771dcf6727d06dda722914b79e1853659c676fd60553f432128d4f8f8db1732f"), looks := true }, kinds := [], alts := [], laidByText := true, laidKinds := [.handle], laidTests := true, laidLooks := .later }
def JournalTrimCardSaid : Prop := Claim7.holds Tryd.pinned (.plain (OpenSpec.ofChange journalTrimSpec)) journalTrimCard

/-- THE SECOND FORM's CARD OF 'examboardlaw49.JournalAppends'. -/
def journalAppendsUptoCard : Claim7 := { stood := { row := journalAppendsUptoRow, standIns := [], harness := (true, "771dcf6727d06dda722914b79e1853659c676fd60553f432128d4f8f8db1732f"), looks := true }, kinds := [], alts := [], laidByText := true, laidKinds := [.handle], laidTests := true, laidLooks := .later }
def JournalAppendsUptoCardSaid : Prop := Claim7.holds Tryd.pinned (.plain (OpenSpec.upto journalAppendsSpec)) journalAppendsUptoCard

/-- THE SECOND FORM's CARD OF 'examboardlaw49.JournalChange'. -/
def journalChangeUptoCard : Claim7 := { stood := { row := journalChangeUptoRow, standIns := [], harness := (true, "771dcf6727d06dda722914b79e1853659c676fd60553f432128d4f8f8db1732f"), looks := true }, kinds := [], alts := [], laidByText := true, laidKinds := [.handle], laidTests := true, laidLooks := .later }
def JournalChangeUptoCardSaid : Prop := Claim7.holds Tryd.pinned (.plain (OpenSpec.upto journalChangeSpec)) journalChangeUptoCard

/-- THE SECOND FORM's CARD OF 'examboardlaw49.JournalAppend'. -/
def journalAppendUptoCard : Claim7 := { stood := { row := journalAppendUptoRow, standIns := [], harness := (true, "771dcf6727d06dda722914b79e1853659c676fd60553f432128d4f8f8db1732f"), looks := true }, kinds := [], alts := [], laidByText := true, laidKinds := [.handle], laidTests := true, laidLooks := .later }
def JournalAppendUptoCardSaid : Prop := Claim7.holds Tryd.pinned (.plain (OpenSpec.upto journalAppendSpec)) journalAppendUptoCard

/-- THE SECOND FORM's CARD OF 'examboardlaw49.JournalReads'. -/
def journalReadsUptoCard : Claim7 := { stood := { row := journalReadsUptoRow, standIns := [], harness := (true, "771dcf6727d06dda722914b79e1853659c676fd60553f432128d4f8f8db1732f"), looks := true }, kinds := [], alts := [], laidByText := true, laidKinds := [.handle], laidTests := true, laidLooks := .later }
def JournalReadsUptoCardSaid : Prop := Claim7.holds Tryd.pinned (.plain (OpenSpec.upto journalReadsSpec)) journalReadsUptoCard

/-- THE SECOND FORM's CARD OF 'examboardlaw49.JournalPrefix'. -/
def journalPrefixUptoCard : Claim7 := { stood := { row := journalPrefixUptoRow, standIns := [], harness := (true, "771dcf6727d06dda722914b79e1853659c676fd60553f432128d4f8f8db1732f"), looks := true }, kinds := [], alts := [], laidByText := true, laidKinds := [.handle], laidTests := true, laidLooks := .later }
def JournalPrefixUptoCardSaid : Prop := Claim7.holds Tryd.pinned (.plain (OpenSpec.upto journalPrefixSpec)) journalPrefixUptoCard

/-- THE SECOND FORM's CARD OF 'examboardlaw49.JournalTrim'. -/
def journalTrimUptoCard : Claim7 := { stood := { row := journalTrimUptoRow, standIns := [], harness := (true, "771dcf6727d06dda722914b79e1853659c676fd60553f432128d4f8f8db1732f"), looks := true }, kinds := [], alts := [], laidByText := true, laidKinds := [.handle], laidTests := true, laidLooks := .later }
def JournalTrimUptoCardSaid : Prop := Claim7.holds Tryd.pinned (.plain (OpenSpec.upto journalTrimSpec)) journalTrimUptoCard
end Rows
end Go.Proofs.YthbfmioikbphgaaDoor
