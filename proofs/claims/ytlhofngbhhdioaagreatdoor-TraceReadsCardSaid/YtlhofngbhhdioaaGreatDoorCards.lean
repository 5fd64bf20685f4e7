/-
  DERIVED. GIVEN WITH THE SEED: THE CARDS: each row of YtlhofngbhhdioaaGreatDoorRows.lean that lists a variable, with what it lists TIED to the program's text (the seventh form; the later family's looks); each row that meets fmt, with fmt's text TOLD by the authors' own Lean function (tested against real Go, not proved from fmt's source: count such statements apart). THE CARD IS WHAT COUNTS. Prove the row's statement (the work); the ties are given (YtlhofngbhhdioaaGreatDoorTie.lean); close each card by the builder's one call (the guide's Derived/Test/ToyasCard.lean, 'card_holds'). Laid BY PROGRAM, IN A SANDBOX (cutbox-door.mjs). By AI agents, Wed Nov 11 2026. No macro, syntax, notation, axiom, sorry.
-/
import Derived.Test.YtlhofngbhhdioaaGreatDoorRows
import GoSem.ClaimSeven
namespace Go.Proofs.YtlhofngbhhdioaaGreatDoor
namespace Rows

/-- THE TIED CARD OF 'jobshelllaw49.TraceLines'. -/
def traceLinesCard : Claim7 := { stood := { row := traceLinesRow, standIns := [], harness := (true, "20cafaaf86bde35a84ed3016b82574a590cf2b4ea1ac79059aa0b94f937eeffc"), looks := true }, kinds := [], alts := [], laidByText := true, laidKinds := [.data, .pinned], laidTests := true, laidLooks := .later }
def TraceLinesCardSaid : Prop := Claim7.holds Tryz.pinned (.plain (OpenSpec.ofChange traceLinesSpec)) traceLinesCard

/-- THE TIED CARD OF 'jobshelllaw49.TraceCovers'. -/
def traceCoversCard : Claim7 := { stood := { row := traceCoversRow, standIns := [], harness := (true, "20cafaaf86bde35a84ed3016b82574a590cf2b4ea1ac79059aa0b94f937eeffc"), looks := true }, kinds := [], alts := [], laidByText := true, laidKinds := [.data, .pinned], laidTests := true, laidLooks := .later }
def TraceCoversCardSaid : Prop := Claim7.holds Tryz.pinned (.plain (OpenSpec.ofChange traceCoversSpec)) traceCoversCard

/-- THE TIED CARD OF 'jobshelllaw49.TraceLineSets'. -/
def traceLineSetsCard : Claim7 := { stood := { row := traceLineSetsRow, standIns := [], harness := (true, "20cafaaf86bde35a84ed3016b82574a590cf2b4ea1ac79059aa0b94f937eeffc"), looks := true }, kinds := [], alts := [], laidByText := true, laidKinds := [.data, .pinned], laidTests := true, laidLooks := .later }
def TraceLineSetsCardSaid : Prop := Claim7.holds Tryz.pinned (.plain (OpenSpec.ofChange traceLineSetsSpec)) traceLineSetsCard

/-- THE TIED CARD OF 'jobshelllaw49.TraceReads'. -/
def traceReadsCard : Claim7 := { stood := { row := traceReadsRow, standIns := [], harness := (true, "20cafaaf86bde35a84ed3016b82574a590cf2b4ea1ac79059aa0b94f937eeffc"), looks := true }, kinds := [], alts := [], laidByText := true, laidKinds := [.data, .pinned], laidTests := true, laidLooks := .later }
def TraceReadsCardSaid : Prop := Claim7.holds Tryz.pinned (.plain (OpenSpec.ofChange traceReadsSpec)) traceReadsCard

/-- THE SECOND FORM's CARD OF 'jobshelllaw49.TraceLines'. -/
def traceLinesUptoCard : Claim7 := { stood := { row := traceLinesUptoRow, standIns := [], harness := (true, "20cafaaf86bde35a84ed3016b82574a590cf2b4ea1ac79059aa0b94f937eeffc"), looks := true }, kinds := [], alts := [], laidByText := true, laidKinds := [.data, .pinned], laidTests := true, laidLooks := .later }
def TraceLinesUptoCardSaid : Prop := Claim7.holds Tryz.pinned (.plain (OpenSpec.upto traceLinesSpec)) traceLinesUptoCard

/-- THE SECOND FORM's CARD OF 'jobshelllaw49.TraceCovers'. -/
def traceCoversUptoCard : Claim7 := { stood := { row := traceCoversUptoRow, standIns := [], harness := (true, "20cafaaf86bde35a84ed3016b82574a590cf2b4ea1ac79059aa0b94f937eeffc"), looks := true }, kinds := [], alts := [], laidByText := true, laidKinds := [.data, .pinned], laidTests := true, laidLooks := .later }
def TraceCoversUptoCardSaid : Prop := Claim7.holds Tryz.pinned (.plain (OpenSpec.upto traceCoversSpec)) traceCoversUptoCard

/-- THE SECOND FORM's CARD OF 'jobshelllaw49.TraceLineSets'. -/
def traceLineSetsUptoCard : Claim7 := { stood := { row := traceLineSetsUptoRow, standIns := [], harness := (true, "20cafaaf86bde35a84ed3016b82574a590cf2b4ea1ac79059aa0b94f937eeffc"), looks := true }, kinds := [], alts := [], laidByText := true, laidKinds := [.data, .pinned], laidTests := true, laidLooks := .later }
def TraceLineSetsUptoCardSaid : Prop := Claim7.holds Tryz.pinned (.plain (OpenSpec.upto traceLineSetsSpec)) traceLineSetsUptoCard

/-- THE SECOND FORM's CARD OF 'jobshelllaw49.TraceReads'. -/
def traceReadsUptoCard : Claim7 := { stood := { row := traceReadsUptoRow, standIns := [], harness := (true, "20cafaaf86bde35a84ed3016b82574a590cf2b4ea1ac79059aa0b94f937eeffc"), looks := true }, kinds := [], alts := [], laidByText := true, laidKinds := [.data, .pinned], laidTests := true, laidLooks := .later }
def TraceReadsUptoCardSaid : Prop := Claim7.holds Tryz.pinned (.plain (OpenSpec.upto traceReadsSpec)) traceReadsUptoCard
end Rows
end Go.Proofs.YtlhofngbhhdioaaGreatDoor
