/-
  DERIVED. GIVEN WITH THE SEED: THE CARDS: each row of YtngbebnhegcokaaGreatDoorRows.lean that lists a variable, with what it lists TIED to the program's text (the seventh form; the later family's looks); each row that meets fmt, with fmt's text TOLD by the authors' own Lean function (tested against real Go, not proved from fmt's source: count such statements apart). THE CARD IS WHAT COUNTS. Prove the row's statement (the work); the ties are given (YtngbebnhegcokaaGreatDoorTie.lean); close each card by the builder's one call (the guide's Derived/Test/ToyasCard.lean, 'card_holds'). Laid BY PROGRAM, IN A SANDBOX (cutbox-door.mjs). By AI agents, Wed Nov 11 2026. No macro, syntax, notation, axiom, sorry.
-/
import Derived.Test.YtngbebnhegcokaaGreatDoorRows
import GoSem.ClaimSeven
namespace Go.Proofs.YtngbebnhegcokaaGreatDoor
namespace Rows

/-- THE TIED CARD OF 'erratatop.TopLogs'. -/
def topLogsCard : Claim7 := { stood := { row := topLogsRow, standIns := [], harness := (true, "1b8f0346ce8f6bf06badd04c7bd9b7104d33fd1cebe2ce19b71ddf1fefc63ff4"), looks := true }, kinds := [], alts := [], laidByText := true, laidKinds := [.data, .data, .data, .data, .sentinel, .sentinel], laidTests := true, laidLooks := .later }
def TopLogsCardSaid : Prop := Claim7.holds Tryz.pinned (.plain (OpenSpec.ofChange topLogsSpec)) topLogsCard

/-- THE TIED CARD OF 'erratatop.TopRetained'. -/
def topRetainedCard : Claim7 := { stood := { row := topRetainedRow, standIns := [], harness := (true, "1b8f0346ce8f6bf06badd04c7bd9b7104d33fd1cebe2ce19b71ddf1fefc63ff4"), looks := true }, kinds := [], alts := [], laidByText := true, laidKinds := [.data, .data, .data, .data, .sentinel, .sentinel], laidTests := true, laidLooks := .later }
def TopRetainedCardSaid : Prop := Claim7.holds Tryz.pinned (.plain (OpenSpec.ofChange topRetainedSpec)) topRetainedCard

/-- THE SECOND FORM's CARD OF 'erratatop.TopLogs'. -/
def topLogsUptoCard : Claim7 := { stood := { row := topLogsUptoRow, standIns := [], harness := (true, "1b8f0346ce8f6bf06badd04c7bd9b7104d33fd1cebe2ce19b71ddf1fefc63ff4"), looks := true }, kinds := [], alts := [], laidByText := true, laidKinds := [.data, .data, .data, .data, .sentinel, .sentinel], laidTests := true, laidLooks := .later }
def TopLogsUptoCardSaid : Prop := Claim7.holds Tryz.pinned (.plain (OpenSpec.upto topLogsSpec)) topLogsUptoCard

/-- THE SECOND FORM's CARD OF 'erratatop.TopRetained'. -/
def topRetainedUptoCard : Claim7 := { stood := { row := topRetainedUptoRow, standIns := [], harness := (true, "1b8f0346ce8f6bf06badd04c7bd9b7104d33fd1cebe2ce19b71ddf1fefc63ff4"), looks := true }, kinds := [], alts := [], laidByText := true, laidKinds := [.data, .data, .data, .data, .sentinel, .sentinel], laidTests := true, laidLooks := .later }
def TopRetainedUptoCardSaid : Prop := Claim7.holds Tryz.pinned (.plain (OpenSpec.upto topRetainedSpec)) topRetainedUptoCard
end Rows
end Go.Proofs.YtngbebnhegcokaaGreatDoor
