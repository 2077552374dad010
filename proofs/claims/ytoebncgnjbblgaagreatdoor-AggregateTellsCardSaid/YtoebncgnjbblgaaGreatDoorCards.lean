/-
  DERIVED. GIVEN WITH THE SEED: THE CARDS: each row of YtoebncgnjbblgaaGreatDoorRows.lean that lists a variable, with what it lists TIED to the program's text (the seventh form; the later family's looks); each row that meets fmt, with fmt's text TOLD by the authors' own Lean function (tested against real Go, not proved from fmt's source: count such statements apart). THE CARD IS WHAT COUNTS. Prove the row's statement (the work); the ties are given (YtoebncgnjbblgaaGreatDoorTie.lean); close each card by the builder's one call (the guide's Derived/Test/ToyasCard.lean, 'card_holds'). Laid BY PROGRAM, IN A SANDBOX (cutbox-door.mjs). By AI agents, Wed Nov 11 2026. No macro, syntax, notation, axiom, sorry.
-/
import Derived.Test.YtoebncgnjbblgaaGreatDoorRows
import GoSem.ClaimSeven
namespace Go.Proofs.YtoebncgnjbblgaaGreatDoor
namespace Rows

/-- THE TIED CARD OF 'erratalaw30.AggregateBack'. -/
def aggregateBackCard : Claim7 := { stood := { row := aggregateBackRow, standIns := [], harness := (true, "dce165ff84c077672bba48ab3551d009e97255d070de0d7c751c09b7b92a7c5c"), looks := true }, kinds := [], alts := [], laidByText := true, laidKinds := [.data, .data, .data, .sentinel, .sentinel], laidTests := true, laidLooks := .later }
def AggregateBackCardSaid : Prop := Claim7.holds Tryz.pinned (.plain (OpenSpec.ofChange aggregateBackSpec)) aggregateBackCard

/-- THE TIED CARD OF 'erratalaw30.AggregateTells'. -/
def aggregateTellsCard : Claim7 := { stood := { row := aggregateTellsRow, standIns := [], harness := (true, "dce165ff84c077672bba48ab3551d009e97255d070de0d7c751c09b7b92a7c5c"), looks := true }, kinds := [], alts := [], laidByText := true, laidKinds := [.data, .data, .data, .sentinel, .sentinel], laidTests := true, laidLooks := .later }
def AggregateTellsCardSaid : Prop := Claim7.holds Tryz.pinned (.plain (OpenSpec.ofChange aggregateTellsSpec)) aggregateTellsCard

/-- THE SECOND FORM's CARD OF 'erratalaw30.AggregateBack'. -/
def aggregateBackUptoCard : Claim7 := { stood := { row := aggregateBackUptoRow, standIns := [], harness := (true, "dce165ff84c077672bba48ab3551d009e97255d070de0d7c751c09b7b92a7c5c"), looks := true }, kinds := [], alts := [], laidByText := true, laidKinds := [.data, .data, .data, .sentinel, .sentinel], laidTests := true, laidLooks := .later }
def AggregateBackUptoCardSaid : Prop := Claim7.holds Tryz.pinned (.plain (OpenSpec.upto aggregateBackSpec)) aggregateBackUptoCard

/-- THE SECOND FORM's CARD OF 'erratalaw30.AggregateTells'. -/
def aggregateTellsUptoCard : Claim7 := { stood := { row := aggregateTellsUptoRow, standIns := [], harness := (true, "dce165ff84c077672bba48ab3551d009e97255d070de0d7c751c09b7b92a7c5c"), looks := true }, kinds := [], alts := [], laidByText := true, laidKinds := [.data, .data, .data, .sentinel, .sentinel], laidTests := true, laidLooks := .later }
def AggregateTellsUptoCardSaid : Prop := Claim7.holds Tryz.pinned (.plain (OpenSpec.upto aggregateTellsSpec)) aggregateTellsUptoCard
end Rows
end Go.Proofs.YtoebncgnjbblgaaGreatDoor
