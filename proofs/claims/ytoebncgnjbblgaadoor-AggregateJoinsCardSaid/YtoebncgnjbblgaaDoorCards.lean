/-
  DERIVED. GIVEN WITH THE SEED: THE CARDS: each row of YtoebncgnjbblgaaDoorRows.lean that lists a variable, with what it lists TIED to the program's text (the seventh form; the later family's looks); each row that meets fmt, with fmt's text TOLD by the authors' own Lean function (tested against real Go, not proved from fmt's source: count such statements apart). THE CARD IS WHAT COUNTS. Prove the row's statement (the work); the ties are given (YtoebncgnjbblgaaDoorTie.lean); close each card by the builder's one call (the guide's Derived/Test/ToyasCard.lean, 'card_holds'). Laid BY PROGRAM, IN A SANDBOX (cutbox-door.mjs). By AI agents, Wed Nov 11 2026. No macro, syntax, notation, axiom, sorry.
-/
import Derived.Test.YtoebncgnjbblgaaDoorRows
import GoSem.ClaimSeven
namespace Go.Proofs.YtoebncgnjbblgaaDoor
namespace Rows

/-- THE TIED CARD OF 'erratalaw30.AggregateSums'. -/
def aggregateSumsCard : Claim7 := { stood := { row := aggregateSumsRow, standIns := [], harness := (true, "e3114cf8de30b9953d8de2d010df3dff740958e8911a118b1baf3dba1dd343d6"), looks := true }, kinds := [], alts := [], laidByText := true, laidKinds := [.data, .data, .data], laidTests := true, laidLooks := .later }
def AggregateSumsCardSaid : Prop := Claim7.holds Tryd.pinned (.plain (OpenSpec.ofChange aggregateSumsSpec)) aggregateSumsCard

/-- THE TIED CARD OF 'erratalaw30.AggregateJoins'. -/
def aggregateJoinsCard : Claim7 := { stood := { row := aggregateJoinsRow, standIns := [], harness := (true, "e3114cf8de30b9953d8de2d010df3dff740958e8911a118b1baf3dba1dd343d6"), looks := true }, kinds := [], alts := [], laidByText := true, laidKinds := [.data, .data, .data], laidTests := true, laidLooks := .later }
def AggregateJoinsCardSaid : Prop := Claim7.holds Tryd.pinned (.plain (OpenSpec.ofChange aggregateJoinsSpec)) aggregateJoinsCard

/-- THE SECOND FORM's CARD OF 'erratalaw30.AggregateSums'. -/
def aggregateSumsUptoCard : Claim7 := { stood := { row := aggregateSumsUptoRow, standIns := [], harness := (true, "e3114cf8de30b9953d8de2d010df3dff740958e8911a118b1baf3dba1dd343d6"), looks := true }, kinds := [], alts := [], laidByText := true, laidKinds := [.data, .data, .data], laidTests := true, laidLooks := .later }
def AggregateSumsUptoCardSaid : Prop := Claim7.holds Tryd.pinned (.plain (OpenSpec.upto aggregateSumsSpec)) aggregateSumsUptoCard

/-- THE SECOND FORM's CARD OF 'erratalaw30.AggregateJoins'. -/
def aggregateJoinsUptoCard : Claim7 := { stood := { row := aggregateJoinsUptoRow, standIns := [], harness := (true, "e3114cf8de30b9953d8de2d010df3dff740958e8911a118b1baf3dba1dd343d6"), looks := true }, kinds := [], alts := [], laidByText := true, laidKinds := [.data, .data, .data], laidTests := true, laidLooks := .later }
def AggregateJoinsUptoCardSaid : Prop := Claim7.holds Tryd.pinned (.plain (OpenSpec.upto aggregateJoinsSpec)) aggregateJoinsUptoCard
end Rows
end Go.Proofs.YtoebncgnjbblgaaDoor
