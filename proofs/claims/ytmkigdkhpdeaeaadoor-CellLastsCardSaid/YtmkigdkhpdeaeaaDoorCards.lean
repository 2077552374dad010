/-
  DERIVED. GIVEN WITH THE SEED: THE CARDS: each row of YtmkigdkhpdeaeaaDoorRows.lean that lists a variable, with what it lists TIED to the program's text (the seventh form; the later family's looks); each row that meets fmt, with fmt's text TOLD by the authors' own Lean function (tested against real Go, not proved from fmt's source: count such statements apart). THE CARD IS WHAT COUNTS. Prove the row's statement (the work); the ties are given (YtmkigdkhpdeaeaaDoorTie.lean); close each card by the builder's one call (the guide's Derived/Test/ToyasCard.lean, 'card_holds'). Laid BY PROGRAM, IN A SANDBOX (cutbox-door.mjs). By AI agents, Wed Nov 11 2026. No macro, syntax, notation, axiom, sorry.
-/
import Derived.Test.YtmkigdkhpdeaeaaDoorRows
import GoSem.ClaimSeven
namespace Go.Proofs.YtmkigdkhpdeaeaaDoor
namespace Rows

/-- THE TIED CARD OF 'erratalaw05.CellReads'. -/
def cellReadsCard : Claim7 := { stood := { row := cellReadsRow, standIns := [], harness := (true, "197f72fd0a5809e01d2b6fa0eea506052ba43572aee109232c7e2004264ef3e9"), looks := false }, kinds := [], alts := [], laidByText := true, laidKinds := [.data], laidTests := true, laidLooks := .later }
def CellReadsCardSaid : Prop := Claim7.holds Tryd.pinned (.plain (OpenSpec.ofChange cellReadsSpec)) cellReadsCard

/-- THE TIED CARD OF 'erratalaw05.CellStays'. -/
def cellStaysCard : Claim7 := { stood := { row := cellStaysRow, standIns := [], harness := (true, "197f72fd0a5809e01d2b6fa0eea506052ba43572aee109232c7e2004264ef3e9"), looks := false }, kinds := [], alts := [], laidByText := true, laidKinds := [.data], laidTests := true, laidLooks := .later }
def CellStaysCardSaid : Prop := Claim7.holds Tryd.pinned (.plain (OpenSpec.ofChange cellStaysSpec)) cellStaysCard

/-- THE TIED CARD OF 'erratalaw05.CellApart'. -/
def cellApartCard : Claim7 := { stood := { row := cellApartRow, standIns := [], harness := (true, "197f72fd0a5809e01d2b6fa0eea506052ba43572aee109232c7e2004264ef3e9"), looks := false }, kinds := [], alts := [], laidByText := true, laidKinds := [.data], laidTests := true, laidLooks := .later }
def CellApartCardSaid : Prop := Claim7.holds Tryd.pinned (.plain (OpenSpec.ofChange cellApartSpec)) cellApartCard

/-- THE TIED CARD OF 'erratalaw05.CellLasts'. -/
def cellLastsCard : Claim7 := { stood := { row := cellLastsRow, standIns := [], harness := (true, "197f72fd0a5809e01d2b6fa0eea506052ba43572aee109232c7e2004264ef3e9"), looks := false }, kinds := [], alts := [], laidByText := true, laidKinds := [.data], laidTests := true, laidLooks := .later }
def CellLastsCardSaid : Prop := Claim7.holds Tryd.pinned (.plain (OpenSpec.ofChange cellLastsSpec)) cellLastsCard

/-- THE TIED CARD OF 'erratalaw05.CellTells'. -/
def cellTellsCard : Claim7 := { stood := { row := cellTellsRow, standIns := [], harness := (true, "197f72fd0a5809e01d2b6fa0eea506052ba43572aee109232c7e2004264ef3e9"), looks := false }, kinds := [], alts := [], laidByText := true, laidKinds := [.data], laidTests := true, laidLooks := .later }
def CellTellsCardSaid : Prop := Claim7.holds Tryd.pinned (.plain (OpenSpec.ofChange cellTellsSpec)) cellTellsCard

/-- THE SECOND FORM's CARD OF 'erratalaw05.CellReads'. -/
def cellReadsUptoCard : Claim7 := { stood := { row := cellReadsUptoRow, standIns := [], harness := (true, "197f72fd0a5809e01d2b6fa0eea506052ba43572aee109232c7e2004264ef3e9"), looks := false }, kinds := [], alts := [], laidByText := true, laidKinds := [.data], laidTests := true, laidLooks := .later }
def CellReadsUptoCardSaid : Prop := Claim7.holds Tryd.pinned (.plain (OpenSpec.upto cellReadsSpec)) cellReadsUptoCard

/-- THE SECOND FORM's CARD OF 'erratalaw05.CellStays'. -/
def cellStaysUptoCard : Claim7 := { stood := { row := cellStaysUptoRow, standIns := [], harness := (true, "197f72fd0a5809e01d2b6fa0eea506052ba43572aee109232c7e2004264ef3e9"), looks := false }, kinds := [], alts := [], laidByText := true, laidKinds := [.data], laidTests := true, laidLooks := .later }
def CellStaysUptoCardSaid : Prop := Claim7.holds Tryd.pinned (.plain (OpenSpec.upto cellStaysSpec)) cellStaysUptoCard

/-- THE SECOND FORM's CARD OF 'erratalaw05.CellApart'. -/
def cellApartUptoCard : Claim7 := { stood := { row := cellApartUptoRow, standIns := [], harness := (true, "197f72fd0a5809e01d2b6fa0eea506052ba43572aee109232c7e2004264ef3e9"), looks := false }, kinds := [], alts := [], laidByText := true, laidKinds := [.data], laidTests := true, laidLooks := .later }
def CellApartUptoCardSaid : Prop := Claim7.holds Tryd.pinned (.plain (OpenSpec.upto cellApartSpec)) cellApartUptoCard

/-- THE SECOND FORM's CARD OF 'erratalaw05.CellLasts'. -/
def cellLastsUptoCard : Claim7 := { stood := { row := cellLastsUptoRow, standIns := [], harness := (true, "197f72fd0a5809e01d2b6fa0eea506052ba43572aee109232c7e2004264ef3e9"), looks := false }, kinds := [], alts := [], laidByText := true, laidKinds := [.data], laidTests := true, laidLooks := .later }
def CellLastsUptoCardSaid : Prop := Claim7.holds Tryd.pinned (.plain (OpenSpec.upto cellLastsSpec)) cellLastsUptoCard

/-- THE SECOND FORM's CARD OF 'erratalaw05.CellTells'. -/
def cellTellsUptoCard : Claim7 := { stood := { row := cellTellsUptoRow, standIns := [], harness := (true, "197f72fd0a5809e01d2b6fa0eea506052ba43572aee109232c7e2004264ef3e9"), looks := false }, kinds := [], alts := [], laidByText := true, laidKinds := [.data], laidTests := true, laidLooks := .later }
def CellTellsUptoCardSaid : Prop := Claim7.holds Tryd.pinned (.plain (OpenSpec.upto cellTellsSpec)) cellTellsUptoCard
end Rows
end Go.Proofs.YtmkigdkhpdeaeaaDoor
