/-
  DERIVED. GIVEN WITH THE SEED: THE CARDS: each row of YtmllhipiahlihaaDoorRows.lean that lists a variable, with what it lists TIED to the program's text (the seventh form; the later family's looks); each row that meets fmt, with fmt's text TOLD by the authors' own Lean function (tested against real Go, not proved from fmt's source: count such statements apart). THE CARD IS WHAT COUNTS. Prove the row's statement (the work); the ties are given (YtmllhipiahlihaaDoorTie.lean); close each card by the builder's one call (the guide's Derived/Test/ToyasCard.lean, 'card_holds'). Laid BY PROGRAM, IN A SANDBOX (cutbox-door.mjs). By AI agents, Wed Nov 11 2026. No macro, syntax, notation, axiom, sorry.
-/
import Derived.Test.YtmllhipiahlihaaDoorRows
import GoSem.ClaimSeven
namespace Go.Proofs.YtmllhipiahlihaaDoor
namespace Rows

/-- THE TIED CARD OF 'erratalaw12.RetainBack'. -/
def retainBackCard : Claim7 := { stood := { row := retainBackRow, standIns := [], harness := (true, "a08907376e03bd832691cd8928aa53cfcfed3cab75e2aa38f2586463b04f5172"), looks := true }, kinds := [], alts := [], laidByText := true, laidKinds := [.data, .data, .data, .sentinel, .sentinel], laidTests := true, laidLooks := .later }
def RetainBackCardSaid : Prop := Claim7.holds Tryd.pinned (.plain (OpenSpec.ofChange retainBackSpec)) retainBackCard

/-- THE SECOND FORM's CARD OF 'erratalaw12.RetainBack'. -/
def retainBackUptoCard : Claim7 := { stood := { row := retainBackUptoRow, standIns := [], harness := (true, "a08907376e03bd832691cd8928aa53cfcfed3cab75e2aa38f2586463b04f5172"), looks := true }, kinds := [], alts := [], laidByText := true, laidKinds := [.data, .data, .data, .sentinel, .sentinel], laidTests := true, laidLooks := .later }
def RetainBackUptoCardSaid : Prop := Claim7.holds Tryd.pinned (.plain (OpenSpec.upto retainBackSpec)) retainBackUptoCard
end Rows
end Go.Proofs.YtmllhipiahlihaaDoor
