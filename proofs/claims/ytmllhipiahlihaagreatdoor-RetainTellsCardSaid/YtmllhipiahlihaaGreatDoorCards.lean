/-
  DERIVED. GIVEN WITH THE SEED: THE CARDS: each row of YtmllhipiahlihaaGreatDoorRows.lean that lists a variable, with what it lists TIED to the program's text (the seventh form; the later family's looks); each row that meets fmt, with fmt's text TOLD by the authors' own Lean function (tested against real Go, not proved from fmt's source: count such statements apart). THE CARD IS WHAT COUNTS. Prove the row's statement (the work); the ties are given (YtmllhipiahlihaaGreatDoorTie.lean); close each card by the builder's one call (the guide's Derived/Test/ToyasCard.lean, 'card_holds'). Laid BY PROGRAM, IN A SANDBOX (cutbox-door.mjs). By AI agents, Wed Nov 11 2026. No macro, syntax, notation, axiom, sorry.
-/
import Derived.Test.YtmllhipiahlihaaGreatDoorRows
import GoSem.ClaimSeven
namespace Go.Proofs.YtmllhipiahlihaaGreatDoor
namespace Rows

/-- THE TIED CARD OF 'erratalaw12.RetainTells'. -/
def retainTellsCard : Claim7 := { stood := { row := retainTellsRow, standIns := [], harness := (true, "257fd36618548588f15d86ee1bf4c8144923d2286631e8117b6a1232f97bb2e9"), looks := true }, kinds := [], alts := [], laidByText := true, laidKinds := [.data, .data, .data, .sentinel, .sentinel], laidTests := true, laidLooks := .later }
def RetainTellsCardSaid : Prop := Claim7.holds Tryz.pinned (.plain (OpenSpec.ofChange retainTellsSpec)) retainTellsCard

/-- THE SECOND FORM's CARD OF 'erratalaw12.RetainTells'. -/
def retainTellsUptoCard : Claim7 := { stood := { row := retainTellsUptoRow, standIns := [], harness := (true, "257fd36618548588f15d86ee1bf4c8144923d2286631e8117b6a1232f97bb2e9"), looks := true }, kinds := [], alts := [], laidByText := true, laidKinds := [.data, .data, .data, .sentinel, .sentinel], laidTests := true, laidLooks := .later }
def RetainTellsUptoCardSaid : Prop := Claim7.holds Tryz.pinned (.plain (OpenSpec.upto retainTellsSpec)) retainTellsUptoCard
end Rows
end Go.Proofs.YtmllhipiahlihaaGreatDoor
