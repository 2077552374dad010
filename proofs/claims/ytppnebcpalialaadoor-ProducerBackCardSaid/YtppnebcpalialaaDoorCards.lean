/-
  DERIVED. GIVEN WITH THE SEED: THE CARDS: each row of YtppnebcpalialaaDoorRows.lean that lists a variable, with what it lists TIED to the program's text (the seventh form; the later family's looks); each row that meets fmt, with fmt's text TOLD by the authors' own Lean function (tested against real Go, not proved from fmt's source: count such statements apart). THE CARD IS WHAT COUNTS. Prove the row's statement (the work); the ties are given (YtppnebcpalialaaDoorTie.lean); close each card by the builder's one call (the guide's Derived/Test/ToyasCard.lean, 'card_holds'). Laid BY PROGRAM, IN A SANDBOX (cutbox-door.mjs). By AI agents, Wed Nov 11 2026. No macro, syntax, notation, axiom, sorry.
-/
import Derived.Test.YtppnebcpalialaaDoorRows
import GoSem.ClaimSeven
namespace Go.Proofs.YtppnebcpalialaaDoor
namespace Rows

/-- THE TIED CARD OF 'erratalaw10.ProducerBack'. -/
def producerBackCard : Claim7 := { stood := { row := producerBackRow, standIns := [], harness := (true, "b1c11a8b8b5f69d6472b4cf300883bec0be75984a43a6cebebd263d8354db86c"), looks := true }, kinds := [], alts := [], laidByText := true, laidKinds := [.data, .data, .data, .sentinel, .sentinel], laidTests := true, laidLooks := .later }
def ProducerBackCardSaid : Prop := Claim7.holds Tryd.pinned (.plain (OpenSpec.ofChange producerBackSpec)) producerBackCard

/-- THE SECOND FORM's CARD OF 'erratalaw10.ProducerBack'. -/
def producerBackUptoCard : Claim7 := { stood := { row := producerBackUptoRow, standIns := [], harness := (true, "b1c11a8b8b5f69d6472b4cf300883bec0be75984a43a6cebebd263d8354db86c"), looks := true }, kinds := [], alts := [], laidByText := true, laidKinds := [.data, .data, .data, .sentinel, .sentinel], laidTests := true, laidLooks := .later }
def ProducerBackUptoCardSaid : Prop := Claim7.holds Tryd.pinned (.plain (OpenSpec.upto producerBackSpec)) producerBackUptoCard
end Rows
end Go.Proofs.YtppnebcpalialaaDoor
