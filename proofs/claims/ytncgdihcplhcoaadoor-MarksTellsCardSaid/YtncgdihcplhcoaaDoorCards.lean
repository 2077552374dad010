/-
  DERIVED. GIVEN WITH THE SEED: THE CARDS: each row of YtncgdihcplhcoaaDoorRows.lean that lists a variable, with what it lists TIED to the program's text (the seventh form; the later family's looks); each row that meets fmt, with fmt's text TOLD by the authors' own Lean function (tested against real Go, not proved from fmt's source: count such statements apart). THE CARD IS WHAT COUNTS. Prove the row's statement (the work); the ties are given (YtncgdihcplhcoaaDoorTie.lean); close each card by the builder's one call (the guide's Derived/Test/ToyasCard.lean, 'card_holds'). Laid BY PROGRAM, IN A SANDBOX (cutbox-door.mjs). By AI agents, Wed Nov 11 2026. No macro, syntax, notation, axiom, sorry.
-/
import Derived.Test.YtncgdihcplhcoaaDoorRows
import GoSem.ClaimSeven
namespace Go.Proofs.YtncgdihcplhcoaaDoor
namespace Rows

/-- THE TIED CARD OF 'erratalaw35.MarksBack'. -/
def marksBackCard : Claim7 := { stood := { row := marksBackRow, standIns := [], harness := (true, "2cf4e1fe85a70c3b081a8882a664507529ab93d209f1bfaded13282564ccb7f4"), looks := true }, kinds := [], alts := [], laidByText := true, laidKinds := [.data, .data, .data, .sentinel, .sentinel], laidTests := true, laidLooks := .later }
def MarksBackCardSaid : Prop := Claim7.holds Tryd.pinned (.plain (OpenSpec.ofChange marksBackSpec)) marksBackCard

/-- THE TIED CARD OF 'erratalaw35.MarksTells'. -/
def marksTellsCard : Claim7 := { stood := { row := marksTellsRow, standIns := [], harness := (true, "2cf4e1fe85a70c3b081a8882a664507529ab93d209f1bfaded13282564ccb7f4"), looks := true }, kinds := [], alts := [], laidByText := true, laidKinds := [.data, .data, .data, .sentinel, .sentinel], laidTests := true, laidLooks := .later }
def MarksTellsCardSaid : Prop := Claim7.holds Tryd.pinned (.plain (OpenSpec.ofChange marksTellsSpec)) marksTellsCard

/-- THE SECOND FORM's CARD OF 'erratalaw35.MarksBack'. -/
def marksBackUptoCard : Claim7 := { stood := { row := marksBackUptoRow, standIns := [], harness := (true, "2cf4e1fe85a70c3b081a8882a664507529ab93d209f1bfaded13282564ccb7f4"), looks := true }, kinds := [], alts := [], laidByText := true, laidKinds := [.data, .data, .data, .sentinel, .sentinel], laidTests := true, laidLooks := .later }
def MarksBackUptoCardSaid : Prop := Claim7.holds Tryd.pinned (.plain (OpenSpec.upto marksBackSpec)) marksBackUptoCard

/-- THE SECOND FORM's CARD OF 'erratalaw35.MarksTells'. -/
def marksTellsUptoCard : Claim7 := { stood := { row := marksTellsUptoRow, standIns := [], harness := (true, "2cf4e1fe85a70c3b081a8882a664507529ab93d209f1bfaded13282564ccb7f4"), looks := true }, kinds := [], alts := [], laidByText := true, laidKinds := [.data, .data, .data, .sentinel, .sentinel], laidTests := true, laidLooks := .later }
def MarksTellsUptoCardSaid : Prop := Claim7.holds Tryd.pinned (.plain (OpenSpec.upto marksTellsSpec)) marksTellsUptoCard
end Rows
end Go.Proofs.YtncgdihcplhcoaaDoor
