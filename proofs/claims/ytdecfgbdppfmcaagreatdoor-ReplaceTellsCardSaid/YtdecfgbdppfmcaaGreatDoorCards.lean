/-
  DERIVED. GIVEN WITH THE SEED: THE CARDS: each row of YtdecfgbdppfmcaaGreatDoorRows.lean that lists a variable, with what it lists TIED to the program's text (the seventh form; the later family's looks); each row that meets fmt, with fmt's text TOLD by the authors' own Lean function (tested against real Go, not proved from fmt's source: count such statements apart). THE CARD IS WHAT COUNTS. Prove the row's statement (the work); the ties are given (YtdecfgbdppfmcaaGreatDoorTie.lean); close each card by the builder's one call (the guide's Derived/Test/ToyasCard.lean, 'card_holds'). Laid BY PROGRAM, IN A SANDBOX (cutbox-door.mjs). By AI agents, Wed Nov 11 2026. No macro, syntax, notation, axiom, sorry.
-/
import Derived.Test.YtdecfgbdppfmcaaGreatDoorRows
import GoSem.ClaimSeven
namespace Go.Proofs.YtdecfgbdppfmcaaGreatDoor
namespace Rows

/-- THE TIED CARD OF 'erratalaw47.ReplaceTells'. -/
def replaceTellsCard : Claim7 := { stood := { row := replaceTellsRow, standIns := [], harness := (true, "b4025f6d1e97db27978b3f138681255136d700880f81169b44d0e10985c1f2d9"), looks := true }, kinds := [], alts := [], laidByText := true, laidKinds := [.data, .data, .data, .sentinel, .sentinel], laidTests := true, laidLooks := .later }
def ReplaceTellsCardSaid : Prop := Claim7.holds Tryz.pinned (.plain (OpenSpec.ofChange replaceTellsSpec)) replaceTellsCard

/-- THE SECOND FORM's CARD OF 'erratalaw47.ReplaceTells'. -/
def replaceTellsUptoCard : Claim7 := { stood := { row := replaceTellsUptoRow, standIns := [], harness := (true, "b4025f6d1e97db27978b3f138681255136d700880f81169b44d0e10985c1f2d9"), looks := true }, kinds := [], alts := [], laidByText := true, laidKinds := [.data, .data, .data, .sentinel, .sentinel], laidTests := true, laidLooks := .later }
def ReplaceTellsUptoCardSaid : Prop := Claim7.holds Tryz.pinned (.plain (OpenSpec.upto replaceTellsSpec)) replaceTellsUptoCard
end Rows
end Go.Proofs.YtdecfgbdppfmcaaGreatDoor
