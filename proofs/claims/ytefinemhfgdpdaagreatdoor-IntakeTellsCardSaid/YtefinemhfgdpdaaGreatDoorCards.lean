/-
  DERIVED. GIVEN WITH THE SEED: THE CARDS: each row of YtefinemhfgdpdaaGreatDoorRows.lean that lists a variable, with what it lists TIED to the program's text (the seventh form; the later family's looks); each row that meets fmt, with fmt's text TOLD by the authors' own Lean function (tested against real Go, not proved from fmt's source: count such statements apart). THE CARD IS WHAT COUNTS. Prove the row's statement (the work); the ties are given (YtefinemhfgdpdaaGreatDoorTie.lean); close each card by the builder's one call (the guide's Derived/Test/ToyasCard.lean, 'card_holds'). Laid BY PROGRAM, IN A SANDBOX (cutbox-door.mjs). By AI agents, Wed Nov 11 2026. No macro, syntax, notation, axiom, sorry.
-/
import Derived.Test.YtefinemhfgdpdaaGreatDoorRows
import GoSem.ClaimSeven
namespace Go.Proofs.YtefinemhfgdpdaaGreatDoor
namespace Rows

/-- THE TIED CARD OF 'erratalaw11.IntakeTells'. -/
def intakeTellsCard : Claim7 := { stood := { row := intakeTellsRow, standIns := [], harness := (true, "fc999533d4bf91d3a0b2ee9652947bc1e3a77adad3e8385e1a5ad93114a62b83"), looks := true }, kinds := [], alts := [], laidByText := true, laidKinds := [.data, .data, .data], laidTests := true, laidLooks := .later }
def IntakeTellsCardSaid : Prop := Claim7.holds Tryz.pinned (.plain (OpenSpec.ofChange intakeTellsSpec)) intakeTellsCard

/-- THE TIED CARD OF 'erratalaw11.IntakeBack'. -/
def intakeBackCard : Claim7 := { stood := { row := intakeBackRow, standIns := [], harness := (true, "fc999533d4bf91d3a0b2ee9652947bc1e3a77adad3e8385e1a5ad93114a62b83"), looks := true }, kinds := [], alts := [], laidByText := true, laidKinds := [.data, .data, .data, .sentinel, .sentinel], laidTests := true, laidLooks := .later }
def IntakeBackCardSaid : Prop := Claim7.holds Tryz.pinned (.plain (OpenSpec.ofChange intakeBackSpec)) intakeBackCard

/-- THE TIED CARD OF 'erratalaw11.IntakeRefuses'. -/
def intakeRefusesCard : Claim7 := { stood := { row := intakeRefusesRow, standIns := [], harness := (true, "fc999533d4bf91d3a0b2ee9652947bc1e3a77adad3e8385e1a5ad93114a62b83"), looks := true }, kinds := [], alts := [], laidByText := true, laidKinds := [.data, .data, .data, .sentinel, .sentinel], laidTests := true, laidLooks := .later }
def IntakeRefusesCardSaid : Prop := Claim7.holds Tryz.pinned (.plain (OpenSpec.ofChange intakeRefusesSpec)) intakeRefusesCard

/-- THE SECOND FORM's CARD OF 'erratalaw11.IntakeTells'. -/
def intakeTellsUptoCard : Claim7 := { stood := { row := intakeTellsUptoRow, standIns := [], harness := (true, "fc999533d4bf91d3a0b2ee9652947bc1e3a77adad3e8385e1a5ad93114a62b83"), looks := true }, kinds := [], alts := [], laidByText := true, laidKinds := [.data, .data, .data], laidTests := true, laidLooks := .later }
def IntakeTellsUptoCardSaid : Prop := Claim7.holds Tryz.pinned (.plain (OpenSpec.upto intakeTellsSpec)) intakeTellsUptoCard

/-- THE SECOND FORM's CARD OF 'erratalaw11.IntakeBack'. -/
def intakeBackUptoCard : Claim7 := { stood := { row := intakeBackUptoRow, standIns := [], harness := (true, "fc999533d4bf91d3a0b2ee9652947bc1e3a77adad3e8385e1a5ad93114a62b83"), looks := true }, kinds := [], alts := [], laidByText := true, laidKinds := [.data, .data, .data, .sentinel, .sentinel], laidTests := true, laidLooks := .later }
def IntakeBackUptoCardSaid : Prop := Claim7.holds Tryz.pinned (.plain (OpenSpec.upto intakeBackSpec)) intakeBackUptoCard

/-- THE SECOND FORM's CARD OF 'erratalaw11.IntakeRefuses'. -/
def intakeRefusesUptoCard : Claim7 := { stood := { row := intakeRefusesUptoRow, standIns := [], harness := (true, "fc999533d4bf91d3a0b2ee9652947bc1e3a77adad3e8385e1a5ad93114a62b83"), looks := true }, kinds := [], alts := [], laidByText := true, laidKinds := [.data, .data, .data, .sentinel, .sentinel], laidTests := true, laidLooks := .later }
def IntakeRefusesUptoCardSaid : Prop := Claim7.holds Tryz.pinned (.plain (OpenSpec.upto intakeRefusesSpec)) intakeRefusesUptoCard
end Rows
end Go.Proofs.YtefinemhfgdpdaaGreatDoor
