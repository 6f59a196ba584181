/-
  DERIVED. GIVEN WITH THE SEED: THE CARDS: each row of YtchgkmdonhdfeaaGreatDoorRows.lean that lists a variable, with what it lists TIED to the program's text (the seventh form; the later family's looks); each row that meets fmt, with fmt's text TOLD by the authors' own Lean function (tested against real Go, not proved from fmt's source: count such statements apart). THE CARD IS WHAT COUNTS. Prove the row's statement (the work); the ties are given (YtchgkmdonhdfeaaGreatDoorTie.lean); close each card by the builder's one call (the guide's Derived/Test/ToyasCard.lean, 'card_holds'). Laid BY PROGRAM, IN A SANDBOX (cutbox-door.mjs). By AI agents, Wed Nov 11 2026. No macro, syntax, notation, axiom, sorry.
-/
import Derived.Test.YtchgkmdonhdfeaaGreatDoorRows
import GoSem.ClaimSeven
namespace Go.Proofs.YtchgkmdonhdfeaaGreatDoor
namespace Rows

/-- THE TIED CARD OF 'phasorlaw15.StabStates'. -/
def stabStatesCard : Claim7 := { stood := { row := stabStatesRow, standIns := [], harness := (true, "f4842fdd7e5b252000feaa2152bd1b86e34d53e2d1922c831771916dab8d8a7c"), looks := false }, kinds := [], alts := [], laidByText := true, laidKinds := [.data], laidTests := true, laidLooks := .later }
def StabStatesCardSaid : Prop := Claim7.holds Tryz.pinned (.plain (OpenSpec.ofChange stabStatesSpec)) stabStatesCard

/-- THE TIED CARD OF 'phasorlaw15.StabRuns'. -/
def stabRunsCard : Claim7 := { stood := { row := stabRunsRow, standIns := [], harness := (true, "f4842fdd7e5b252000feaa2152bd1b86e34d53e2d1922c831771916dab8d8a7c"), looks := false }, kinds := [], alts := [], laidByText := true, laidKinds := [.data], laidTests := true, laidLooks := .later }
def StabRunsCardSaid : Prop := Claim7.holds Tryz.pinned (.plain (OpenSpec.ofChange stabRunsSpec)) stabRunsCard

/-- THE TIED CARD OF 'phasorlaw15.StabSteps'. -/
def stabStepsCard : Claim7 := { stood := { row := stabStepsRow, standIns := [], harness := (true, "f4842fdd7e5b252000feaa2152bd1b86e34d53e2d1922c831771916dab8d8a7c"), looks := false }, kinds := [], alts := [], laidByText := true, laidKinds := [.data], laidTests := true, laidLooks := .later }
def StabStepsCardSaid : Prop := Claim7.holds Tryz.pinned (.plain (OpenSpec.ofChange stabStepsSpec)) stabStepsCard

/-- THE SECOND FORM's CARD OF 'phasorlaw15.StabStates'. -/
def stabStatesUptoCard : Claim7 := { stood := { row := stabStatesUptoRow, standIns := [], harness := (true, "f4842fdd7e5b252000feaa2152bd1b86e34d53e2d1922c831771916dab8d8a7c"), looks := false }, kinds := [], alts := [], laidByText := true, laidKinds := [.data], laidTests := true, laidLooks := .later }
def StabStatesUptoCardSaid : Prop := Claim7.holds Tryz.pinned (.plain (OpenSpec.upto stabStatesSpec)) stabStatesUptoCard

/-- THE SECOND FORM's CARD OF 'phasorlaw15.StabRuns'. -/
def stabRunsUptoCard : Claim7 := { stood := { row := stabRunsUptoRow, standIns := [], harness := (true, "f4842fdd7e5b252000feaa2152bd1b86e34d53e2d1922c831771916dab8d8a7c"), looks := false }, kinds := [], alts := [], laidByText := true, laidKinds := [.data], laidTests := true, laidLooks := .later }
def StabRunsUptoCardSaid : Prop := Claim7.holds Tryz.pinned (.plain (OpenSpec.upto stabRunsSpec)) stabRunsUptoCard

/-- THE SECOND FORM's CARD OF 'phasorlaw15.StabSteps'. -/
def stabStepsUptoCard : Claim7 := { stood := { row := stabStepsUptoRow, standIns := [], harness := (true, "f4842fdd7e5b252000feaa2152bd1b86e34d53e2d1922c831771916dab8d8a7c"), looks := false }, kinds := [], alts := [], laidByText := true, laidKinds := [.data], laidTests := true, laidLooks := .later }
def StabStepsUptoCardSaid : Prop := Claim7.holds Tryz.pinned (.plain (OpenSpec.upto stabStepsSpec)) stabStepsUptoCard
end Rows
end Go.Proofs.YtchgkmdonhdfeaaGreatDoor
