/-
  DERIVED. GIVEN WITH THE SEED: THE CARDS: each row of YtdlkmjkonpijgaaDoorRows.lean that lists a variable, with what it lists TIED to the program's text (the seventh form; the later family's looks); each row that meets fmt, with fmt's text TOLD by the authors' own Lean function (tested against real Go, not proved from fmt's source: count such statements apart). THE CARD IS WHAT COUNTS. Prove the row's statement (the work); the ties are given (YtdlkmjkonpijgaaDoorTie.lean); close each card by the builder's one call (the guide's Derived/Test/ToyasCard.lean, 'card_holds'). Laid BY PROGRAM, IN A SANDBOX (cutbox-door.mjs). By AI agents, Wed Nov 11 2026. No macro, syntax, notation, axiom, sorry.
-/
import Derived.Test.YtdlkmjkonpijgaaDoorRows
import GoSem.ClaimSeven
namespace Go.Proofs.YtdlkmjkonpijgaaDoor
namespace Rows

/-- THE TIED CARD OF 'phasorlaw15.StabNobody'. -/
def stabNobodyCard : Claim7 := { stood := { row := stabNobodyRow, standIns := [], harness := (true, "ffd38e6efad3246074af4013d493985e9f501d1978e07f734671bca0f1f0fe51"), looks := false }, kinds := [], alts := [], laidByText := true, laidKinds := [.data], laidTests := true, laidLooks := .later }
def StabNobodyCardSaid : Prop := Claim7.holds Tryd.pinned (.plain (OpenSpec.ofChange stabNobodySpec)) stabNobodyCard

/-- THE SECOND FORM's CARD OF 'phasorlaw15.StabNobody'. -/
def stabNobodyUptoCard : Claim7 := { stood := { row := stabNobodyUptoRow, standIns := [], harness := (true, "ffd38e6efad3246074af4013d493985e9f501d1978e07f734671bca0f1f0fe51"), looks := false }, kinds := [], alts := [], laidByText := true, laidKinds := [.data], laidTests := true, laidLooks := .later }
def StabNobodyUptoCardSaid : Prop := Claim7.holds Tryd.pinned (.plain (OpenSpec.upto stabNobodySpec)) stabNobodyUptoCard
end Rows
end Go.Proofs.YtdlkmjkonpijgaaDoor
