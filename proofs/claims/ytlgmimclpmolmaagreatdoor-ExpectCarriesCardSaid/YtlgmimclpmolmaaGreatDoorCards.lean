/-
  DERIVED. GIVEN WITH THE SEED: THE CARDS: each row of YtlgmimclpmolmaaGreatDoorRows.lean that lists a variable, with what it lists TIED to the program's text (the seventh form; the later family's looks); each row that meets fmt, with fmt's text TOLD by the authors' own Lean function (tested against real Go, not proved from fmt's source: count such statements apart). THE CARD IS WHAT COUNTS. Prove the row's statement (the work); the ties are given (YtlgmimclpmolmaaGreatDoorTie.lean); close each card by the builder's one call (the guide's Derived/Test/ToyasCard.lean, 'card_holds'). Laid BY PROGRAM, IN A SANDBOX (cutbox-door.mjs). By AI agents, Wed Nov 11 2026. No macro, syntax, notation, axiom, sorry.
-/
import Derived.Test.YtlgmimclpmolmaaGreatDoorRows
import GoSem.ClaimSeven
namespace Go.Proofs.YtlgmimclpmolmaaGreatDoor
namespace Rows

/-- THE TIED CARD OF 'phasorlaw22.ExpectCarries'. -/
def expectCarriesCard : Claim7 := { stood := { row := expectCarriesRow, standIns := [], harness := (true, "8019980d64dd7c26deeb6e9fe0074bc67627cddfcff67381567ab4a75711ac23"), looks := false }, kinds := [], alts := [], laidByText := true, laidKinds := [.data], laidTests := true, laidLooks := .later }
def ExpectCarriesCardSaid : Prop := Claim7.holds Tryz.pinned (.plain (OpenSpec.ofChange expectCarriesSpec)) expectCarriesCard

/-- THE SECOND FORM's CARD OF 'phasorlaw22.ExpectCarries'. -/
def expectCarriesUptoCard : Claim7 := { stood := { row := expectCarriesUptoRow, standIns := [], harness := (true, "8019980d64dd7c26deeb6e9fe0074bc67627cddfcff67381567ab4a75711ac23"), looks := false }, kinds := [], alts := [], laidByText := true, laidKinds := [.data], laidTests := true, laidLooks := .later }
def ExpectCarriesUptoCardSaid : Prop := Claim7.holds Tryz.pinned (.plain (OpenSpec.upto expectCarriesSpec)) expectCarriesUptoCard
end Rows
end Go.Proofs.YtlgmimclpmolmaaGreatDoor
