/-
  DERIVED. GIVEN WITH THE SEED: THE CARDS: each row of YtlgmimclpmolmaaDoorRows.lean that lists a variable, with what it lists TIED to the program's text (the seventh form; the later family's looks); each row that meets fmt, with fmt's text TOLD by the authors' own Lean function (tested against real Go, not proved from fmt's source: count such statements apart). THE CARD IS WHAT COUNTS. Prove the row's statement (the work); the ties are given (YtlgmimclpmolmaaDoorTie.lean); close each card by the builder's one call (the guide's Derived/Test/ToyasCard.lean, 'card_holds'). Laid BY PROGRAM, IN A SANDBOX (cutbox-door.mjs). By AI agents, Wed Nov 11 2026. No macro, syntax, notation, axiom, sorry.
-/
import Derived.Test.YtlgmimclpmolmaaDoorRows
import GoSem.ClaimSeven
namespace Go.Proofs.YtlgmimclpmolmaaDoor
namespace Rows

/-- THE TIED CARD OF 'phasorlaw22.ExpectRebuilds'. -/
def expectRebuildsCard : Claim7 := { stood := { row := expectRebuildsRow, standIns := [], harness := (true, "f3971c2f36760d1d23b33eda8b053ea8319cda0f343e6447a8486723d077c3e0"), looks := false }, kinds := [], alts := [], laidByText := true, laidKinds := [.data], laidTests := true, laidLooks := .later }
def ExpectRebuildsCardSaid : Prop := Claim7.holds Tryd.pinned (.plain (OpenSpec.ofChange expectRebuildsSpec)) expectRebuildsCard

/-- THE SECOND FORM's CARD OF 'phasorlaw22.ExpectRebuilds'. -/
def expectRebuildsUptoCard : Claim7 := { stood := { row := expectRebuildsUptoRow, standIns := [], harness := (true, "f3971c2f36760d1d23b33eda8b053ea8319cda0f343e6447a8486723d077c3e0"), looks := false }, kinds := [], alts := [], laidByText := true, laidKinds := [.data], laidTests := true, laidLooks := .later }
def ExpectRebuildsUptoCardSaid : Prop := Claim7.holds Tryd.pinned (.plain (OpenSpec.upto expectRebuildsSpec)) expectRebuildsUptoCard
end Rows
end Go.Proofs.YtlgmimclpmolmaaDoor
