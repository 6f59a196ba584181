/-
  DERIVED. GIVEN WITH THE SEED: THE CARDS: each row of YtbbikmfjnanpmaaDoorRows.lean that lists a variable, with what it lists TIED to the program's text (the seventh form; the later family's looks); each row that meets fmt, with fmt's text TOLD by the authors' own Lean function (tested against real Go, not proved from fmt's source: count such statements apart). THE CARD IS WHAT COUNTS. Prove the row's statement (the work); the ties are given (YtbbikmfjnanpmaaDoorTie.lean); close each card by the builder's one call (the guide's Derived/Test/ToyasCard.lean, 'card_holds'). Laid BY PROGRAM, IN A SANDBOX (cutbox-door.mjs). By AI agents, Wed Nov 11 2026. No macro, syntax, notation, axiom, sorry.
-/
import Derived.Test.YtbbikmfjnanpmaaDoorRows
import GoSem.ClaimSeven
namespace Go.Proofs.YtbbikmfjnanpmaaDoor
namespace Rows

/-- THE TIED CARD OF 'phasorlaw24.NoiseInserts'. -/
def noiseInsertsCard : Claim7 := { stood := { row := noiseInsertsRow, standIns := [], harness := (true, "6680c7ea8588ef8ebac4e99b14b7bc3b6038399a6c19bf911a88f29581f9ca86"), looks := false }, kinds := [], alts := [], laidByText := true, laidKinds := [.data], laidTests := true, laidLooks := .later }
def NoiseInsertsCardSaid : Prop := Claim7.holds Tryd.pinned (.plain (OpenSpec.ofChange noiseInsertsSpec)) noiseInsertsCard

/-- THE TIED CARD OF 'phasorlaw24.NoiseDraws'. -/
def noiseDrawsCard : Claim7 := { stood := { row := noiseDrawsRow, standIns := [], harness := (true, "6680c7ea8588ef8ebac4e99b14b7bc3b6038399a6c19bf911a88f29581f9ca86"), looks := false }, kinds := [], alts := [], laidByText := true, laidKinds := [.data], laidTests := true, laidLooks := .later }
def NoiseDrawsCardSaid : Prop := Claim7.holds Tryd.pinned (.plain (OpenSpec.ofChange noiseDrawsSpec)) noiseDrawsCard

/-- THE TIED CARD OF 'phasorlaw24.NoiseCarries'. -/
def noiseCarriesCard : Claim7 := { stood := { row := noiseCarriesRow, standIns := [], harness := (true, "6680c7ea8588ef8ebac4e99b14b7bc3b6038399a6c19bf911a88f29581f9ca86"), looks := false }, kinds := [], alts := [], laidByText := true, laidKinds := [.data], laidTests := true, laidLooks := .later }
def NoiseCarriesCardSaid : Prop := Claim7.holds Tryd.pinned (.plain (OpenSpec.ofChange noiseCarriesSpec)) noiseCarriesCard

/-- THE TIED CARD OF 'phasorlaw24.NoiseProducts'. -/
def noiseProductsCard : Claim7 := { stood := { row := noiseProductsRow, standIns := [], harness := (true, "6680c7ea8588ef8ebac4e99b14b7bc3b6038399a6c19bf911a88f29581f9ca86"), looks := false }, kinds := [], alts := [], laidByText := true, laidKinds := [.data], laidTests := true, laidLooks := .later }
def NoiseProductsCardSaid : Prop := Claim7.holds Tryd.pinned (.plain (OpenSpec.ofChange noiseProductsSpec)) noiseProductsCard

/-- THE TIED CARD OF 'phasorlaw24.NoiseFaults'. -/
def noiseFaultsCard : Claim7 := { stood := { row := noiseFaultsRow, standIns := [], harness := (true, "6680c7ea8588ef8ebac4e99b14b7bc3b6038399a6c19bf911a88f29581f9ca86"), looks := false }, kinds := [], alts := [], laidByText := true, laidKinds := [.data], laidTests := true, laidLooks := .later }
def NoiseFaultsCardSaid : Prop := Claim7.holds Tryd.pinned (.plain (OpenSpec.ofChange noiseFaultsSpec)) noiseFaultsCard

/-- THE SECOND FORM's CARD OF 'phasorlaw24.NoiseInserts'. -/
def noiseInsertsUptoCard : Claim7 := { stood := { row := noiseInsertsUptoRow, standIns := [], harness := (true, "6680c7ea8588ef8ebac4e99b14b7bc3b6038399a6c19bf911a88f29581f9ca86"), looks := false }, kinds := [], alts := [], laidByText := true, laidKinds := [.data], laidTests := true, laidLooks := .later }
def NoiseInsertsUptoCardSaid : Prop := Claim7.holds Tryd.pinned (.plain (OpenSpec.upto noiseInsertsSpec)) noiseInsertsUptoCard

/-- THE SECOND FORM's CARD OF 'phasorlaw24.NoiseDraws'. -/
def noiseDrawsUptoCard : Claim7 := { stood := { row := noiseDrawsUptoRow, standIns := [], harness := (true, "6680c7ea8588ef8ebac4e99b14b7bc3b6038399a6c19bf911a88f29581f9ca86"), looks := false }, kinds := [], alts := [], laidByText := true, laidKinds := [.data], laidTests := true, laidLooks := .later }
def NoiseDrawsUptoCardSaid : Prop := Claim7.holds Tryd.pinned (.plain (OpenSpec.upto noiseDrawsSpec)) noiseDrawsUptoCard

/-- THE SECOND FORM's CARD OF 'phasorlaw24.NoiseCarries'. -/
def noiseCarriesUptoCard : Claim7 := { stood := { row := noiseCarriesUptoRow, standIns := [], harness := (true, "6680c7ea8588ef8ebac4e99b14b7bc3b6038399a6c19bf911a88f29581f9ca86"), looks := false }, kinds := [], alts := [], laidByText := true, laidKinds := [.data], laidTests := true, laidLooks := .later }
def NoiseCarriesUptoCardSaid : Prop := Claim7.holds Tryd.pinned (.plain (OpenSpec.upto noiseCarriesSpec)) noiseCarriesUptoCard

/-- THE SECOND FORM's CARD OF 'phasorlaw24.NoiseProducts'. -/
def noiseProductsUptoCard : Claim7 := { stood := { row := noiseProductsUptoRow, standIns := [], harness := (true, "6680c7ea8588ef8ebac4e99b14b7bc3b6038399a6c19bf911a88f29581f9ca86"), looks := false }, kinds := [], alts := [], laidByText := true, laidKinds := [.data], laidTests := true, laidLooks := .later }
def NoiseProductsUptoCardSaid : Prop := Claim7.holds Tryd.pinned (.plain (OpenSpec.upto noiseProductsSpec)) noiseProductsUptoCard

/-- THE SECOND FORM's CARD OF 'phasorlaw24.NoiseFaults'. -/
def noiseFaultsUptoCard : Claim7 := { stood := { row := noiseFaultsUptoRow, standIns := [], harness := (true, "6680c7ea8588ef8ebac4e99b14b7bc3b6038399a6c19bf911a88f29581f9ca86"), looks := false }, kinds := [], alts := [], laidByText := true, laidKinds := [.data], laidTests := true, laidLooks := .later }
def NoiseFaultsUptoCardSaid : Prop := Claim7.holds Tryd.pinned (.plain (OpenSpec.upto noiseFaultsSpec)) noiseFaultsUptoCard
end Rows
end Go.Proofs.YtbbikmfjnanpmaaDoor
