/-
  DERIVED. GIVEN WITH THE SEED: THE CARDS: each row of YtogkkamlmklpkaaDoorRows.lean that lists a variable, with what it lists TIED to the program's text (the seventh form; the later family's looks); each row that meets fmt, with fmt's text TOLD by the authors' own Lean function (tested against real Go, not proved from fmt's source: count such statements apart). THE CARD IS WHAT COUNTS. Prove the row's statement (the work); the ties are given (YtogkkamlmklpkaaDoorTie.lean); close each card by the builder's one call (the guide's Derived/Test/ToyasCard.lean, 'card_holds'). Laid BY PROGRAM, IN A SANDBOX (cutbox-door.mjs). By AI agents, Wed Nov 11 2026. No macro, syntax, notation, axiom, sorry.
-/
import Derived.Test.YtogkkamlmklpkaaDoorRows
import GoSem.ClaimSeven
namespace Go.Proofs.YtogkkamlmklpkaaDoor
namespace Rows

/-- THE TIED CARD OF 'phasorlaw14.TableauChecks'. -/
def tableauChecksCard : Claim7 := { stood := { row := tableauChecksRow, standIns := [], harness := (true, "87407f31f697ee641de07323422a65e494f6bbeb9e2307b60245f240e9e7441b"), looks := false }, kinds := [], alts := [], laidByText := true, laidKinds := [.data], laidTests := true, laidLooks := .later }
def TableauChecksCardSaid : Prop := Claim7.holds Tryd.pinned (.plain (OpenSpec.ofChange tableauChecksSpec)) tableauChecksCard

/-- THE TIED CARD OF 'phasorlaw14.TableauCanon'. -/
def tableauCanonCard : Claim7 := { stood := { row := tableauCanonRow, standIns := [], harness := (true, "87407f31f697ee641de07323422a65e494f6bbeb9e2307b60245f240e9e7441b"), looks := false }, kinds := [], alts := [], laidByText := true, laidKinds := [.data], laidTests := true, laidLooks := .later }
def TableauCanonCardSaid : Prop := Claim7.holds Tryd.pinned (.plain (OpenSpec.ofChange tableauCanonSpec)) tableauCanonCard

/-- THE TIED CARD OF 'phasorlaw14.TableauBack'. -/
def tableauBackCard : Claim7 := { stood := { row := tableauBackRow, standIns := [], harness := (true, "87407f31f697ee641de07323422a65e494f6bbeb9e2307b60245f240e9e7441b"), looks := false }, kinds := [], alts := [], laidByText := true, laidKinds := [.data], laidTests := true, laidLooks := .later }
def TableauBackCardSaid : Prop := Claim7.holds Tryd.pinned (.plain (OpenSpec.ofChange tableauBackSpec)) tableauBackCard

/-- THE TIED CARD OF 'phasorlaw14.TableauMeasures'. -/
def tableauMeasuresCard : Claim7 := { stood := { row := tableauMeasuresRow, standIns := [], harness := (true, "87407f31f697ee641de07323422a65e494f6bbeb9e2307b60245f240e9e7441b"), looks := false }, kinds := [], alts := [], laidByText := true, laidKinds := [.data], laidTests := true, laidLooks := .later }
def TableauMeasuresCardSaid : Prop := Claim7.holds Tryd.pinned (.plain (OpenSpec.ofChange tableauMeasuresSpec)) tableauMeasuresCard

/-- THE TIED CARD OF 'phasorlaw14.TableauForces'. -/
def tableauForcesCard : Claim7 := { stood := { row := tableauForcesRow, standIns := [], harness := (true, "87407f31f697ee641de07323422a65e494f6bbeb9e2307b60245f240e9e7441b"), looks := false }, kinds := [], alts := [], laidByText := true, laidKinds := [.data], laidTests := true, laidLooks := .later }
def TableauForcesCardSaid : Prop := Claim7.holds Tryd.pinned (.plain (OpenSpec.ofChange tableauForcesSpec)) tableauForcesCard

/-- THE TIED CARD OF 'phasorlaw14.TableauPlays'. -/
def tableauPlaysCard : Claim7 := { stood := { row := tableauPlaysRow, standIns := [], harness := (true, "87407f31f697ee641de07323422a65e494f6bbeb9e2307b60245f240e9e7441b"), looks := false }, kinds := [], alts := [], laidByText := true, laidKinds := [.data], laidTests := true, laidLooks := .later }
def TableauPlaysCardSaid : Prop := Claim7.holds Tryd.pinned (.plain (OpenSpec.ofChange tableauPlaysSpec)) tableauPlaysCard

/-- THE TIED CARD OF 'phasorlaw14.TableauHands'. -/
def tableauHandsCard : Claim7 := { stood := { row := tableauHandsRow, standIns := [], harness := (true, "87407f31f697ee641de07323422a65e494f6bbeb9e2307b60245f240e9e7441b"), looks := false }, kinds := [], alts := [], laidByText := true, laidKinds := [.data], laidTests := true, laidLooks := .later }
def TableauHandsCardSaid : Prop := Claim7.holds Tryd.pinned (.plain (OpenSpec.ofChange tableauHandsSpec)) tableauHandsCard

/-- THE SECOND FORM's CARD OF 'phasorlaw14.TableauChecks'. -/
def tableauChecksUptoCard : Claim7 := { stood := { row := tableauChecksUptoRow, standIns := [], harness := (true, "87407f31f697ee641de07323422a65e494f6bbeb9e2307b60245f240e9e7441b"), looks := false }, kinds := [], alts := [], laidByText := true, laidKinds := [.data], laidTests := true, laidLooks := .later }
def TableauChecksUptoCardSaid : Prop := Claim7.holds Tryd.pinned (.plain (OpenSpec.upto tableauChecksSpec)) tableauChecksUptoCard

/-- THE SECOND FORM's CARD OF 'phasorlaw14.TableauCanon'. -/
def tableauCanonUptoCard : Claim7 := { stood := { row := tableauCanonUptoRow, standIns := [], harness := (true, "87407f31f697ee641de07323422a65e494f6bbeb9e2307b60245f240e9e7441b"), looks := false }, kinds := [], alts := [], laidByText := true, laidKinds := [.data], laidTests := true, laidLooks := .later }
def TableauCanonUptoCardSaid : Prop := Claim7.holds Tryd.pinned (.plain (OpenSpec.upto tableauCanonSpec)) tableauCanonUptoCard

/-- THE SECOND FORM's CARD OF 'phasorlaw14.TableauBack'. -/
def tableauBackUptoCard : Claim7 := { stood := { row := tableauBackUptoRow, standIns := [], harness := (true, "87407f31f697ee641de07323422a65e494f6bbeb9e2307b60245f240e9e7441b"), looks := false }, kinds := [], alts := [], laidByText := true, laidKinds := [.data], laidTests := true, laidLooks := .later }
def TableauBackUptoCardSaid : Prop := Claim7.holds Tryd.pinned (.plain (OpenSpec.upto tableauBackSpec)) tableauBackUptoCard

/-- THE SECOND FORM's CARD OF 'phasorlaw14.TableauMeasures'. -/
def tableauMeasuresUptoCard : Claim7 := { stood := { row := tableauMeasuresUptoRow, standIns := [], harness := (true, "87407f31f697ee641de07323422a65e494f6bbeb9e2307b60245f240e9e7441b"), looks := false }, kinds := [], alts := [], laidByText := true, laidKinds := [.data], laidTests := true, laidLooks := .later }
def TableauMeasuresUptoCardSaid : Prop := Claim7.holds Tryd.pinned (.plain (OpenSpec.upto tableauMeasuresSpec)) tableauMeasuresUptoCard

/-- THE SECOND FORM's CARD OF 'phasorlaw14.TableauForces'. -/
def tableauForcesUptoCard : Claim7 := { stood := { row := tableauForcesUptoRow, standIns := [], harness := (true, "87407f31f697ee641de07323422a65e494f6bbeb9e2307b60245f240e9e7441b"), looks := false }, kinds := [], alts := [], laidByText := true, laidKinds := [.data], laidTests := true, laidLooks := .later }
def TableauForcesUptoCardSaid : Prop := Claim7.holds Tryd.pinned (.plain (OpenSpec.upto tableauForcesSpec)) tableauForcesUptoCard

/-- THE SECOND FORM's CARD OF 'phasorlaw14.TableauPlays'. -/
def tableauPlaysUptoCard : Claim7 := { stood := { row := tableauPlaysUptoRow, standIns := [], harness := (true, "87407f31f697ee641de07323422a65e494f6bbeb9e2307b60245f240e9e7441b"), looks := false }, kinds := [], alts := [], laidByText := true, laidKinds := [.data], laidTests := true, laidLooks := .later }
def TableauPlaysUptoCardSaid : Prop := Claim7.holds Tryd.pinned (.plain (OpenSpec.upto tableauPlaysSpec)) tableauPlaysUptoCard

/-- THE SECOND FORM's CARD OF 'phasorlaw14.TableauHands'. -/
def tableauHandsUptoCard : Claim7 := { stood := { row := tableauHandsUptoRow, standIns := [], harness := (true, "87407f31f697ee641de07323422a65e494f6bbeb9e2307b60245f240e9e7441b"), looks := false }, kinds := [], alts := [], laidByText := true, laidKinds := [.data], laidTests := true, laidLooks := .later }
def TableauHandsUptoCardSaid : Prop := Claim7.holds Tryd.pinned (.plain (OpenSpec.upto tableauHandsSpec)) tableauHandsUptoCard
end Rows
end Go.Proofs.YtogkkamlmklpkaaDoor
