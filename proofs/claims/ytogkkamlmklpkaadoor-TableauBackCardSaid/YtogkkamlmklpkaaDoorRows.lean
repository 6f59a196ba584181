/-
  NARROWER THAN 'FOR EVERY INPUT', by the rows' own cells (each row's printed sentence says how): TableauChecks: laid · TableauCanon: laid · TableauBack: laid · TableauMeasures: laid · TableauForces: laid · TableauPlays: laid · TableauHands: laid.
  DERIVED. THE GIVEN ROWS OF THIS SEAT. 7 by the template 'for every input the law returns true; each argument reads behind the call as it read before'; 0 by the template 'total and deterministic' (their statements: YtogkkamlmklpkaaDoorTotals.lean).
  GIVEN WITH THE SEED: the statements are not yours to turn. If you find one false, say at which input.
  Laid BY PROGRAM, IN A SANDBOX (cutbox-rows.mjs): the forced cells as the released guide's own fill.sh prints them over the translation cf2fbe38cdf7be3c… (all of the seat's roots in one cut). By AI agents, Wed Nov 11 2026. No macro, syntax, notation, axiom, sorry.
-/
import Derived.Test.YtogkkamlmklpkaaDoorChecked
import GoSem.Claim
import GoSem.ClaimJoined
import GoSem.ClaimMapViews
import Derived.JoinedTies
import Derived.KernelRfl
namespace Go.Proofs.YtogkkamlmklpkaaDoor
/- THE CELL 'sum', in the pinned program and in every row, IS THE sha256 OF THE DUMP (.gsa) THAT YtogkkamlmklpkaaDoorProg.lean LOADS. Nothing in Lean hashes anything: it is a label: what it is worth is what the hold of that sum in a sandbox is worth. -/
noncomputable def Tryd.pinned : Pinned := { name := "ytogkkamlmklpkaadoor", sum := "cf2fbe38cdf7be3cb8325e8ae6732eb4f77079ded333fa48e8994b06103749b5", checked := Tryd.checked }
namespace Rows
def none {H : Type} : Left H := { results := [], args := [] }

/- WHAT THE LISTED PACKAGE-LEVEL VARIABLES READ AS WHEN THE CALL BEGINS. Each datum BY PROGRAM (the guide's laid-datum.mjs) off the statement by which the dump's own 'gosem.cut.vars' lays the variable. In a bare row this is a premise. The card (YtogkkamlmklpkaaDoorCards.lean) ties it to the program's text. -/
def laid_math_bits_deBruijn64tab {H : Type} : DataW H := .agg [.lit (.int .u8 0), .lit (.int .u8 1), .lit (.int .u8 56), .lit (.int .u8 2), .lit (.int .u8 57), .lit (.int .u8 49), .lit (.int .u8 28), .lit (.int .u8 3), .lit (.int .u8 61), .lit (.int .u8 58), .lit (.int .u8 42), .lit (.int .u8 50), .lit (.int .u8 38), .lit (.int .u8 29), .lit (.int .u8 17), .lit (.int .u8 4), .lit (.int .u8 62), .lit (.int .u8 47), .lit (.int .u8 59), .lit (.int .u8 36), .lit (.int .u8 45), .lit (.int .u8 43), .lit (.int .u8 51), .lit (.int .u8 22), .lit (.int .u8 53), .lit (.int .u8 39), .lit (.int .u8 33), .lit (.int .u8 30), .lit (.int .u8 24), .lit (.int .u8 18), .lit (.int .u8 12), .lit (.int .u8 5), .lit (.int .u8 63), .lit (.int .u8 55), .lit (.int .u8 48), .lit (.int .u8 27), .lit (.int .u8 60), .lit (.int .u8 41), .lit (.int .u8 37), .lit (.int .u8 16), .lit (.int .u8 46), .lit (.int .u8 35), .lit (.int .u8 44), .lit (.int .u8 21), .lit (.int .u8 52), .lit (.int .u8 32), .lit (.int .u8 23), .lit (.int .u8 11), .lit (.int .u8 54), .lit (.int .u8 26), .lit (.int .u8 40), .lit (.int .u8 15), .lit (.int .u8 34), .lit (.int .u8 20), .lit (.int .u8 31), .lit (.int .u8 10), .lit (.int .u8 25), .lit (.int .u8 14), .lit (.int .u8 19), .lit (.int .u8 9), .lit (.int .u8 13), .lit (.int .u8 8), .lit (.int .u8 7), .lit (.int .u8 6)]

/-- 'phasorlaw14.TableauChecks': WHATEVER THE INPUT: true; the input reads as it did. -/
def tableauChecksSpec : ChangeSpec := { name := "tableauChecks", fn := fun _ => fun
  | [d1, d2] => { results := [.lit (.bool true)], args := [d1, d2] }
  | _ => none }
def tableauChecksRow : OpenClaim := { program := "ytogkkamlmklpkaadoor", sum := "cf2fbe38cdf7be3cb8325e8ae6732eb4f77079ded333fa48e8994b06103749b5", func := "phasor/phasorlaw14.TableauChecks", spec := "tableauChecks", inPlace := ["internal/bytealg.IndexByteString"], unfollowed := true, recurses := true, named := ["math/bits.deBruijn64tab"], apart := false, laid := [("math/bits.deBruijn64tab", laid_math_bits_deBruijn64tab)] }
def TableauChecksSaid : Prop := tableauChecksRow.holds Tryd.pinned (OpenSpec.ofChange tableauChecksSpec)

/-- ITS FALSE NEIGHBOUR: 'it returns false'. Refute it at one input. -/
def tableauChecksWrong : ChangeSpec := { name := "tableauChecks", fn := fun _ => fun
  | [d1, d2] => { results := [.lit (.bool false)], args := [d1, d2] }
  | _ => none }
def TableauChecksWrongFalsely : Prop := tableauChecksRow.holds Tryd.pinned (OpenSpec.ofChange tableauChecksWrong)

/-- 'phasorlaw14.TableauCanon': WHATEVER THE INPUT: true; the input reads as it did. -/
def tableauCanonSpec : ChangeSpec := { name := "tableauCanon", fn := fun _ => fun
  | [d1, d2, d3] => { results := [.lit (.bool true)], args := [d1, d2, d3] }
  | _ => none }
def tableauCanonRow : OpenClaim := { program := "ytogkkamlmklpkaadoor", sum := "cf2fbe38cdf7be3cb8325e8ae6732eb4f77079ded333fa48e8994b06103749b5", func := "phasor/phasorlaw14.TableauCanon", spec := "tableauCanon", inPlace := ["internal/bytealg.IndexByteString"], unfollowed := true, recurses := true, named := ["math/bits.deBruijn64tab"], apart := false, laid := [("math/bits.deBruijn64tab", laid_math_bits_deBruijn64tab)] }
def TableauCanonSaid : Prop := tableauCanonRow.holds Tryd.pinned (OpenSpec.ofChange tableauCanonSpec)

/-- ITS FALSE NEIGHBOUR: 'it returns false'. Refute it at one input. -/
def tableauCanonWrong : ChangeSpec := { name := "tableauCanon", fn := fun _ => fun
  | [d1, d2, d3] => { results := [.lit (.bool false)], args := [d1, d2, d3] }
  | _ => none }
def TableauCanonWrongFalsely : Prop := tableauCanonRow.holds Tryd.pinned (OpenSpec.ofChange tableauCanonWrong)

/-- 'phasorlaw14.TableauBack': WHATEVER THE INPUT: true; the input reads as it did. -/
def tableauBackSpec : ChangeSpec := { name := "tableauBack", fn := fun _ => fun
  | [d1, d2, d3, d4] => { results := [.lit (.bool true)], args := [d1, d2, d3, d4] }
  | _ => none }
def tableauBackRow : OpenClaim := { program := "ytogkkamlmklpkaadoor", sum := "cf2fbe38cdf7be3cb8325e8ae6732eb4f77079ded333fa48e8994b06103749b5", func := "phasor/phasorlaw14.TableauBack", spec := "tableauBack", inPlace := ["internal/bytealg.IndexByteString"], unfollowed := true, recurses := true, named := ["math/bits.deBruijn64tab"], apart := false, laid := [("math/bits.deBruijn64tab", laid_math_bits_deBruijn64tab)] }
def TableauBackSaid : Prop := tableauBackRow.holds Tryd.pinned (OpenSpec.ofChange tableauBackSpec)

/-- ITS FALSE NEIGHBOUR: 'it returns false'. Refute it at one input. -/
def tableauBackWrong : ChangeSpec := { name := "tableauBack", fn := fun _ => fun
  | [d1, d2, d3, d4] => { results := [.lit (.bool false)], args := [d1, d2, d3, d4] }
  | _ => none }
def TableauBackWrongFalsely : Prop := tableauBackRow.holds Tryd.pinned (OpenSpec.ofChange tableauBackWrong)

/-- 'phasorlaw14.TableauMeasures': WHATEVER THE INPUT: true; the input reads as it did. -/
def tableauMeasuresSpec : ChangeSpec := { name := "tableauMeasures", fn := fun _ => fun
  | [d1, d2, d3, d4] => { results := [.lit (.bool true)], args := [d1, d2, d3, d4] }
  | _ => none }
def tableauMeasuresRow : OpenClaim := { program := "ytogkkamlmklpkaadoor", sum := "cf2fbe38cdf7be3cb8325e8ae6732eb4f77079ded333fa48e8994b06103749b5", func := "phasor/phasorlaw14.TableauMeasures", spec := "tableauMeasures", inPlace := ["internal/bytealg.IndexByteString"], unfollowed := true, recurses := true, named := ["math/bits.deBruijn64tab"], apart := false, laid := [("math/bits.deBruijn64tab", laid_math_bits_deBruijn64tab)] }
def TableauMeasuresSaid : Prop := tableauMeasuresRow.holds Tryd.pinned (OpenSpec.ofChange tableauMeasuresSpec)

/-- ITS FALSE NEIGHBOUR: 'it returns false'. Refute it at one input. -/
def tableauMeasuresWrong : ChangeSpec := { name := "tableauMeasures", fn := fun _ => fun
  | [d1, d2, d3, d4] => { results := [.lit (.bool false)], args := [d1, d2, d3, d4] }
  | _ => none }
def TableauMeasuresWrongFalsely : Prop := tableauMeasuresRow.holds Tryd.pinned (OpenSpec.ofChange tableauMeasuresWrong)

/-- 'phasorlaw14.TableauForces': WHATEVER THE INPUT: true; the input reads as it did. -/
def tableauForcesSpec : ChangeSpec := { name := "tableauForces", fn := fun _ => fun
  | [d1, d2, d3] => { results := [.lit (.bool true)], args := [d1, d2, d3] }
  | _ => none }
def tableauForcesRow : OpenClaim := { program := "ytogkkamlmklpkaadoor", sum := "cf2fbe38cdf7be3cb8325e8ae6732eb4f77079ded333fa48e8994b06103749b5", func := "phasor/phasorlaw14.TableauForces", spec := "tableauForces", inPlace := ["internal/bytealg.IndexByteString"], unfollowed := true, recurses := true, named := ["math/bits.deBruijn64tab"], apart := false, laid := [("math/bits.deBruijn64tab", laid_math_bits_deBruijn64tab)] }
def TableauForcesSaid : Prop := tableauForcesRow.holds Tryd.pinned (OpenSpec.ofChange tableauForcesSpec)

/-- ITS FALSE NEIGHBOUR: 'it returns false'. Refute it at one input. -/
def tableauForcesWrong : ChangeSpec := { name := "tableauForces", fn := fun _ => fun
  | [d1, d2, d3] => { results := [.lit (.bool false)], args := [d1, d2, d3] }
  | _ => none }
def TableauForcesWrongFalsely : Prop := tableauForcesRow.holds Tryd.pinned (OpenSpec.ofChange tableauForcesWrong)

/-- 'phasorlaw14.TableauPlays': WHATEVER THE INPUT: true; the input reads as it did. -/
def tableauPlaysSpec : ChangeSpec := { name := "tableauPlays", fn := fun _ => fun
  | [d1, d2, d3, d4] => { results := [.lit (.bool true)], args := [d1, d2, d3, d4] }
  | _ => none }
def tableauPlaysRow : OpenClaim := { program := "ytogkkamlmklpkaadoor", sum := "cf2fbe38cdf7be3cb8325e8ae6732eb4f77079ded333fa48e8994b06103749b5", func := "phasor/phasorlaw14.TableauPlays", spec := "tableauPlays", inPlace := ["internal/bytealg.IndexByteString"], unfollowed := true, recurses := true, named := ["math/bits.deBruijn64tab"], apart := false, laid := [("math/bits.deBruijn64tab", laid_math_bits_deBruijn64tab)] }
def TableauPlaysSaid : Prop := tableauPlaysRow.holds Tryd.pinned (OpenSpec.ofChange tableauPlaysSpec)

/-- ITS FALSE NEIGHBOUR: 'it returns false'. Refute it at one input. -/
def tableauPlaysWrong : ChangeSpec := { name := "tableauPlays", fn := fun _ => fun
  | [d1, d2, d3, d4] => { results := [.lit (.bool false)], args := [d1, d2, d3, d4] }
  | _ => none }
def TableauPlaysWrongFalsely : Prop := tableauPlaysRow.holds Tryd.pinned (OpenSpec.ofChange tableauPlaysWrong)

/-- 'phasorlaw14.TableauHands': WHATEVER THE INPUT: true; the input reads as it did. -/
def tableauHandsSpec : ChangeSpec := { name := "tableauHands", fn := fun _ => fun
  | [d1, d2, d3, d4, d5] => { results := [.lit (.bool true)], args := [d1, d2, d3, d4, d5] }
  | _ => none }
def tableauHandsRow : OpenClaim := { program := "ytogkkamlmklpkaadoor", sum := "cf2fbe38cdf7be3cb8325e8ae6732eb4f77079ded333fa48e8994b06103749b5", func := "phasor/phasorlaw14.TableauHands", spec := "tableauHands", inPlace := ["internal/bytealg.IndexByteString"], unfollowed := true, recurses := true, named := ["math/bits.deBruijn64tab"], apart := false, laid := [("math/bits.deBruijn64tab", laid_math_bits_deBruijn64tab)] }
def TableauHandsSaid : Prop := tableauHandsRow.holds Tryd.pinned (OpenSpec.ofChange tableauHandsSpec)

/-- ITS FALSE NEIGHBOUR: 'it returns false'. Refute it at one input. -/
def tableauHandsWrong : ChangeSpec := { name := "tableauHands", fn := fun _ => fun
  | [d1, d2, d3, d4, d5] => { results := [.lit (.bool false)], args := [d1, d2, d3, d4, d5] }
  | _ => none }
def TableauHandsWrongFalsely : Prop := tableauHandsRow.holds Tryd.pinned (OpenSpec.ofChange tableauHandsWrong)

/- THE SECOND FORM. 'bulk': how many values and letters a reading holds, each counted each time it is reached (what is shared counts as often as it is met; a slice's spare places count too). A statement '..UptoSaid' is the law's where the arguments, and the package variables that the reading takes, are together of bulk at most 1048576: NARROWER than '..Said'. Prove '..Said' where nothing that the law and all that it calls make is longer than what came in: it says more and counts as full. Else prove '..UptoSaid'. A law counts once. -/
mutual
def uptoBulk {H : Type} : DataW H → Nat
  | .lit (.string bytes) => bytes.length + 1
  | .lit _ => 1
  | .nil => 1
  | .ptr d => uptoBulk d + 1
  | .slice elems spare => uptoBulkAll elems + uptoBulkAll spare + 1
  | .agg parts => uptoBulkAll parts + 1
  | .iface _ d => uptoBulk d + 1
  | .map entries => uptoBulkEntries entries + 1
  | .held _ => 1
def uptoBulkAll {H : Type} : List (DataW H) → Nat
  | [] => 0
  | d :: r => uptoBulk d + uptoBulkAll r
def uptoBulkEntries {H : Type} : List (Lit × DataW H) → Nat
  | [] => 0
  | x :: r => uptoBulkEntry x + uptoBulkEntries r
def uptoBulkEntry {H : Type} : Lit × DataW H → Nat
  | (.string bytes, d) => bytes.length + uptoBulk d + 1
  | (_, d) => uptoBulk d + 1
 end
def uptoSmall : (H : Type) → List (DataW H) → Bool := fun _ ds => decide (uptoBulkAll ds ≤ 1048576)
def OpenSpec.upto (s : _root_.Go.ChangeSpec) : _root_.Go.OpenSpec := { _root_.Go.OpenSpec.ofChange s with cond := some uptoSmall }

/-- 'phasorlaw14.TableauChecks', WHERE WHAT IT READS IS OF BULK AT MOST 1048576: true; the input reads as it did. -/
def tableauChecksUptoRow : OpenClaim := { program := "ytogkkamlmklpkaadoor", sum := "cf2fbe38cdf7be3cb8325e8ae6732eb4f77079ded333fa48e8994b06103749b5", func := "phasor/phasorlaw14.TableauChecks", spec := "tableauChecks", inPlace := ["internal/bytealg.IndexByteString"], unfollowed := true, recurses := true, named := ["math/bits.deBruijn64tab"], apart := false, laid := [("math/bits.deBruijn64tab", laid_math_bits_deBruijn64tab)], narrowed := true }
def TableauChecksUptoSaid : Prop := tableauChecksUptoRow.holds Tryd.pinned (OpenSpec.upto tableauChecksSpec)

/-- 'phasorlaw14.TableauCanon', WHERE WHAT IT READS IS OF BULK AT MOST 1048576: true; the input reads as it did. -/
def tableauCanonUptoRow : OpenClaim := { program := "ytogkkamlmklpkaadoor", sum := "cf2fbe38cdf7be3cb8325e8ae6732eb4f77079ded333fa48e8994b06103749b5", func := "phasor/phasorlaw14.TableauCanon", spec := "tableauCanon", inPlace := ["internal/bytealg.IndexByteString"], unfollowed := true, recurses := true, named := ["math/bits.deBruijn64tab"], apart := false, laid := [("math/bits.deBruijn64tab", laid_math_bits_deBruijn64tab)], narrowed := true }
def TableauCanonUptoSaid : Prop := tableauCanonUptoRow.holds Tryd.pinned (OpenSpec.upto tableauCanonSpec)

/-- 'phasorlaw14.TableauBack', WHERE WHAT IT READS IS OF BULK AT MOST 1048576: true; the input reads as it did. -/
def tableauBackUptoRow : OpenClaim := { program := "ytogkkamlmklpkaadoor", sum := "cf2fbe38cdf7be3cb8325e8ae6732eb4f77079ded333fa48e8994b06103749b5", func := "phasor/phasorlaw14.TableauBack", spec := "tableauBack", inPlace := ["internal/bytealg.IndexByteString"], unfollowed := true, recurses := true, named := ["math/bits.deBruijn64tab"], apart := false, laid := [("math/bits.deBruijn64tab", laid_math_bits_deBruijn64tab)], narrowed := true }
def TableauBackUptoSaid : Prop := tableauBackUptoRow.holds Tryd.pinned (OpenSpec.upto tableauBackSpec)

/-- 'phasorlaw14.TableauMeasures', WHERE WHAT IT READS IS OF BULK AT MOST 1048576: true; the input reads as it did. -/
def tableauMeasuresUptoRow : OpenClaim := { program := "ytogkkamlmklpkaadoor", sum := "cf2fbe38cdf7be3cb8325e8ae6732eb4f77079ded333fa48e8994b06103749b5", func := "phasor/phasorlaw14.TableauMeasures", spec := "tableauMeasures", inPlace := ["internal/bytealg.IndexByteString"], unfollowed := true, recurses := true, named := ["math/bits.deBruijn64tab"], apart := false, laid := [("math/bits.deBruijn64tab", laid_math_bits_deBruijn64tab)], narrowed := true }
def TableauMeasuresUptoSaid : Prop := tableauMeasuresUptoRow.holds Tryd.pinned (OpenSpec.upto tableauMeasuresSpec)

/-- 'phasorlaw14.TableauForces', WHERE WHAT IT READS IS OF BULK AT MOST 1048576: true; the input reads as it did. -/
def tableauForcesUptoRow : OpenClaim := { program := "ytogkkamlmklpkaadoor", sum := "cf2fbe38cdf7be3cb8325e8ae6732eb4f77079ded333fa48e8994b06103749b5", func := "phasor/phasorlaw14.TableauForces", spec := "tableauForces", inPlace := ["internal/bytealg.IndexByteString"], unfollowed := true, recurses := true, named := ["math/bits.deBruijn64tab"], apart := false, laid := [("math/bits.deBruijn64tab", laid_math_bits_deBruijn64tab)], narrowed := true }
def TableauForcesUptoSaid : Prop := tableauForcesUptoRow.holds Tryd.pinned (OpenSpec.upto tableauForcesSpec)

/-- 'phasorlaw14.TableauPlays', WHERE WHAT IT READS IS OF BULK AT MOST 1048576: true; the input reads as it did. -/
def tableauPlaysUptoRow : OpenClaim := { program := "ytogkkamlmklpkaadoor", sum := "cf2fbe38cdf7be3cb8325e8ae6732eb4f77079ded333fa48e8994b06103749b5", func := "phasor/phasorlaw14.TableauPlays", spec := "tableauPlays", inPlace := ["internal/bytealg.IndexByteString"], unfollowed := true, recurses := true, named := ["math/bits.deBruijn64tab"], apart := false, laid := [("math/bits.deBruijn64tab", laid_math_bits_deBruijn64tab)], narrowed := true }
def TableauPlaysUptoSaid : Prop := tableauPlaysUptoRow.holds Tryd.pinned (OpenSpec.upto tableauPlaysSpec)

/-- 'phasorlaw14.TableauHands', WHERE WHAT IT READS IS OF BULK AT MOST 1048576: true; the input reads as it did. -/
def tableauHandsUptoRow : OpenClaim := { program := "ytogkkamlmklpkaadoor", sum := "cf2fbe38cdf7be3cb8325e8ae6732eb4f77079ded333fa48e8994b06103749b5", func := "phasor/phasorlaw14.TableauHands", spec := "tableauHands", inPlace := ["internal/bytealg.IndexByteString"], unfollowed := true, recurses := true, named := ["math/bits.deBruijn64tab"], apart := false, laid := [("math/bits.deBruijn64tab", laid_math_bits_deBruijn64tab)], narrowed := true }
def TableauHandsUptoSaid : Prop := tableauHandsUptoRow.holds Tryd.pinned (OpenSpec.upto tableauHandsSpec)

end Rows
end Go.Proofs.YtogkkamlmklpkaaDoor
