/-
  No cell of these rows narrows 'for every input' (looked for: loops, veiled, ifaces, maps, wideKeys, modest, calm, conditions, laid).
  DERIVED. THE GIVEN ROWS OF THIS SEAT. 4 by the template 'for every input the law returns true; each argument reads behind the call as it read before'; 0 by the template 'total and deterministic' (their statements: YtjeelpnbimaldaaTotals.lean).
  GIVEN WITH THE SEED: the statements are not yours to turn. If you find one false, say at which input.
  Laid BY PROGRAM, IN A SANDBOX (cutbox-rows.mjs): the forced cells as the released guide's own fill.sh prints them over the translation 629b288ad047822d… (all of the seat's roots in one cut). By AI agents, Wed Nov 11 2026. No macro, syntax, notation, axiom, sorry.
-/
import Derived.Test.YtjeelpnbimaldaaChecked
import GoSem.Claim
import GoSem.ClaimJoined
import GoSem.ClaimMapViews
import Derived.JoinedTies
import Derived.KernelRfl
namespace Go.Proofs.Ytjeelpnbimaldaa
/- THE CELL 'sum', in the pinned program and in every row, IS THE sha256 OF THE DUMP (.gsa) THAT YtjeelpnbimaldaaProg.lean LOADS. Nothing in Lean hashes anything: it is a label: what it is worth is what the hold of that sum in a sandbox is worth. -/
noncomputable def Try.pinned : Pinned := { name := "ytjeelpnbimaldaa", sum := "629b288ad047822d0add4449b07ce4960fbdcb8f03467e0d57de81a584739518", checked := Try.checked }
namespace Rows
def none {H : Type} : Left H := { results := [], args := [] }

/-- 'phasorlaw14.TableauNames': WHATEVER THE INPUT: true; the input reads as it did. -/
def tableauNamesSpec : ChangeSpec := { name := "tableauNames", fn := fun _ => fun
  | [] => { results := [.lit (.bool true)], args := [] }
  | _ => none }
def tableauNamesRow : OpenClaim := { program := "ytjeelpnbimaldaa", sum := "629b288ad047822d0add4449b07ce4960fbdcb8f03467e0d57de81a584739518", func := "phasor/phasorlaw14.TableauNames", spec := "tableauNames", apart := false }
def TableauNamesSaid : Prop := tableauNamesRow.holds Try.pinned (OpenSpec.ofChange tableauNamesSpec)

/-- ITS FALSE NEIGHBOUR: 'it returns false'. Refute it at one input. -/
def tableauNamesWrong : ChangeSpec := { name := "tableauNames", fn := fun _ => fun
  | [] => { results := [.lit (.bool false)], args := [] }
  | _ => none }
def TableauNamesWrongFalsely : Prop := tableauNamesRow.holds Try.pinned (OpenSpec.ofChange tableauNamesWrong)

/-- 'phasorlaw22.ExpectNames': WHATEVER THE INPUT: true; the input reads as it did. -/
def expectNamesSpec : ChangeSpec := { name := "expectNames", fn := fun _ => fun
  | [] => { results := [.lit (.bool true)], args := [] }
  | _ => none }
def expectNamesRow : OpenClaim := { program := "ytjeelpnbimaldaa", sum := "629b288ad047822d0add4449b07ce4960fbdcb8f03467e0d57de81a584739518", func := "phasor/phasorlaw22.ExpectNames", spec := "expectNames", apart := false }
def ExpectNamesSaid : Prop := expectNamesRow.holds Try.pinned (OpenSpec.ofChange expectNamesSpec)

/-- ITS FALSE NEIGHBOUR: 'it returns false'. Refute it at one input. -/
def expectNamesWrong : ChangeSpec := { name := "expectNames", fn := fun _ => fun
  | [] => { results := [.lit (.bool false)], args := [] }
  | _ => none }
def ExpectNamesWrongFalsely : Prop := expectNamesRow.holds Try.pinned (OpenSpec.ofChange expectNamesWrong)

/-- 'phasorlaw24.NoiseNames': WHATEVER THE INPUT: true; the input reads as it did. -/
def noiseNamesSpec : ChangeSpec := { name := "noiseNames", fn := fun _ => fun
  | [] => { results := [.lit (.bool true)], args := [] }
  | _ => none }
def noiseNamesRow : OpenClaim := { program := "ytjeelpnbimaldaa", sum := "629b288ad047822d0add4449b07ce4960fbdcb8f03467e0d57de81a584739518", func := "phasor/phasorlaw24.NoiseNames", spec := "noiseNames", apart := false }
def NoiseNamesSaid : Prop := noiseNamesRow.holds Try.pinned (OpenSpec.ofChange noiseNamesSpec)

/-- ITS FALSE NEIGHBOUR: 'it returns false'. Refute it at one input. -/
def noiseNamesWrong : ChangeSpec := { name := "noiseNames", fn := fun _ => fun
  | [] => { results := [.lit (.bool false)], args := [] }
  | _ => none }
def NoiseNamesWrongFalsely : Prop := noiseNamesRow.holds Try.pinned (OpenSpec.ofChange noiseNamesWrong)

/-- 'phasorlaw26.ProtoNames': WHATEVER THE INPUT: true; the input reads as it did. -/
def protoNamesSpec : ChangeSpec := { name := "protoNames", fn := fun _ => fun
  | [] => { results := [.lit (.bool true)], args := [] }
  | _ => none }
def protoNamesRow : OpenClaim := { program := "ytjeelpnbimaldaa", sum := "629b288ad047822d0add4449b07ce4960fbdcb8f03467e0d57de81a584739518", func := "phasor/phasorlaw26.ProtoNames", spec := "protoNames", apart := false }
def ProtoNamesSaid : Prop := protoNamesRow.holds Try.pinned (OpenSpec.ofChange protoNamesSpec)

/-- ITS FALSE NEIGHBOUR: 'it returns false'. Refute it at one input. -/
def protoNamesWrong : ChangeSpec := { name := "protoNames", fn := fun _ => fun
  | [] => { results := [.lit (.bool false)], args := [] }
  | _ => none }
def ProtoNamesWrongFalsely : Prop := protoNamesRow.holds Try.pinned (OpenSpec.ofChange protoNamesWrong)

/- THE SECOND FORM. 'bulk': how many values and letters a reading holds, each counted each time it is reached (what is shared counts as often as it is met; a slice's spare places count too). A statement '..UptoSaid' is the law's where the arguments, and the package variables that the reading takes, are together of bulk at most 1048576: NARROWER than '..Said'. Prove '..Said' where nothing that the law and all that it calls make is longer than what came in: it says more and counts as full. Else prove '..UptoSaid'. A law counts once. -/
mutual
def uptoBulk {H : Type} : DataW H → Nat
  | .lit (.string bytes) => bytes.length + 1
  | .lit _ => 1
  | .nil => 1
  | .ptr d => uptoBulk d + 1
  | .slice elems spare => uptoBulkAll elems + uptoBulkAll spare + 1
  | .agg parts => uptoBulkAll parts + 1
  | .iface _ d => uptoBulk d + 1
  | .map entries => uptoBulkEntries entries + 1
  | .held _ => 1
def uptoBulkAll {H : Type} : List (DataW H) → Nat
  | [] => 0
  | d :: r => uptoBulk d + uptoBulkAll r
def uptoBulkEntries {H : Type} : List (Lit × DataW H) → Nat
  | [] => 0
  | x :: r => uptoBulkEntry x + uptoBulkEntries r
def uptoBulkEntry {H : Type} : Lit × DataW H → Nat
  | (.string bytes, d) => bytes.length + uptoBulk d + 1
  | (_, d) => uptoBulk d + 1
 end
def uptoSmall : (H : Type) → List (DataW H) → Bool := fun _ ds => decide (uptoBulkAll ds ≤ 1048576)
def OpenSpec.upto (s : _root_.Go.ChangeSpec) : _root_.Go.OpenSpec := { _root_.Go.OpenSpec.ofChange s with cond := some uptoSmall }

/-- 'phasorlaw14.TableauNames', WHERE WHAT IT READS IS OF BULK AT MOST 1048576: true; the input reads as it did. -/
def tableauNamesUptoRow : OpenClaim := { program := "ytjeelpnbimaldaa", sum := "629b288ad047822d0add4449b07ce4960fbdcb8f03467e0d57de81a584739518", func := "phasor/phasorlaw14.TableauNames", spec := "tableauNames", apart := false, narrowed := true }
def TableauNamesUptoSaid : Prop := tableauNamesUptoRow.holds Try.pinned (OpenSpec.upto tableauNamesSpec)

/-- 'phasorlaw22.ExpectNames', WHERE WHAT IT READS IS OF BULK AT MOST 1048576: true; the input reads as it did. -/
def expectNamesUptoRow : OpenClaim := { program := "ytjeelpnbimaldaa", sum := "629b288ad047822d0add4449b07ce4960fbdcb8f03467e0d57de81a584739518", func := "phasor/phasorlaw22.ExpectNames", spec := "expectNames", apart := false, narrowed := true }
def ExpectNamesUptoSaid : Prop := expectNamesUptoRow.holds Try.pinned (OpenSpec.upto expectNamesSpec)

/-- 'phasorlaw24.NoiseNames', WHERE WHAT IT READS IS OF BULK AT MOST 1048576: true; the input reads as it did. -/
def noiseNamesUptoRow : OpenClaim := { program := "ytjeelpnbimaldaa", sum := "629b288ad047822d0add4449b07ce4960fbdcb8f03467e0d57de81a584739518", func := "phasor/phasorlaw24.NoiseNames", spec := "noiseNames", apart := false, narrowed := true }
def NoiseNamesUptoSaid : Prop := noiseNamesUptoRow.holds Try.pinned (OpenSpec.upto noiseNamesSpec)

/-- 'phasorlaw26.ProtoNames', WHERE WHAT IT READS IS OF BULK AT MOST 1048576: true; the input reads as it did. -/
def protoNamesUptoRow : OpenClaim := { program := "ytjeelpnbimaldaa", sum := "629b288ad047822d0add4449b07ce4960fbdcb8f03467e0d57de81a584739518", func := "phasor/phasorlaw26.ProtoNames", spec := "protoNames", apart := false, narrowed := true }
def ProtoNamesUptoSaid : Prop := protoNamesUptoRow.holds Try.pinned (OpenSpec.upto protoNamesSpec)

end Rows
end Go.Proofs.Ytjeelpnbimaldaa
