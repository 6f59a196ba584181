/- The example alive() comes to true. No condition. -/
import Derived.Test.YtbbikmfjnanpmaaDoorC1
set_option linter.unusedSimpArgs false
set_option linter.unusedVariables false
set_option maxRecDepth 100000
namespace Go.Proofs.YtbbikmfjnanpmaaDoor.Ab
open Go
def isT:Option (AV×Option (AHeap×Nat))→Bool
 |some (.b true,none)=>true
 |_=>false
theorem isT_of {r:Option (AV×Option (AHeap×Nat))}(h:isT r=true):r=some (.b true,none):=by
 unfold isT at h
 split at h
 ·rfl
 ·cases h
theorem alive_true:isT (evV 3 O0 fs 200 12 15 [] [(1,tab64)] 3 (3+1))=true:=by kernel_rfl
end Go.Proofs.YtbbikmfjnanpmaaDoor.Ab
