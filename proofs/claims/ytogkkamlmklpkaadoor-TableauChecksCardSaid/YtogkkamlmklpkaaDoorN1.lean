/- What the package's own example comes to, by the kernel. No condition. -/
import Derived.Test.YtogkkamlmklpkaaDoorC1
import Derived.KernelRfl
set_option linter.unusedVariables false
set_option maxRecDepth 100000
namespace Go.Proofs.YtogkkamlmklpkaaDoor.Ab
open Go
def isT : Option (AV × Option (AHeap × Nat)) → Bool
  | some (.b true, _) => true
  | _ => false
theorem isT_of {x : Option (AV × Option (AHeap × Nat))} (h : isT x = true) : ∃ r, x = some (.b true, r) := by
  unfold isT at h
  split at h
  · exact ⟨_, rfl⟩
  · cases h
theorem alive_true : isT (evD O0 fs 200 12 16 [] [(0, tab64)] 2 2) = true := by kernel_rfl
end Go.Proofs.YtogkkamlmklpkaaDoor.Ab
