/- What the abstract machine comes to at the seat's function StabNobody, whatever the number is. No condition. -/
import Derived.Test.YtdlkmjkonpijgaaDoorC1
import Derived.KernelRfl
set_option linter.unusedVariables false
set_option maxRecDepth 100000
namespace Go.Proofs.YtdlkmjkonpijgaaDoor.stabNobody
open Go Go.Proofs.YtdlkmjkonpijgaaDoor.Ab

def isT : Option (AV × Option (AHeap × Nat)) → Bool
  | some (.b true, _) => true
  | _ => false
theorem isT_of {x : Option (AV × Option (AHeap × Nat))} (h : isT x = true) : ∃ r, x = some (.b true, r) := by
  unfold isT at h
  split at h
  · exact ⟨_, rfl⟩
  · cases h
/-- The evaluation, whatever the number is: by the kernel. -/
theorem nob (u : Nat) : isT (evD O0 fs 200 14 3 [.f .f64 u] [(0, tab64)] 3 3) = true := by kernel_rfl

end Go.Proofs.YtdlkmjkonpijgaaDoor.stabNobody
