/- Closed runs as truths. -/
import Derived.Test.YtnakicjkolpacaaDoorT
import Derived.Test.YtnakicjkolpacaaDoorMC
set_option linter.unusedSimpArgs false
set_option linter.unusedVariables false
set_option maxRecDepth 100000
set_option maxHeartbeats 16000000
namespace Go.Proofs.YtnakicjkolpacaaDoor
open Go.AI

variable {xf : ExtF} {gf : CallF}

/-- The kernel evaluates quickly only what is to be 'true'. -/
def isT : Option (AV × Heap) → Bool
  | some (.bool b, _) => b
  | _ => false

theorem isT_some {r : Option (AV × Heap)} (h : isT r = true) : ∃ H, r = some (.bool true, H) := by
  unfold isT at h
  split at h
  · subst h; exact ⟨_, rfl⟩
  · simp at h

end Go.Proofs.YtnakicjkolpacaaDoor
