/- woodcutlaw09: wakes. -/
import Derived.Test.YtoanjhiojpgioaaT
import Derived.Test.YtoanjhiojpgioaaMC
set_option linter.unusedSimpArgs false
set_option linter.unusedVariables false
set_option maxRecDepth 100000
set_option maxHeartbeats 16000000
namespace Go.Proofs.Ytoanjhiojpgioaa
open Go.AI

variable {xf : ExtF} {gf : CallF}

/-- The kernel evaluates quickly only what is to be 'true'. -/
def isT : Option (AV × Heap) → Bool
  | some (.bool b, _) => b
  | _ => false

theorem isT_some {r : Option (AV × Heap)} (h : isT r = true) : ∃ H, r = some (.bool true, H) := by
  unfold isT at h
  split at h
  · subst h; exact ⟨_, rfl⟩
  · simp at h

theorem wakes_map : isT (acall B xf gf 1000009 n_law09_wakes 0 [] Heap.none) = true := by kernel_rfl

theorem e_wakes : FnV (acall B xf gf 1000009) n_law09_wakes [] (.bool true) := by
  obtain ⟨H, h⟩ := isT_some (wakes_map (xf := xf) (gf := gf))
  exact ⟨_, H, h, rfl⟩

end Go.Proofs.Ytoanjhiojpgioaa
