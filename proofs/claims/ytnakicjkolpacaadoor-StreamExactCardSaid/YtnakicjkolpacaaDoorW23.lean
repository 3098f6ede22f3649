/- woodcutlaw23: wakes. -/
import Derived.Test.YtnakicjkolpacaaDoorS6
import Derived.Test.YtnakicjkolpacaaDoorG2
set_option maxRecDepth 100000
set_option maxHeartbeats 16000000
namespace Go.Proofs.YtnakicjkolpacaaDoor
open Go.AI
variable {xf : ExtF}
theorem wakes_map : isT (acall B xf cloneF 1000029 n_law23_wakes 0 [] Heap.none) = true := by kernel_rfl

theorem e_wakes : FnV (acall B xf cloneF 1000029) n_law23_wakes [] (.bool true) := by
  obtain ⟨H, h⟩ := isT_some (wakes_map (xf := xf))
  exact ⟨_, H, h, rfl⟩

end Go.Proofs.YtnakicjkolpacaaDoor
