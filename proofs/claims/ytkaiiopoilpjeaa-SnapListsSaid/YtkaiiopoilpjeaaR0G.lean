import Derived.Test.YtkaiiopoilpjeaaRows
import Derived.Test.YtkaiiopoilpjeaaMC
import Derived.Test.YtkaiiopoilpjeaaG4
import Derived.Eval
set_option linter.unusedSimpArgs false
set_option linter.unusedVariables false
namespace Go.Proofs.Ytkaiiopoilpjeaa
open Go.AI
open Go.WideShapes
theorem Acl : ownKnob Try.prog.godebug = none := by kernel_rfl
theorem nW : laidOutB Try.prog = true := by kernel_rfl
theorem tP : Try.prog.follows .mixedOrders = true := Checked.mixed Try.checked
theorem Agd {P : Program} : Vw P (fun _ _ => none) := fun _ _ _ _ _ _ h => by cases h
section
variable {H : Type} {enc : TypeId × Value → H} {W : World}
end
end Go.Proofs.Ytkaiiopoilpjeaa

