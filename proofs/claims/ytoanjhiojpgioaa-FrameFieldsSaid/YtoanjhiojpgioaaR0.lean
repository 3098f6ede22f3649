/- Facts of the seat that every row asks. -/
import Derived.Test.YtoanjhiojpgioaaRows
import Derived.Test.YtoanjhiojpgioaaA24
import Derived.Test.YtoanjhiojpgioaaT
import Derived.Eval
set_option linter.unusedSimpArgs false
set_option linter.unusedVariables false
namespace Go.Proofs.Ytoanjhiojpgioaa
open Go.AI

theorem seat_own : ownKnob Try.prog.godebug = none := by kernel_rfl
theorem seat_laidOut : laidOutB Try.prog = true := by kernel_rfl
theorem seat_mixed : Try.prog.follows .mixedOrders = true := Checked.mixed Try.checked
theorem no_ext {P : Program} : ExtOk P (fun _ _ => none) := fun _ _ _ _ _ _ h => by cases h
theorem no_hand {P : Program} : FunOk P (fun _ _ _ _ => none) := fun _ _ _ _ _ _ _ _ h => by cases h

end Go.Proofs.Ytoanjhiojpgioaa
