/- Lemmas. -/
import Derived.Test.YtkaiiopoilpjeaaGreatMJ4
set_option linter.unusedSimpArgs false
set_option linter.unusedVariables false
set_option maxRecDepth 10000
set_option maxHeartbeats 16000000
namespace Go.Proofs.YtkaiiopoilpjeaaGreat
open Go.AI
attribute [local irreducible] aops Br Cp Dp aop W WO
end Go.Proofs.YtkaiiopoilpjeaaGreat
