/- Lemmas. -/
import Derived.Test.YtkaiiopoilpjeaaGreatMF
import Derived.Test.YtkaiiopoilpjeaaGreatMNb
import Derived.Test.YtkaiiopoilpjeaaGreatF16
set_option linter.unusedSimpArgs false
set_option linter.unusedVariables false
set_option maxRecDepth 10000
namespace Go.Proofs.YtkaiiopoilpjeaaGreat
open Go.AI
end Go.Proofs.YtkaiiopoilpjeaaGreat
