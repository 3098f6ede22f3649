import Derived.Test.YtkpndfkpdnknkaaGreatMJ4
set_option linter.unusedSimpArgs false
set_option linter.unusedVariables false
set_option maxRecDepth 10000
set_option maxHeartbeats 16000000
namespace Go.Proofs.YtkpndfkpdnknkaaGreat
open Go.AI
attribute [local irreducible] aops Bp Cs Df aop W WO
end Go.Proofs.YtkpndfkpdnknkaaGreat

