import Derived.Test.YtkpndfkpdnknkaaGreatE15
import Derived.Test.YtkpndfkpdnknkaaGreatE4c
set_option linter.unusedSimpArgs false
set_option linter.unusedVariables false
set_option maxRecDepth 10000
set_option maxHeartbeats 16000000
namespace Go.Proofs.YtkpndfkpdnknkaaGreat
open Go.AI
theorem Pr {l : List UInt8} (hl : l.length < 1000000) {x : Img} (hq : sO l = .ok x) : (Ci l x).head.length = x.sup.size := by
 obtain ⟨_, _, hS, _, _⟩ := Ju hl hq
 exact aQ ((Iy hl).1 hq).2 hS
attribute [local irreducible] aops Bp Cs Df aop W WO
end Go.Proofs.YtkpndfkpdnknkaaGreat

