import Derived.Test.YtkpndfkpdnknkaaGreatF17
set_option linter.unusedSimpArgs false
set_option linter.unusedVariables false
set_option maxRecDepth 10000
namespace Go.Proofs.YtkpndfkpdnknkaaGreat
open Go.AI
section
variable {l : List UInt8} {root : Nat} {m m0 : List Nat}
theorem getD_some {m : List Nat} {i : Nat} (h : i < m.length) : m[i]? = some (m.getD i 0) := by
 rw [Ae, Aa h]; rfl
end
section
variable {s : St}
end
end Go.Proofs.YtkpndfkpdnknkaaGreat

