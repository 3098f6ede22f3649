import Derived.Test.YtkaiiopoilpjeaaF3
import Derived.Test.YtkaiiopoilpjeaaMD2b
set_option linter.unusedSimpArgs false
set_option linter.unusedVariables false
set_option maxRecDepth 10000
set_option maxHeartbeats 16000000
namespace Go.Proofs.Ytkaiiopoilpjeaa
open Go.AI
def La (A i : Nat) : List Nat := ((List.range i).map (A + ·)).reverse
theorem Xb (A i : Nat) : La A (i + 1) = (A + i) :: La A i := by unfold La; rw [jE]; simp
theorem Uy (A i : Nat) : (La A i).length = i := by unfold La; simp
theorem idsUp_mem {A i a : Nat} : a ∈ La A i ↔ A ≤ a ∧ a < A + i := by
 unfold La
 rw [Ns, Ca]
 constructor
 ·rintro ⟨j, hj, rfl⟩; rw [Kg] at hj; omega
 ·rintro ⟨h1, h2⟩; exact ⟨a - A, Kg.2 (by omega), by omega⟩
attribute [local irreducible] aops Bb Cj Dm aop W WO
end Go.Proofs.Ytkaiiopoilpjeaa

