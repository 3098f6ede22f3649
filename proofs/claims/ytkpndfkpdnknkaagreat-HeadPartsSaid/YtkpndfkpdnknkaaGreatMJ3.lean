/- Lemmas. -/
import Derived.Test.YtkpndfkpdnknkaaGreatJ14
set_option linter.unusedSimpArgs false
set_option linter.unusedVariables false
set_option maxRecDepth 10000
set_option maxHeartbeats 16000000
namespace Go.Proofs.YtkpndfkpdnknkaaGreat
open Go.AI
attribute [local irreducible] aops Bp Cs Df aop W WO
def Avz (l : List Nat) : Prop := ∀ i, i + 1 < l.length → l.getD i default < l.getD (i + 1) default
end Go.Proofs.YtkpndfkpdnknkaaGreat
set_option maxRecDepth 10000
set_option maxHeartbeats 16000000
namespace Go.AI
section
variable {cf : Dh} {xf : ExtF} {base : Nat} {T : Tmps} {H : Heap} {QO : Tmps → Heap → Prop} {log : List FP} {g : Option (Nat × Bool)} {un : List Nat} {r : List SOper} {d : Nat} {t f : Bool}
end
end Go.AI
namespace Go.Proofs.YtkpndfkpdnknkaaGreat
open Go.AI
theorem Rec.st : ∀ a : Rec, Er a.av = true := fun ⟨_, _, _, _, _, _, _, _⟩ => rfl
theorem Rec.rw : ∀ e a : Rec, e.av.rewrap a.av.cells = a.av := fun ⟨_, _, _, _, _, _, _, _⟩ ⟨_, _, _, _, _, _, _, _⟩ => rfl
attribute [local irreducible] aops Bp Cs Df aop W WO
end Go.Proofs.YtkpndfkpdnknkaaGreat
set_option maxRecDepth 10000
set_option maxHeartbeats 16000000
namespace Go.Proofs.YtkpndfkpdnknkaaGreat
open Go.AI
attribute [local irreducible] aops Bp Cs Df aop W WO
end Go.Proofs.YtkpndfkpdnknkaaGreat
