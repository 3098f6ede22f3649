import Derived.Test.YtkpndfkpdnknkaaGreatMJ3
set_option linter.unusedSimpArgs false
set_option linter.unusedVariables false
set_option maxRecDepth 10000
set_option maxHeartbeats 16000000
namespace Go.AI
section
variable {cf : Dh} {xf : ExtF} {base : Nat} {T : Tmps} {H : Heap} {QO : Tmps → Heap → Prop} {log : List FP} {g : Option (Nat × Bool)} {un : List Nat} {r : List SOper} {d : Nat} {t f : Bool}
end
end Go.AI
namespace Go.Proofs.YtkpndfkpdnknkaaGreat
open Go.AI
theorem Rec.fz (out : Bool) (n : Nat) (H : Heap) : ∀ l : List Rec, (l.map Rec.av).map (AI.fz out (n + 2) H) = l.map Rec.av := fun l => by
 rw [Fh]
 exact Av fun ⟨_, _, _, _, _, _, _, _⟩ _ => rfl
attribute [local irreducible] aops Bp Cs Df aop W WO
end Go.Proofs.YtkpndfkpdnknkaaGreat

