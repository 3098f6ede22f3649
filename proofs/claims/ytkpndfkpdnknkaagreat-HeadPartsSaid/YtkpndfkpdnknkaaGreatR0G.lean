import Derived.Test.YtkpndfkpdnknkaaGreatRows
import Derived.Test.YtkpndfkpdnknkaaGreatMC
import Derived.Test.YtkpndfkpdnknkaaGreatG4
import Derived.Eval
set_option linter.unusedSimpArgs false
set_option linter.unusedVariables false
namespace Go.Proofs.YtkpndfkpdnknkaaGreat
open Go.AI
open Go.WideShapes
theorem Xs : ownKnob Tryz.prog.godebug = none := by kernel_rfl
theorem Mx : laidOutB Tryz.prog = true := by kernel_rfl
theorem Rj : Tryz.prog.follows .mixedOrders = true := Checked.mixed Tryz.checked
theorem nB {P : Program} : eV P (fun _ _ => none) := fun _ _ _ _ _ _ h => by cases h
section
variable {H : Type} {enc : TypeId × Value → H} {W : World}
theorem Ayt (c : UInt8) (v : Value) (z : Int) (h : VR (Go.AI.start W) false false (u8 c) v) : v.cells.toList.head? ≠ some (.int .u64 z) := by
 simp only [u8, VR] at h
 subst h
 simp [Value.cells]
theorem Lm (hg : GlAt W) : nP enc Tryz.prog W 23 (List UInt8) (fun l => [.islc false false 1 (BL l)]) (fun l => l.length ≤ maxLen) :=
 yP (Afv Tryz.underlying23 (by kernel_rfl) (by decide) (Arv Tryz.underlying5) u8 (fun _ => rfl) (fun _ => rfl) hg Ayt) id fun _ h => ⟨h.1, rfl⟩
end
end Go.Proofs.YtkpndfkpdnknkaaGreat

