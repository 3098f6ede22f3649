import Derived.Test.YtkaiiopoilpjeaaGreatRows
import Derived.Test.YtkaiiopoilpjeaaGreatMC
import Derived.Test.YtkaiiopoilpjeaaGreatG4
import Derived.Eval
set_option linter.unusedSimpArgs false
set_option linter.unusedVariables false
namespace Go.Proofs.YtkaiiopoilpjeaaGreat
open Go.AI
open Go.WideShapes
theorem Aon : ownKnob Tryz.prog.godebug = none := by kernel_rfl
theorem Aat : laidOutB Tryz.prog = true := by kernel_rfl
theorem Afi : Tryz.prog.follows .mixedOrders = true := Checked.mixed Tryz.checked
theorem Awh {P : Program} : cV P (fun _ _ => none) := fun _ _ _ _ _ _ h => by cases h
section
variable {H : Type} {enc : TypeId × Value → H} {W : World}
theorem Axp (c : UInt8) (v : Value) (z : Int) (h : VR (Go.AI.start W) false false (u8 c) v) : v.cells.toList.head? ≠ some (.int .u64 z) := by
 simp only [u8, VR] at h
 subst h
 simp [Value.cells]
theorem Acv (hg : GlAt W) : mK enc Tryz.prog W 22 (List UInt8) (fun l => [.islc false false 1 (BL l)]) (fun l => l.length ≤ maxLen) :=
 xF (Acu Tryz.underlying22 (by kernel_rfl) (by decide) (Apb Tryz.underlying5) u8 (fun _ => rfl) (fun _ => rfl) hg Axp) id fun _ h => ⟨h.1, rfl⟩
end
end Go.Proofs.YtkaiiopoilpjeaaGreat

