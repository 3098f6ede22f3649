import Derived.Test.YtkaiiopoilpjeaaGreatRows
import Derived.Test.YtkaiiopoilpjeaaGreatMC
import Derived.Test.YtkaiiopoilpjeaaGreatG4
import Derived.Eval
set_option linter.unusedSimpArgs false
set_option linter.unusedVariables false
namespace Go.Proofs.YtkaiiopoilpjeaaGreat
open Go.AI
open Go.WideShapes
theorem seat_own : ownKnob Tryz.prog.godebug = none := by kernel_rfl
theorem seat_laidOut : laidOutB Tryz.prog = true := by kernel_rfl
theorem seat_mixed : Tryz.prog.follows .mixedOrders = true := Checked.mixed Tryz.checked
theorem no_ext {P : Program} : ExtOk P (fun _ _ => none) := fun _ _ _ _ _ _ h => by cases h
section
variable {H : Type} {enc : TypeId × Value → H} {W : World}
theorem u8_nu (c : UInt8) (v : Value) (z : Int) (h : VR (Go.AI.start W) false false (u8 c) v) : v.cells.toList.head? ≠ some (.int .u64 z) := by
 simp only [u8, VR] at h
 subst h
 simp [Value.cells]
theorem opens_bytes (hg : GlAt W) : Opens enc Tryz.prog W 22 (List UInt8) (fun l => [.islc false false 1 (BL l)]) (fun l => l.length ≤ maxLen) :=
 opens_map (opens_slice Tryz.underlying22 (by kernel_rfl) (by decide) (opens_u8 Tryz.underlying5) u8 (fun _ => rfl) (fun _ => rfl) hg u8_nu) id fun _ h => ⟨h.1, rfl⟩
end
end Go.Proofs.YtkaiiopoilpjeaaGreat

