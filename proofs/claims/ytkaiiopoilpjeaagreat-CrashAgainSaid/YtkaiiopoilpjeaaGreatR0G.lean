import Derived.Test.YtkaiiopoilpjeaaGreatRows
import Derived.Test.YtkaiiopoilpjeaaGreatMC
import Derived.Test.YtkaiiopoilpjeaaGreatG4
import Derived.Eval
set_option linter.unusedSimpArgs false
set_option linter.unusedVariables false
namespace Go.Proofs.YtkaiiopoilpjeaaGreat
open Go.AI
open Go.WideShapes
theorem Yn : ownKnob Tryz.prog.godebug = none := by kernel_rfl
theorem Oa : laidOutB Tryz.prog = true := by kernel_rfl
theorem Rz : Tryz.prog.follows .mixedOrders = true := Checked.mixed Tryz.checked
theorem oR {P : Program} : gJ P (fun _ _ => none) := fun _ _ _ _ _ _ h => by cases h
section
variable {H : Type} {enc : TypeId × Value → H} {W : World}
theorem Bdi (c : UInt8) (v : Value) (z : Int) (h : VR (Go.AI.start W) false false (u8 c) v) : v.cells.toList.head? ≠ some (.int .u64 z) := by
 simp only [u8, VR] at h
 subst h
 simp [Value.cells]
theorem Ie (hg : GlAt W) : Yv enc Tryz.prog W 22 (List UInt8) (fun l => [.islc false false 1 (BL l)]) (fun l => l.length ≤ maxLen) :=
 pW (rL Tryz.underlying22 (by kernel_rfl) (by decide) (Avl Tryz.underlying5) u8 (fun _ => rfl) (fun _ => rfl) hg Bdi) id fun _ h => ⟨h.1, rfl⟩
end
theorem Anh {P : Program} {w : World} {r : Reach} {base : Nat} {t e : TypeId} {n : Nat} {v : Value} (ht : P.underlying t = some (.array n e)) (h : Value.okWide P w r base t v) : ∃ cs, v = .agg cs := by
 simp only [Value.okWide, ht] at h
 obtain ⟨cs, h1, _⟩ := h
 exact ⟨cs, h1⟩
end Go.Proofs.YtkaiiopoilpjeaaGreat

