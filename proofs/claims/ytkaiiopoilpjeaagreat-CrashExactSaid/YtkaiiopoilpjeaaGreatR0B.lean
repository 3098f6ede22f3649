import Derived.Test.YtkaiiopoilpjeaaGreatR0G
set_option linter.unusedSimpArgs false
set_option linter.unusedVariables false
namespace Go.Proofs.YtkaiiopoilpjeaaGreat
open Go.AI
open Go.WideShapes
theorem Big {H : Type} {enc : TypeId × Value → H} {W : World} (hg : GlAt W) : mK enc Tryz.prog W 37 (List Bool) (fun l => [.islc false false 1 (l.map AV.bool)]) (fun l => l.length ≤ maxLen) :=
 xF (Acu Tryz.underlying37 (by kernel_rfl) (by decide) (Bip Tryz.underlying4) AV.bool (fun _ => rfl) (fun _ => rfl) hg fun c v z h => by
  simp only [VR] at h
  subst h
  simp [Value.cells]) id fun _ h => ⟨h.1, rfl⟩
end Go.Proofs.YtkaiiopoilpjeaaGreat

