import Derived.Test.YtkaiiopoilpjeaaGreatR0B
import Derived.Test.YtkaiiopoilpjeaaGreatMK5
set_option linter.unusedSimpArgs false
set_option linter.unusedVariables false
namespace Go.Proofs.YtkaiiopoilpjeaaGreat
open Go.AI
open Go.WideShapes
theorem Bkx {H : Type} {enc : TypeId × Value → H} {W : World} (hg : GlAt W) : mK enc Tryz.prog W 50 IoZ (fun x => [.int .i64 x.kind, .int .i64 x.at0, .islc false false 1 (BL x.data)]) (fun _ => True) :=
 xF (Bhd Tryz.underlying50 (by kernel_rfl) (Bba rfl (k := 1) (by kernel_rfl) (Alr Tryz.underlying3) (Bba rfl (k := 1) (by kernel_rfl) (Alr Tryz.underlying3) (Bba rfl (k := 1) (by kernel_rfl) (Acv hg) Bii))))
  (fun ⟨a1, a2, a3, _⟩ => ⟨a1, a2, a3⟩) (fun ⟨a1, a2, a3, _⟩ _ => ⟨trivial, rfl⟩)
theorem Bjl {H : Type} {enc : TypeId × Value → H} {W : World} (hg : GlAt W) : mK enc Tryz.prog W 25 (List IoZ) (fun l => [.islc false false 3 (l.map IoZ.av)]) (fun l => l.length ≤ maxLen) :=
 xF (Acu Tryz.underlying25 (by kernel_rfl) (by decide) (Bkx hg) IoZ.av (fun _ => rfl) (fun _ => rfl) hg fun c v z h => by
  simp only [IoZ.av, VR, VRL] at h
  obtain ⟨vs, rfl, v0, vs0, h1, _, rfl, _⟩ := h
  simp [Value.cells, h1]) id fun _ h => ⟨h.1, rfl⟩
end Go.Proofs.YtkaiiopoilpjeaaGreat

