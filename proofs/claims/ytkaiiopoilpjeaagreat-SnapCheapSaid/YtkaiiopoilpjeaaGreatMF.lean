/- Lemmas. -/
import Derived.Test.YtkaiiopoilpjeaaGreatMM
import Derived.Test.YtkaiiopoilpjeaaGreatMD1
import Derived.Test.YtkaiiopoilpjeaaGreatME2
import Derived.Test.YtkaiiopoilpjeaaGreatMN
import Derived.Test.YtkaiiopoilpjeaaGreatMD2
set_option linter.unusedSimpArgs false
set_option linter.unusedVariables false
set_option maxHeartbeats 16000000
set_option maxRecDepth 10000
namespace Go.Proofs.YtkaiiopoilpjeaaGreat
open Go.AI
attribute [local irreducible] aops Br Cp Dp aop W WO
end Go.Proofs.YtkaiiopoilpjeaaGreat
set_option maxRecDepth 10000
namespace Go.Proofs.YtkaiiopoilpjeaaGreat
open Go.AI
section
variable {s : Sup} {slot : Nat} {ios : List IoV} {root size first : Nat}
end
structure Opd (l : List UInt8) (ios : List IoV) (x x' : Img) : Prop where
 dev : Dev l
 img : IsImg l x
 img' : IsImg (Bt l ios) x'
 len : (Bt l ios).length = l.length
 right : Lc l ios = 0
 steps : ∃ (io0 : List IoV) (root size first : Nat), ios = Ft x.sup x.slot io0 root size first ∧ Frees l x io0
end Go.Proofs.YtkaiiopoilpjeaaGreat
set_option maxRecDepth 10000
set_option maxHeartbeats 16000000
namespace Go.Proofs.YtkaiiopoilpjeaaGreat
open Go.AI
theorem Afl (w : ViewV) : ∃ (f2 f3 : Bool) (s2 s3 : Nat), w.av = .agg [.islc false false 1 (w.head.map Hq), .islc false f2 s2 (w.snaps.map SnapV.av), .islc false f3 s3 (w.opens.map SnapV.av)] := by
 obtain ⟨f2, s2, h2, _⟩ := Wo w.snaps
 obtain ⟨f3, s3, h3, _⟩ := Wo w.opens
 exact ⟨f2, f3, s2, s3, by unfold ViewV.av ViewV.cs Vj; rw [h2, h3]⟩
attribute [local irreducible] aops Br Cp Dp aop W WO
end Go.Proofs.YtkaiiopoilpjeaaGreat
