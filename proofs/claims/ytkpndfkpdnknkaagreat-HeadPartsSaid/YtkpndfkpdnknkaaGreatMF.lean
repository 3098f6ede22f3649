/- Lemmas. -/
import Derived.Test.YtkpndfkpdnknkaaGreatMM
import Derived.Test.YtkpndfkpdnknkaaGreatMD1
import Derived.Test.YtkpndfkpdnknkaaGreatME2
import Derived.Test.YtkpndfkpdnknkaaGreatMN
import Derived.Test.YtkpndfkpdnknkaaGreatMD2
set_option linter.unusedSimpArgs false
set_option linter.unusedVariables false
set_option maxHeartbeats 16000000
set_option maxRecDepth 10000
namespace Go.Proofs.YtkpndfkpdnknkaaGreat
open Go.AI
attribute [local irreducible] aops Bp Cs Df aop W WO
end Go.Proofs.YtkpndfkpdnknkaaGreat
set_option maxRecDepth 10000
namespace Go.Proofs.YtkpndfkpdnknkaaGreat
open Go.AI
theorem Xj (ios : List IoV) : (iosW ios).length = ios.length := Ah _
section
variable {s : Sup} {slot : Nat} {ios : List IoV} {root size first : Nat}
theorem Tm : Eu s slot ios root size first = iosW ios ++ [flushIo, wIo (1 - slot) (supB (Vp s root size first)), flushIo] := by unfold Eu; simp
theorem rH : (Eu s slot ios root size first).length = ios.length + 3 := by rw [Tm, Am, Xj]; rfl
end
structure Opd (l : List UInt8) (ios : List IoV) (x x' : Img) : Prop where
 dev : Dev l
 img : IsImg l x
 img' : IsImg (Bs l ios) x'
 len : (Bs l ios).length = l.length
 right : Kw l ios = 0
 steps : ∃ (io0 : List IoV) (root size first : Nat), ios = Eu x.sup x.slot io0 root size first ∧ Frees l x io0
end Go.Proofs.YtkpndfkpdnknkaaGreat
