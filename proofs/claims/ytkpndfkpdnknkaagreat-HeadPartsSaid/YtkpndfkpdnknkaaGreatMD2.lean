/- Lemmas. -/
import Derived.Test.YtkpndfkpdnknkaaGreatMD1
import Derived.Test.YtkpndfkpdnknkaaGreatMJ4
set_option linter.unusedSimpArgs false
set_option linter.unusedVariables false
set_option maxRecDepth 10000
set_option maxHeartbeats 16000000
namespace Go.Proofs.YtkpndfkpdnknkaaGreat
open Go.AI
def Sn (ios : List IoV) : Prop := ios.length < 100000 ∧ ∀ x ∈ ios, (x.s = 1 ∨ x.data = []) ∧ x.data.length < 1000000
theorem yC (s : Sup) (slot : Nat) (ios : List IoV) (root size first : Nat) (hl : ios.length < 10000) (h : ∀ x ∈ ios, x.data.length = 64) : Sn (Eu s slot ios root size first) := by
 unfold Eu
 refine ⟨by simp [iosW]; omega, fun x hx => ?_⟩
 rcases Bq.1 hx with hx | hx
 ·obtain ⟨y, hy, rfl⟩ := Bt.1 hx
  exact ⟨.inl rfl, by have := h y hy; show y.data.length < _; omega⟩
 ·simp only [Ar, Nq, pJ] at hx
  rcases hx with rfl | rfl | rfl
  ·exact ⟨.inr rfl, by decide⟩
  ·exact ⟨.inl rfl, by show (supB _).length < _; rw [Mt]; decide⟩
  ·exact ⟨.inr rfl, by decide⟩
end Go.Proofs.YtkpndfkpdnknkaaGreat
