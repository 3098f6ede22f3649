/- Lemmas. -/
import Derived.Test.YtkaiiopoilpjeaaMD1
import Derived.Test.YtkaiiopoilpjeaaMJ4
set_option linter.unusedSimpArgs false
set_option linter.unusedVariables false
set_option maxRecDepth 10000
set_option maxHeartbeats 16000000
namespace Go.Proofs.Ytkaiiopoilpjeaa
open Go.AI
def qT (ios : List IoV) : Prop := ios.length < 100000 ∧ ∀ x ∈ ios, (x.s = 1 ∨ x.data = []) ∧ x.data.length < 1000000
theorem kI : ∀ (rs : List Rec) (fs : List Nat) (p : Nat), (De rs fs p).length ≤ rs.length ∧ ∀ x ∈ De rs fs p, x.data.length = 64
 | [], _, _ => by simp [De]
 | _ :: _, [], _ => by simp [De]
 | r :: rs, a :: fs, p => by
  obtain ⟨h1, h2⟩ := kI rs fs a
  unfold De
  refine ⟨by simp; omega, fun x hx => ?_⟩
  rcases Au.1 hx with rfl | hx
  ·exact eD _
  ·exact h2 x hx
theorem mJ (s : Sup) (slot : Nat) (ios : List IoV) (root size first : Nat) (hl : ios.length < 10000) (h : ∀ x ∈ ios, x.data.length = 64) : qT (Ez s slot ios root size first) := by
 unfold Ez
 refine ⟨by simp [iosW]; omega, fun x hx => ?_⟩
 rcases Bg.1 hx with hx | hx
 ·obtain ⟨y, hy, rfl⟩ := Ca.1 hx
  exact ⟨.inl rfl, by have := h y hy; show y.data.length < _; omega⟩
 ·simp only [Au, Kf, dO] at hx
  rcases hx with rfl | rfl | rfl
  ·exact ⟨.inr rfl, by decide⟩
  ·exact ⟨.inl rfl, by show (supB _).length < _; rw [Ki]; decide⟩
  ·exact ⟨.inr rfl, by decide⟩
theorem lU {l : List UInt8} {x : Img} {n : Nat} {first : Rec} {wth : Bool} {ios : List IoV} (hx : x.recs.length ≤ 61) (h : Iq l x n first wth = .ok ios) : qT ios := by
 unfold Iq at h
 split at h
 ·cases h
 split at h
 ·cases h
 cases h
 obtain ⟨h1, h2⟩ := kI (Em x.recs n first wth) (Fm (Dn l x)) (x.blocks.getD n default)
 refine mJ _ _ _ _ _ _ ?_ h2
 have : (Em x.recs n first wth).length ≤ x.recs.length + 1 := by
  unfold Em
  rw [Ar, sX, Cf]
  split <;> simp <;> omega
 omega
theorem uA {α : Type} {c : Prop} [Decidable c] {e : Nat} {b : Except Nat α} {y : α} (h : (if c then .error e else b) = .ok y) : b = .ok y := by
 by_cases hc : c
 ·rw [if_pos hc] at h; cases h
 ·rwa [if_neg hc] at h
theorem eK {l : List UInt8} {id : Int} {ios : List IoV} (hl : l.length < 1000000) (h : Gw l id = .ok ios) : qT ios := by
 unfold Gw at h
 cases hx : lookQ l with
 | error e => rw [hx] at h; cases h
 | ok x =>
  rw [hx] at h
  simp only at h
  split at h
  ·cases h
  ·exact lU (Oz hl hx).2.few h
def wk0 : List UInt8 := newP 16
def wkA : List IoV := match Gw wk0 5 with | .ok a => a | .error _ => []
def wk1 : List UInt8 := Cn wk0 wkA
def wkOk : Bool :=
 (match Gw wk0 5 with | .ok _ => true | .error _ => false) && Nat.beq wkA.length 4 && Nat.beq (Kc wk0 wkA) 0 &&
 (match lookQ wk1 with | .ok x => (match idsP x.recs with | [a] => Nat.beq a 5 | _ => false) | .error _ => false) &&
 (match Gw wk1 5 with | .error e => Nat.beq e 10 | .ok _ => false) &&
 (match Jt wk1 6 with | .error e => Nat.beq e 11 | .ok _ => false) &&
 (match cY wk1 5 with | .ok (a, e) => Nat.beq e 0 && Nat.beq a.length 3 | .error _ => false)
theorem yJ : wkOk = true := by kernel_rfl
attribute [local irreducible] aops Bb Cj Dm aop W WO
end Go.Proofs.Ytkaiiopoilpjeaa
