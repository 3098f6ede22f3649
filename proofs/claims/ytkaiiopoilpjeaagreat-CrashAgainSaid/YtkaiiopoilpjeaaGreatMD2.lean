/- Lemmas. -/
import Derived.Test.YtkaiiopoilpjeaaGreatMD1
import Derived.Test.YtkaiiopoilpjeaaGreatMJ4
set_option linter.unusedSimpArgs false
set_option linter.unusedVariables false
set_option maxRecDepth 10000
set_option maxHeartbeats 16000000
namespace Go.Proofs.YtkaiiopoilpjeaaGreat
open Go.AI
def IosOk (ios : List IoV) : Prop := ios.length < 100000 ∧ ∀ x ∈ ios, (x.s = 1 ∨ x.data = []) ∧ x.data.length < 1000000
theorem qH : ∀ (rs : List Rec) (fs : List Nat) (p : Nat), (Eg rs fs p).length ≤ rs.length ∧ ∀ x ∈ Eg rs fs p, x.data.length = 64
 | [], _, _ => by simp [Eg]
 | _ :: _, [], _ => by simp [Eg]
 | r :: rs, a :: fs, p => by
  obtain ⟨h1, h2⟩ := qH rs fs a
  unfold Eg
  refine ⟨by simp; omega, fun x hx => ?_⟩
  rcases Ar.1 hx with rfl | hx
  ·exact yW _
  ·exact h2 x hx
theorem oD (s : Sup) (slot : Nat) (ios : List IoV) (root size first : Nat) (hl : ios.length < 10000) (h : ∀ x ∈ ios, x.data.length = 64) : IosOk (Em s slot ios root size first) := by
 unfold Em
 refine ⟨by simp [iosW]; omega, fun x hx => ?_⟩
 rcases Bq.1 hx with hx | hx
 ·obtain ⟨y, hy, rfl⟩ := Cm.1 hx
  exact ⟨.inl rfl, by have := h y hy; show y.data.length < _; omega⟩
 ·simp only [Ar, Kh, bT] at hx
  rcases hx with rfl | rfl | rfl
  ·exact ⟨.inr rfl, by decide⟩
  ·exact ⟨.inl rfl, by show (supB _).length < _; rw [Yz]; decide⟩
  ·exact ⟨.inr rfl, by decide⟩
theorem Asc {l : List UInt8} {x : Img} {n : Nat} {first : Rec} {wth : Bool} {ios : List IoV} (hx : x.recs.length ≤ 61) (h : Mz l x n first wth = .ok ios) : IosOk ios := by
 unfold Mz at h
 split at h
 ·cases h
 split at h
 ·cases h
 cases h
 obtain ⟨h1, h2⟩ := qH (Hr x.recs n first wth) (Es (Cs l x)) (x.blocks.getD n default)
 refine oD _ _ _ _ _ _ ?_ h2
 have : (Hr x.recs n first wth).length ≤ x.recs.length + 1 := by
  unfold Hr
  rw [An, fX, Ba]
  split <;> simp <;> omega
 omega
theorem Ve {l : List UInt8} {id : Int} {ios : List IoV} (hl : l.length < 1000000) (h : Gx l id = .ok ios) : IosOk ios := by
 unfold Gx at h
 cases hx : Ff l with
 | error e => rw [hx] at h; cases h
 | ok x =>
  rw [hx] at h
  simp only at h
  split at h
  ·cases h
  ·exact Asc (Qx hl hx).2.few h
def wk0 : List UInt8 := newP 16
def wkA : List IoV := match Gx wk0 5 with | .ok a => a | .error _ => []
def wk1 : List UInt8 := Bl wk0 wkA
def wkOk : Bool :=
 (match Gx wk0 5 with | .ok _ => true | .error _ => false) && Nat.beq wkA.length 4 && Nat.beq (Fl wk0 wkA) 0 &&
 (match Ff wk1 with | .ok x => (match idsP x.recs with | [a] => Nat.beq a 5 | _ => false) | .error _ => false) &&
 (match Gx wk1 5 with | .error e => Nat.beq e 10 | .ok _ => false) &&
 (match fR wk1 6 with | .error e => Nat.beq e 11 | .ok _ => false) &&
 (match Ti wk1 5 with | .ok (a, e) => Nat.beq e 0 && Nat.beq a.length 3 | .error _ => false)
theorem Ade : wkOk = true := by kernel_rfl
attribute [local irreducible] aops Bo Cn Dh aop W WO
end Go.Proofs.YtkaiiopoilpjeaaGreat
