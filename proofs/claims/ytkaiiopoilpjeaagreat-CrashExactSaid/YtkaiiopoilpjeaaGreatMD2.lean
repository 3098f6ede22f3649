/- Lemmas. -/
import Derived.Test.YtkaiiopoilpjeaaGreatMD1
import Derived.Test.YtkaiiopoilpjeaaGreatMJ4
set_option linter.unusedSimpArgs false
set_option linter.unusedVariables false
set_option maxRecDepth 10000
set_option maxHeartbeats 16000000
namespace Go.Proofs.YtkaiiopoilpjeaaGreat
open Go.AI
def nN (ios : List IoV) : Prop := ios.length < 100000 ∧ ∀ x ∈ ios, (x.s = 1 ∨ x.data = []) ∧ x.data.length < 1000000
theorem wR : ∀ (rs : List Rec) (fs : List Nat) (p : Nat), (Ec rs fs p).length ≤ rs.length ∧ ∀ x ∈ Ec rs fs p, x.data.length = 64
 | [], _, _ => by simp [Ec]
 | _ :: _, [], _ => by simp [Ec]
 | r :: rs, a :: fs, p => by
  obtain ⟨h1, h2⟩ := wR rs fs a
  unfold Ec
  refine ⟨by simp; omega, fun x hx => ?_⟩
  rcases Ap.1 hx with rfl | hx
  ·exact qJ _
  ·exact h2 x hx
theorem kD (s : Sup) (slot : Nat) (ios : List IoV) (root size first : Nat) (hl : ios.length < 10000) (h : ∀ x ∈ ios, x.data.length = 64) : nN (Ft s slot ios root size first) := by
 unfold Ft
 refine ⟨by simp [iosW]; omega, fun x hx => ?_⟩
 rcases Bi.1 hx with hx | hx
 ·obtain ⟨y, hy, rfl⟩ := Bz.1 hx
  exact ⟨.inl rfl, by have := h y hy; show y.data.length < _; omega⟩
 ·simp only [Ap, Lg, fF] at hx
  rcases hx with rfl | rfl | rfl
  ·exact ⟨.inr rfl, by decide⟩
  ·exact ⟨.inl rfl, by show (supB _).length < _; rw [Nx]; decide⟩
  ·exact ⟨.inr rfl, by decide⟩
theorem vS {l : List UInt8} {x : Img} {n : Nat} {first : Rec} {wth : Bool} {ios : List IoV} (hx : x.recs.length ≤ 61) (h : Ls l x n first wth = .ok ios) : nN ios := by
 unfold Ls at h
 split at h
 ·cases h
 split at h
 ·cases h
 cases h
 obtain ⟨h1, h2⟩ := wR (Fy x.recs n first wth) (Cd (Ay l x)) (x.blocks.getD n default)
 refine kD _ _ _ _ _ _ ?_ h2
 have : (Fy x.recs n first wth).length ≤ x.recs.length + 1 := by
  unfold Fy
  rw [An, Afa, Bc]
  split <;> simp <;> omega
 omega
theorem rW {l : List UInt8} {id : Int} {ios : List IoV} (hl : l.length < 1000000) (h : Jy l id = .ok ios) : nN ios := by
 unfold Jy at h
 cases hx : pB l with
 | error e => rw [hx] at h; cases h
 | ok x =>
  rw [hx] at h
  simp only at h
  split at h
  ·cases h
  ·exact vS (Oa hl hx).2.few h
def wk0 : List UInt8 := newP 16
def wkA : List IoV := match Jy wk0 5 with | .ok a => a | .error _ => []
def wk1 : List UInt8 := Bt wk0 wkA
def wkOk : Bool :=
 (match Jy wk0 5 with | .ok _ => true | .error _ => false) && Nat.beq wkA.length 4 && Nat.beq (Lc wk0 wkA) 0 &&
 (match pB wk1 with | .ok x => (match idsP x.recs with | [a] => Nat.beq a 5 | _ => false) | .error _ => false) &&
 (match Jy wk1 5 with | .error e => Nat.beq e 10 | .ok _ => false) &&
 (match Kv wk1 6 with | .error e => Nat.beq e 11 | .ok _ => false) &&
 (match mO wk1 5 with | .ok (a, e) => Nat.beq e 0 && Nat.beq a.length 3 | .error _ => false)
theorem Ald : wkOk = true := by kernel_rfl
attribute [local irreducible] aops Br Cp Dp aop W WO
end Go.Proofs.YtkaiiopoilpjeaaGreat
