/- Lemmas. -/
import Derived.Test.YtkaiiopoilpjeaaGreatMD1
import Derived.Test.YtkaiiopoilpjeaaGreatMJ4
set_option linter.unusedSimpArgs false
set_option linter.unusedVariables false
set_option maxRecDepth 10000
set_option maxHeartbeats 16000000
namespace Go.Proofs.YtkaiiopoilpjeaaGreat
open Go.AI
def IosOk (ios : List IoV) : Prop := ios.length < 100000 ∧ ∀ x ∈ ios, (x.s = 1 ∨ x.data = []) ∧ x.data.length < 1000000
theorem chainL_sz : ∀ (rs : List Rec) (fs : List Nat) (p : Nat), (chainL rs fs p).length ≤ rs.length ∧ ∀ x ∈ chainL rs fs p, x.data.length = 64
 | [], _, _ => by simp [chainL]
 | _ :: _, [], _ => by simp [chainL]
 | r :: rs, a :: fs, p => by
  obtain ⟨h1, h2⟩ := chainL_sz rs fs a
  unfold chainL
  refine ⟨by simp; omega, fun x hx => ?_⟩
  rcases List.mem_cons.1 hx with rfl | hx
  ·exact recB_len _
  ·exact h2 x hx
theorem stepsL_ok (s : Sup) (slot : Nat) (ios : List IoV) (root size first : Nat) (hl : ios.length < 10000) (h : ∀ x ∈ ios, x.data.length = 64) : IosOk (stepsL s slot ios root size first) := by
 unfold stepsL
 refine ⟨by simp [iosW]; omega, fun x hx => ?_⟩
 rcases List.mem_append.1 hx with hx | hx
 ·obtain ⟨y, hy, rfl⟩ := List.mem_map.1 hx
  exact ⟨.inl rfl, by have := h y hy; show y.data.length < _; omega⟩
 ·simp only [List.mem_cons, List.not_mem_nil, or_false] at hx
  rcases hx with rfl | rfl | rfl
  ·exact ⟨.inr rfl, by decide⟩
  ·exact ⟨.inl rfl, by show (supB _).length < _; rw [supB_len]; decide⟩
  ·exact ⟨.inr rfl, by decide⟩
theorem makesP_ok {l : List UInt8} {x : Img} {n : Nat} {first : Rec} {wth : Bool} {ios : List IoV} (hx : x.recs.length ≤ 61) (h : makesP l x n first wth = .ok ios) : IosOk ios := by
 unfold makesP at h
 split at h
 ·cases h
 split at h
 ·cases h
 cases h
 obtain ⟨h1, h2⟩ := chainL_sz (anewP x.recs n first wth) (freeP (countsP l x)) (x.blocks.getD n default)
 refine stepsL_ok _ _ _ _ _ _ ?_ h2
 have : (anewP x.recs n first wth).length ≤ x.recs.length + 1 := by
  unfold anewP
  rw [List.length_append, List.length_reverse, List.length_take]
  split <;> simp <;> omega
 omega
theorem ite_ok {α : Type} {c : Prop} [Decidable c] {e : Nat} {b : Except Nat α} {y : α} (h : (if c then .error e else b) = .ok y) : b = .ok y := by
 by_cases hc : c
 ·rw [if_pos hc] at h; cases h
 ·rwa [if_neg hc] at h
theorem createP_ok {l : List UInt8} {id : Int} {ios : List IoV} (hl : l.length < 1000000) (h : createP l id = .ok ios) : IosOk ios := by
 unfold createP at h
 cases hx : lookQ l with
 | error e => rw [hx] at h; cases h
 | ok x =>
  rw [hx] at h
  simp only at h
  split at h
  ·cases h
  ·exact makesP_ok (lookQ_ok hl hx).2.few h
theorem deleteP_ok {l : List UInt8} {id : Int} {ios : List IoV} (hl : l.length < 1000000) (h : deleteP l id = .ok ios) : IosOk ios := by
 unfold deleteP at h
 cases hx : lookQ l with
 | error e => rw [hx] at h; cases h
 | ok x =>
  rw [hx] at h
  exact makesP_ok (lookQ_ok hl hx).2.few (ite_ok (ite_ok (ite_ok h)))
theorem rollP_ok {l : List UInt8} {id : Int} {ios : List IoV} {e : Nat} (h : rollP l id = .ok (ios, e)) : IosOk ios ∧ (e ≠ 0 → ios = []) := by
 unfold rollP at h
 split at h
 ·cases h
 split at h
 ·cases h
 split at h
 ·cases h
 split at h
 ·cases h
  exact ⟨stepsL_ok _ _ _ _ _ _ (by simp) (by simp), fun h => absurd rfl h⟩
 ·cases h
  exact ⟨⟨by simp, by simp⟩, fun _ => rfl⟩
def wk0 : List UInt8 := newP 16
def wkA : List IoV := match createP wk0 5 with | .ok a => a | .error _ => []
def wk1 : List UInt8 := applyP wk0 wkA
def wkOk : Bool :=
 (match createP wk0 5 with | .ok _ => true | .error _ => false) && Nat.beq wkA.length 4 && Nat.beq (stepsE wk0 wkA) 0 &&
 (match lookQ wk1 with | .ok x => (match idsP x.recs with | [a] => Nat.beq a 5 | _ => false) | .error _ => false) &&
 (match createP wk1 5 with | .error e => Nat.beq e 10 | .ok _ => false) &&
 (match deleteP wk1 6 with | .error e => Nat.beq e 11 | .ok _ => false) &&
 (match rollP wk1 5 with | .ok (a, e) => Nat.beq e 0 && Nat.beq a.length 3 | .error _ => false)
theorem wkOk_true : wkOk = true := by kernel_rfl
attribute [local irreducible] aops aexec acall aiter aop W WO
end Go.Proofs.YtkaiiopoilpjeaaGreat
