/- Lemmas. -/
import Derived.Test.YtkaiiopoilpjeaaGreatMF
import Derived.Test.YtkaiiopoilpjeaaGreatMNb
import Derived.Test.YtkaiiopoilpjeaaGreatF16
set_option linter.unusedSimpArgs false
set_option linter.unusedVariables false
set_option maxRecDepth 10000
namespace Go.Proofs.YtkaiiopoilpjeaaGreat
open Go.AI
theorem Aeb {q : Rec × WS → Bool} : ∀ (L : List (Rec × WS)), (∀ p ∈ L.drop 1, q p = false) → ∀ j, ∀ h : j < L.length, q L[j] = false → (L.filter q).length ≤ j ∧ (L.filter fun p => !q p)[j - (L.filter q).length]? = some L[j]
 | [], _, j, h, _ => by simp at h
 | p :: L, hq, j, h, hj => by
  have hq : ∀ p ∈ L, q p = false := fun y hy => hq y (by simpa using hy)
  have e1 : L.filter q = [] := Yd.2 fun y hy => by rw [hq y hy]; simp
  have e2 : (L.filter fun p => !q p) = L := Tz.2 fun y hy => by rw [hq y hy]; rfl
  rw [Ej, Ej, e1, e2]
  cases hp : q p with
  | true =>
   cases j with
   | zero => rw [List.getElem_cons_zero, hp] at hj; cases hj
   | succ j =>
    simp only [Ap] at h
    simp only [if_true, Jm, Bb, Cp, Ap, Dc, List.getElem_cons_succ]
    refine ⟨by omega, ?_⟩
    rw [show j + 1 - (0 + 1) = j by omega, Ab (by omega)]
  | false =>
   simp only [Bool.not_false, if_true, Bb, Cp, Dc, Nl]
   exact ⟨Eo _, by rw [Ab h]⟩
theorem Aye {l : List UInt8} {x : Img} (hI : IsImg l x) {j : Nat} (hj : j < x.recs.length) (hw : j < x.trees.tail.length) (hk : x.recs[j].kind = 0) : (Cv l x).opens.length ≤ j ∧ (Cv l x).snaps[j - (Cv l x).opens.length]? = some ⟨x.recs[j].id, x.recs[j].parent, Nn l x.trees.tail[j].m x.recs[j].size, x.recs[j].frames, x.recs[j].digest⟩ := by
 have hz : j < (x.recs.zip x.trees.tail).length := by rw [Vd]; omega
 have hd : ∀ p ∈ (x.recs.zip x.trees.tail).drop 1, Ol p = false := by
  intro p hp
  have h2 : p.1 ∈ x.recs.drop 1 := by
   rw [show (x.recs.zip x.trees.tail).drop 1 = (x.recs.drop 1).zip (x.trees.tail.drop 1) by unfold List.zip; rw [List.drop_zipWith]] at hp
   exact (Jx hp).1
  have := hI.good.2.1 p.1 h2
  unfold Ol
  rw [Wi]; omega
 obtain ⟨h1, h2⟩ := Aeb (q := Ol) (x.recs.zip x.trees.tail) hd j hz (by rw [List.getElem_zip]; unfold Ol; rw [Wi]; simp only; omega)
 unfold Cv
 simp only
 rw [Ag]
 refine ⟨h1, ?_⟩
 rw [Az, h2, List.getElem_zip]; rfl
theorem Axn {l : List UInt8} (hl : l.length < 1000000) {id : Int} {ios : List IoV} (h : Ti l id = .ok (ios, 0)) : ∃ (x x' : Img) (j : Nat), Opd l ios x x' ∧ Kx x.recs id = (j : Int) ∧ (Cv l x).opens.length ≤ j ∧ ∃ s : SnapV, (Cv l x).snaps[j - (Cv l x).opens.length]? = some s ∧ (s.id : Int) = id ∧
  Cv (Bl l ios) x' = ⟨s.sectors, (Cv l x).snaps, (Cv l x).opens⟩ := by
 obtain ⟨x, x', j, hj, hw, hd, hI, hid, hk, hio, hI', hst, hlen, hv, hf⟩ := Avr hl h
 have hF0 : Frees l x [] := ⟨(fun _ h => by cases h), (fun _ h => by cases h)⟩
 obtain ⟨h1, h2⟩ := Aye hI hj hw hk
 exact ⟨x, x', j, ⟨hd, hI, hI', hlen, by rw [hio]; exact dL hd hF0.fit, [], _, _, _, hio, hF0⟩, hf, h1, _, h2, hid, hv⟩
end Go.Proofs.YtkaiiopoilpjeaaGreat
