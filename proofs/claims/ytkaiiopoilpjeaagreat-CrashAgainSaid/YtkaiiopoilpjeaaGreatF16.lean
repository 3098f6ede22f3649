import Derived.Test.YtkaiiopoilpjeaaGreatMF
set_option linter.unusedSimpArgs false
set_option linter.unusedVariables false
set_option maxRecDepth 10000
namespace Go.Proofs.YtkaiiopoilpjeaaGreat
open Go.AI
theorem Bdt {l : List UInt8} {x : Img} (hx : x.fit l) : (Cv l x).snaps.length < 1000 := by
 unfold Cv
 simp only
 rw [Ag]
 have h1 := Ev (fun p => !Ol p) (x.recs.zip x.trees.tail)
 have h2 := hx.few
 rw [Vd] at h1
 omega
def Ahc : List SnapV → Nat
 | s :: _ => s.id
 | [] => 0
theorem Afd {l : List UInt8} {x : Img} (hI : IsImg l x) (hx : x.fit l) {id : Int} (hc : Nj x.recs id = 0) : Ahc (Cv l x).snaps = Ng x.recs ∧ (Cv l x).opens = [] ∧ 1 ≤ id := by
 unfold Nj at hc
 split at hc
 ·cases hc
 rename_i c1
 split at hc
 ·cases hc
 rename_i c2
 have hid := (Df.1 c1).1
 have hwl := hx.trees
 have hg := hI.good.2.1
 have hrk := hx.recs
 unfold Cv
 simp only
 cases hr : x.recs with
 | nil => exact ⟨rfl, rfl, hid⟩
 | cons r rs =>
  rw [hr] at c2 hwl hg hrk
  have hk0 : r.kind = 0 := by
   rcases Rec.ok_kind (hrk r (by simp)) with h | h
   ·exact h
   ·exfalso; apply c2; show (if r.kind = 1 then some r else none).isSome = true; rw [if_pos h]; rfl
  have hall : ∀ p ∈ (r :: rs).zip x.trees.tail, Ol p = false := by
   intro p hp
   have := (Jx hp).1
   unfold Ol
   rw [Wi]
   rcases Ar.1 this with h | h
   ·rw [h]; omega
   ·have := hg p.1 (by simpa using h); omega
  have e1 : (((r :: rs).zip x.trees.tail).filter Ol) = [] := Yd.2 fun y hy => by rw [hall y hy]; simp
  have e2 : (((r :: rs).zip x.trees.tail).filter fun p => !Ol p) = (r :: rs).zip x.trees.tail := Tz.2 fun y hy => by rw [hall y hy]; rfl
  rw [e1, e2]
  refine ⟨?_, rfl, hid⟩
  cases ht : x.trees.tail with
  | nil =>
   have : x.trees.tail.length = 0 := by rw [ht]; rfl
   rw [List.length_tail] at this
   simp only [Ap] at hwl; omega
  | cons w ws => rfl
theorem vT {l : List UInt8} (hl : l.length < 1000000) {id : Int} {ios : List IoV} (h : Gx l id = .ok ios) : ∃ x x', Opd l ios x x' ∧ Ahc (Cv l x).snaps = Ng x.recs ∧ (Cv l x).opens = [] ∧ 1 ≤ id ∧
  Cv (Bl l ios) x' = ⟨(Cv l x).head, ⟨id.toNat, Ng x.recs, (Cv l x).head, 0, 0⟩ :: (Cv l x).snaps, (Cv l x).opens⟩ := by
 obtain ⟨x, x', hd, hI, hc, hmk, hm, _, _, _, _, _, hv⟩ := iY hl h
 obtain ⟨p1, p2, p3⟩ := Afd hI (La hd hI) hc
 exact ⟨x, x', Aat hd hI hmk hm, p1, p2, p3, hv⟩
end Go.Proofs.YtkaiiopoilpjeaaGreat

