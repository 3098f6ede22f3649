/- Lemmas. -/
import Derived.Test.YtkaiiopoilpjeaaGreatMN
set_option linter.unusedSimpArgs false
set_option linter.unusedVariables false
set_option maxRecDepth 10000
namespace Go.Proofs.YtkaiiopoilpjeaaGreat
open Go.AI
theorem Avr {l : List UInt8} (hl : l.length < 1000000) {id : Int} {ios : List IoV} (h : Ti l id = .ok (ios, 0)) : ∃ (x x' : Img) (j : Nat), ∃ hj : j < x.recs.length, ∃ hw : j < x.trees.tail.length, Dev l ∧ IsImg l x ∧ (x.recs[j].id : Int) = id ∧ x.recs[j].kind = 0 ∧ ios = Em x.sup x.slot [] x.recs[j].root x.recs[j].size x.sup.first ∧ IsImg (Bl l ios) x' ∧ (∀ a, 2 ≤ a → reached l x a → blk (Bl l ios) a = blk l a) ∧
  (Bl l ios).length = l.length ∧ Cv (Bl l ios) x' = ⟨Nn l x.trees.tail[j].m x.recs[j].size, (Cv l x).snaps, (Cv l x).opens⟩ ∧ Kx x.recs id = (j : Int) := by
 unfold Ti at h
 split at h
 ·cases h
 rename_i x hlk
 obtain ⟨hd, hI⟩ := (Fk hl).1 hlk
 have hx := La hd hI
 split at h
 ·cases h
 split at h
 ·cases h
 rename_i c2
 obtain ⟨j, hj, f1, f2, f3⟩ := Ang c2
 rw [f1, As] at h
 split at h
 rotate_left 1
 ·cases h
 rename_i hgen
 have hgd : x.recs.getD j default = x.recs[j] := by simp [hj]
 rw [hgd] at h
 obtain ⟨w, ws, he, h1, h2, h3⟩ := Mg hI
 have hwl : x.recs.length = ws.length := by have := h3.len; simpa using this
 have hwj : j < ws.length := by omega
 have hgj := Trees.get j (by simpa using hj) hwj h3
 simp only [List.getElem_map] at hgj
 have htl : x.trees.tail = ws := by rw [he]; rfl
 have hmem : ∀ v ∈ ws[j] :: ws, v ∈ x.trees := fun v hv => by
  rw [he]
  rcases Ar.1 hv with rfl | hv
  ·exact Bu _ (Bs hwj)
  ·exact Bu _ hv
 simp only [Except.ok.injEq, Ao, and_true] at h
 subst h
 have hnb2 : 2 ≤ nb l := by have := hd.nb; omega
 have hF0 : Frees l x [] := ⟨(fun _ h => by cases h), (fun _ h => by cases h)⟩
 have hlen := Yu (l := l) (s := x.sup) (slot := x.slot) (root := x.recs[j].root) (size := x.recs[j].size) (first := x.sup.first) hnb2 hF0.fit
 have hnb : nb (Bl l (Em x.sup x.slot [] x.recs[j].root x.recs[j].size x.sup.first)) = nb l := by unfold nb; rw [hlen]
 have hstay : ∀ a, 2 ≤ a → reached l x a → blk (Bl l (Em x.sup x.slot [] x.recs[j].root x.recs[j].size x.sup.first)) a = blk l a := fun a ha hr => Zg hd hI hF0.fit hF0.free ha hr
 have hrj := hx.recs _ (Bs hj)
 have hrr := hx.roots x.recs[j].root (Bu _ (Cm.2 ⟨_, Bs hj, rfl⟩))
 refine ⟨x, ⟨Mc x.sup x.recs[j].root x.recs[j].size x.sup.first, 1 - x.slot, x.recs, x.blocks, ws[j] :: ws⟩, j, hj, by rw [htl]; exact hwj, hd, hI, f2, f3, rfl, ?_, hstay, hlen, ?_, f1⟩
 ·refine iH hd hI hx hF0.fit ?_ hx.blocks ?_ hI.nodup hI.good ?_ ?_
  ·obtain ⟨k1, k2, k3, k4, k5⟩ := hx.sup
   obtain ⟨r1, r2, r3, r4, r5⟩ := hrj
   refine ⟨⟨by show 1 ≤ x.sup.gen + 1; omega, by show x.sup.gen + 1 ≤ _; omega⟩, k2, r4, ?_, k5⟩
   show x.recs[j].root = 0 ∨ 2 ≤ x.recs[j].root ∧ x.recs[j].root < x.sup.blocks
   rw [hx.blocks]
   unfold ptrOk at r2; omega
  ·exact hI.chain.frame hnb fun a ha => hstay a (hx.blk a ha).1 (.inr (.inl ha))
  ·refine Trees.frame hnb (ps := (x.recs[j].root, x.recs[j].size) :: x.recs.map fun r => (r.root, r.size)) (ws := ws[j] :: ws) ⟨hgj.1, hgj.2, h3⟩ fun v hv a ha => ?_
   have hv' := hmem v hv
   exact hstay a ((hx.tree v hv').1.1.2.2 a ha).1 ((Iz hI v hv').1 a ha)
  ·exact yK hI.clash hmem fun a ha => .inl ha
 ·rw [Adf hI hstay (hmem _ (by simp)) (fun v hv => hmem v (Bu _ hv)) rfl]
  unfold Cv
  simp only [htl]
  rfl
theorem Aru {l : List UInt8} {id : Int} {e : Nat} (h : Ti l id = .error e) : e ≠ 0 := by
 unfold Ti at h
 split at h
 ·rename_i hl; cases h; have := Gr hl; omega
 split at h
 ·cases h; decide
 split at h
 ·cases h; decide
 ·cases h
end Go.Proofs.YtkaiiopoilpjeaaGreat
