/- Lemmas. -/
import Derived.Test.YtkaiiopoilpjeaaMJ4
set_option linter.unusedSimpArgs false
set_option linter.unusedVariables false
set_option maxRecDepth 10000
namespace Go.Proofs.Ytkaiiopoilpjeaa
open Go.AI
theorem Uz {α : Type} {P : α → Prop} {x : α} {l : List α} : (∃ w ∈ x :: l, P w) ↔ P x ∨ ∃ w ∈ l, P w := by
 constructor
 ·rintro ⟨w, hw, h⟩
  rcases Au.1 hw with rfl | hw
  ·exact .inl h
  ·exact .inr ⟨w, hw, h⟩
 ·rintro (h | ⟨w, hw, h⟩)
  ·exact ⟨x, Cl .., h⟩
  ·exact ⟨w, Bi _ hw, h⟩
theorem Gt {α : Type} [Inhabited α] (l : List α) (i j : Nat) (v : α) : (l.set i v).getD j default = if i = j ∧ i < l.length then v else l.getD j default := by
 simp only [Aw, List.getElem?_set]
 by_cases h : i = j
 ·subst h
  by_cases h2 : i < l.length
  ·simp [h2]
  ·simp [h2]
 ·simp [h]
theorem gQ {a : Nat} : ∀ (l : List Nat) (bs : List Bool), (l.foldl mark bs).getD a default = true ↔ (a ∈ l ∧ a < bs.length) ∨ bs.getD a default = true
 | [], bs => by simp
 | x :: l, bs => by
  rw [Cz, gQ l]
  unfold mark
  rw [Gt, Oq, Au]
  by_cases h : x = a ∧ x < bs.length
  ·rw [if_pos h]
   obtain ⟨rfl, h2⟩ := h
   simp [h2]
  ·rw [if_neg h]
   constructor
   ·rintro (h1 | h1)
    ·exact .inl ⟨.inr h1.1, h1.2⟩
    ·exact .inr h1
   ·rintro (⟨h1 | h1, h2⟩ | h1)
    ·exact absurd ⟨h1.symm, by omega⟩ h
    ·exact .inl ⟨h1, h2⟩
    ·exact .inr h1
theorem kJ {a : Nat} : ∀ (l : List Nat) (bs : List Bool), (l.foldl Tp bs).getD a default = true ↔ (a ∈ l ∧ a ≠ 0 ∧ a < bs.length) ∨ bs.getD a default = true
 | [], bs => by simp
 | x :: l, bs => by
  rw [Cz, kJ l]
  unfold Tp
  rw [Gt, Oq, Au]
  by_cases h : x = a ∧ x < bs.length
  ·rw [if_pos h]
   obtain ⟨rfl, h2⟩ := h
   by_cases h0 : x = 0
   ·simp [h0]
   ·simp [h2, h0]
  ·rw [if_neg h]
   constructor
   ·rintro (h1 | h1)
    ·exact .inl ⟨.inr h1.1, h1.2⟩
    ·exact .inr h1
   ·rintro (⟨h1 | h1, h2⟩ | h1)
    ·exact absurd ⟨h1.symm, by omega⟩ h
    ·exact .inl ⟨h1, h2⟩
    ·exact .inr h1
theorem wF {a : Nat} : ∀ (ts : List WS) (bs : List Bool), (ts.foldl mkN bs).getD a default = true ↔ ((∃ w ∈ ts, a ∈ w.nodes) ∧ a < bs.length) ∨ bs.getD a default = true
 | [], bs => by simp
 | x :: l, bs => by
  rw [Cz, wF l]
  unfold mkN
  rw [gQ, Qt]
  simp only [Uz]
  constructor
  ·rintro (⟨h1, h2⟩ | ⟨h1, h2⟩ | h1)
   ·exact .inl ⟨.inr h1, h2⟩
   ·exact .inl ⟨.inl h1, h2⟩
   ·exact .inr h1
  ·rintro (⟨h1 | h1, h2⟩ | h1)
   ·exact .inr (.inl ⟨h1, h2⟩)
   ·exact .inl ⟨h1, h2⟩
   ·exact .inr (.inr h1)
theorem vY {a : Nat} : ∀ (ts : List WS) (bs : List Bool), (ts.foldl mkS bs).getD a default = true ↔ ((∃ w ∈ ts, a ∈ w.m) ∧ a ≠ 0 ∧ a < bs.length) ∨ bs.getD a default = true
 | [], bs => by simp
 | x :: l, bs => by
  rw [Cz, vY l]
  unfold mkS
  rw [kJ, mO]
  simp only [Uz]
  constructor
  ·rintro (⟨h1, h2⟩ | ⟨h1, h2⟩ | h1)
   ·exact .inl ⟨.inr h1, h2⟩
   ·exact .inl ⟨.inl h1, h2⟩
   ·exact .inr h1
  ·rintro (⟨h1 | h1, h2⟩ | h1)
   ·exact .inr (.inl ⟨h1, h2⟩)
   ·exact .inl ⟨h1, h2⟩
   ·exact .inr (.inr h1)
theorem aU (n a : Nat) : (List.replicate n false).getD a default = true ↔ False := by
 simp only [Aw, List.getElem?_replicate]
 by_cases h : a < n <;> simp [h]
def Ow (bl : List Nat) (ts : List WS) (a : Nat) : Prop :=
 ((∃ w ∈ ts, a ∈ w.m) ∧ a ≠ 0) ∧ ((∃ w ∈ ts, a ∈ w.nodes) ∨ a ∈ bl) ∨ (∃ w ∈ ts, a ∈ w.nodes) ∧ a ∈ bl
theorem iU {n : Nat} {bl : List Nat} {ts : List WS} {a : Nat} (ha : a < n) :
  clAt (ts.foldl mkN (List.replicate n false)) (bl.foldl mark (List.replicate n false)) (ts.foldl mkS (List.replicate n false)) a = true ↔ Ow bl ts a := by
 have h1 := wF (a := a) ts (List.replicate n false)
 have h2 := gQ (a := a) bl (List.replicate n false)
 have h3 := vY (a := a) ts (List.replicate n false)
 rw [aU, Ev] at h1 h2 h3
 unfold clAt Ow
 simp only [Lc, Bu, h1, h2, h3, ha, and_true, dO]
theorem Ve {α : Type} {p : α → Bool} : ∀ (l : List α) (i : Nat), (idxL p l i = -1 ∧ ∀ x ∈ l, p x = false) ∨ ∃ j, ∃ h : j < l.length, idxL p l i = ((i + j : Nat) : Int) ∧ p l[j] = true ∧ ∀ x ∈ l.take j, p x = false
 | [], i => .inl ⟨rfl, fun x h => by cases h⟩
 | y :: l, i => by
  unfold idxL
  cases hp : p y with
  | true =>
   exact .inr ⟨0, by simp, by simp, by simpa using hp, fun x h => by simp at h⟩
  | false =>
   rcases Ve l (i + 1) with ⟨h1, h2⟩ | ⟨j, hj, h1, h2, h3⟩
   ·left
    refine ⟨by simpa using h1, fun x hx => ?_⟩
    rcases Au.1 hx with rfl | hx
    ·exact hp
    ·exact h2 x hx
   ·right
    refine ⟨j + 1, by simp; omega, ?_, by simpa using h2, fun x hx => ?_⟩
    ·have : i + (j + 1) = i + 1 + j := by omega
     rw [this]; simpa using h1
    ·rw [Jy] at hx
     rcases Au.1 hx with rfl | hx
     ·exact hp
     ·exact h3 x hx
theorem rD {n : Nat} {bl : List Nat} {ts : List WS} : (Li n bl ts = 0 ∧ ∀ a, 0 < a → a < n → ¬ Ow bl ts a) ∨ Li n bl ts < n ∧ Ow bl ts (Li n bl ts) ∧ ∀ a, a < Li n bl ts → ¬ Ow bl ts a := by
 rcases Ve (p := clAt (ts.foldl mkN (List.replicate n false)) (bl.foldl mark (List.replicate n false)) (ts.foldl mkS (List.replicate n false))) (List.range n) 0 with ⟨h1, h2⟩ | ⟨j, hj, h1, h2, h3⟩
 ·left
  unfold Li
  rw [h1]
  refine ⟨rfl, fun a h0 ha hc => ?_⟩
  have := h2 a (Kg.2 ha)
  rw [(iU ha).2 hc] at this
  cases this
 ·right
  have hjn : j < n := by simpa using hj
  have he : Li n bl ts = j := by
   unfold Li; rw [h1]; simp
  rw [he]
  rw [List.getElem_range] at h2
  refine ⟨hjn, (iU hjn).1 h2, fun a ha hc => ?_⟩
  have h4 := h3 a (by
   rw [List.take_range, Hx (by omega)]
   exact Kg.2 ha)
  rw [(iU (by omega)).2 hc] at h4
  cases h4
theorem dH {n : Nat} {bl : List Nat} {ts : List WS} (hb : ∀ a ∈ bl, 2 ≤ a ∧ a < n) (ht : ∀ w ∈ ts, w.fit n) : Li n bl ts = 0 ↔ ∀ a, ¬ Ow bl ts a := by
 have h0 : ∀ a, Ow bl ts a → 2 ≤ a ∧ a < n := by
  rintro a (⟨⟨_, _⟩, ⟨w, hw, hn⟩ | hb'⟩ | ⟨_, hb'⟩)
  ·exact (ht w hw).2.2 a hn
  ·exact hb a hb'
  ·exact hb a hb'
 rcases rD (n := n) (bl := bl) (ts := ts) with ⟨h1, h2⟩ | ⟨h1, h2, h3⟩
 ·exact ⟨fun _ a hc => by have := h0 a hc; exact h2 a (by omega) this.2 hc, fun _ => h1⟩
 ·constructor
  ·intro h; rw [h] at h2; have := h0 0 h2; omega
  ·intro h; exact absurd h2 (h _)
def reached (l : List UInt8) (x : Img) (a : Nat) : Prop :=
 a < 2 ∨ a ∈ x.blocks ∨ a ∈ x.sup.root :: x.recs.map Rec.root ∨ ∃ w ∈ x.trees, ∃ nd ∈ w.nodes, a ∈ (Er (blk l nd)).1.ptr
theorem lJ {c : List Nat} {p a : Nat} (ha : a < c.length) (h0 : a ≠ 0) : (bump c p).getD a default = 0 ↔ c.getD a default = 0 ∧ a ≠ p := by
 unfold bump
 by_cases hp : p = 0
 ·rw [if_pos hp]; constructor
  ·intro h; exact ⟨h, by omega⟩
  ·exact fun h => h.1
 ·rw [if_neg hp, Gt]
  by_cases h : p = a ∧ p < c.length
  ·rw [if_pos h]; constructor
   ·intro h; omega
   ·intro h2; exact absurd h.1.symm h2.2
  ·rw [if_neg h]; constructor
   ·intro h2; exact ⟨h2, fun he => h ⟨he.symm, by omega⟩⟩
   ·exact fun h => h.1
theorem eR {a : Nat} (h0 : a ≠ 0) : ∀ (ps : List Nat) {c : List Nat}, a < c.length → ((ps.foldl bump c).getD a default = 0 ↔ c.getD a default = 0 ∧ a ∉ ps)
 | [], c, ha => by simp
 | p :: ps, c, ha => by
  rw [Cz, eR h0 ps (by rw [Tv]; exact ha), lJ ha h0, Au]
  constructor
  ·rintro ⟨⟨h1, h2⟩, h3⟩; exact ⟨h1, fun h => h.elim h2 h3⟩
  ·rintro ⟨h1, h2⟩; exact ⟨⟨h1, fun h => h2 (.inl h)⟩, fun h => h2 (.inr h)⟩
def Zs (l : List UInt8) (a n : Nat) (s : List Nat × List Bool) (P : Prop) : Prop :=
 s.1.length = n ∧ s.2.length = n ∧ (s.1.getD a default = 0 ↔ P ∧ ∀ nd, nd < n → s.2.getD nd default = true → a ∉ (Er (blk l nd)).1.ptr)
theorem sZ {l : List UInt8} {a n : Nat} {s : List Nat × List Bool} {P : Prop} (h0 : a ≠ 0) (ha : a < n) (h : Zs l a n s P) {nd : Nat} (hn : nd < n) : Zs l a n (Ey l s nd) P ∧ (Ey l s nd).2.getD nd default = true ∧ ∀ j, s.2.getD j default = true → (Ey l s nd).2.getD j default = true := by
 obtain ⟨l1, l2, hz⟩ := h
 unfold Ey
 by_cases hm : s.2.getD nd default = true
 ·rw [if_pos hm]; exact ⟨⟨l1, l2, hz⟩, hm, fun _ h => h⟩
 ·rw [if_neg hm]
  refine ⟨⟨by rw [Uw]; exact l1, by rw [Oq]; exact l2, ?_⟩, ?_, fun j hj => ?_⟩
  ·rw [eR h0 _ (by omega), hz]
   constructor
   ·rintro ⟨⟨h1, h2⟩, h3⟩
    refine ⟨h1, fun j hj hs => ?_⟩
    rw [Gt] at hs
    by_cases he : nd = j ∧ nd < s.2.length
    ·obtain ⟨rfl, _⟩ := he; exact h3
    ·rw [if_neg he] at hs; exact h2 j hj hs
   ·rintro ⟨h1, h2⟩
    refine ⟨⟨h1, fun j hj hs => h2 j hj ?_⟩, h2 nd hn ?_⟩
    ·rw [Gt]; split
     ·rfl
     ·exact hs
    ·rw [Gt, if_pos ⟨rfl, by omega⟩]
  ·rw [Gt, if_pos ⟨rfl, by omega⟩]
  ·rw [Gt]; split
   ·rfl
   ·exact hj
theorem cJ {l : List UInt8} {a n : Nat} {P : Prop} (h0 : a ≠ 0) (ha : a < n) : ∀ (ls : List Nat) {s : List Nat × List Bool}, Zs l a n s P → (∀ nd ∈ ls, nd < n) → Zs l a n (ls.foldl (Ey l) s) P ∧ (∀ nd ∈ ls, (ls.foldl (Ey l) s).2.getD nd default = true) ∧ (∀ j, s.2.getD j default = true → (ls.foldl (Ey l) s).2.getD j default = true) ∧ ∀ j, (ls.foldl (Ey l) s).2.getD j default = true → s.2.getD j default = true ∨ j ∈ ls
 | [], s, h, _ => ⟨h, (fun _ h => by cases h), (fun _ h => h), (fun _ h => .inl h)⟩
 | nd :: ls, s, h, hl => by
  obtain ⟨h1, h2, h3⟩ := sZ h0 ha h (hl nd (Cl ..))
  obtain ⟨g1, g2, g3, g4⟩ := cJ (P := P) h0 ha ls h1 fun x hx => hl x (Bi _ hx)
  rw [Cz]
  refine ⟨g1, fun x hx => ?_, fun j hj => g3 j (h3 j hj), fun j hj => ?_⟩
  ·rcases Au.1 hx with rfl | hx
   ·exact g3 _ h2
   ·exact g2 x hx
  ·rcases g4 j hj with hj | hj
   ·unfold Ey at hj
    split at hj
    ·exact .inl hj
    ·simp only at hj
     rw [Gt] at hj
     split at hj
     ·rename_i he; exact .inr (by rw [he.1]; exact Cl ..)
     ·exact .inl hj
   ·exact .inr (Bi _ hj)
theorem dA {l : List UInt8} {a n : Nat} (h0 : a ≠ 0) (ha : a < n) : ∀ (ps : List (Nat × WS)) {s : List Nat × List Bool} {P : Prop}, Zs l a n s P → (∀ p ∈ ps, ∀ nd ∈ p.2.nodes, nd < n) →
  Zs l a n (ps.foldl (Fj l) s) (P ∧ ∀ p ∈ ps, a ≠ p.1) ∧ ∀ j, (ps.foldl (Fj l) s).2.getD j default = true ↔ s.2.getD j default = true ∨ ∃ p ∈ ps, j ∈ p.2.nodes
 | [], s, P, h, _ => ⟨by simpa using h, by simp⟩
 | p :: ps, s, P, h, hl => by
  rw [Cz]
  have hb : Zs l a n (bump s.1 p.1, s.2) (P ∧ a ≠ p.1) := by
   obtain ⟨l1, l2, hz⟩ := h
   refine ⟨by rw [Tv]; exact l1, l2, ?_⟩
   rw [lJ (by omega) h0, hz]
   constructor
   ·rintro ⟨⟨h1, h2⟩, h3⟩; exact ⟨⟨h1, h3⟩, h2⟩
   ·rintro ⟨⟨h1, h3⟩, h2⟩; exact ⟨⟨h1, h2⟩, h3⟩
  obtain ⟨g1, g2, g3, g4⟩ := cJ h0 ha p.2.nodes hb (hl p (Cl ..))
  obtain ⟨k1, k2⟩ := dA h0 ha ps g1 fun q hq => hl q (Bi _ hq)
  refine ⟨?_, fun j => ?_⟩
  ·obtain ⟨k3, k4, k5⟩ := k1
   refine ⟨k3, k4, ?_⟩
   show ((ps.foldl (Fj l) (Fj l s p)).1.getD a default = 0 ↔ _)
   unfold Fj at k5 ⊢
   rw [k5]
   simp only [List.forall_mem_cons, and_assoc]
  ·show (ps.foldl (Fj l) (Fj l s p)).2.getD j default = true ↔ _
   have := k2 j
   unfold Fj at this ⊢
   rw [this]
   simp only [Uz]
   constructor
   ·rintro (h | h)
    ·rcases g4 j h with h | h
     ·exact .inl h
     ·exact .inr (.inl h)
    ·exact .inr (.inr h)
   ·rintro (h | h | h)
    ·exact .inl (g3 j h)
    ·exact .inl (g2 j h)
    ·exact .inr h
theorem lY {a : Nat} : ∀ (bl : List Nat) {c : List Nat}, a < c.length → ((bl.foldl one c).getD a default = 0 ↔ c.getD a default = 0 ∧ a ∉ bl)
 | [], c, ha => by simp
 | b :: bl, c, ha => by
  rw [Cz, lY bl (by unfold one; rw [Oq]; exact ha), Au]
  unfold one
  rw [Gt]
  by_cases h : b = a ∧ b < c.length
  ·rw [if_pos h]; constructor
   ·rintro ⟨h1, _⟩; omega
   ·rintro ⟨_, h2⟩; exact absurd (.inl h.1.symm) h2
  ·rw [if_neg h]; constructor
   ·rintro ⟨h1, h2⟩; exact ⟨h1, fun hh => hh.elim (fun he => h ⟨he.symm, by omega⟩) h2⟩
   ·rintro ⟨h1, h2⟩; exact ⟨h1, fun hh => h2 (.inr hh)⟩
theorem dG {α β : Type} {a : α} : ∀ {l : List α} {m : List β}, l.length = m.length → ((∃ p ∈ l.zip m, a = p.1) ↔ a ∈ l)
 | [], [], _ => by simp
 | x :: l, y :: m, h => by
  have := dG (a := a) (l := l) (m := m) (by simpa using h)
  rw [Xt, Uz, this, Au]
theorem cE {α β : Type} {P : β → Prop} : ∀ {l : List α} {m : List β}, l.length = m.length → ((∃ p ∈ l.zip m, P p.2) ↔ ∃ y ∈ m, P y)
 | [], [], _ => by simp
 | x :: l, y :: m, h => by
  have := cE (P := P) (l := l) (m := m) (by simpa using h)
  rw [Xt, Uz, this, Uz]
theorem Yz {l : List UInt8} {x : Img} (hd : Dev l) (hx : x.fit l) {a : Nat} (ha : a < nb l) : (Dn l x).getD a default = 0 ↔ ¬ reached l x a := by
 have hn := hd.nb
 have hlen : (x.sup.root :: x.recs.map Rec.root).length = x.trees.length := by rw [hx.trees]; simp
 have hc0 : (((List.replicate (nb l) 0).set 0 1).set 1 1).length = nb l := by simp
 have hnodes : ∀ p ∈ (x.sup.root :: x.recs.map Rec.root).zip x.trees, ∀ nd ∈ p.2.nodes, nd < nb l := fun p hp nd hnd => ((hx.tree p.2 (Lf hp).2).1.1.2.2 nd hnd).2
 by_cases h2 : a < 2
 ·refine ⟨fun h => absurd h ?_, fun h => absurd (.inl h2) h⟩
  have hmono : ∀ (c : List Nat) (p : Nat), c.getD a default ≤ (bump c p).getD a default := by
   intro c p; unfold bump; split
   ·exact Ao _
   ·rw [Gt]; split
    ·rename_i h; rw [h.1]; omega
    ·exact Ao _
  have hmonos : ∀ (ps c : List Nat), c.getD a default ≤ (ps.foldl bump c).getD a default := by
   intro ps; induction ps with
   | nil => exact fun c => Ao _
   | cons p ps ih => exact fun c => Ga (hmono c p) (ih _)
  have hnode : ∀ (s : List Nat × List Bool) (nd : Nat), s.1.getD a default ≤ (Ey l s nd).1.getD a default := by
   intro s nd; unfold Ey; split
   ·exact Ao _
   ·exact hmonos _ _
  have hnds : ∀ (ls : List Nat) (s : List Nat × List Bool), s.1.getD a default ≤ (ls.foldl (Ey l) s).1.getD a default := by
   intro ls; induction ls with
   | nil => exact fun c => Ao _
   | cons p ps ih => exact fun c => Ga (hnode c p) (ih _)
  have htr : ∀ (ps : List (Nat × WS)) (s : List Nat × List Bool), s.1.getD a default ≤ (ps.foldl (Fj l) s).1.getD a default := by
   intro ps; induction ps with
   | nil => exact fun c => Ao _
   | cons p ps ih => exact fun s => Ga (Ga (hmono s.1 p.1) (hnds p.2.nodes (bump s.1 p.1, s.2))) (ih _)
  have hones : ∀ (bl c : List Nat), 1 ≤ c.getD a default → 1 ≤ (bl.foldl one c).getD a default := by
   intro bl; induction bl with
   | nil => exact fun c h => h
   | cons b bl ih =>
    intro c h
    refine ih _ ?_
    unfold one
    rw [Gt]; split
    ·exact Ao _
    ·exact h
  have hinit : 1 ≤ (((List.replicate (nb l) 0).set 0 1).set 1 1).getD a default := by
   rw [Gt, Gt]
   have : a = 0 ∨ a = 1 := by omega
   rcases this with rfl | rfl
   ·rw [if_neg (by omega), if_pos ⟨rfl, by simp; omega⟩]; exact Ao _
   ·rw [if_pos ⟨rfl, by simp; omega⟩]; exact Ao _
  have h1 := htr ((x.sup.root :: x.recs.map Rec.root).zip x.trees) (x.blocks.foldl one (((List.replicate (nb l) 0).set 0 1).set 1 1), List.replicate (nb l) false)
  have h3 := hones x.blocks _ hinit
  unfold Dn
  simp only at h1
  omega
 ·have h0 : a ≠ 0 := by omega
  have hz0 : Zs l a (nb l) (x.blocks.foldl one (((List.replicate (nb l) 0).set 0 1).set 1 1), List.replicate (nb l) false) (a ∉ x.blocks) := by
   refine ⟨by rw [Qx]; exact hc0, by simp, ?_⟩
   rw [lY _ (by rw [hc0]; exact ha)]
   have hi : (((List.replicate (nb l) 0).set 0 1).set 1 1).getD a default = 0 := by
    rw [Gt, Gt, if_neg (by omega), if_neg (by omega)]
    simp only [Aw, List.getElem?_replicate]
    rw [if_pos ha]; rfl
   constructor
   ·rintro ⟨_, h⟩
    exact ⟨h, fun nd _ hs => by have := (aU _ _).1 hs; exact this.elim⟩
   ·rintro ⟨h, _⟩; exact ⟨hi, h⟩
  obtain ⟨⟨k1, k2, k3⟩, k4⟩ := dA h0 ha _ hz0 hnodes
  unfold Dn
  rw [k3]
  have hfst := dG (a := a) hlen
  constructor
  ·rintro ⟨⟨h1, h3⟩, h4⟩ (h | h | h | ⟨w, hw, nd, hnd, hp⟩)
   ·exact h2 h
   ·exact h1 h
   ·obtain ⟨p, hp, he⟩ := hfst.2 h
    exact h3 p hp he
   ·obtain ⟨p, hp2, hpn⟩ := (cE (P := fun w : WS => nd ∈ w.nodes) hlen).2 ⟨w, hw, hnd⟩
    exact h4 nd (hnodes p hp2 nd hpn) ((k4 nd).2 (.inr ⟨p, hp2, hpn⟩)) hp
  ·intro hr
   refine ⟨⟨fun h => hr (.inr (.inl h)), fun p hp he => hr (.inr (.inr (.inl (hfst.1 ⟨p, hp, he⟩))))⟩, fun nd hnd hs hp => hr (.inr (.inr (.inr ?_)))⟩
   rcases (k4 nd).1 hs with h | ⟨p, hpz, hpn⟩
   ·exact ((aU _ _).1 h).elim
   ·exact ⟨p.2, (Lf hpz).2, nd, hpn, hp⟩
inductive Chain (l : List UInt8) : Nat → List Rec → List Nat → Prop
 | nil : Chain l 0 [] []
 | cons {a : Nat} {r : Rec} {rs : List Rec} {bs : List Nat} (h2 : 2 ≤ a) (hn : a < nb l) (hp : Dt (blk l a) = (r, 0)) (h : Chain l r.next rs bs) : Chain l a (r :: rs) (a :: bs)
def Fy (rs : List Rec) : Prop := (rs.map Rec.id).Nodup ∧ (∀ r ∈ rs.drop 1, r.kind = 0) ∧ (rs.filter Hl).length ≤ 60
theorem Sa {rs : List Rec} (h : Fy rs) : rs.length ≤ 61 := by
 obtain ⟨_, h2, h3⟩ := h
 cases rs with
 | nil => simp
 | cons r rs =>
  have he : rs.filter Hl = rs := Ob.2 fun x hx => by unfold Hl; rw [Dj]; exact h2 x (by simpa using hx)
  rw [Gg] at h3
  split at h3
  ·rw [As, he] at h3; simp; omega
  ·rw [he] at h3; simp; omega
theorem Rec.ok_kind {r : Rec} (h : r.ok) : r.kind = 0 ∨ r.kind = 1 := by
 rcases h.2.2.2.2 with h | h
 ·exact .inl h.1
 ·exact .inr h.1
def CS.good (c : CS) : Prop := c.blocks.length = c.l.length ∧ c.blocks.Nodup ∧ Fy c.l ∧ c.whole = (c.l.filter Hl).length ∧ c.bad = 0
theorem sK {c : CS} (hc : c.good) {r : Rec} (hk : r.kind = 0 ∨ r.kind = 1) : mayP c r = true ↔ Fy (c.l ++ [r]) := by
 obtain ⟨_, _, ⟨g1, g2, g3⟩, hw, _⟩ := hc
 have hid : (c.l.any fun x => decide (x.id = r.id)) = true ↔ r.id ∈ c.l.map Rec.id := by
  rw [Ec, Ca]
  constructor
  ·rintro ⟨x, hx, h⟩; exact ⟨x, hx, Jj h⟩
  ·rintro ⟨x, hx, h⟩; exact ⟨x, hx, Az h⟩
 have hnd : ((c.l ++ [r]).map Rec.id).Nodup ↔ r.id ∉ c.l.map Rec.id := by
  rw [Br, Fs]
  constructor
  ·rintro ⟨_, _, h⟩ hm; exact h _ hm _ (by simp) rfl
  ·intro h; exact ⟨g1, by simp, fun a ha b hb he => by simp at hb; exact h (by rw [← hb, ← he]; exact ha)⟩
 unfold mayP
 rcases hk with hk | hk
 ·rw [if_neg (by omega)]
  have hf : ((c.l ++ [r]).filter Hl).length = (c.l.filter Hl).length + 1 := by
   rw [Gd, Ar]
   have : [r].filter Hl = [r] := Ob.2 fun x hx => by rw [Bw.1 hx]; exact Az hk
   rw [this]; rfl
  unfold Fy
  rw [hnd, hf, Bu, Qj, Dj, hw, ← dP, hid]
  constructor
  ·rintro ⟨h1, h2⟩
   refine ⟨h1, fun x hx => ?_, by omega⟩
   rw [Ii] at hx
   rcases Bg.1 hx with hx | hx
   ·exact g2 x hx
   ·rw [Bw.1 (Na hx)]; exact hk
  ·rintro ⟨h1, _, h3⟩; exact ⟨h1, by omega⟩
 ·rw [if_pos hk, Dj]
  constructor
  ·intro h
   rw [h]
   refine ⟨by simp, fun x hx => by simp at hx, ?_⟩
   show ([r].filter Hl).length ≤ 60
   have := Hb Hl [r]
   simp at this ⊢; omega
  ·rintro ⟨_, h2, _⟩
   cases hl : c.l with
   | nil => rfl
   | cons y ys =>
    have := h2 r (by rw [hl]; simp)
    omega
theorem qV {c : CS} (hc : c.good) {r : Rec} {a : Nat} (hg : Fy (c.l ++ [r])) (ha : a ∉ c.blocks) : (c.put a r).good := by
 obtain ⟨h1, h2, h3, h4, h5⟩ := hc
 refine ⟨by simp [CS.put, h1], ?_, hg, ?_, rfl⟩
 ·show (c.blocks ++ [a]).Nodup
  rw [Fs]
  exact ⟨h2, by simp, fun x hx y hy he => by simp at hy; subst hy; subst he; exact ha hx⟩
 ·show (if r.kind = 0 then c.whole + 1 else c.whole) = ((c.l ++ [r]).filter Hl).length
  rw [Gd, Ar, h4]
  by_cases hk : r.kind = 0
  ·rw [if_pos hk]
   have : [r].filter Hl = [r] := Ob.2 fun x hx => by rw [Bw.1 hx]; exact Az hk
   rw [this]; rfl
  ·rw [if_neg hk]
   have : [r].filter Hl = [] := List.filter_eq_nil_iff.2 fun x hx => by rw [Bw.1 hx]; unfold Hl; simp [hk]
   rw [this]; rfl
theorem nO {a b : List Rec} (h : Fy (a ++ b)) : Fy a := by
 obtain ⟨h1, h2, h3⟩ := h
 rw [Br, Fs] at h1
 refine ⟨h1.1, fun r hr => h2 r ?_, ?_⟩
 ·rw [Ii]; exact Ss _ hr
 ·rw [Gd, Ar] at h3; omega
theorem fI {l : List UInt8} : ∀ (k a : Nat) (c : CS), c.good → c.l.length + k = 64 → (Db l k a c).bad = 0 → ∃ rs bs, Chain l a rs bs ∧ (Db l k a c).l = c.l ++ rs ∧ (Db l k a c).blocks = c.blocks ++ bs ∧ (Db l k a c).good
 | 0, a, c, hc, hk, hb => by have := Sa hc.2.2.1; omega
 | k + 1, a, c, hc, hk, hb => by
  simp only [Db] at hb ⊢
  by_cases h0 : a = 0
  ·rw [if_pos h0]; subst h0
   exact ⟨[], [], .nil, by simp, by simp, hc⟩
  rw [if_neg h0] at hb ⊢
  by_cases h1 : a < 2 ∨ nb l ≤ a ∨ c.blocks.any (a == ·) = true
  ·rw [if_pos h1] at hb; exact absurd hb h0
  rw [if_neg h1] at hb ⊢
  by_cases h2 : (Dt (blk l a)).2 ≠ 0 ∨ mayP c (Dt (blk l a)).1 = false
  ·rw [if_pos h2] at hb; exact absurd hb h0
  rw [if_neg h2] at hb ⊢
  have he : (Dt (blk l a)).2 = 0 := Cw.1 fun h => h2 (.inl h)
  have hm : mayP c (Dt (blk l a)).1 = true := by
   cases h : mayP c (Dt (blk l a)).1 with
   | true => rfl
   | false => exact absurd (.inr h) h2
  have hok := Pk he
  have hg := (sK hc (Rec.ok_kind hok)).1 hm
  have hna : a ∉ c.blocks := fun h => h1 (.inr (.inr (Ec.2 ⟨a, h, by simp⟩)))
  obtain ⟨rs, bs, hch, e1, e2, e3⟩ := fI k _ _ (qV hc hg hna) (by simp [CS.put]; omega) hb
  refine ⟨_ :: rs, a :: bs, .cons (by omega) (by omega) (by rw [← he]) hch, ?_, ?_, e3⟩
  ·rw [e1]; simp [CS.put]
  ·rw [e2]; simp [CS.put]
theorem vJ {l : List UInt8} {a : Nat} {rs : List Rec} {bs : List Nat} (h : Chain l a rs bs) : ∀ (k : Nat) (c : CS), c.good → c.l.length + k = 64 → (c.blocks ++ bs).Nodup → Fy (c.l ++ rs) → (Db l k a c).l = c.l ++ rs ∧ (Db l k a c).blocks = c.blocks ++ bs ∧ (Db l k a c).good := by
 induction h with
 | nil =>
  intro k c hc hk hn hg
  have := Sa hc.2.2.1
  obtain ⟨j, rfl⟩ : ∃ j, k = j + 1 := ⟨k - 1, by omega⟩
  simp only [Db, if_true]
  exact ⟨by simp, by simp, hc⟩
 | @cons a r rs bs h2 hn' hp hch ih =>
  intro k c hc hk hn hg
  have := Sa hc.2.2.1
  obtain ⟨j, rfl⟩ : ∃ j, k = j + 1 := ⟨k - 1, by omega⟩
  have hna : a ∉ c.blocks := fun h => by
   rw [Fs] at hn
   exact hn.2.2 a h a (Cl ..) rfl
  have hg1 : Fy (c.l ++ [r]) := nO (b := rs) (by simpa using hg)
  have hok : r.ok := by have := Pk (b := blk l a) (by rw [hp]); rw [hp] at this; exact this
  have hm := (sK hc (Rec.ok_kind hok)).2 hg1
  simp only [Db]
  rw [if_neg (by omega), if_neg (by
   rintro (h | h | h)
   ·omega
   ·omega
   ·obtain ⟨y, hy, he⟩ := Ec.1 h
    have : a = y := by simpa using he
    exact hna (this ▸ hy)), hp]
  rw [if_neg (by simp [hm])]
  obtain ⟨e1, e2, e3⟩ := ih j (c.put a r) (qV hc hg1 hna) (by simp [CS.put]; omega) (by simpa [CS.put] using hn) (by simpa [CS.put] using hg)
  exact ⟨by rw [e1]; simp [CS.put], by rw [e2]; simp [CS.put], e3⟩
theorem pY : cs0.good := ⟨rfl, Xu, ⟨Xu, (fun _ h => by cases h), by decide⟩, rfl, rfl⟩
theorem yK {l : List UInt8} {a : Nat} {rs : List Rec} {bs : List Nat} (h : Chain l a rs bs) (hn : bs.Nodup) (hg : Fy rs) : (Db l 64 a cs0).l = rs ∧ (Db l 64 a cs0).blocks = bs ∧ (Db l 64 a cs0).bad = 0 := by
 obtain ⟨h1, h2, h3⟩ := vJ h 64 cs0 pY rfl hn hg
 exact ⟨h1, h2, h3.2.2.2.2⟩
theorem Chain.frame {l l' : List UInt8} {a : Nat} {rs : List Rec} {bs : List Nat} (h : Chain l a rs bs) (hn : nb l' = nb l) (hb : ∀ x ∈ bs, blk l' x = blk l x) : Chain l' a rs bs := by
 induction h with
 | nil => exact .nil
 | cons h2 hn' hp h ih => exact .cons h2 (by omega) (by rw [hb _ (Cl ..)]; exact hp) (ih fun x hx => hb x (Bi _ hx))
theorem gX {n level frm : Nat} {rec : Nat → Nat → WS → WS} (hr : ∀ p f w, ∀ x ∈ w.nodes, x ∈ (rec p f w).nodes) (w : WS) (i p : Nat) : ∀ x ∈ w.nodes, x ∈ (Hj n level frm rec w i p).nodes := by
 intro x hx
 unfold Hj
 split
 ·exact hx
 split
 ·exact hx
 split
 ·exact hx
 split
 ·exact hx
 ·exact hr _ _ _ x hx
theorem Sd {n level frm : Nat} {rec : Nat → Nat → WS → WS} (hr : ∀ p f w, ∀ x ∈ w.nodes, x ∈ (rec p f w).nodes) : ∀ (ps : List Nat) (i : Nat) (w : WS), ∀ x ∈ w.nodes, x ∈ (Gh n level frm rec ps i w).nodes
 | [], _, _ => fun _ h => h
 | p :: r, i, w => fun x hx => Sd hr r (i + 1) _ x (gX hr w i p x hx)
theorem eZ {l : List UInt8} {n level at0 frm : Nat} {rec : Nat → Nat → WS → WS} (hr : ∀ p f w, ∀ x ∈ w.nodes, x ∈ (rec p f w).nodes) (w : WS) : ∀ x ∈ w.nodes, x ∈ (Hz l n level at0 frm rec w).nodes := by
 intro x hx
 unfold Hz
 split
 ·exact hx
 ·exact Sd hr _ _ _ x (Ss _ hx)
theorem Xd (l : List UInt8) (n : Nat) : ∀ (v at0 frm : Nat) (w : WS), ∀ x ∈ w.nodes, x ∈ (Dz l n v at0 frm w).nodes
 | 0, _, _, w => eZ (fun _ _ _ _ h => h) w
 | v + 1, _, _, w => eZ (fun p f w => Xd l n v p f w) w
theorem dC {n level frm : Nat} {rec rec' : Nat → Nat → WS → WS} {P : Nat → Prop} (hm : ∀ p f w, ∀ x ∈ w.nodes, x ∈ (rec p f w).nodes) (hr : ∀ p f w, (rec p f w).bad = false → (∀ x ∈ (rec p f w).nodes, P x) → rec' p f w = rec p f w) :
  ∀ (ps : List Nat) (i : Nat) (w : WS), (Gh n level frm rec ps i w).bad = false → (∀ x ∈ (Gh n level frm rec ps i w).nodes, P x) → Gh n level frm rec' ps i w = Gh n level frm rec ps i w
 | [], _, _, _, _ => rfl
 | p :: r, i, w, hb, hP => by
  simp only [Gh] at hb hP ⊢
  have hsb : (Hj n level frm rec w i p).bad = false := by
   cases h : (Hj n level frm rec w i p).bad with
   | false => rfl
   | true => rw [Mp _ _ h, h] at hb; cases hb
  have hsP : ∀ x ∈ (Hj n level frm rec w i p).nodes, P x := fun x hx => hP x (Sd hm r (i + 1) _ x hx)
  have hs : Hj n level frm rec' w i p = Hj n level frm rec w i p := by
   unfold Hj at hsb hsP ⊢
   split
   ·rfl
   rename_i h1
   rw [if_neg h1] at hsb hsP
   split
   ·rfl
   rename_i h2
   rw [if_neg h2] at hsb hsP
   split
   ·rfl
   rename_i h3
   rw [if_neg h3] at hsb hsP
   split
   ·rfl
   rename_i h4
   rw [if_neg h4] at hsb hsP
   exact hr _ _ _ hsb hsP
  rw [hs]
  exact dC hm hr r (i + 1) _ hb hP
theorem cO {l l' : List UInt8} {n level at0 frm : Nat} {rec rec' : Nat → Nat → WS → WS} (hm : ∀ p f w, ∀ x ∈ w.nodes, x ∈ (rec p f w).nodes) (hr : ∀ p f w, (rec p f w).bad = false → (∀ x ∈ (rec p f w).nodes, blk l' x = blk l x) → rec' p f w = rec p f w)
  (w : WS) (hb : (Hz l n level at0 frm rec w).bad = false) (hP : ∀ x ∈ (Hz l n level at0 frm rec w).nodes, blk l' x = blk l x) : Hz l' n level at0 frm rec' w = Hz l n level at0 frm rec w := by
 unfold Hz at hb hP ⊢
 by_cases hc : (atP l n at0 level).2 = false ∨ w.nodes.any (at0 == ·) = true
 ·rw [if_pos hc] at hb; cases hb
 ·rw [if_neg hc] at hb hP
  have he : blk l' at0 = blk l at0 := hP at0 (Sd hm _ _ _ at0 (by simp))
  have ha : atP l' n at0 level = atP l n at0 level := by unfold atP; rw [he]
  rw [ha, if_neg hc, if_neg hc]
  exact dC hm hr _ _ _ hb hP
theorem cB {l l' : List UInt8} {n : Nat} : ∀ (v at0 frm : Nat) (w : WS), (Dz l n v at0 frm w).bad = false → (∀ x ∈ (Dz l n v at0 frm w).nodes, blk l' x = blk l x) → Dz l' n v at0 frm w = Dz l n v at0 frm w
 | 0, at0, frm, w, hb, hP => cO (fun _ _ _ _ h => h) (fun _ _ _ _ _ => rfl) w hb hP
 | v + 1, at0, frm, w, hb, hP => cO (fun p f w => Xd l n v p f w) (fun p f w => cB v p f w) w hb hP
theorem zE {l l' : List UInt8} {root : Nat} {w : WS} (hn : nb l' = nb l) (h : goP l root = some w) (hP : ∀ x ∈ w.nodes, blk l' x = blk l x) : goP l' root = some w := by
 unfold goP at h ⊢
 by_cases h0 : root = 0
 ·rw [if_pos h0] at h ⊢; exact h
 rw [if_neg h0] at h ⊢
 split at h
 ·cases h
 ·rename_i hc
  cases h
  have hb : (Dz l (nb l) 2 root 0 ws0).bad = false := by
   cases hx : (Dz l (nb l) 2 root 0 ws0).bad with
   | false => rfl
   | true => exact absurd (.inl hx) hc
  have he : Dz l' (nb l') 2 root 0 ws0 = Dz l (nb l) 2 root 0 ws0 := by rw [hn]; exact cB 2 root 0 ws0 hb hP
  rw [he, if_neg hc]
def Trees (l : List UInt8) : List (Nat × Nat) → List WS → Prop
 | [], [] => True
 | p :: ps, w :: ws => goP l p.1 = some w ∧ Oh w.m p.2 = false ∧ Trees l ps ws
 | _, _ => False
theorem Xm {l : List UInt8} : ∀ (ps : List (Nat × Nat)) (ws ts : List WS), ((Gc l ps ws).2 = none ∧ (Gc l ps ws).1 = ts) ↔ ∃ us, ts = ws ++ us ∧ Trees l ps us
 | [], ws, ts => by
  simp only [Gc, true_and]
  constructor
  ·rintro rfl; exact ⟨[], by simp, trivial⟩
  ·rintro ⟨us, rfl, h⟩
   cases us with
   | nil => simp
   | cons u us => exact h.elim
 | (r, z) :: ps, ws, ts => by
  simp only [Gc]
  cases hg : goP l r with
  | none =>
   constructor
   ·rintro ⟨h, _⟩; cases h
   ·rintro ⟨us, _, h⟩
    cases us with
    | nil => exact h.elim
    | cons u us => have h1 : goP l r = some u := h.1; rw [hg] at h1; cases h1
  | some w =>
   simp only
   by_cases hb : Oh w.m z = true
   ·rw [if_pos hb]
    constructor
    ·rintro ⟨h, _⟩; cases h
    ·rintro ⟨us, _, h⟩
     cases us with
     | nil => exact h.elim
     | cons u us =>
      have h1 : goP l r = some u := h.1
      have h2 : Oh u.m z = false := h.2.1
      rw [hg] at h1; cases h1; rw [hb] at h2; cases h2
   ·rw [if_neg hb, Xm ps]
    constructor
    ·rintro ⟨us, rfl, h⟩; exact ⟨w :: us, by simp, hg, by simpa using hb, h⟩
    ·rintro ⟨us, rfl, h⟩
     cases us with
     | nil => exact h.elim
     | cons u us =>
      have h1 : goP l r = some u := h.1
      rw [hg] at h1; cases h1
      exact ⟨us, by simp, h.2.2⟩
def Img.roots (x : Img) : List (Nat × Nat) := (x.sup.root, x.sup.size) :: x.recs.map fun r => (r.root, r.size)
theorem Trees.fit {l : List UInt8} (hd : Dev l) : ∀ {ps : List (Nat × Nat)} {ws : List WS}, Trees l ps ws → ∀ w ∈ ws, w.fit (nb l)
 | [], [], _, _, h => by cases h
 | p :: ps, w :: ws, h, y, hy => by
  rcases Au.1 hy with rfl | hy
  ·exact (oW hd h.1).1
  ·exact Trees.fit hd h.2.2 y hy
theorem Chain.range {l : List UInt8} {a : Nat} {rs : List Rec} {bs : List Nat} (h : Chain l a rs bs) : ∀ b ∈ bs, 2 ≤ b ∧ b < nb l := by
 induction h with
 | nil => intro b hb; cases hb
 | cons h2 hn' hp h ih =>
  intro b hb
  rcases Au.1 hb with rfl | hb
  ·exact ⟨h2, hn'⟩
  ·exact ih b hb
structure IsImg (l : List UInt8) (x : Img) : Prop where
 pick : Pw l = some (x.sup, x.slot)
 chain : Chain l x.sup.first x.recs x.blocks
 nodup : x.blocks.Nodup
 good : Fy x.recs
 trees : Trees l x.roots x.trees
 clash : ∀ a, ¬ Ow x.blocks x.trees a
theorem bV {l : List UInt8} (hd : Dev l) {x : Img} : Wj l = .ok x ↔ IsImg l x := by
 constructor
 ·intro h
  unfold Wj at h
  cases hp : Pw l with
  | none => rw [hp] at h; cases h
  | some si =>
   obtain ⟨s, i⟩ := si
   rw [hp] at h
   simp only [kT] at h
   split at h
   ·cases h
   ·rename_i hb
    have hb := Cw.1 hb
    split at h
    ·cases h
    ·rename_i ht
     unfold mE at h
     split at h
     ·cases h
     ·rename_i hc
      have hc := Cw.1 hc
      cases h
      obtain ⟨rs, bs, h1, h2, h3, h4⟩ := fI (l := l) 64 s.first cs0 pY rfl hb
      obtain ⟨us, h5, h6⟩ := (Xm (Ie s (Db l 64 s.first cs0)) [] _).1 ⟨ht, rfl⟩
      have hrs : (Db l 64 s.first cs0).l = rs := h2
      have hbs : (Db l 64 s.first cs0).blocks = bs := h3
      have h7 : (Gc l (Ie s (Db l 64 s.first cs0)) []).1 = us := h5
      refine ⟨hp, ?_, h4.2.1, h4.2.2.1, ?_, ?_⟩
      ·show Chain l s.first (Db l 64 s.first cs0).l (Db l 64 s.first cs0).blocks
       rw [hrs, hbs]; exact h1
      ·show Trees l (Ie s (Db l 64 s.first cs0)) _
       rw [h7]; exact h6
      ·refine (dH (n := nb l) ?_ ?_).1 hc
       ·show ∀ a ∈ (Db l 64 s.first cs0).blocks, _
        rw [hbs]; exact h1.range
       ·rw [h7]; exact Trees.fit hd h6
 ·rintro ⟨hp, hch, hnd, hg, ht, hcl⟩
  obtain ⟨h1, h2, h3⟩ := yK hch hnd hg
  unfold Wj
  rw [hp]
  simp only [kT]
  rw [if_neg (by omega)]
  have hro : Ie x.sup (Db l 64 x.sup.first cs0) = x.roots := by unfold Ie Img.roots; rw [h1]
  obtain ⟨h4, h5⟩ := (Xm (l := l) x.roots [] x.trees).2 ⟨x.trees, rfl, ht⟩
  rw [hro, h4, h5]
  simp only
  unfold mE
  rw [h2, h1, (dH (n := nb l) hch.range (Trees.fit hd ht)).2 hcl]
  rfl
theorem uR (n : Int) (i : Nat) : leAt n (i + 1) = leAt (n / 256) i := by
 unfold leAt
 have h : n / 2 ^ (8 * (i + 1)) = n / 256 / 2 ^ (8 * i) := by
  have e : (2 : Int) ^ (8 * (i + 1)) = 256 * 2 ^ (8 * i) := by
   rw [show 8 * (i + 1) = 8 + 8 * i by omega, Int.pow_add]; rfl
  rw [e, ← Int.ediv_ediv_of_nonneg (by decide)]
 rw [h]
theorem zQ (s : Nat) (n : Int) : leB (s + 1) n = leAt n 0 :: leB s (n / 256) := by
 unfold leB
 rw [List.range_succ_eq_map, Bc, Fh]
 congr 1
 apply Bn
 intro i _
 exact uR n i
theorem gI : ∀ (s : Nat) (n : Int), 0 ≤ n → n < 256 ^ s → (leN (leB s n) : Int) = n
 | 0, n, h0, h1 => by
  simp at h1
  simp [leB, leN]; omega
 | s + 1, n, h0, h1 => by
  have h2 : n / 256 < 256 ^ s := by
   rw [Int.pow_succ] at h1
   exact Int.ediv_lt_of_lt_mul (by decide) h1
  have ih := gI s (n / 256) (Int.ediv_nonneg h0 (by decide)) h2
  have h3 := iG n 0
  simp only [Nat.mul_zero, Int.pow_zero, Int.ediv_one] at h3
  rw [zQ]
  simp only [leN]
  push_cast
  rw [ih, h3]
  omega
def wL (s : Nat) (n : Int) : Prop := 0 ≤ n ∧ n < 256 ^ s ∧ n ≤ 4611686018427387903
theorem Adg {pre post : List UInt8} {n : Int} {s : Nat} (h : wL s n) : getP (pre ++ (leB s n ++ post)) ((pre.length : Nat) : Int) s = (n, 0) := by
 obtain ⟨h0, h1, h2⟩ := h
 have h3 := gI s n h0 h1
 unfold getP
 rw [if_pos ⟨by omega, by simp; omega⟩, Bd, List.drop_left, Cq (by simp), Aj (by simp), if_pos (by omega), h3]
inductive FitsL : List Nat → List Int → Prop
 | nil : FitsL [] []
 | cons {s : Nat} {n : Int} {ss : List Nat} {ns : List Int} (h : wL s n) (r : FitsL ss ns) : FitsL (s :: ss) (n :: ns)
theorem FitsL.len {ss : List Nat} {ns : List Int} (h : FitsL ss ns) : ss.length = ns.length := by
 induction h with
 | nil => rfl
 | cons _ _ ih => simp [ih]
theorem yX {ss : List Nat} {ns : List Int} (h : FitsL ss ns) : ∀ (pre post : List UInt8), Jc (pre ++ (putS ss ns ++ post)) pre.length ss = some (ns, pre.length + ss.sum) := by
 induction h with
 | nil => intro pre post; simp [Jc]
 | @cons s n ss ns h r ih =>
  intro pre post
  have e : pre ++ (putS (s :: ss) (n :: ns) ++ post) = pre ++ (leB s n ++ (putS ss ns ++ post)) := by simp [putS]
  have e2 : pre ++ (leB s n ++ (putS ss ns ++ post)) = (pre ++ leB s n) ++ (putS ss ns ++ post) := by simp
  have hg := Adg (pre := pre) (post := putS ss ns ++ post) h
  have hi := ih (pre ++ leB s n) post
  rw [← e2] at hi
  rw [e]
  simp only [Jc]
  rw [hg]
  have hl : (pre ++ leB s n).length = pre.length + s := by simp
  rw [hl] at hi
  simp only [if_true]
  rw [hi]
  simp; omega
theorem hU (l : List UInt8) : 0 ≤ Iv 0 l ∧ Iv 0 l ≤ 4294967295 := by
 have h := aZ l (n := 4294967295 - ((0 : Int) % 4294967296).toNat) (by omega)
 unfold Iv
 omega
theorem uF {m : List UInt8} {ss : List Nat} {ns : List Int} (hm : m.length = 4) (h : ss.length = ns.length) (hs : ss.sum ≤ 56) : cC (Mo m ss ns) = true := by
 have hl := Qm hm h hs
 have hb := Va hm h hs
 obtain ⟨c0, c1⟩ := hU (Oc m ss ns)
 unfold cC
 rw [Dj, hl]
 have e1 : (Mo m ss ns).drop (64 - 4) = leB 4 (Iv 0 (Oc m ss ns)) := by
  unfold Mo
  rw [Ii, Bm (by omega), hb]; rfl
 have e2 : (Mo m ss ns).take (64 - 4) = Oc m ss ns := by
  unfold Mo
  rw [Cq (by omega), Aj (by omega)]
 rw [e1, e2]
 exact ⟨by omega, gI 4 _ c0 (by omega)⟩
theorem eH {m : List UInt8} {ss : List Nat} {ns : List Int} (hm : m.length = 4) (h : FitsL ss ns) (hs : ss.sum ≤ 56) : Gu (Mo m ss ns) m ss = (ns, 0) := by
 have hl := Qm hm h.len hs
 have hlen : ∀ x : List UInt8, m ++ putS ss ns ++ x = m ++ (putS ss ns ++ x) := fun x => by simp
 have hmk : Mo m ss ns = m ++ (putS ss ns ++ (List.replicate (60 - (m.length + ss.sum)) 0 ++ leB 4 (Iv 0 (Oc m ss ns)))) := by
  unfold Mo Oc; simp
 have hng : Jc (Mo m ss ns) 4 ss = some (ns, 4 + ss.sum) := by
  have := yX h m (List.replicate (60 - (m.length + ss.sum)) 0 ++ leB 4 (Iv 0 (Oc m ss ns)))
  rw [← hmk, hm] at this
  exact this
 have hz : Kp (Mo m ss ns) (4 + ss.sum) 60 = true := by
  unfold Kp
  have e2 : (Mo m ss ns).take 60 = Oc m ss ns := by
   have hb := Va hm h.len hs
   unfold Mo
   rw [Cq (by omega), Aj (by omega)]
  have e3 : (Oc m ss ns).drop (4 + ss.sum) = List.replicate (60 - (m.length + ss.sum)) 0 := by
   unfold Oc
   rw [Ii, Bm (by simp [Tq ss ns h.len, hm])]
   simp [Tq ss ns h.len, hm]
  rw [e2, e3]
  exact Ij.2 fun x hx => by rw [Et hx]; rfl
 unfold Gu
 rw [if_neg (fun hh => hh hl), if_neg (fun hh => hh (by rw [hmk]; rw [Cq (by omega), Aj (by omega)])), uF hm h.len hs]
 rw [if_neg (by decide), hng]
 simp only
 rw [if_pos hz]
theorem Wk {n : Nat} (h : n < 4294967296) : wL 4 (n : Int) := ⟨by omega, by show (n : Int) < 4294967296; omega, by omega⟩
theorem Aar {n : Nat} (h : n ≤ 4611686018427387903) : wL 8 (n : Int) := ⟨by omega, by show (n : Int) < 18446744073709551616; omega, by omega⟩
theorem jN {r : Rec} (h : r.ok) : Dt (recB r) = (r, 0) := by
 have hk := Rec.ok_kind h
 obtain ⟨h1, h2, ⟨h3, h4, h5⟩, h6, h7⟩ := h
 have hf : FitsL sS [(r.next : Int), r.id, r.parent, r.root, r.size, r.kind, r.frames, r.digest] := by
  unfold ptrOk at h1 h2
  exact .cons (Wk (by omega)) (.cons (Aar (by omega)) (.cons (Aar (by omega)) (.cons (Wk (by omega)) (.cons (Wk (by omega)) (.cons (Wk (by omega)) (.cons (Wk (by omega)) (.cons (Wk (by omega)) .nil)))))))
 have hr := eH (m := mS) rfl hf (by decide)
 unfold Dt recB
 rw [hr]
 have e : wX [(r.next : Int), r.id, r.parent, r.root, r.size, r.kind, r.frames, r.digest] = r := rfl
 simp only
 rw [if_neg (by simp), e, if_pos ⟨h1, h2, ⟨h3, h4, h5⟩, h6, h7⟩]
theorem Wf {s : Sup} (h : s.ok) : Fl (supB s) = (s, 0) := by
 obtain ⟨h1, h2, h3, h4, h5⟩ := h
 have hf : FitsL sW [(s.gen : Int), s.blocks, s.root, s.size, s.first] :=
  .cons (Aar (by omega)) (.cons (Wk (by omega)) (.cons (Wk (by omega)) (.cons (Wk (by omega)) (.cons (Wk (by omega)) .nil))))
 have hr := eH (m := mW) rfl hf (by decide)
 unfold Fl supB
 rw [hr]
 have e : wB [(s.gen : Int), s.blocks, s.root, s.size, s.first] = s := rfl
 simp only
 rw [if_neg (by simp), e, if_pos ⟨h1, h2, h3, h4, h5⟩]
def wr (l : List UInt8) (a : Nat) (d : List UInt8) : List UInt8 := l.take (64 * a) ++ d ++ l.drop (64 * (a + 1))
theorem tB {l : List UInt8} {a : Nat} {d : List UInt8} (h : 64 * (a + 1) ≤ l.length) (hd : d.length = 64) : (wr l a d).length = l.length := by
 unfold wr; simp [hd]; omega
theorem Aaq {l : List UInt8} {a : Nat} {d : List UInt8} (h : 64 * (a + 1) ≤ l.length) (hd : d.length = 64) (b : Nat) : blk (wr l a d) b = if b = a then d else blk l b := by
 unfold blk wr
 have h1 : (l.take (64 * a)).length = 64 * a := by simp; omega
 by_cases hb : b = a
 ·rw [if_pos hb, hb, Dr, Ii, Bm (by omega), h1, zY, Cc, Dk, Cq (by omega), Aj (by omega)]
 ·rw [if_neg hb]
  by_cases hlt : b < a
  ·rw [Dr, List.drop_append_of_le_length (by omega), Cq (by simp; omega), List.drop_take, List.take_take, Hx (by omega)]
  ·have hgt : a + 1 ≤ b := by omega
   rw [Ii, Bm (by simp [hd]; omega), Dk]
   have e : (List.take (64 * a) l ++ d).length = 64 * (a + 1) := by simp [hd]; omega
   rw [e, pG]
   congr 2
   omega
def Cn (l : List UInt8) (ios : List IoV) : List UInt8 := ios.foldl (fun l x => if x.kind = 1 then wr l x.at0 x.data else l) l
def qY (n : Nat) (x : IoV) : Prop := x.kind = 1 → x.at0 < n ∧ x.data.length = 64
theorem Ks : ∀ (ios : List IoV) (l : List UInt8), (∀ x ∈ ios, qY (nb l) x) → (Cn l ios).length = l.length
 | [], l, _ => rfl
 | x :: ios, l, h => by
  have hx := h x (Cl ..)
  unfold Cn
  rw [Cz]
  by_cases hk : x.kind = 1
  ·rw [if_pos hk]
   obtain ⟨h1, h2⟩ := hx hk
   have hle : 64 * (x.at0 + 1) ≤ l.length := by unfold nb at h1; omega
   have hl := tB hle h2
   have := Ks ios (wr l x.at0 x.data) fun y hy => by unfold nb; rw [hl]; exact h y (Bi _ hy)
   unfold Cn at this
   rw [this, hl]
  ·rw [if_neg hk]
   exact Ks ios l fun y hy => h y (Bi _ hy)
theorem Wg (l : List UInt8) (a b : List IoV) : Cn l (a ++ b) = Cn (Cn l a) b := by unfold Cn; rw [Aaa]
theorem Pl {b : Nat} : ∀ (ios : List IoV) (l : List UInt8), (∀ x ∈ ios, qY (nb l) x) → (∀ x ∈ ios, x.kind = 1 → x.at0 ≠ b) → blk (Cn l ios) b = blk l b
 | [], l, _, _ => rfl
 | x :: ios, l, h, hb => by
  have hx := h x (Cl ..)
  unfold Cn
  rw [Cz]
  by_cases hk : x.kind = 1
  ·rw [if_pos hk]
   obtain ⟨h1, h2⟩ := hx hk
   have hle : 64 * (x.at0 + 1) ≤ l.length := by unfold nb at h1; omega
   have hl := tB hle h2
   have := Pl (b := b) ios (wr l x.at0 x.data) (fun y hy => by unfold nb; rw [hl]; exact h y (Bi _ hy)) fun y hy => hb y (Bi _ hy)
   unfold Cn at this
   rw [this, Aaq hle h2, if_neg (fun he => hb x (Cl ..) hk he.symm)]
  ·rw [if_neg hk]
   exact Pl ios l (fun y hy => h y (Bi _ hy)) fun y hy => hb y (Bi _ hy)
theorem fB {l : List UInt8} {a b : List IoV} {x : IoV} (h : ∀ y ∈ a ++ x :: b, qY (nb l) y) (hk : x.kind = 1) (hb : ∀ y ∈ b, y.kind = 1 → y.at0 ≠ x.at0) : blk (Cn l (a ++ x :: b)) x.at0 = x.data := by
 have hx := h x (by simp) hk
 have hla := Ks a l fun y hy => h y (Ss _ hy)
 have e : Cn l (a ++ x :: b) = Cn (wr (Cn l a) x.at0 x.data) b := by
  rw [Wg]
  show Cn (if x.kind = 1 then wr (Cn l a) x.at0 x.data else Cn l a) b = _
  rw [if_pos hk]
 have hle : 64 * (x.at0 + 1) ≤ (Cn l a).length := by rw [hla]; have := hx.1; unfold nb at this; omega
 have hlw := tB hle hx.2
 rw [e, Pl b _ (fun y hy => by unfold nb; rw [hlw, hla]; exact h y (by simp [hy])) hb, Aaq hle hx.2, if_pos rfl]
theorem zO {l l' : List UInt8} {s s' : Sup} {i : Nat} (hp : Pw l = some (s, i)) (hs : s'.ok) (hn : s'.blocks = nb l') (hg : s.gen < s'.gen) (hnb : nb l' = nb l) (h0 : blk l' i = blk l i) (h1 : blk l' (1 - i) = supB s') : Pw l' = some (s', 1 - i) := by
 obtain ⟨q1, q2, q3⟩ := gP hp
 have hps := Wf hs
 have hi : i = 0 ∨ i = 1 := by omega
 unfold Pw qZ at hp ⊢
 rcases hi with rfl | rfl
 ·have h0' : blk l' 0 = blk l 0 := h0
  have h1' : blk l' 1 = supB s' := h1
  have e : (Fl (blk l 0)).2 = 0 ∧ (Fl (blk l 0)).1.blocks = nb l ∧ (Fl (blk l 0)).1 = s := by
   split at hp
   ·rename_i ha
    split at hp
    ·simp at hp
    ·simp at hp; exact ⟨ha.1, ha.2, hp⟩
   ·split at hp
    ·simp at hp
    ·cases hp
  rw [h0', h1', hps, hnb, if_pos ⟨e.1, e.2.1⟩, if_pos ⟨⟨rfl, by simp only; omega⟩, by rw [e.2.2]; exact hg⟩]
 ·have h0' : blk l' 1 = blk l 1 := h0
  have h1' : blk l' 0 = supB s' := h1
  have e : (Fl (blk l 1)).1 = s := by
   split at hp
   ·split at hp
    ·simp at hp; exact hp
    ·simp at hp
   ·split at hp
    ·simp at hp; exact hp
    ·cases hp
  rw [h0', h1', hps, hnb, if_pos ⟨rfl, by simp only; omega⟩, if_neg (fun h => by have := h.2; rw [e] at this; simp only at this; omega)]
end Go.Proofs.Ytkaiiopoilpjeaa
