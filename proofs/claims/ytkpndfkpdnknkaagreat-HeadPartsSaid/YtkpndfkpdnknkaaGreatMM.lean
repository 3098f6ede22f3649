/- Lemmas. -/
import Derived.Test.YtkpndfkpdnknkaaGreatMJ4
set_option linter.unusedSimpArgs false
set_option linter.unusedVariables false
set_option maxRecDepth 10000
namespace Go.Proofs.YtkpndfkpdnknkaaGreat
open Go.AI
theorem dK {α : Type} {P : α → Prop} {x : α} {l : List α} : (∃ w ∈ x :: l, P w) ↔ P x ∨ ∃ w ∈ l, P w := by
 constructor
 ·rintro ⟨w, hw, h⟩
  rcases Ar.1 hw with rfl | hw
  ·exact .inl h
  ·exact .inr ⟨w, hw, h⟩
 ·rintro (h | ⟨w, hw, h⟩)
  ·exact ⟨x, Dt .., h⟩
  ·exact ⟨w, Cb _ hw, h⟩
theorem Jh {α : Type} [Inhabited α] (l : List α) (i j : Nat) (v : α) : (l.set i v).getD j default = if i = j ∧ i < l.length then v else l.getD j default := by
 simp only [Ae, List.getElem?_set]
 by_cases h : i = j
 ·subst h
  by_cases h2 : i < l.length
  ·simp [h2]
  ·simp [h2]
 ·simp [h]
theorem tH {a : Nat} : ∀ (l : List Nat) (bs : List Bool), (l.foldl mark bs).getD a default = true ↔ (a ∈ l ∧ a < bs.length) ∨ bs.getD a default = true
 | [], bs => by simp
 | x :: l, bs => by
  rw [Dv, tH l]
  unfold mark
  rw [Jh, Ee, Ar]
  by_cases h : x = a ∧ x < bs.length
  ·rw [if_pos h]
   obtain ⟨rfl, h2⟩ := h
   simp [h2]
  ·rw [if_neg h]
   constructor
   ·rintro (h1 | h1)
    ·exact .inl ⟨.inr h1.1, h1.2⟩
    ·exact .inr h1
   ·rintro (⟨h1 | h1, h2⟩ | h1)
    ·exact absurd ⟨h1.symm, by omega⟩ h
    ·exact .inl ⟨h1, h2⟩
    ·exact .inr h1
theorem zN {a : Nat} : ∀ (l : List Nat) (bs : List Bool), (l.foldl aF bs).getD a default = true ↔ (a ∈ l ∧ a ≠ 0 ∧ a < bs.length) ∨ bs.getD a default = true
 | [], bs => by simp
 | x :: l, bs => by
  rw [Dv, zN l]
  unfold aF
  rw [Jh, Ee, Ar]
  by_cases h : x = a ∧ x < bs.length
  ·rw [if_pos h]
   obtain ⟨rfl, h2⟩ := h
   by_cases h0 : x = 0
   ·simp [h0]
   ·simp [h2, h0]
  ·rw [if_neg h]
   constructor
   ·rintro (h1 | h1)
    ·exact .inl ⟨.inr h1.1, h1.2⟩
    ·exact .inr h1
   ·rintro (⟨h1 | h1, h2⟩ | h1)
    ·exact absurd ⟨h1.symm, by omega⟩ h
    ·exact .inl ⟨h1, h2⟩
    ·exact .inr h1
theorem Aln {a : Nat} : ∀ (ts : List WS) (bs : List Bool), (ts.foldl mkN bs).getD a default = true ↔ ((∃ w ∈ ts, a ∈ w.nodes) ∧ a < bs.length) ∨ bs.getD a default = true
 | [], bs => by simp
 | x :: l, bs => by
  rw [Dv, Aln l]
  unfold mkN
  rw [tH, Xu]
  simp only [dK]
  constructor
  ·rintro (⟨h1, h2⟩ | ⟨h1, h2⟩ | h1)
   ·exact .inl ⟨.inr h1, h2⟩
   ·exact .inl ⟨.inl h1, h2⟩
   ·exact .inr h1
  ·rintro (⟨h1 | h1, h2⟩ | h1)
   ·exact .inr (.inl ⟨h1, h2⟩)
   ·exact .inl ⟨h1, h2⟩
   ·exact .inr (.inr h1)
theorem Akp {a : Nat} : ∀ (ts : List WS) (bs : List Bool), (ts.foldl mkS bs).getD a default = true ↔ ((∃ w ∈ ts, a ∈ w.m) ∧ a ≠ 0 ∧ a < bs.length) ∨ bs.getD a default = true
 | [], bs => by simp
 | x :: l, bs => by
  rw [Dv, Akp l]
  unfold mkS
  rw [zN, yJ]
  simp only [dK]
  constructor
  ·rintro (⟨h1, h2⟩ | ⟨h1, h2⟩ | h1)
   ·exact .inl ⟨.inr h1, h2⟩
   ·exact .inl ⟨.inl h1, h2⟩
   ·exact .inr h1
  ·rintro (⟨h1 | h1, h2⟩ | h1)
   ·exact .inr (.inl ⟨h1, h2⟩)
   ·exact .inl ⟨h1, h2⟩
   ·exact .inr (.inr h1)
theorem mE (n a : Nat) : (List.replicate n false).getD a default = true ↔ False := by
 simp only [Ae, Nr]
 by_cases h : a < n <;> simp [h]
def Ut (bl : List Nat) (ts : List WS) (a : Nat) : Prop :=
 ((∃ w ∈ ts, a ∈ w.m) ∧ a ≠ 0) ∧ ((∃ w ∈ ts, a ∈ w.nodes) ∨ a ∈ bl) ∨ (∃ w ∈ ts, a ∈ w.nodes) ∧ a ∈ bl
theorem vR {n : Nat} {bl : List Nat} {ts : List WS} {a : Nat} (ha : a < n) :
  clAt (ts.foldl mkN (List.replicate n false)) (bl.foldl mark (List.replicate n false)) (ts.foldl mkS (List.replicate n false)) a = true ↔ Ut bl ts a := by
 have h1 := Aln (a := a) ts (List.replicate n false)
 have h2 := tH (a := a) bl (List.replicate n false)
 have h3 := Akp (a := a) ts (List.replicate n false)
 rw [mE, Ca] at h1 h2 h3
 unfold clAt Ut
 simp only [Ow, Co, h1, h2, h3, ha, and_true, pJ]
theorem dG {α : Type} {p : α → Bool} : ∀ (l : List α) (i : Nat), (idxL p l i = -1 ∧ ∀ x ∈ l, p x = false) ∨ ∃ j, ∃ h : j < l.length, idxL p l i = ((i + j : Nat) : Int) ∧ p l[j] = true ∧ ∀ x ∈ l.take j, p x = false
 | [], i => .inl ⟨rfl, fun x h => by cases h⟩
 | y :: l, i => by
  unfold idxL
  cases hp : p y with
  | true =>
   exact .inr ⟨0, by simp, by simp, by simpa using hp, fun x h => by simp at h⟩
  | false =>
   rcases dG l (i + 1) with ⟨h1, h2⟩ | ⟨j, hj, h1, h2, h3⟩
   ·left
    refine ⟨by simpa using h1, fun x hx => ?_⟩
    rcases Ar.1 hx with rfl | hx
    ·exact hp
    ·exact h2 x hx
   ·right
    refine ⟨j + 1, by simp; omega, ?_, by simpa using h2, fun x hx => ?_⟩
    ·have : i + (j + 1) = i + 1 + j := by omega
     rw [this]; simpa using h1
    ·rw [Je] at hx
     rcases Ar.1 hx with rfl | hx
     ·exact hp
     ·exact h3 x hx
theorem Ado {n : Nat} {bl : List Nat} {ts : List WS} : (Pv n bl ts = 0 ∧ ∀ a, 0 < a → a < n → ¬ Ut bl ts a) ∨ Pv n bl ts < n ∧ Ut bl ts (Pv n bl ts) ∧ ∀ a, a < Pv n bl ts → ¬ Ut bl ts a := by
 rcases dG (p := clAt (ts.foldl mkN (List.replicate n false)) (bl.foldl mark (List.replicate n false)) (ts.foldl mkS (List.replicate n false))) (List.range n) 0 with ⟨h1, h2⟩ | ⟨j, hj, h1, h2, h3⟩
 ·left
  unfold Pv
  rw [h1]
  refine ⟨rfl, fun a h0 ha hc => ?_⟩
  have := h2 a (Bw.2 ha)
  rw [(vR ha).2 hc] at this
  cases this
 ·right
  have hjn : j < n := by simpa using hj
  have he : Pv n bl ts = j := by
   unfold Pv; rw [h1]; simp
  rw [he]
  rw [Vl] at h2
  refine ⟨hjn, (vR hjn).1 h2, fun a ha hc => ?_⟩
  have h4 := h3 a (by
   rw [List.take_range, Kx (by omega)]
   exact Bw.2 ha)
  rw [(vR (by omega)).2 hc] at h4
  cases h4
theorem oO {n : Nat} {bl : List Nat} {ts : List WS} (hb : ∀ a ∈ bl, 2 ≤ a ∧ a < n) (ht : ∀ w ∈ ts, w.fit n) : Pv n bl ts = 0 ↔ ∀ a, ¬ Ut bl ts a := by
 have h0 : ∀ a, Ut bl ts a → 2 ≤ a ∧ a < n := by
  rintro a (⟨⟨_, _⟩, ⟨w, hw, hn⟩ | hb'⟩ | ⟨_, hb'⟩)
  ·exact (ht w hw).2.2 a hn
  ·exact hb a hb'
  ·exact hb a hb'
 rcases Ado (n := n) (bl := bl) (ts := ts) with ⟨h1, h2⟩ | ⟨h1, h2, h3⟩
 ·exact ⟨fun _ a hc => by have := h0 a hc; exact h2 a (by omega) this.2 hc, fun _ => h1⟩
 ·constructor
  ·intro h; rw [h] at h2; have := h0 0 h2; omega
  ·intro h; exact absurd h2 (h _)
def reached (l : List UInt8) (x : Img) (a : Nat) : Prop :=
 a < 2 ∨ a ∈ x.blocks ∨ a ∈ x.sup.root :: x.recs.map Rec.root ∨ ∃ w ∈ x.trees, ∃ nd ∈ w.nodes, a ∈ (Cw (blk l nd)).1.ptr
theorem zX {c : List Nat} {p a : Nat} (ha : a < c.length) (h0 : a ≠ 0) : (bump c p).getD a default = 0 ↔ c.getD a default = 0 ∧ a ≠ p := by
 unfold bump
 by_cases hp : p = 0
 ·rw [if_pos hp]; constructor
  ·intro h; exact ⟨h, by omega⟩
  ·exact fun h => h.1
 ·rw [if_neg hp, Jh]
  by_cases h : p = a ∧ p < c.length
  ·rw [if_pos h]; constructor
   ·intro h; omega
   ·intro h2; exact absurd h.1.symm h2.2
  ·rw [if_neg h]; constructor
   ·intro h2; exact ⟨h2, fun he => h ⟨he.symm, by omega⟩⟩
   ·exact fun h => h.1
theorem vT {a : Nat} (h0 : a ≠ 0) : ∀ (ps : List Nat) {c : List Nat}, a < c.length → ((ps.foldl bump c).getD a default = 0 ↔ c.getD a default = 0 ∧ a ∉ ps)
 | [], c, ha => by simp
 | p :: ps, c, ha => by
  rw [Dv, vT h0 ps (by rw [aR]; exact ha), zX ha h0, Ar]
  constructor
  ·rintro ⟨⟨h1, h2⟩, h3⟩; exact ⟨h1, fun h => h.elim h2 h3⟩
  ·rintro ⟨h1, h2⟩; exact ⟨⟨h1, fun h => h2 (.inl h)⟩, fun h => h2 (.inr h)⟩
def Zs (l : List UInt8) (a n : Nat) (s : List Nat × List Bool) (P : Prop) : Prop :=
 s.1.length = n ∧ s.2.length = n ∧ (s.1.getD a default = 0 ↔ P ∧ ∀ nd, nd < n → s.2.getD nd default = true → a ∉ (Cw (blk l nd)).1.ptr)
theorem Ail {l : List UInt8} {a n : Nat} {s : List Nat × List Bool} {P : Prop} (h0 : a ≠ 0) (ha : a < n) (h : Zs l a n s P) {nd : Nat} (hn : nd < n) : Zs l a n (Gj l s nd) P ∧ (Gj l s nd).2.getD nd default = true ∧ ∀ j, s.2.getD j default = true → (Gj l s nd).2.getD j default = true := by
 obtain ⟨l1, l2, hz⟩ := h
 unfold Gj
 by_cases hm : s.2.getD nd default = true
 ·rw [if_pos hm]; exact ⟨⟨l1, l2, hz⟩, hm, fun _ h => h⟩
 ·rw [if_neg hm]
  refine ⟨⟨by rw [cR]; exact l1, by rw [Ee]; exact l2, ?_⟩, ?_, fun j hj => ?_⟩
  ·rw [vT h0 _ (by omega), hz]
   constructor
   ·rintro ⟨⟨h1, h2⟩, h3⟩
    refine ⟨h1, fun j hj hs => ?_⟩
    rw [Jh] at hs
    by_cases he : nd = j ∧ nd < s.2.length
    ·obtain ⟨rfl, _⟩ := he; exact h3
    ·rw [if_neg he] at hs; exact h2 j hj hs
   ·rintro ⟨h1, h2⟩
    refine ⟨⟨h1, fun j hj hs => h2 j hj ?_⟩, h2 nd hn ?_⟩
    ·rw [Jh]; split
     ·rfl
     ·exact hs
    ·rw [Jh, if_pos ⟨rfl, by omega⟩]
  ·rw [Jh, if_pos ⟨rfl, by omega⟩]
  ·rw [Jh]; split
   ·rfl
   ·exact hj
theorem oQ {l : List UInt8} {a n : Nat} {P : Prop} (h0 : a ≠ 0) (ha : a < n) : ∀ (ls : List Nat) {s : List Nat × List Bool}, Zs l a n s P → (∀ nd ∈ ls, nd < n) → Zs l a n (ls.foldl (Gj l) s) P ∧ (∀ nd ∈ ls, (ls.foldl (Gj l) s).2.getD nd default = true) ∧ (∀ j, s.2.getD j default = true → (ls.foldl (Gj l) s).2.getD j default = true) ∧ ∀ j, (ls.foldl (Gj l) s).2.getD j default = true → s.2.getD j default = true ∨ j ∈ ls
 | [], s, h, _ => ⟨h, (fun _ h => by cases h), (fun _ h => h), (fun _ h => .inl h)⟩
 | nd :: ls, s, h, hl => by
  obtain ⟨h1, h2, h3⟩ := Ail h0 ha h (hl nd (Dt ..))
  obtain ⟨g1, g2, g3, g4⟩ := oQ (P := P) h0 ha ls h1 fun x hx => hl x (Cb _ hx)
  rw [Dv]
  refine ⟨g1, fun x hx => ?_, fun j hj => g3 j (h3 j hj), fun j hj => ?_⟩
  ·rcases Ar.1 hx with rfl | hx
   ·exact g3 _ h2
   ·exact g2 x hx
  ·rcases g4 j hj with hj | hj
   ·unfold Gj at hj
    split at hj
    ·exact .inl hj
    ·simp only at hj
     rw [Jh] at hj
     split at hj
     ·rename_i he; exact .inr (by rw [he.1]; exact Dt ..)
     ·exact .inl hj
   ·exact .inr (Cb _ hj)
theorem nJ {l : List UInt8} {a n : Nat} (h0 : a ≠ 0) (ha : a < n) : ∀ (ps : List (Nat × WS)) {s : List Nat × List Bool} {P : Prop}, Zs l a n s P → (∀ p ∈ ps, ∀ nd ∈ p.2.nodes, nd < n) →
  Zs l a n (ps.foldl (Hh l) s) (P ∧ ∀ p ∈ ps, a ≠ p.1) ∧ ∀ j, (ps.foldl (Hh l) s).2.getD j default = true ↔ s.2.getD j default = true ∨ ∃ p ∈ ps, j ∈ p.2.nodes
 | [], s, P, h, _ => ⟨by simpa using h, by simp⟩
 | p :: ps, s, P, h, hl => by
  rw [Dv]
  have hb : Zs l a n (bump s.1 p.1, s.2) (P ∧ a ≠ p.1) := by
   obtain ⟨l1, l2, hz⟩ := h
   refine ⟨by rw [aR]; exact l1, l2, ?_⟩
   rw [zX (by omega) h0, hz]
   constructor
   ·rintro ⟨⟨h1, h2⟩, h3⟩; exact ⟨⟨h1, h3⟩, h2⟩
   ·rintro ⟨⟨h1, h3⟩, h2⟩; exact ⟨⟨h1, h2⟩, h3⟩
  obtain ⟨g1, g2, g3, g4⟩ := oQ h0 ha p.2.nodes hb (hl p (Dt ..))
  obtain ⟨k1, k2⟩ := nJ h0 ha ps g1 fun q hq => hl q (Cb _ hq)
  refine ⟨?_, fun j => ?_⟩
  ·obtain ⟨k3, k4, k5⟩ := k1
   refine ⟨k3, k4, ?_⟩
   show ((ps.foldl (Hh l) (Hh l s p)).1.getD a default = 0 ↔ _)
   unfold Hh at k5 ⊢
   rw [k5]
   simp only [List.forall_mem_cons, and_assoc]
  ·show (ps.foldl (Hh l) (Hh l s p)).2.getD j default = true ↔ _
   have := k2 j
   unfold Hh at this ⊢
   rw [this]
   simp only [dK]
   constructor
   ·rintro (h | h)
    ·rcases g4 j h with h | h
     ·exact .inl h
     ·exact .inr (.inl h)
    ·exact .inr (.inr h)
   ·rintro (h | h | h)
    ·exact .inl (g3 j h)
    ·exact .inl (g2 j h)
    ·exact .inr h
theorem xO {a : Nat} : ∀ (bl : List Nat) {c : List Nat}, a < c.length → ((bl.foldl one c).getD a default = 0 ↔ c.getD a default = 0 ∧ a ∉ bl)
 | [], c, ha => by simp
 | b :: bl, c, ha => by
  rw [Dv, xO bl (by unfold one; rw [Ee]; exact ha), Ar]
  unfold one
  rw [Jh]
  by_cases h : b = a ∧ b < c.length
  ·rw [if_pos h]; constructor
   ·rintro ⟨h1, _⟩; omega
   ·rintro ⟨_, h2⟩; exact absurd (.inl h.1.symm) h2
  ·rw [if_neg h]; constructor
   ·rintro ⟨h1, h2⟩; exact ⟨h1, fun hh => hh.elim (fun he => h ⟨he.symm, by omega⟩) h2⟩
   ·rintro ⟨h1, h2⟩; exact ⟨h1, fun hh => h2 (.inr hh)⟩
theorem nI {α β : Type} {a : α} : ∀ {l : List α} {m : List β}, l.length = m.length → ((∃ p ∈ l.zip m, a = p.1) ↔ a ∈ l)
 | [], [], _ => by simp
 | x :: l, y :: m, h => by
  have := nI (a := a) (l := l) (m := m) (by simpa using h)
  rw [Aka, dK, this, Ar]
theorem nV {α β : Type} {P : β → Prop} : ∀ {l : List α} {m : List β}, l.length = m.length → ((∃ p ∈ l.zip m, P p.2) ↔ ∃ y ∈ m, P y)
 | [], [], _ => by simp
 | x :: l, y :: m, h => by
  have := nV (P := P) (l := l) (m := m) (by simpa using h)
  rw [Aka, dK, this, dK]
theorem jJ {l : List UInt8} {x : Img} (hd : Dev l) (hx : x.fit l) {a : Nat} (ha : a < nb l) : (Bn l x).getD a default = 0 ↔ ¬ reached l x a := by
 have hn := hd.nb
 have hlen : (x.sup.root :: x.recs.map Rec.root).length = x.trees.length := by rw [hx.trees]; simp
 have hc0 : (((List.replicate (nb l) 0).set 0 1).set 1 1).length = nb l := by simp
 have hnodes : ∀ p ∈ (x.sup.root :: x.recs.map Rec.root).zip x.trees, ∀ nd ∈ p.2.nodes, nd < nb l := fun p hp nd hnd => ((hx.tree p.2 (Ky hp).2).1.1.2.2 nd hnd).2
 by_cases h2 : a < 2
 ·refine ⟨fun h => absurd h ?_, fun h => absurd (.inl h2) h⟩
  have hmono : ∀ (c : List Nat) (p : Nat), c.getD a default ≤ (bump c p).getD a default := by
   intro c p; unfold bump; split
   ·exact Bc _
   ·rw [Jh]; split
    ·rename_i h; rw [h.1]; omega
    ·exact Bc _
  have hmonos : ∀ (ps c : List Nat), c.getD a default ≤ (ps.foldl bump c).getD a default := by
   intro ps; induction ps with
   | nil => exact fun c => Bc _
   | cons p ps ih => exact fun c => Hv (hmono c p) (ih _)
  have hnode : ∀ (s : List Nat × List Bool) (nd : Nat), s.1.getD a default ≤ (Gj l s nd).1.getD a default := by
   intro s nd; unfold Gj; split
   ·exact Bc _
   ·exact hmonos _ _
  have hnds : ∀ (ls : List Nat) (s : List Nat × List Bool), s.1.getD a default ≤ (ls.foldl (Gj l) s).1.getD a default := by
   intro ls; induction ls with
   | nil => exact fun c => Bc _
   | cons p ps ih => exact fun c => Hv (hnode c p) (ih _)
  have htr : ∀ (ps : List (Nat × WS)) (s : List Nat × List Bool), s.1.getD a default ≤ (ps.foldl (Hh l) s).1.getD a default := by
   intro ps; induction ps with
   | nil => exact fun c => Bc _
   | cons p ps ih => exact fun s => Hv (Hv (hmono s.1 p.1) (hnds p.2.nodes (bump s.1 p.1, s.2))) (ih _)
  have hones : ∀ (bl c : List Nat), 1 ≤ c.getD a default → 1 ≤ (bl.foldl one c).getD a default := by
   intro bl; induction bl with
   | nil => exact fun c h => h
   | cons b bl ih =>
    intro c h
    refine ih _ ?_
    unfold one
    rw [Jh]; split
    ·exact Bc _
    ·exact h
  have hinit : 1 ≤ (((List.replicate (nb l) 0).set 0 1).set 1 1).getD a default := by
   rw [Jh, Jh]
   have : a = 0 ∨ a = 1 := by omega
   rcases this with rfl | rfl
   ·rw [if_neg (by omega), if_pos ⟨rfl, by simp; omega⟩]; exact Bc _
   ·rw [if_pos ⟨rfl, by simp; omega⟩]; exact Bc _
  have h1 := htr ((x.sup.root :: x.recs.map Rec.root).zip x.trees) (x.blocks.foldl one (((List.replicate (nb l) 0).set 0 1).set 1 1), List.replicate (nb l) false)
  have h3 := hones x.blocks _ hinit
  unfold Bn
  simp only at h1
  omega
 ·have h0 : a ≠ 0 := by omega
  have hz0 : Zs l a (nb l) (x.blocks.foldl one (((List.replicate (nb l) 0).set 0 1).set 1 1), List.replicate (nb l) false) (a ∉ x.blocks) := by
   refine ⟨by rw [Xk]; exact hc0, by simp, ?_⟩
   rw [xO _ (by rw [hc0]; exact ha)]
   have hi : (((List.replicate (nb l) 0).set 0 1).set 1 1).getD a default = 0 := by
    rw [Jh, Jh, if_neg (by omega), if_neg (by omega)]
    simp only [Ae, Nr]
    rw [if_pos ha]; rfl
   constructor
   ·rintro ⟨_, h⟩
    exact ⟨h, fun nd _ hs => by have := (mE _ _).1 hs; exact this.elim⟩
   ·rintro ⟨h, _⟩; exact ⟨hi, h⟩
  obtain ⟨⟨k1, k2, k3⟩, k4⟩ := nJ h0 ha _ hz0 hnodes
  unfold Bn
  rw [k3]
  have hfst := nI (a := a) hlen
  constructor
  ·rintro ⟨⟨h1, h3⟩, h4⟩ (h | h | h | ⟨w, hw, nd, hnd, hp⟩)
   ·exact h2 h
   ·exact h1 h
   ·obtain ⟨p, hp, he⟩ := hfst.2 h
    exact h3 p hp he
   ·obtain ⟨p, hp2, hpn⟩ := (nV (P := fun w : WS => nd ∈ w.nodes) hlen).2 ⟨w, hw, hnd⟩
    exact h4 nd (hnodes p hp2 nd hpn) ((k4 nd).2 (.inr ⟨p, hp2, hpn⟩)) hp
  ·intro hr
   refine ⟨⟨fun h => hr (.inr (.inl h)), fun p hp he => hr (.inr (.inr (.inl (hfst.1 ⟨p, hp, he⟩))))⟩, fun nd hnd hs hp => hr (.inr (.inr (.inr ?_)))⟩
   rcases (k4 nd).1 hs with h | ⟨p, hpz, hpn⟩
   ·exact ((mE _ _).1 h).elim
   ·exact ⟨p.2, (Ky hpz).2, nd, hpn, hp⟩
inductive Chain (l : List UInt8) : Nat → List Rec → List Nat → Prop
 | nil : Chain l 0 [] []
 | cons {a : Nat} {r : Rec} {rs : List Rec} {bs : List Nat} (h2 : 2 ≤ a) (hn : a < nb l) (hp : Fb (blk l a) = (r, 0)) (h : Chain l r.next rs bs) : Chain l a (r :: rs) (a :: bs)
def Il (rs : List Rec) : Prop := (rs.map Rec.id).Nodup ∧ (∀ r ∈ rs.drop 1, r.kind = 0) ∧ (rs.filter Mg).length ≤ 60
theorem Yf {rs : List Rec} (h : Il rs) : rs.length ≤ 61 := by
 obtain ⟨_, h2, h3⟩ := h
 cases rs with
 | nil => simp
 | cons r rs =>
  have he : rs.filter Mg = rs := dP.2 fun x hx => by unfold Mg; rw [Dg]; exact h2 x (by simpa using hx)
  rw [Fl] at h3
  split at h3
  ·rw [Ao, he] at h3; simp; omega
  ·rw [he] at h3; simp; omega
theorem Rec.ok_kind {r : Rec} (h : r.ok) : r.kind = 0 ∨ r.kind = 1 := by
 rcases h.2.2.2.2 with h | h
 ·exact .inl h.1
 ·exact .inr h.1
def CS.good (c : CS) : Prop := c.blocks.length = c.l.length ∧ c.blocks.Nodup ∧ Il c.l ∧ c.whole = (c.l.filter Mg).length ∧ c.bad = 0
theorem Aet {c : CS} (hc : c.good) {r : Rec} (hk : r.kind = 0 ∨ r.kind = 1) : mayP c r = true ↔ Il (c.l ++ [r]) := by
 obtain ⟨_, _, ⟨g1, g2, g3⟩, hw, _⟩ := hc
 have hid : (c.l.any fun x => decide (x.id = r.id)) = true ↔ r.id ∈ c.l.map Rec.id := by
  rw [Ge, Bt]
  constructor
  ·rintro ⟨x, hx, h⟩; exact ⟨x, hx, Ei h⟩
  ·rintro ⟨x, hx, h⟩; exact ⟨x, hx, An h⟩
 have hnd : ((c.l ++ [r]).map Rec.id).Nodup ↔ r.id ∉ c.l.map Rec.id := by
  rw [Br, Ej]
  constructor
  ·rintro ⟨_, _, h⟩ hm; exact h _ hm _ (by simp) rfl
  ·intro h; exact ⟨g1, by simp, fun a ha b hb he => by simp at hb; exact h (by rw [← hb, ← he]; exact ha)⟩
 unfold mayP
 rcases hk with hk | hk
 ·rw [if_neg (by omega)]
  have hf : ((c.l ++ [r]).filter Mg).length = (c.l.filter Mg).length + 1 := by
   rw [Ic, Am]
   have : [r].filter Mg = [r] := dP.2 fun x hx => by rw [Bo.1 hx]; exact An hk
   rw [this]; rfl
  unfold Il
  rw [hnd, hf, Co, Wt, Dg, hw, ← pK, hid]
  constructor
  ·rintro ⟨h1, h2⟩
   refine ⟨h1, fun x hx => ?_, by omega⟩
   rw [Ii] at hx
   rcases Bq.1 hx with hx | hx
   ·exact g2 x hx
   ·rw [Bo.1 (Cc hx)]; exact hk
  ·rintro ⟨h1, _, h3⟩; exact ⟨h1, by omega⟩
 ·rw [if_pos hk, Dg]
  constructor
  ·intro h
   rw [h]
   refine ⟨by simp, fun x hx => by simp at hx, ?_⟩
   show ([r].filter Mg).length ≤ 60
   have := Fg Mg [r]
   simp at this ⊢; omega
  ·rintro ⟨_, h2, _⟩
   cases hl : c.l with
   | nil => rfl
   | cons y ys =>
    have := h2 r (by rw [hl]; simp)
    omega
theorem Ahd {c : CS} (hc : c.good) {r : Rec} {a : Nat} (hg : Il (c.l ++ [r])) (ha : a ∉ c.blocks) : (c.put a r).good := by
 obtain ⟨h1, h2, h3, h4, h5⟩ := hc
 refine ⟨by simp [CS.put, h1], ?_, hg, ?_, rfl⟩
 ·show (c.blocks ++ [a]).Nodup
  rw [Ej]
  exact ⟨h2, by simp, fun x hx y hy he => by simp at hy; subst hy; subst he; exact ha hx⟩
 ·show (if r.kind = 0 then c.whole + 1 else c.whole) = ((c.l ++ [r]).filter Mg).length
  rw [Ic, Am, h4]
  by_cases hk : r.kind = 0
  ·rw [if_pos hk]
   have : [r].filter Mg = [r] := dP.2 fun x hx => by rw [Bo.1 hx]; exact An hk
   rw [this]; rfl
  ·rw [if_neg hk]
   have : [r].filter Mg = [] := List.filter_eq_nil_iff.2 fun x hx => by rw [Bo.1 hx]; unfold Mg; simp [hk]
   rw [this]; rfl
theorem Adj {a b : List Rec} (h : Il (a ++ b)) : Il a := by
 obtain ⟨h1, h2, h3⟩ := h
 rw [Br, Ej] at h1
 refine ⟨h1.1, fun r hr => h2 r ?_, ?_⟩
 ·rw [Ii]; exact Gs _ hr
 ·rw [Ic, Am] at h3; omega
theorem sU {l : List UInt8} : ∀ (k a : Nat) (c : CS), c.good → c.l.length + k = 64 → (Dy l k a c).bad = 0 → ∃ rs bs, Chain l a rs bs ∧ (Dy l k a c).l = c.l ++ rs ∧ (Dy l k a c).blocks = c.blocks ++ bs ∧ (Dy l k a c).good
 | 0, a, c, hc, hk, hb => by have := Yf hc.2.2.1; omega
 | k + 1, a, c, hc, hk, hb => by
  simp only [Dy] at hb ⊢
  by_cases h0 : a = 0
  ·rw [if_pos h0]; subst h0
   exact ⟨[], [], .nil, by simp, by simp, hc⟩
  rw [if_neg h0] at hb ⊢
  by_cases h1 : a < 2 ∨ nb l ≤ a ∨ c.blocks.any (a == ·) = true
  ·rw [if_pos h1] at hb; exact absurd hb h0
  rw [if_neg h1] at hb ⊢
  by_cases h2 : (Fb (blk l a)).2 ≠ 0 ∨ mayP c (Fb (blk l a)).1 = false
  ·rw [if_pos h2] at hb; exact absurd hb h0
  rw [if_neg h2] at hb ⊢
  have he : (Fb (blk l a)).2 = 0 := Ed.1 fun h => h2 (.inl h)
  have hm : mayP c (Fb (blk l a)).1 = true := by
   cases h : mayP c (Fb (blk l a)).1 with
   | true => rfl
   | false => exact absurd (.inr h) h2
  have hok := Wh he
  have hg := (Aet hc (Rec.ok_kind hok)).1 hm
  have hna : a ∉ c.blocks := fun h => h1 (.inr (.inr (Ge.2 ⟨a, h, by simp⟩)))
  obtain ⟨rs, bs, hch, e1, e2, e3⟩ := sU k _ _ (Ahd hc hg hna) (by simp [CS.put]; omega) hb
  refine ⟨_ :: rs, a :: bs, .cons (by omega) (by omega) (by rw [← he]) hch, ?_, ?_, e3⟩
  ·rw [e1]; simp [CS.put]
  ·rw [e2]; simp [CS.put]
theorem Aja {l : List UInt8} {a : Nat} {rs : List Rec} {bs : List Nat} (h : Chain l a rs bs) : ∀ (k : Nat) (c : CS), c.good → c.l.length + k = 64 → (c.blocks ++ bs).Nodup → Il (c.l ++ rs) → (Dy l k a c).l = c.l ++ rs ∧ (Dy l k a c).blocks = c.blocks ++ bs ∧ (Dy l k a c).good := by
 induction h with
 | nil =>
  intro k c hc hk hn hg
  have := Yf hc.2.2.1
  obtain ⟨j, rfl⟩ : ∃ j, k = j + 1 := ⟨k - 1, by omega⟩
  simp only [Dy, if_true]
  exact ⟨by simp, by simp, hc⟩
 | @cons a r rs bs h2 hn' hp hch ih =>
  intro k c hc hk hn hg
  have := Yf hc.2.2.1
  obtain ⟨j, rfl⟩ : ∃ j, k = j + 1 := ⟨k - 1, by omega⟩
  have hna : a ∉ c.blocks := fun h => by
   rw [Ej] at hn
   exact hn.2.2 a h a (Dt ..) rfl
  have hg1 : Il (c.l ++ [r]) := Adj (b := rs) (by simpa using hg)
  have hok : r.ok := by have := Wh (b := blk l a) (by rw [hp]); rw [hp] at this; exact this
  have hm := (Aet hc (Rec.ok_kind hok)).2 hg1
  simp only [Dy]
  rw [if_neg (by omega), if_neg (by
   rintro (h | h | h)
   ·omega
   ·omega
   ·obtain ⟨y, hy, he⟩ := Ge.1 h
    have : a = y := by simpa using he
    exact hna (this ▸ hy)), hp]
  rw [if_neg (by simp [hm])]
  obtain ⟨e1, e2, e3⟩ := ih j (c.put a r) (Ahd hc hg1 hna) (by simp [CS.put]; omega) (by simpa [CS.put] using hn) (by simpa [CS.put] using hg)
  exact ⟨by rw [e1]; simp [CS.put], by rw [e2]; simp [CS.put], e3⟩
theorem Afs : cs0.good := ⟨rfl, Ro, ⟨Ro, (fun _ h => by cases h), by decide⟩, rfl, rfl⟩
theorem Aoz {l : List UInt8} {a : Nat} {rs : List Rec} {bs : List Nat} (h : Chain l a rs bs) (hn : bs.Nodup) (hg : Il rs) : (Dy l 64 a cs0).l = rs ∧ (Dy l 64 a cs0).blocks = bs ∧ (Dy l 64 a cs0).bad = 0 := by
 obtain ⟨h1, h2, h3⟩ := Aja h 64 cs0 Afs rfl hn hg
 exact ⟨h1, h2, h3.2.2.2.2⟩
theorem Chain.frame {l l' : List UInt8} {a : Nat} {rs : List Rec} {bs : List Nat} (h : Chain l a rs bs) (hn : nb l' = nb l) (hb : ∀ x ∈ bs, blk l' x = blk l x) : Chain l' a rs bs := by
 induction h with
 | nil => exact .nil
 | cons h2 hn' hp h ih => exact .cons h2 (by omega) (by rw [hb _ (Dt ..)]; exact hp) (ih fun x hx => hb x (Cb _ hx))
theorem sE {n level frm : Nat} {rec : Nat → Nat → WS → WS} (hr : ∀ p f w, ∀ x ∈ w.nodes, x ∈ (rec p f w).nodes) (w : WS) (i p : Nat) : ∀ x ∈ w.nodes, x ∈ (Kg n level frm rec w i p).nodes := by
 intro x hx
 unfold Kg
 split
 ·exact hx
 split
 ·exact hx
 split
 ·exact hx
 split
 ·exact hx
 ·exact hr _ _ _ x hx
theorem Yu {n level frm : Nat} {rec : Nat → Nat → WS → WS} (hr : ∀ p f w, ∀ x ∈ w.nodes, x ∈ (rec p f w).nodes) : ∀ (ps : List Nat) (i : Nat) (w : WS), ∀ x ∈ w.nodes, x ∈ (Im n level frm rec ps i w).nodes
 | [], _, _ => fun _ h => h
 | p :: r, i, w => fun x hx => Yu hr r (i + 1) _ x (sE hr w i p x hx)
theorem qZ {l : List UInt8} {n level at0 frm : Nat} {rec : Nat → Nat → WS → WS} (hr : ∀ p f w, ∀ x ∈ w.nodes, x ∈ (rec p f w).nodes) (w : WS) : ∀ x ∈ w.nodes, x ∈ (Kz l n level at0 frm rec w).nodes := by
 intro x hx
 unfold Kz
 split
 ·exact hx
 ·exact Yu hr _ _ _ x (Gs _ hx)
theorem fR (l : List UInt8) (n : Nat) : ∀ (v at0 frm : Nat) (w : WS), ∀ x ∈ w.nodes, x ∈ (Fj l n v at0 frm w).nodes
 | 0, _, _, w => qZ (fun _ _ _ _ h => h) w
 | v + 1, _, _, w => qZ (fun p f w => fR l n v p f w) w
theorem nL {n level frm : Nat} {rec rec' : Nat → Nat → WS → WS} {P : Nat → Prop} (hm : ∀ p f w, ∀ x ∈ w.nodes, x ∈ (rec p f w).nodes) (hr : ∀ p f w, (rec p f w).bad = false → (∀ x ∈ (rec p f w).nodes, P x) → rec' p f w = rec p f w) :
  ∀ (ps : List Nat) (i : Nat) (w : WS), (Im n level frm rec ps i w).bad = false → (∀ x ∈ (Im n level frm rec ps i w).nodes, P x) → Im n level frm rec' ps i w = Im n level frm rec ps i w
 | [], _, _, _, _ => rfl
 | p :: r, i, w, hb, hP => by
  simp only [Im] at hb hP ⊢
  have hsb : (Kg n level frm rec w i p).bad = false := by
   cases h : (Kg n level frm rec w i p).bad with
   | false => rfl
   | true => rw [Qt _ _ h, h] at hb; cases hb
  have hsP : ∀ x ∈ (Kg n level frm rec w i p).nodes, P x := fun x hx => hP x (Yu hm r (i + 1) _ x hx)
  have hs : Kg n level frm rec' w i p = Kg n level frm rec w i p := by
   unfold Kg at hsb hsP ⊢
   split
   ·rfl
   rename_i h1
   rw [if_neg h1] at hsb hsP
   split
   ·rfl
   rename_i h2
   rw [if_neg h2] at hsb hsP
   split
   ·rfl
   rename_i h3
   rw [if_neg h3] at hsb hsP
   split
   ·rfl
   rename_i h4
   rw [if_neg h4] at hsb hsP
   exact hr _ _ _ hsb hsP
  rw [hs]
  exact nL hm hr r (i + 1) _ hb hP
theorem oE {l l' : List UInt8} {n level at0 frm : Nat} {rec rec' : Nat → Nat → WS → WS} (hm : ∀ p f w, ∀ x ∈ w.nodes, x ∈ (rec p f w).nodes) (hr : ∀ p f w, (rec p f w).bad = false → (∀ x ∈ (rec p f w).nodes, blk l' x = blk l x) → rec' p f w = rec p f w)
  (w : WS) (hb : (Kz l n level at0 frm rec w).bad = false) (hP : ∀ x ∈ (Kz l n level at0 frm rec w).nodes, blk l' x = blk l x) : Kz l' n level at0 frm rec' w = Kz l n level at0 frm rec w := by
 unfold Kz at hb hP ⊢
 by_cases hc : (atP l n at0 level).2 = false ∨ w.nodes.any (at0 == ·) = true
 ·rw [if_pos hc] at hb; cases hb
 ·rw [if_neg hc] at hb hP
  have he : blk l' at0 = blk l at0 := hP at0 (Yu hm _ _ _ at0 (by simp))
  have ha : atP l' n at0 level = atP l n at0 level := by unfold atP; rw [he]
  rw [ha, if_neg hc, if_neg hc]
  exact nL hm hr _ _ _ hb hP
theorem nM {l l' : List UInt8} {n : Nat} : ∀ (v at0 frm : Nat) (w : WS), (Fj l n v at0 frm w).bad = false → (∀ x ∈ (Fj l n v at0 frm w).nodes, blk l' x = blk l x) → Fj l' n v at0 frm w = Fj l n v at0 frm w
 | 0, at0, frm, w, hb, hP => oE (fun _ _ _ _ h => h) (fun _ _ _ _ _ => rfl) w hb hP
 | v + 1, at0, frm, w, hb, hP => oE (fun p f w => fR l n v p f w) (fun p f w => nM v p f w) w hb hP
theorem Amj {l l' : List UInt8} {root : Nat} {w : WS} (hn : nb l' = nb l) (h : goP l root = some w) (hP : ∀ x ∈ w.nodes, blk l' x = blk l x) : goP l' root = some w := by
 unfold goP at h ⊢
 by_cases h0 : root = 0
 ·rw [if_pos h0] at h ⊢; exact h
 rw [if_neg h0] at h ⊢
 split at h
 ·cases h
 ·rename_i hc
  cases h
  have hb : (Fj l (nb l) 2 root 0 ws0).bad = false := by
   cases hx : (Fj l (nb l) 2 root 0 ws0).bad with
   | false => rfl
   | true => exact absurd (.inl hx) hc
  have he : Fj l' (nb l') 2 root 0 ws0 = Fj l (nb l) 2 root 0 ws0 := by rw [hn]; exact nM 2 root 0 ws0 hb hP
  rw [he, if_neg hc]
def Trees (l : List UInt8) : List (Nat × Nat) → List WS → Prop
 | [], [] => True
 | p :: ps, w :: ws => goP l p.1 = some w ∧ Nb w.m p.2 = false ∧ Trees l ps ws
 | _, _ => False
theorem gL {l : List UInt8} : ∀ (ps : List (Nat × Nat)) (ws ts : List WS), ((Hw l ps ws).2 = none ∧ (Hw l ps ws).1 = ts) ↔ ∃ us, ts = ws ++ us ∧ Trees l ps us
 | [], ws, ts => by
  simp only [Hw, true_and]
  constructor
  ·rintro rfl; exact ⟨[], by simp, trivial⟩
  ·rintro ⟨us, rfl, h⟩
   cases us with
   | nil => simp
   | cons u us => exact h.elim
 | (r, z) :: ps, ws, ts => by
  simp only [Hw]
  cases hg : goP l r with
  | none =>
   constructor
   ·rintro ⟨h, _⟩; cases h
   ·rintro ⟨us, _, h⟩
    cases us with
    | nil => exact h.elim
    | cons u us => have h1 : goP l r = some u := h.1; rw [hg] at h1; cases h1
  | some w =>
   simp only
   by_cases hb : Nb w.m z = true
   ·rw [if_pos hb]
    constructor
    ·rintro ⟨h, _⟩; cases h
    ·rintro ⟨us, _, h⟩
     cases us with
     | nil => exact h.elim
     | cons u us =>
      have h1 : goP l r = some u := h.1
      have h2 : Nb u.m z = false := h.2.1
      rw [hg] at h1; cases h1; rw [hb] at h2; cases h2
   ·rw [if_neg hb, gL ps]
    constructor
    ·rintro ⟨us, rfl, h⟩; exact ⟨w :: us, by simp, hg, by simpa using hb, h⟩
    ·rintro ⟨us, rfl, h⟩
     cases us with
     | nil => exact h.elim
     | cons u us =>
      have h1 : goP l r = some u := h.1
      rw [hg] at h1; cases h1
      exact ⟨us, by simp, h.2.2⟩
def Img.roots (x : Img) : List (Nat × Nat) := (x.sup.root, x.sup.size) :: x.recs.map fun r => (r.root, r.size)
theorem Trees.fit {l : List UInt8} (hd : Dev l) : ∀ {ps : List (Nat × Nat)} {ws : List WS}, Trees l ps ws → ∀ w ∈ ws, w.fit (nb l)
 | [], [], _, _, h => by cases h
 | p :: ps, w :: ws, h, y, hy => by
  rcases Ar.1 hy with rfl | hy
  ·exact (Acw hd h.1).1
  ·exact Trees.fit hd h.2.2 y hy
theorem Chain.range {l : List UInt8} {a : Nat} {rs : List Rec} {bs : List Nat} (h : Chain l a rs bs) : ∀ b ∈ bs, 2 ≤ b ∧ b < nb l := by
 induction h with
 | nil => intro b hb; cases hb
 | cons h2 hn' hp h ih =>
  intro b hb
  rcases Ar.1 hb with rfl | hb
  ·exact ⟨h2, hn'⟩
  ·exact ih b hb
structure IsImg (l : List UInt8) (x : Img) : Prop where
 pick : Uj l = some (x.sup, x.slot)
 chain : Chain l x.sup.first x.recs x.blocks
 nodup : x.blocks.Nodup
 good : Il x.recs
 trees : Trees l x.roots x.trees
 clash : ∀ a, ¬ Ut x.blocks x.trees a
theorem Ot {l : List UInt8} (hd : Dev l) {x : Img} : Zr l = .ok x ↔ IsImg l x := by
 constructor
 ·intro h
  unfold Zr at h
  cases hp : Uj l with
  | none => rw [hp] at h; cases h
  | some si =>
   obtain ⟨s, i⟩ := si
   rw [hp] at h
   simp only [yV] at h
   split at h
   ·cases h
   ·rename_i hb
    have hb := Ed.1 hb
    split at h
    ·cases h
    ·rename_i ht
     unfold zT at h
     split at h
     ·cases h
     ·rename_i hc
      have hc := Ed.1 hc
      cases h
      obtain ⟨rs, bs, h1, h2, h3, h4⟩ := sU (l := l) 64 s.first cs0 Afs rfl hb
      obtain ⟨us, h5, h6⟩ := (gL (Lf s (Dy l 64 s.first cs0)) [] _).1 ⟨ht, rfl⟩
      have hrs : (Dy l 64 s.first cs0).l = rs := h2
      have hbs : (Dy l 64 s.first cs0).blocks = bs := h3
      have h7 : (Hw l (Lf s (Dy l 64 s.first cs0)) []).1 = us := h5
      refine ⟨hp, ?_, h4.2.1, h4.2.2.1, ?_, ?_⟩
      ·show Chain l s.first (Dy l 64 s.first cs0).l (Dy l 64 s.first cs0).blocks
       rw [hrs, hbs]; exact h1
      ·show Trees l (Lf s (Dy l 64 s.first cs0)) _
       rw [h7]; exact h6
      ·refine (oO (n := nb l) ?_ ?_).1 hc
       ·show ∀ a ∈ (Dy l 64 s.first cs0).blocks, _
        rw [hbs]; exact h1.range
       ·rw [h7]; exact Trees.fit hd h6
 ·rintro ⟨hp, hch, hnd, hg, ht, hcl⟩
  obtain ⟨h1, h2, h3⟩ := Aoz hch hnd hg
  unfold Zr
  rw [hp]
  simp only [yV]
  rw [if_neg (by omega)]
  have hro : Lf x.sup (Dy l 64 x.sup.first cs0) = x.roots := by unfold Lf Img.roots; rw [h1]
  obtain ⟨h4, h5⟩ := (gL (l := l) x.roots [] x.trees).2 ⟨x.trees, rfl, ht⟩
  rw [hro, h4, h5]
  simp only
  unfold zT
  rw [h2, h1, (oO (n := nb l) hch.range (Trees.fit hd ht)).2 hcl]
  rfl
theorem Ait (n : Int) (i : Nat) : leAt n (i + 1) = leAt (n / 256) i := by
 unfold leAt
 have h : n / 2 ^ (8 * (i + 1)) = n / 256 / 2 ^ (8 * i) := by
  have e : (2 : Int) ^ (8 * (i + 1)) = 256 * 2 ^ (8 * i) := by
   rw [show 8 * (i + 1) = 8 + 8 * i by omega, Int.pow_add]; rfl
  rw [e, ← Int.ediv_ediv_of_nonneg (by decide)]
 rw [h]
theorem Aoi (s : Nat) (n : Int) : leB (s + 1) n = leAt n 0 :: leB s (n / 256) := by
 unfold leB
 rw [Wu, Bb, Fh]
 congr 1
 apply Av
 intro i _
 exact Ait n i
theorem sP : ∀ (s : Nat) (n : Int), 0 ≤ n → n < 256 ^ s → (leN (leB s n) : Int) = n
 | 0, n, h0, h1 => by
  simp at h1
  simp [leB, leN]; omega
 | s + 1, n, h0, h1 => by
  have h2 : n / 256 < 256 ^ s := by
   rw [Int.pow_succ] at h1
   exact Int.ediv_lt_of_lt_mul (by decide) h1
  have ih := sP s (n / 256) (Int.ediv_nonneg h0 (by decide)) h2
  have h3 := vO n 0
  simp only [Ol, Int.pow_zero, Int.ediv_one] at h3
  rw [Aoi]
  simp only [leN]
  push_cast
  rw [ih, h3]
  omega
def Aeo (s : Nat) (n : Int) : Prop := 0 ≤ n ∧ n < 256 ^ s ∧ n ≤ 4611686018427387903
theorem Arn {pre post : List UInt8} {n : Int} {s : Nat} (h : Aeo s n) : getP (pre ++ (leB s n ++ post)) ((pre.length : Nat) : Int) s = (n, 0) := by
 obtain ⟨h0, h1, h2⟩ := h
 have h3 := sP s n h0 h1
 unfold getP
 rw [if_pos ⟨by omega, by simp; omega⟩, Ax, List.drop_left, Cr (by simp), Aj (by simp), if_pos (by omega), h3]
inductive FitsL : List Nat → List Int → Prop
 | nil : FitsL [] []
 | cons {s : Nat} {n : Int} {ss : List Nat} {ns : List Int} (h : Aeo s n) (r : FitsL ss ns) : FitsL (s :: ss) (n :: ns)
theorem FitsL.len {ss : List Nat} {ns : List Int} (h : FitsL ss ns) : ss.length = ns.length := by
 induction h with
 | nil => rfl
 | cons _ _ ih => simp [ih]
theorem Anr {ss : List Nat} {ns : List Int} (h : FitsL ss ns) : ∀ (pre post : List UInt8), Mb (pre ++ (putS ss ns ++ post)) pre.length ss = some (ns, pre.length + ss.sum) := by
 induction h with
 | nil => intro pre post; simp [Mb]
 | @cons s n ss ns h r ih =>
  intro pre post
  have e : pre ++ (putS (s :: ss) (n :: ns) ++ post) = pre ++ (leB s n ++ (putS ss ns ++ post)) := by simp [putS]
  have e2 : pre ++ (leB s n ++ (putS ss ns ++ post)) = (pre ++ leB s n) ++ (putS ss ns ++ post) := by simp
  have hg := Arn (pre := pre) (post := putS ss ns ++ post) h
  have hi := ih (pre ++ leB s n) post
  rw [← e2] at hi
  rw [e]
  simp only [Mb]
  rw [hg]
  have hl : (pre ++ leB s n).length = pre.length + s := by simp
  rw [hl] at hi
  simp only [if_true]
  rw [hi]
  simp; omega
theorem tC (l : List UInt8) : 0 ≤ Lo 0 l ∧ Lo 0 l ≤ 4294967295 := by
 have h := kU l (n := 4294967295 - ((0 : Int) % 4294967296).toNat) (by omega)
 unfold Lo
 omega
theorem Ajf {m : List UInt8} {ss : List Nat} {ns : List Int} (hm : m.length = 4) (h : ss.length = ns.length) (hs : ss.sum ≤ 56) : oU (Nx m ss ns) = true := by
 have hl := Uc hm h hs
 have hb := cT hm h hs
 obtain ⟨c0, c1⟩ := tC (Th m ss ns)
 unfold oU
 rw [Dg, hl]
 have e1 : (Nx m ss ns).drop (64 - 4) = leB 4 (Lo 0 (Th m ss ns)) := by
  unfold Nx
  rw [Ii, Ck (by omega), hb]; rfl
 have e2 : (Nx m ss ns).take (64 - 4) = Th m ss ns := by
  unfold Nx
  rw [Cr (by omega), Aj (by omega)]
 rw [e1, e2]
 exact ⟨by omega, sP 4 _ c0 (by omega)⟩
theorem gK {m : List UInt8} {ss : List Nat} {ns : List Int} (hm : m.length = 4) (h : FitsL ss ns) (hs : ss.sum ≤ 56) : Jg (Nx m ss ns) m ss = (ns, 0) := by
 have hl := Uc hm h.len hs
 have hlen : ∀ x : List UInt8, m ++ putS ss ns ++ x = m ++ (putS ss ns ++ x) := fun x => by simp
 have hmk : Nx m ss ns = m ++ (putS ss ns ++ (List.replicate (60 - (m.length + ss.sum)) 0 ++ leB 4 (Lo 0 (Th m ss ns)))) := by
  unfold Nx Th; simp
 have hng : Mb (Nx m ss ns) 4 ss = some (ns, 4 + ss.sum) := by
  have := Anr h m (List.replicate (60 - (m.length + ss.sum)) 0 ++ leB 4 (Lo 0 (Th m ss ns)))
  rw [← hmk, hm] at this
  exact this
 have hz : Oh (Nx m ss ns) (4 + ss.sum) 60 = true := by
  unfold Oh
  have e2 : (Nx m ss ns).take 60 = Th m ss ns := by
   have hb := cT hm h.len hs
   unfold Nx
   rw [Cr (by omega), Aj (by omega)]
  have e3 : (Th m ss ns).drop (4 + ss.sum) = List.replicate (60 - (m.length + ss.sum)) 0 := by
   unfold Th
   rw [Ii, Ck (by simp [cH ss ns h.len, hm])]
   simp [cH ss ns h.len, hm]
  rw [e2, e3]
  exact Ha.2 fun x hx => by rw [Ew hx]; rfl
 unfold Jg
 rw [if_neg (fun hh => hh hl), if_neg (fun hh => hh (by rw [hmk]; rw [Cr (by omega), Aj (by omega)])), Ajf hm h.len hs]
 rw [if_neg (by decide), hng]
 simp only
 rw [if_pos hz]
theorem Zv {n : Nat} (h : n < 4294967296) : Aeo 4 (n : Int) := ⟨by omega, by show (n : Int) < 4294967296; omega, by omega⟩
theorem Aru {n : Nat} (h : n ≤ 4611686018427387903) : Aeo 8 (n : Int) := ⟨by omega, by show (n : Int) < 18446744073709551616; omega, by omega⟩
theorem eD {s : Sup} (h : s.ok) : Hg (supB s) = (s, 0) := by
 obtain ⟨h1, h2, h3, h4, h5⟩ := h
 have hf : FitsL sW [(s.gen : Int), s.blocks, s.root, s.size, s.first] :=
  .cons (Aru (by omega)) (.cons (Zv (by omega)) (.cons (Zv (by omega)) (.cons (Zv (by omega)) (.cons (Zv (by omega)) .nil))))
 have hr := gK (m := mW) rfl hf (by decide)
 unfold Hg supB
 rw [hr]
 have e : Alc [(s.gen : Int), s.blocks, s.root, s.size, s.first] = s := rfl
 simp only
 rw [if_neg (by simp), e, if_pos ⟨h1, h2, h3, h4, h5⟩]
def nodB (n : Nod) : List UInt8 := Nx mN sN ((n.level :: n.ptr).map fun x : Nat => (x : Int))
theorem Arx {n : Nod} (h : n.ptr.length = 8) : (nodB n).length = 64 := Uc rfl (by simp [sN, h]) (by decide)
theorem wH {n : Nod} (hl : n.ptr.length = 8) (h : n.ok) : Cw (nodB n) = (n, 0) := by
 have hok := h
 obtain ⟨h1, h2, h3⟩ := h
 obtain ⟨v, ps⟩ := n
 simp only at hl h1 h2 h3
 match ps, hl with
 | [a1, a2, a3, a4, a5, a6, a7, a8], _ =>
  have hp : ∀ p ∈ [a1, a2, a3, a4, a5, a6, a7, a8], Aeo 4 ((p : Nat) : Int) := fun p hp => by
   have := Ha.1 h1 p hp
   rw [Dg] at this
   unfold ptrOk at this
   exact Zv (by omega)
  have hf : FitsL sN [(v : Int), a1, a2, a3, a4, a5, a6, a7, a8] :=
   .cons (Zv (by omega)) (.cons (hp a1 (by simp)) (.cons (hp a2 (by simp)) (.cons (hp a3 (by simp)) (.cons (hp a4 (by simp)) (.cons (hp a5 (by simp)) (.cons (hp a6 (by simp)) (.cons (hp a7 (by simp)) (.cons (hp a8 (by simp)) .nil))))))))
  have hr := gK (m := mN) rfl hf (by decide)
  have hb : nodB ⟨v, [a1, a2, a3, a4, a5, a6, a7, a8]⟩ = Nx mN sN [(v : Int), a1, a2, a3, a4, a5, a6, a7, a8] := rfl
  unfold Cw
  rw [hb, hr]
  have e : Aer [(v : Int), a1, a2, a3, a4, a5, a6, a7, a8] = ⟨v, [a1, a2, a3, a4, a5, a6, a7, a8]⟩ := rfl
  simp only
  rw [if_neg (by simp), e, if_pos hok]
def wr (l : List UInt8) (a : Nat) (d : List UInt8) : List UInt8 := l.take (64 * a) ++ d ++ l.drop (64 * (a + 1))
theorem Aaw {l : List UInt8} {a : Nat} {d : List UInt8} (h : 64 * (a + 1) ≤ l.length) (hd : d.length = 64) : (wr l a d).length = l.length := by
 unfold wr; simp [hd]; omega
theorem Abf {l : List UInt8} {a : Nat} {d : List UInt8} (h : 64 * (a + 1) ≤ l.length) (hd : d.length = 64) (b : Nat) : blk (wr l a d) b = if b = a then d else blk l b := by
 unfold blk wr
 have h1 : (l.take (64 * a)).length = 64 * a := by simp; omega
 by_cases hb : b = a
 ·rw [if_pos hb, hb, Ce, Ii, Ck (by omega), h1, Mo, Cd, Dc, Cr (by omega), Aj (by omega)]
 ·rw [if_neg hb]
  by_cases hlt : b < a
  ·rw [Ce, List.drop_append_of_le_length (by omega), Cr (by simp; omega), List.drop_take, List.take_take, Kx (by omega)]
  ·have hgt : a + 1 ≤ b := by omega
   rw [Ii, Ck (by simp [hd]; omega), Dc]
   have e : (List.take (64 * a) l ++ d).length = 64 * (a + 1) := by simp [hd]; omega
   rw [e, Nn]
   congr 2
   omega
def Bs (l : List UInt8) (ios : List IoV) : List UInt8 := ios.foldl (fun l x => if x.kind = 1 then wr l x.at0 x.data else l) l
def zE (n : Nat) (x : IoV) : Prop := x.kind = 1 → x.at0 < n ∧ x.data.length = 64
theorem Oe : ∀ (ios : List IoV) (l : List UInt8), (∀ x ∈ ios, zE (nb l) x) → (Bs l ios).length = l.length
 | [], l, _ => rfl
 | x :: ios, l, h => by
  have hx := h x (Dt ..)
  unfold Bs
  rw [Dv]
  by_cases hk : x.kind = 1
  ·rw [if_pos hk]
   obtain ⟨h1, h2⟩ := hx hk
   have hle : 64 * (x.at0 + 1) ≤ l.length := by unfold nb at h1; omega
   have hl := Aaw hle h2
   have := Oe ios (wr l x.at0 x.data) fun y hy => by unfold nb; rw [hl]; exact h y (Cb _ hy)
   unfold Bs at this
   rw [this, hl]
  ·rw [if_neg hk]
   exact Oe ios l fun y hy => h y (Cb _ hy)
theorem dZ (l : List UInt8) (a b : List IoV) : Bs l (a ++ b) = Bs (Bs l a) b := by unfold Bs; rw [Apd]
theorem Sd {b : Nat} : ∀ (ios : List IoV) (l : List UInt8), (∀ x ∈ ios, zE (nb l) x) → (∀ x ∈ ios, x.kind = 1 → x.at0 ≠ b) → blk (Bs l ios) b = blk l b
 | [], l, _, _ => rfl
 | x :: ios, l, h, hb => by
  have hx := h x (Dt ..)
  unfold Bs
  rw [Dv]
  by_cases hk : x.kind = 1
  ·rw [if_pos hk]
   obtain ⟨h1, h2⟩ := hx hk
   have hle : 64 * (x.at0 + 1) ≤ l.length := by unfold nb at h1; omega
   have hl := Aaw hle h2
   have := Sd (b := b) ios (wr l x.at0 x.data) (fun y hy => by unfold nb; rw [hl]; exact h y (Cb _ hy)) fun y hy => hb y (Cb _ hy)
   unfold Bs at this
   rw [this, Abf hle h2, if_neg (fun he => hb x (Dt ..) hk he.symm)]
  ·rw [if_neg hk]
   exact Sd ios l (fun y hy => h y (Cb _ hy)) fun y hy => hb y (Cb _ hy)
theorem tQ {l : List UInt8} {a b : List IoV} {x : IoV} (h : ∀ y ∈ a ++ x :: b, zE (nb l) y) (hk : x.kind = 1) (hb : ∀ y ∈ b, y.kind = 1 → y.at0 ≠ x.at0) : blk (Bs l (a ++ x :: b)) x.at0 = x.data := by
 have hx := h x (by simp) hk
 have hla := Oe a l fun y hy => h y (Gs _ hy)
 have e : Bs l (a ++ x :: b) = Bs (wr (Bs l a) x.at0 x.data) b := by
  rw [dZ]
  show Bs (if x.kind = 1 then wr (Bs l a) x.at0 x.data else Bs l a) b = _
  rw [if_pos hk]
 have hle : 64 * (x.at0 + 1) ≤ (Bs l a).length := by rw [hla]; have := hx.1; unfold nb at this; omega
 have hlw := Aaw hle hx.2
 rw [e, Sd b _ (fun y hy => by unfold nb; rw [hlw, hla]; exact h y (by simp [hy])) hb, Abf hle hx.2, if_pos rfl]
theorem Aop {l l' : List UInt8} {s s' : Sup} {i : Nat} (hp : Uj l = some (s, i)) (hs : s'.ok) (hn : s'.blocks = nb l') (hg : s.gen < s'.gen) (hnb : nb l' = nb l) (h0 : blk l' i = blk l i) (h1 : blk l' (1 - i) = supB s') : Uj l' = some (s', 1 - i) := by
 obtain ⟨q1, q2, q3⟩ := sK hp
 have hps := eD hs
 have hi : i = 0 ∨ i = 1 := by omega
 unfold Uj Age at hp ⊢
 rcases hi with rfl | rfl
 ·have h0' : blk l' 0 = blk l 0 := h0
  have h1' : blk l' 1 = supB s' := h1
  have e : (Hg (blk l 0)).2 = 0 ∧ (Hg (blk l 0)).1.blocks = nb l ∧ (Hg (blk l 0)).1 = s := by
   split at hp
   ·rename_i ha
    split at hp
    ·simp at hp
    ·simp at hp; exact ⟨ha.1, ha.2, hp⟩
   ·split at hp
    ·simp at hp
    ·cases hp
  rw [h0', h1', hps, hnb, if_pos ⟨e.1, e.2.1⟩, if_pos ⟨⟨rfl, by simp only; omega⟩, by rw [e.2.2]; exact hg⟩]
 ·have h0' : blk l' 1 = blk l 1 := h0
  have h1' : blk l' 0 = supB s' := h1
  have e : (Hg (blk l 1)).1 = s := by
   split at hp
   ·split at hp
    ·simp at hp; exact hp
    ·simp at hp
   ·split at hp
    ·simp at hp; exact hp
    ·cases hp
  rw [h0', h1', hps, hnb, if_pos ⟨rfl, by simp only; omega⟩, if_neg (fun h => by have := h.2; rw [e] at this; simp only at this; omega)]
end Go.Proofs.YtkpndfkpdnknkaaGreat
