/- Lemmas. -/
import Derived.Test.YtkaiiopoilpjeaaGreatMJ4
set_option linter.unusedSimpArgs false
set_option linter.unusedVariables false
set_option maxRecDepth 10000
namespace Go.Proofs.YtkaiiopoilpjeaaGreat
open Go.AI
theorem bR {α : Type} {P : α → Prop} {x : α} {l : List α} : (∃ w ∈ x :: l, P w) ↔ P x ∨ ∃ w ∈ l, P w := by
 constructor
 ·rintro ⟨w, hw, h⟩
  rcases Ap.1 hw with rfl | hw
  ·exact .inl h
  ·exact .inr ⟨w, hw, h⟩
 ·rintro (h | ⟨w, hw, h⟩)
  ·exact ⟨x, Ct .., h⟩
  ·exact ⟨w, Bu _ hw, h⟩
theorem Jj {α : Type} [Inhabited α] (l : List α) (i j : Nat) (v : α) : (l.set i v).getD j default = if i = j ∧ i < l.length then v else l.getD j default := by
 simp only [Af, List.getElem?_set]
 by_cases h : i = j
 ·subst h
  by_cases h2 : i < l.length
  ·simp [h2]
  ·simp [h2]
 ·simp [h]
theorem oO {a : Nat} : ∀ (l : List Nat) (bs : List Bool), (l.foldl mark bs).getD a default = true ↔ (a ∈ l ∧ a < bs.length) ∨ bs.getD a default = true
 | [], bs => by simp
 | x :: l, bs => by
  rw [Dz, oO l]
  unfold mark
  rw [Jj, El, Ap]
  by_cases h : x = a ∧ x < bs.length
  ·rw [if_pos h]
   obtain ⟨rfl, h2⟩ := h
   simp [h2]
  ·rw [if_neg h]
   constructor
   ·rintro (h1 | h1)
    ·exact .inl ⟨.inr h1.1, h1.2⟩
    ·exact .inr h1
   ·rintro (⟨h1 | h1, h2⟩ | h1)
    ·exact absurd ⟨h1.symm, by omega⟩ h
    ·exact .inl ⟨h1, h2⟩
    ·exact .inr h1
theorem xL {a : Nat} : ∀ (l : List Nat) (bs : List Bool), (l.foldl aZ bs).getD a default = true ↔ (a ∈ l ∧ a ≠ 0 ∧ a < bs.length) ∨ bs.getD a default = true
 | [], bs => by simp
 | x :: l, bs => by
  rw [Dz, xL l]
  unfold aZ
  rw [Jj, El, Ap]
  by_cases h : x = a ∧ x < bs.length
  ·rw [if_pos h]
   obtain ⟨rfl, h2⟩ := h
   by_cases h0 : x = 0
   ·simp [h0]
   ·simp [h2, h0]
  ·rw [if_neg h]
   constructor
   ·rintro (h1 | h1)
    ·exact .inl ⟨.inr h1.1, h1.2⟩
    ·exact .inr h1
   ·rintro (⟨h1 | h1, h2⟩ | h1)
    ·exact absurd ⟨h1.symm, by omega⟩ h
    ·exact .inl ⟨h1, h2⟩
    ·exact .inr h1
theorem Ajd {a : Nat} : ∀ (ts : List WS) (bs : List Bool), (ts.foldl mkN bs).getD a default = true ↔ ((∃ w ∈ ts, a ∈ w.nodes) ∧ a < bs.length) ∨ bs.getD a default = true
 | [], bs => by simp
 | x :: l, bs => by
  rw [Dz, Ajd l]
  unfold mkN
  rw [oO, Wa]
  simp only [bR]
  constructor
  ·rintro (⟨h1, h2⟩ | ⟨h1, h2⟩ | h1)
   ·exact .inl ⟨.inr h1, h2⟩
   ·exact .inl ⟨.inl h1, h2⟩
   ·exact .inr h1
  ·rintro (⟨h1 | h1, h2⟩ | h1)
   ·exact .inr (.inl ⟨h1, h2⟩)
   ·exact .inl ⟨h1, h2⟩
   ·exact .inr (.inr h1)
theorem Aje {a : Nat} : ∀ (ts : List WS) (bs : List Bool), (ts.foldl mkS bs).getD a default = true ↔ ((∃ w ∈ ts, a ∈ w.m) ∧ a ≠ 0 ∧ a < bs.length) ∨ bs.getD a default = true
 | [], bs => by simp
 | x :: l, bs => by
  rw [Dz, Aje l]
  unfold mkS
  rw [xL, wW]
  simp only [bR]
  constructor
  ·rintro (⟨h1, h2⟩ | ⟨h1, h2⟩ | h1)
   ·exact .inl ⟨.inr h1, h2⟩
   ·exact .inl ⟨.inl h1, h2⟩
   ·exact .inr h1
  ·rintro (⟨h1 | h1, h2⟩ | h1)
   ·exact .inr (.inl ⟨h1, h2⟩)
   ·exact .inl ⟨h1, h2⟩
   ·exact .inr (.inr h1)
theorem kJ (n a : Nat) : (List.replicate n false).getD a default = true ↔ False := by
 simp only [Af, Ub]
 by_cases h : a < n <;> simp [h]
def Tr (bl : List Nat) (ts : List WS) (a : Nat) : Prop :=
 ((∃ w ∈ ts, a ∈ w.m) ∧ a ≠ 0) ∧ ((∃ w ∈ ts, a ∈ w.nodes) ∨ a ∈ bl) ∨ (∃ w ∈ ts, a ∈ w.nodes) ∧ a ∈ bl
theorem qF {n : Nat} {bl : List Nat} {ts : List WS} {a : Nat} (ha : a < n) :
  clAt (ts.foldl mkN (List.replicate n false)) (bl.foldl mark (List.replicate n false)) (ts.foldl mkS (List.replicate n false)) a = true ↔ Tr bl ts a := by
 have h1 := Ajd (a := a) ts (List.replicate n false)
 have h2 := oO (a := a) bl (List.replicate n false)
 have h3 := Aje (a := a) ts (List.replicate n false)
 rw [kJ, Gh] at h1 h2 h3
 unfold clAt Tr
 simp only [Ow, Cl, h1, h2, h3, ha, and_true, fF]
theorem cD {α : Type} {p : α → Bool} : ∀ (l : List α) (i : Nat), (idxL p l i = -1 ∧ ∀ x ∈ l, p x = false) ∨ ∃ j, ∃ h : j < l.length, idxL p l i = ((i + j : Nat) : Int) ∧ p l[j] = true ∧ ∀ x ∈ l.take j, p x = false
 | [], i => .inl ⟨rfl, fun x h => by cases h⟩
 | y :: l, i => by
  unfold idxL
  cases hp : p y with
  | true =>
   exact .inr ⟨0, by simp, by simp, by simpa using hp, fun x h => by simp at h⟩
  | false =>
   rcases cD l (i + 1) with ⟨h1, h2⟩ | ⟨j, hj, h1, h2, h3⟩
   ·left
    refine ⟨by simpa using h1, fun x hx => ?_⟩
    rcases Ap.1 hx with rfl | hx
    ·exact hp
    ·exact h2 x hx
   ·right
    refine ⟨j + 1, by simp; omega, ?_, by simpa using h2, fun x hx => ?_⟩
    ·have : i + (j + 1) = i + 1 + j := by omega
     rw [this]; simpa using h1
    ·rw [Je] at hx
     rcases Ap.1 hx with rfl | hx
     ·exact hp
     ·exact h3 x hx
theorem Abt {n : Nat} {bl : List Nat} {ts : List WS} : (Px n bl ts = 0 ∧ ∀ a, 0 < a → a < n → ¬ Tr bl ts a) ∨ Px n bl ts < n ∧ Tr bl ts (Px n bl ts) ∧ ∀ a, a < Px n bl ts → ¬ Tr bl ts a := by
 rcases cD (p := clAt (ts.foldl mkN (List.replicate n false)) (bl.foldl mark (List.replicate n false)) (ts.foldl mkS (List.replicate n false))) (List.range n) 0 with ⟨h1, h2⟩ | ⟨j, hj, h1, h2, h3⟩
 ·left
  unfold Px
  rw [h1]
  refine ⟨rfl, fun a h0 ha hc => ?_⟩
  have := h2 a (Cc.2 ha)
  rw [(qF ha).2 hc] at this
  cases this
 ·right
  have hjn : j < n := by simpa using hj
  have he : Px n bl ts = j := by
   unfold Px; rw [h1]; simp
  rw [he]
  rw [fH] at h2
  refine ⟨hjn, (qF hjn).1 h2, fun a ha hc => ?_⟩
  have h4 := h3 a (by
   rw [List.take_range, Ml (by omega)]
   exact Cc.2 ha)
  rw [(qF (by omega)).2 hc] at h4
  cases h4
def reached (l : List UInt8) (x : Img) (a : Nat) : Prop :=
 a < 2 ∨ a ∈ x.blocks ∨ a ∈ x.sup.root :: x.recs.map Rec.root ∨ ∃ w ∈ x.trees, ∃ nd ∈ w.nodes, a ∈ (Cx (blk l nd)).1.ptr
inductive Chain (l : List UInt8) : Nat → List Rec → List Nat → Prop
 | nil : Chain l 0 [] []
 | cons {a : Nat} {r : Rec} {rs : List Rec} {bs : List Nat} (h2 : 2 ≤ a) (hn : a < nb l) (hp : Ff (blk l a) = (r, 0)) (h : Chain l r.next rs bs) : Chain l a (r :: rs) (a :: bs)
def Hy (rs : List Rec) : Prop := (rs.map Rec.id).Nodup ∧ (∀ r ∈ rs.drop 1, r.kind = 0) ∧ (rs.filter Ks).length ≤ 60
theorem Rec.ok_kind {r : Rec} (h : r.ok) : r.kind = 0 ∨ r.kind = 1 := by
 rcases h.2.2.2.2 with h | h
 ·exact .inl h.1
 ·exact .inr h.1
def CS.good (c : CS) : Prop := c.blocks.length = c.l.length ∧ c.blocks.Nodup ∧ Hy c.l ∧ c.whole = (c.l.filter Ks).length ∧ c.bad = 0
theorem Chain.frame {l l' : List UInt8} {a : Nat} {rs : List Rec} {bs : List Nat} (h : Chain l a rs bs) (hn : nb l' = nb l) (hb : ∀ x ∈ bs, blk l' x = blk l x) : Chain l' a rs bs := by
 induction h with
 | nil => exact .nil
 | cons h2 hn' hp h ih => exact .cons h2 (by omega) (by rw [hb _ (Ct ..)]; exact hp) (ih fun x hx => hb x (Bu _ hx))
theorem pO {n level frm : Nat} {rec : Nat → Nat → WS → WS} (hr : ∀ p f w, ∀ x ∈ w.nodes, x ∈ (rec p f w).nodes) (w : WS) (i p : Nat) : ∀ x ∈ w.nodes, x ∈ (Kb n level frm rec w i p).nodes := by
 intro x hx
 unfold Kb
 split
 ·exact hx
 split
 ·exact hx
 split
 ·exact hx
 split
 ·exact hx
 ·exact hr _ _ _ x hx
theorem Xu {n level frm : Nat} {rec : Nat → Nat → WS → WS} (hr : ∀ p f w, ∀ x ∈ w.nodes, x ∈ (rec p f w).nodes) : ∀ (ps : List Nat) (i : Nat) (w : WS), ∀ x ∈ w.nodes, x ∈ (Iq n level frm rec ps i w).nodes
 | [], _, _ => fun _ h => h
 | p :: r, i, w => fun x hx => Xu hr r (i + 1) _ x (pO hr w i p x hx)
theorem rK {l : List UInt8} {n level at0 frm : Nat} {rec : Nat → Nat → WS → WS} (hr : ∀ p f w, ∀ x ∈ w.nodes, x ∈ (rec p f w).nodes) (w : WS) : ∀ x ∈ w.nodes, x ∈ (Ku l n level at0 frm rec w).nodes := by
 intro x hx
 unfold Ku
 split
 ·exact hx
 ·exact Xu hr _ _ _ x (Gt _ hx)
theorem eM (l : List UInt8) (n : Nat) : ∀ (v at0 frm : Nat) (w : WS), ∀ x ∈ w.nodes, x ∈ (Fk l n v at0 frm w).nodes
 | 0, _, _, w => rK (fun _ _ _ _ h => h) w
 | v + 1, _, _, w => rK (fun p f w => eM l n v p f w) w
theorem lS {n level frm : Nat} {rec rec' : Nat → Nat → WS → WS} {P : Nat → Prop} (hm : ∀ p f w, ∀ x ∈ w.nodes, x ∈ (rec p f w).nodes) (hr : ∀ p f w, (rec p f w).bad = false → (∀ x ∈ (rec p f w).nodes, P x) → rec' p f w = rec p f w) :
  ∀ (ps : List Nat) (i : Nat) (w : WS), (Iq n level frm rec ps i w).bad = false → (∀ x ∈ (Iq n level frm rec ps i w).nodes, P x) → Iq n level frm rec' ps i w = Iq n level frm rec ps i w
 | [], _, _, _, _ => rfl
 | p :: r, i, w, hb, hP => by
  simp only [Iq] at hb hP ⊢
  have hsb : (Kb n level frm rec w i p).bad = false := by
   cases h : (Kb n level frm rec w i p).bad with
   | false => rfl
   | true => rw [Qn _ _ h, h] at hb; cases hb
  have hsP : ∀ x ∈ (Kb n level frm rec w i p).nodes, P x := fun x hx => hP x (Xu hm r (i + 1) _ x hx)
  have hs : Kb n level frm rec' w i p = Kb n level frm rec w i p := by
   unfold Kb at hsb hsP ⊢
   split
   ·rfl
   rename_i h1
   rw [if_neg h1] at hsb hsP
   split
   ·rfl
   rename_i h2
   rw [if_neg h2] at hsb hsP
   split
   ·rfl
   rename_i h3
   rw [if_neg h3] at hsb hsP
   split
   ·rfl
   rename_i h4
   rw [if_neg h4] at hsb hsP
   exact hr _ _ _ hsb hsP
  rw [hs]
  exact lS hm hr r (i + 1) _ hb hP
theorem lV {l l' : List UInt8} {n level at0 frm : Nat} {rec rec' : Nat → Nat → WS → WS} (hm : ∀ p f w, ∀ x ∈ w.nodes, x ∈ (rec p f w).nodes) (hr : ∀ p f w, (rec p f w).bad = false → (∀ x ∈ (rec p f w).nodes, blk l' x = blk l x) → rec' p f w = rec p f w)
  (w : WS) (hb : (Ku l n level at0 frm rec w).bad = false) (hP : ∀ x ∈ (Ku l n level at0 frm rec w).nodes, blk l' x = blk l x) : Ku l' n level at0 frm rec' w = Ku l n level at0 frm rec w := by
 unfold Ku at hb hP ⊢
 by_cases hc : (atP l n at0 level).2 = false ∨ w.nodes.any (at0 == ·) = true
 ·rw [if_pos hc] at hb; cases hb
 ·rw [if_neg hc] at hb hP
  have he : blk l' at0 = blk l at0 := hP at0 (Xu hm _ _ _ at0 (by simp))
  have ha : atP l' n at0 level = atP l n at0 level := by unfold atP; rw [he]
  rw [ha, if_neg hc, if_neg hc]
  exact lS hm hr _ _ _ hb hP
theorem mE {l l' : List UInt8} {n : Nat} : ∀ (v at0 frm : Nat) (w : WS), (Fk l n v at0 frm w).bad = false → (∀ x ∈ (Fk l n v at0 frm w).nodes, blk l' x = blk l x) → Fk l' n v at0 frm w = Fk l n v at0 frm w
 | 0, at0, frm, w, hb, hP => lV (fun _ _ _ _ h => h) (fun _ _ _ _ _ => rfl) w hb hP
 | v + 1, at0, frm, w, hb, hP => lV (fun p f w => eM l n v p f w) (fun p f w => mE v p f w) w hb hP
theorem Akp {l l' : List UInt8} {root : Nat} {w : WS} (hn : nb l' = nb l) (h : goP l root = some w) (hP : ∀ x ∈ w.nodes, blk l' x = blk l x) : goP l' root = some w := by
 unfold goP at h ⊢
 by_cases h0 : root = 0
 ·rw [if_pos h0] at h ⊢; exact h
 rw [if_neg h0] at h ⊢
 split at h
 ·cases h
 ·rename_i hc
  cases h
  have hb : (Fk l (nb l) 2 root 0 ws0).bad = false := by
   cases hx : (Fk l (nb l) 2 root 0 ws0).bad with
   | false => rfl
   | true => exact absurd (.inl hx) hc
  have he : Fk l' (nb l') 2 root 0 ws0 = Fk l (nb l) 2 root 0 ws0 := by rw [hn]; exact mE 2 root 0 ws0 hb hP
  rw [he, if_neg hc]
def Trees (l : List UInt8) : List (Nat × Nat) → List WS → Prop
 | [], [] => True
 | p :: ps, w :: ws => goP l p.1 = some w ∧ Mz w.m p.2 = false ∧ Trees l ps ws
 | _, _ => False
def Img.roots (x : Img) : List (Nat × Nat) := (x.sup.root, x.sup.size) :: x.recs.map fun r => (r.root, r.size)
theorem Trees.fit {l : List UInt8} (hd : Dev l) : ∀ {ps : List (Nat × Nat)} {ws : List WS}, Trees l ps ws → ∀ w ∈ ws, w.fit (nb l)
 | [], [], _, _, h => by cases h
 | p :: ps, w :: ws, h, y, hy => by
  rcases Ap.1 hy with rfl | hy
  ·exact (Aaj hd h.1).1
  ·exact Trees.fit hd h.2.2 y hy
theorem Chain.range {l : List UInt8} {a : Nat} {rs : List Rec} {bs : List Nat} (h : Chain l a rs bs) : ∀ b ∈ bs, 2 ≤ b ∧ b < nb l := by
 induction h with
 | nil => intro b hb; cases hb
 | cons h2 hn' hp h ih =>
  intro b hb
  rcases Ap.1 hb with rfl | hb
  ·exact ⟨h2, hn'⟩
  ·exact ih b hb
structure IsImg (l : List UInt8) (x : Img) : Prop where
 pick : Uf l = some (x.sup, x.slot)
 chain : Chain l x.sup.first x.recs x.blocks
 nodup : x.blocks.Nodup
 good : Hy x.recs
 trees : Trees l x.roots x.trees
 clash : ∀ a, ¬ Tr x.blocks x.trees a
def Adx (s : Nat) (n : Int) : Prop := 0 ≤ n ∧ n < 256 ^ s ∧ n ≤ 4611686018427387903
inductive FitsL : List Nat → List Int → Prop
 | nil : FitsL [] []
 | cons {s : Nat} {n : Int} {ss : List Nat} {ns : List Int} (h : Adx s n) (r : FitsL ss ns) : FitsL (s :: ss) (n :: ns)
theorem FitsL.len {ss : List Nat} {ns : List Int} (h : FitsL ss ns) : ss.length = ns.length := by
 induction h with
 | nil => rfl
 | cons _ _ ih => simp [ih]
def wr (l : List UInt8) (a : Nat) (d : List UInt8) : List UInt8 := l.take (64 * a) ++ d ++ l.drop (64 * (a + 1))
theorem yT {l : List UInt8} {a : Nat} {d : List UInt8} (h : 64 * (a + 1) ≤ l.length) (hd : d.length = 64) : (wr l a d).length = l.length := by
 unfold wr; simp [hd]; omega
def Bt (l : List UInt8) (ios : List IoV) : List UInt8 := ios.foldl (fun l x => if x.kind = 1 then wr l x.at0 x.data else l) l
def Ada (n : Nat) (x : IoV) : Prop := x.kind = 1 → x.at0 < n ∧ x.data.length = 64
theorem Of : ∀ (ios : List IoV) (l : List UInt8), (∀ x ∈ ios, Ada (nb l) x) → (Bt l ios).length = l.length
 | [], l, _ => rfl
 | x :: ios, l, h => by
  have hx := h x (Ct ..)
  unfold Bt
  rw [Dz]
  by_cases hk : x.kind = 1
  ·rw [if_pos hk]
   obtain ⟨h1, h2⟩ := hx hk
   have hle : 64 * (x.at0 + 1) ≤ l.length := by unfold nb at h1; omega
   have hl := yT hle h2
   have := Of ios (wr l x.at0 x.data) fun y hy => by unfold nb; rw [hl]; exact h y (Bu _ hy)
   unfold Bt at this
   rw [this, hl]
  ·rw [if_neg hk]
   exact Of ios l fun y hy => h y (Bu _ hy)
theorem dB (l : List UInt8) (a b : List IoV) : Bt l (a ++ b) = Bt (Bt l a) b := by unfold Bt; rw [Anl]
end Go.Proofs.YtkaiiopoilpjeaaGreat
