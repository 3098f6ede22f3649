import Derived.Test.YtkaiiopoilpjeaaMJ2
set_option linter.unusedSimpArgs false
set_option linter.unusedVariables false
set_option maxRecDepth 10000
set_option maxHeartbeats 16000000
namespace Go.Proofs.Ytkaiiopoilpjeaa
open Go.AI
def bump (c : List Nat) (p : Nat) : List Nat := if p = 0 then c else c.set p (c.getD p default + 1)
def Ey (l : List UInt8) (s : List Nat × List Bool) (a : Nat) : List Nat × List Bool := if s.2.getD a default = true then s else ((Er (blk l a)).1.ptr.foldl bump s.1, s.2.set a true)
def Fj (l : List UInt8) (s : List Nat × List Bool) (p : Nat × WS) : List Nat × List Bool := p.2.nodes.foldl (Ey l) (bump s.1 p.1, s.2)
def one (c : List Nat) (a : Nat) : List Nat := c.set a 1
def Dn (l : List UInt8) (x : Img) : List Nat :=
 (((x.sup.root :: x.recs.map Rec.root).zip x.trees).foldl (Fj l) (x.blocks.foldl one (((List.replicate (nb l) 0).set 0 1).set 1 1), List.replicate (nb l) false)).1
theorem Tv (c : List Nat) (p : Nat) : (bump c p).length = c.length := by unfold bump; split <;> simp
theorem Uw : ∀ (ps c : List Nat), (ps.foldl bump c).length = c.length
 | [], _ => rfl
 | p :: ps, c => by simp only [Cz]; rw [Uw ps, Tv]
theorem nE {c : List Nat} {p m : Nat} (h : ∀ v ∈ c, v ≤ m) : ∀ v ∈ bump c p, v ≤ m + 1 := by
 intro v hv
 unfold bump at hv
 split at hv
 ·have := h v hv; omega
 ·rcases Eh hv with hv | rfl
  ·have := h v hv; omega
  ·by_cases hp : p < c.length
   ·have := h (c.getD p default) (by simp [hp]); omega
   ·simp [hp]
theorem fY : ∀ (ps : List Nat) {c : List Nat} {m : Nat}, (∀ v ∈ c, v ≤ m) → ∀ v ∈ ps.foldl bump c, v ≤ m + ps.length
 | [], _, _, h => h
 | p :: ps, c, m, h => fun v hv => by
  have := fY ps (nE (p := p) h) v hv
  simp only [As]; omega
theorem Qx : ∀ (l c : List Nat), (l.foldl one c).length = c.length
 | [], _ => rfl
 | a :: l, c => by simp only [Cz]; rw [Qx l]; simp [one]
theorem nZ : ∀ (l : List Nat) {c : List Nat}, (∀ v ∈ c, v ≤ 1) → ∀ v ∈ l.foldl one c, v ≤ 1
 | [], _, h => h
 | a :: l, c, h => by
  refine nZ l fun v hv => ?_
  rcases Eh hv with hv | rfl
  ·exact h v hv
  ·exact Ao _
def CB (n m : Nat) (s : List Nat × List Bool) : Prop := s.1.length = n ∧ s.2.length = n ∧ ∀ v ∈ s.1, v ≤ m
theorem uG {l : List UInt8} {n m : Nat} {s : List Nat × List Bool} (h : CB n m s) (a : Nat) : CB n (m + 8) (Ey l s a) := by
 obtain ⟨h1, h2, h3⟩ := h
 unfold Ey
 split
 ·exact ⟨h1, h2, fun v hv => by have := h3 v hv; omega⟩
 ·refine ⟨by rw [Uw]; exact h1, by simp [h2], fun v hv => ?_⟩
  have := fY _ h3 v hv
  rw [Ma] at this
  exact this
theorem Ul {l : List UInt8} {n : Nat} : ∀ (ls : List Nat) {m : Nat} {s : List Nat × List Bool}, CB n m s → CB n (m + 8 * ls.length) (ls.foldl (Ey l) s)
 | [], m, s, h => h
 | a :: ls, m, s, h => by
  have := Ul (l := l) ls (uG (l := l) h a)
  simp only [Cz, As]
  rwa [show m + 8 * (ls.length + 1) = m + 8 + 8 * ls.length by omega]
theorem CB.mono {n m m' : Nat} {s : List Nat × List Bool} (h : CB n m s) (hm : m ≤ m') : CB n m' s := ⟨h.1, h.2.1, fun v hv => Ga (h.2.2 v hv) hm⟩
theorem gA {l : List UInt8} {n m : Nat} {s : List Nat × List Bool} (h : CB n m s) (p : Nat × WS) (hp : p.2.nodes.length < 1000) : CB n (m + 8001) (Fj l s p) := by
 have h1 : CB n (m + 1) (bump s.1 p.1, s.2) := ⟨by rw [Tv]; exact h.1, h.2.1, nE h.2.2⟩
 exact (Ul (l := l) p.2.nodes h1).mono (by omega)
def iX (l : List UInt8) (a : Nat) : Prop := ∀ p ∈ (Er (blk l a)).1.ptr, p < nb l
theorem pT {n level frm : Nat} {rec : Nat → Nat → WS → WS} : ∀ (ps : List Nat) (i : Nat) (w : WS), (Gh n level frm rec ps i w).bad = false → ∀ p ∈ ps, p < n
 | [], _, _, _ => fun p hp => by cases hp
 | q :: r, i, w, h => by
  simp only [Gh] at h
  have hb : (Hj n level frm rec w i q).bad = false := by
   cases hx : (Hj n level frm rec w i q).bad with
   | false => rfl
   | true => rw [Mp r (i + 1) hx, hx] at h; cases h
  have hq : q < n := by
   unfold Hj at hb
   split at hb
   ·rename_i hw; rw [hw] at hb; cases hb
   ·split at hb
    ·cases hb
    ·omega
  intro p hp
  rcases Au.1 hp with rfl | hp
  ·exact hq
  ·exact pT r (i + 1) _ h p hp
def QS (l : List UInt8) (S : List Nat) (w : WS) : Prop := w.bad = true ∨ ∀ a ∈ w.nodes, iX l a ∨ a ∈ S
theorem pU {l : List UInt8} {n level frm : Nat} {rec : Nat → Nat → WS → WS} {S : List Nat} (hr : ∀ p f w, QS l S w → QS l S (rec p f w)) : ∀ (ps : List Nat) (i : Nat) (w : WS), QS l S w → QS l S (Gh n level frm rec ps i w)
 | [], _, _, h => h
 | p :: r, i, w, h => by
  simp only [Gh]
  refine pU hr r (i + 1) _ ?_
  unfold Hj
  split
  ·exact h
  split
  ·exact .inl rfl
  split
  ·exact h
  split
  ·exact h
  ·exact hr _ _ _ h
theorem qR {l : List UInt8} {level at0 frm : Nat} {rec : Nat → Nat → WS → WS} (hr : ∀ S p f w, QS l S w → QS l S (rec p f w)) (S : List Nat) (w : WS) (h : QS l S w) : QS l S (Hz l (nb l) level at0 frm rec w) := by
 unfold Hz
 split
 ·exact .inl rfl
 ·rename_i hc
  have h1 : QS l (at0 :: S) { w with nodes := w.nodes ++ [at0] } := by
   rcases h with h | h
   ·exact .inl h
   ·refine .inr fun a ha => ?_
    rcases Bg.1 ha with ha | ha
    ·exact (h a ha).imp id fun h => Bi _ h
    ·rw [Bw.1 ha]; exact .inr (Cl ..)
  have h2 := pU (n := nb l) (level := level) (frm := frm) (hr (at0 :: S)) (atP l (nb l) at0 level).1.ptr 0 _ h1
  cases hb : (Gh (nb l) level frm rec (atP l (nb l) at0 level).1.ptr 0 { w with nodes := w.nodes ++ [at0] }).bad with
  | true => exact .inl hb
  | false =>
   have h3 := pT _ _ _ hb
   rcases h2 with h2 | h2
   ·rw [hb] at h2; cases h2
   ·refine .inr fun a ha => ?_
    rcases h2 a ha with h | h
    ·exact .inl h
    ·rcases Au.1 h with rfl | h
     ·refine .inl fun p hp => ?_
      have e : (atP l (nb l) a level).1 = (Er (blk l a)).1 := by
       have h4 : (atP l (nb l) a level).2 = true := by
        cases hx : (atP l (nb l) a level).2 with
        | true => rfl
        | false => exact absurd (.inl hx) hc
       unfold atP at h4 ⊢
       split
       ·rename_i h5; rw [if_pos h5] at h4; cases h4
       ·rfl
      rw [e] at h3
      exact h3 p hp
     ·exact .inr h
theorem rZ (l : List UInt8) : ∀ (v at0 frm : Nat) (S : List Nat) (w : WS), QS l S w → QS l S (Dz l (nb l) v at0 frm w)
 | 0, _, _, S, w, h => qR (fun _ _ _ _ h => h) S w h
 | v + 1, _, _, S, w, h => qR (fun S p f w h => rZ l v p f S w h) S w h
theorem Acp {l : List UInt8} {root : Nat} {w : WS} (h : goP l root = some w) : ∀ a ∈ w.nodes, iX l a := by
 unfold goP at h
 split at h
 ·cases h; intro a ha; cases ha
 ·split at h
  ·cases h
  ·rename_i hc
   cases h
   rcases rZ l 2 root 0 [] ws0 (.inr fun a ha => by cases ha) with hb | hq
   ·exact absurd (.inl hb) hc
   ·exact fun a ha => (hq a ha).resolve_right (by simp)
def WS.good (l : List UInt8) (w : WS) : Prop := w.fits (nb l) ∧ ∀ a ∈ w.nodes, iX l a
theorem cN {l : List UInt8} (hd : Dev l) : ∀ (ps : List (Nat × Nat)) (ws : List WS), (∀ w ∈ ws, w.good l) → ∀ w ∈ (Gc l ps ws).1, w.good l
 | [], ws, h => h
 | (r, z) :: ps, ws, h => by
  simp only [Gc]
  cases hg : goP l r with
  | none => exact h
  | some w =>
   simp only
   split
   ·exact h
   ·refine cN hd ps _ fun x hx => ?_
    rcases Bg.1 hx with hx | hx
    ·exact h x hx
    ·rw [Bw.1 hx]; exact ⟨qL hd hg, Acp hg⟩
theorem iJ {l : List UInt8} : ∀ (ps : List (Nat × Nat)) (ws : List WS), (Gc l ps ws).2 = none → (Gc l ps ws).1.length = ws.length + ps.length
 | [], ws, _ => rfl
 | (r, z) :: ps, ws, h => by
  simp only [Gc] at h ⊢
  cases hg : goP l r with
  | none => rw [hg] at h; cases h
  | some w =>
   rw [hg] at h
   simp only at h ⊢
   split
   ·rename_i hb; rw [if_pos hb] at h; cases h
   ·rename_i hb
    rw [if_neg hb] at h
    rw [iJ ps _ h]
    simp; omega
theorem Ago {l : List UInt8} {root : Nat} {w : WS} (hd : Dev l) (h : goP l root = some w) : root < nb l := by
 have hn := hd.nb
 unfold goP at h
 split at h
 ·omega
 ·split at h
  ·cases h
  ·rename_i hc
   have hb : (Dz l (nb l) 2 root 0 ws0).bad = false := by
    cases hx : (Dz l (nb l) 2 root 0 ws0).bad with
    | false => rfl
    | true => exact absurd (.inl hx) hc
   change (Hz l (nb l) 2 root 0 _ ws0).bad = false at hb
   unfold Hz at hb
   split at hb
   ·cases hb
   ·rename_i h2
    have h4 : (atP l (nb l) root 2).2 = true := by
     cases hx : (atP l (nb l) root 2).2 with
     | true => rfl
     | false => exact absurd (.inl hx) h2
    unfold atP at h4
    split at h4
    ·cases h4
    ·omega
theorem Yu {l : List UInt8} (hd : Dev l) : ∀ (ps : List (Nat × Nat)) (ws : List WS), (Gc l ps ws).2 = none → ∀ p ∈ ps, p.1 < nb l
 | [], ws, _ => fun p hp => by cases hp
 | (r, z) :: ps, ws, h => by
  simp only [Gc] at h
  cases hg : goP l r with
  | none => rw [hg] at h; cases h
  | some w =>
   rw [hg] at h
   simp only at h
   split at h
   ·cases h
   ·intro p hp
    rcases Au.1 hp with rfl | hp
    ·exact Ago hd hg
    ·exact Yu hd ps _ h p hp
structure Img.fit (l : List UInt8) (x : Img) : Prop where
 sup : x.sup.ok
 blocks : x.sup.blocks = nb l
 slot : x.slot ≤ 1
 len : x.blocks.length = x.recs.length
 blk : ∀ a ∈ x.blocks, 2 ≤ a ∧ a < nb l
 recs : ∀ r ∈ x.recs, r.ok
 few : x.recs.length ≤ 61
 tree : ∀ w ∈ x.trees, w.good l
 trees : x.trees.length = x.recs.length + 1
 roots : ∀ r ∈ x.sup.root :: x.recs.map Rec.root, r < nb l
theorem lB {l : List UInt8} {x : Img} (hd : Dev l) (h : Wj l = .ok x) : x.fit l := by
 unfold Wj at h
 cases hp : Pw l with
 | none => rw [hp] at h; cases h
 | some si =>
  obtain ⟨s, i⟩ := si
  rw [hp] at h
  obtain ⟨h1, h2, h3⟩ := gP hp
  obtain ⟨f1, f2, f3, f4, f5⟩ := iL l s.first
  simp only [kT] at h
  split at h
  ·cases h
  ·split at h
   ·cases h
   ·rename_i ht
    unfold mE at h
    split at h
    ·cases h
    ·cases h
     refine ⟨h1, h2, h3, f1, f2, f3, by show (Db l 64 s.first cs0).l.length ≤ 61; omega, cN hd _ _ (fun _ h => by cases h), ?_, ?_⟩
     rotate_left 1
     ·intro r hr
      have h9 := Yu hd _ _ ht
      rcases Au.1 hr with rfl | hr
      ·exact h9 (s.root, s.size) (by unfold Ie; exact Cl ..)
      ·obtain ⟨y, hy, rfl⟩ := Ca.1 hr
       exact h9 (y.root, y.size) (by unfold Ie; exact Bi _ (Ca.2 ⟨y, hy, rfl⟩))
     have := iJ _ _ ht
     show (Gc l (Ie s _) []).1.length = (Db l 64 s.first cs0).l.length + 1
     rw [this]
     unfold Ie
     simp
theorem cW {l : List UInt8} {n : Nat} : ∀ (ps : List (Nat × WS)) {m : Nat} {s : List Nat × List Bool}, CB n m s → (∀ p ∈ ps, p.2.nodes.length < 1000) → CB n (m + 8001 * ps.length) (ps.foldl (Fj l) s)
 | [], m, s, h, _ => h
 | p :: ps, m, s, h, hp => by
  have := cW (l := l) ps (gA (l := l) h p (hp p (Cl ..))) fun q hq => hp q (Bi _ hq)
  simp only [Cz, As]
  rwa [show m + 8001 * (ps.length + 1) = m + 8001 + 8001 * ps.length by omega]
theorem Rv {l : List UInt8} {x : Img} (hx : x.fit l) : (Dn l x).length = nb l ∧ ∀ v ∈ Dn l x, v < 1000000 := by
 have h := cW (l := l) (n := nb l) (m := 1) ((x.sup.root :: x.recs.map Rec.root).zip x.trees) (s := (x.blocks.foldl one (((List.replicate (nb l) 0).set 0 1).set 1 1), List.replicate (nb l) false))
  ⟨by rw [Qx]; simp, by simp, nZ _ fun v hv => by
   rcases Eh hv with hv | rfl
   ·rcases Eh hv with hv | rfl
    ·rw [Et hv]; omega
    ·omega
   ·omega⟩ (fun p hp => (hx.tree _ (Lf hp).2).1.2)
 refine ⟨h.1, fun v hv => ?_⟩
 have h1 := h.2.2 v hv
 have h2 := hx.few
 have h3 : ((x.sup.root :: x.recs.map Rec.root).zip x.trees).length ≤ 62 := by
  rw [Ut]; simp; omega
 omega
end Go.Proofs.Ytkaiiopoilpjeaa

