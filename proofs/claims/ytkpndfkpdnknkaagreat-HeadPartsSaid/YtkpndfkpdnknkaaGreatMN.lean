/- Lemmas. -/
import Derived.Test.YtkpndfkpdnknkaaGreatMM
import Derived.Test.YtkpndfkpdnknkaaGreatMJ4
import Derived.Test.YtkpndfkpdnknkaaGreatME1
import Derived.Test.YtkpndfkpdnknkaaGreatMD1
set_option linter.unusedSimpArgs false
set_option linter.unusedVariables false
set_option maxRecDepth 10000
namespace Go.Proofs.YtkpndfkpdnknkaaGreat
open Go.AI
def WFit (n : Nat) (ios : List IoV) : Prop := ∀ y ∈ ios, 2 ≤ y.at0 ∧ y.at0 < n ∧ y.data.length = 64
theorem dE {n : Nat} {s : Sup} {slot : Nat} {ios : List IoV} {root size first : Nat} (hn : 2 ≤ n) (hi : WFit n ios) : ∀ x ∈ Eu s slot ios root size first, zE n x := by
 intro x hx hk
 unfold Eu at hx
 rcases Bq.1 hx with hx | hx
 ·obtain ⟨y, hy, rfl⟩ := Bt.1 hx
  exact ⟨(hi y hy).2.1, (hi y hy).2.2⟩
 ·simp only [Ar, Nq, pJ] at hx
  rcases hx with rfl | rfl | rfl
  ·exact absurd hk (by decide)
  ·exact ⟨by show 1 - slot < n; omega, Mt _⟩
  ·exact absurd hk (by decide)
theorem Aip {l : List UInt8} {s : Sup} {slot : Nat} {ios : List IoV} {root size first : Nat} (hn : 2 ≤ nb l) (hi : WFit (nb l) ios) :
  blk (Bs l (Eu s slot ios root size first)) (1 - slot) = supB (Vp s root size first) := by
 have e : Eu s slot ios root size first = (iosW ios ++ [flushIo]) ++ wIo (1 - slot) (supB (Vp s root size first)) :: [flushIo] := by
  unfold Eu; simp
 have hf := dE (s := s) (slot := slot) (root := root) (size := size) (first := first) hn hi
 rw [e] at hf ⊢
 refine tQ hf rfl ?_
 intro y hy hk
 rw [Bo] at hy
 subst hy
 exact absurd hk (by decide)
theorem uO {l : List UInt8} {s : Sup} {slot : Nat} {ios : List IoV} {root size first b : Nat} (hn : 2 ≤ nb l) (hi : WFit (nb l) ios) (hb : b ≠ 1 - slot) (hbi : ∀ y ∈ ios, y.at0 ≠ b) :
  blk (Bs l (Eu s slot ios root size first)) b = blk l b := by
 refine Sd _ _ (dE hn hi) ?_
 intro x hx hk
 unfold Eu at hx
 rcases Bq.1 hx with hx | hx
 ·obtain ⟨y, hy, rfl⟩ := Bt.1 hx
  exact hbi y hy
 ·simp only [Ar, Nq, pJ] at hx
  rcases hx with rfl | rfl | rfl
  ·exact absurd hk (by decide)
  ·exact fun h => hb h.symm
  ·exact absurd hk (by decide)
theorem xX {l : List UInt8} {s : Sup} {slot : Nat} {ios : List IoV} {root size first : Nat} (hn : 2 ≤ nb l) (hi : WFit (nb l) ios) (hd : (ios.map IoV.at0).Nodup) {y : IoV} (hy : y ∈ ios) :
  blk (Bs l (Eu s slot ios root size first)) y.at0 = y.data := by
 obtain ⟨a, b, rfl⟩ := List.append_of_mem hy
 have e : Eu s slot (a ++ y :: b) root size first = iosW a ++ wIo y.at0 y.data :: (iosW b ++ [flushIo, wIo (1 - slot) (supB (Vp s root size first)), flushIo]) := by
  unfold Eu iosW; simp
 have hf := dE (s := s) (slot := slot) (root := root) (size := size) (first := first) hn hi
 rw [e] at hf ⊢
 refine tQ (x := wIo y.at0 y.data) hf rfl ?_
 intro z hz hk
 rcases Bq.1 hz with hz | hz
 ·obtain ⟨u, hu, rfl⟩ := Bt.1 hz
  intro h
  rw [Br, Bb] at hd
  have := (Ej.1 hd).2.1
  rw [Gu] at this
  exact this.1 (Bt.2 ⟨u, hu, h⟩)
 ·simp only [Ar, Nq, pJ] at hz
  rcases hz with rfl | rfl | rfl
  ·exact absurd hk (by decide)
  ·have := (hi y (by simp)).1
   show 1 - slot ≠ y.at0
   omega
  ·exact absurd hk (by decide)
theorem cU {l : List UInt8} {s : Sup} {slot : Nat} {ios : List IoV} {root size first : Nat} (hn : 2 ≤ nb l) (hi : WFit (nb l) ios) : (Bs l (Eu s slot ios root size first)).length = l.length :=
 Oe _ _ (dE hn hi)
theorem Trees.frame {l l' : List UInt8} (hn : nb l' = nb l) : ∀ {ps : List (Nat × Nat)} {ws : List WS}, Trees l ps ws → (∀ w ∈ ws, ∀ a ∈ w.nodes, blk l' a = blk l a) → Trees l' ps ws
 | [], [], _, _ => trivial
 | p :: ps, w :: ws, h, hf => ⟨Amj hn h.1 (hf w (by simp)), h.2.1, Trees.frame hn h.2.2 fun v hv => hf v (by simp [hv])⟩
 | [], _ :: _, h, _ => h.elim
 | _ :: _, [], h, _ => h.elim
theorem _root_.List.Nodup.sub {α : Type} {l l' : List α} (h : l.Nodup) (hs : l'.Sublist l) : l'.Nodup := List.Pairwise.sublist hs h
theorem aS (c : List Nat) : (Cm c).Nodup := List.Nodup.sub List.nodup_range List.filter_sublist
theorem uH {l : List UInt8} {x : Img} {ios : List IoV} {root size first : Nat} {rs : List Rec} {bs : List Nat} {ws : List WS} (hd : Dev l) (hI : IsImg l x) (hx : x.fit l) (hi : WFit (nb l) ios)
  (hs : (Vp x.sup root size first).ok) (hblocks : x.sup.blocks = nb l)
  (hch : Chain (Bs l (Eu x.sup x.slot ios root size first)) first rs bs) (hn : bs.Nodup) (hg : Il rs)
  (ht : Trees (Bs l (Eu x.sup x.slot ios root size first)) ((root, size) :: rs.map fun r => (r.root, r.size)) ws) (hcl : ∀ a, ¬ Ut bs ws a) :
  IsImg (Bs l (Eu x.sup x.slot ios root size first)) ⟨Vp x.sup root size first, 1 - x.slot, rs, bs, ws⟩ := by
 have hnb2 : 2 ≤ nb l := by have := hd.nb; omega
 have hlen := cU (s := x.sup) (slot := x.slot) (root := root) (size := size) (first := first) hnb2 hi
 have hnb : nb (Bs l (Eu x.sup x.slot ios root size first)) = nb l := by unfold nb; rw [hlen]
 have hslot := hx.slot
 refine ⟨Aop hI.pick hs ?_ ?_ hnb ?_ ?_, hch, hn, hg, ht, hcl⟩
 ·rw [hnb]; exact hblocks
 ·show x.sup.gen < x.sup.gen + 1; omega
 ·refine uO hnb2 hi (by omega) ?_
  intro y hy
  have := (hi y hy).1
  omega
 ·exact Aip hnb2 hi
def Eo (l : List UInt8) (nd : Nat) : List Nat := (Cw (blk l nd)).1.ptr
def From (l : List UInt8) (root : Nat) (w : WS) : Prop := (∀ a ∈ w.nodes, a = root ∨ ∃ nd ∈ w.nodes, a ∈ Eo l nd) ∧ (∀ a ∈ w.m, a = 0 ∨ ∃ nd ∈ w.nodes, a ∈ Eo l nd)
theorem Ahs {l : List UInt8} {root n level frm : Nat} {rec : Nat → Nat → WS → WS} (hr : ∀ p f w, From l root w → (∃ nd ∈ w.nodes, p ∈ Eo l nd) → From l root (rec p f w)) {w : WS} (h : From l root w) {i p : Nat} (hp : ∃ nd ∈ w.nodes, p ∈ Eo l nd) :
  From l root (Kg n level frm rec w i p) := by
 unfold Kg
 split
 ·exact h
 split
 ·exact h
 split
 ·exact h
 split
 ·refine ⟨h.1, fun a ha => ?_⟩
  rcases Eg ha with ha | rfl
  ·exact h.2 a ha
  ·exact .inr hp
 ·exact hr _ _ _ h hp
theorem tR {l : List UInt8} {root n level frm : Nat} {rec : Nat → Nat → WS → WS} (hm : ∀ p f w, ∀ x ∈ w.nodes, x ∈ (rec p f w).nodes) (hr : ∀ p f w, From l root w → (∃ nd ∈ w.nodes, p ∈ Eo l nd) → From l root (rec p f w)) :
  ∀ (ps : List Nat) (i : Nat) (w : WS), From l root w → (∀ p ∈ ps, ∃ nd ∈ w.nodes, p ∈ Eo l nd) → From l root (Im n level frm rec ps i w)
 | [], _, _, h, _ => h
 | p :: r, i, w, h, hp => by
  simp only [Im]
  refine tR hm hr r (i + 1) _ (Ahs hr h (hp p (by simp))) ?_
  intro q hq
  obtain ⟨nd, h1, h2⟩ := hp q (by simp [hq])
  exact ⟨nd, sE hm w i p nd h1, h2⟩
theorem uJ {l : List UInt8} {root n level at0 frm : Nat} {rec : Nat → Nat → WS → WS} (hm : ∀ p f w, ∀ x ∈ w.nodes, x ∈ (rec p f w).nodes) (hr : ∀ p f w, From l root w → (∃ nd ∈ w.nodes, p ∈ Eo l nd) → From l root (rec p f w))
  {w : WS} (h : From l root w) (ha : at0 = root ∨ ∃ nd ∈ w.nodes, at0 ∈ Eo l nd) : From l root (Kz l n level at0 frm rec w) := by
 unfold Kz
 split
 ·exact h
 ·rename_i hc
  have hat : (atP l n at0 level).1.ptr = Eo l at0 := by
   have h2 : (atP l n at0 level).2 = true := by
    cases hh : (atP l n at0 level).2 with
    | true => rfl
    | false => exact absurd (.inl hh) hc
   unfold atP at h2 ⊢
   split
   ·rename_i h3; rw [if_pos h3] at h2; cases h2
   ·rfl
  rw [hat]
  refine tR hm hr _ _ _ ⟨fun a hh => ?_, fun a hh => ?_⟩ fun p hp => ⟨at0, by simp, hp⟩
  ·rcases Bq.1 hh with hh | hh
   ·exact (h.1 a hh).imp id fun ⟨nd, h1, h2⟩ => ⟨nd, by simp [h1], h2⟩
   ·rw [Bo] at hh
    subst hh
    exact ha.imp id fun ⟨nd, h1, h2⟩ => ⟨nd, by simp [h1], h2⟩
  ·exact (h.2 a hh).imp id fun ⟨nd, h1, h2⟩ => ⟨nd, by simp [h1], h2⟩
theorem vI {l : List UInt8} {root n : Nat} : ∀ (v at0 frm : Nat) (w : WS), From l root w → (at0 = root ∨ ∃ nd ∈ w.nodes, at0 ∈ Eo l nd) → From l root (Fj l n v at0 frm w)
 | 0, _, _, _, h, ha => uJ (fun _ _ _ _ h => h) (fun _ _ _ h _ => h) h ha
 | v + 1, _, _, _, h, ha => uJ (fun p f w => fR l n v p f w) (fun p f w h hp => vI v p f w h (.inr hp)) h ha
theorem Apt {l : List UInt8} {root : Nat} {w : WS} (h : goP l root = some w) : From l root w := by
 have h0 : From l root ws0 := ⟨fun a ha => by simp [ws0] at ha, fun a ha => .inl (by have := Ew (show a ∈ List.replicate 512 0 from ha); exact this)⟩
 unfold goP at h
 split at h
 ·cases h; exact h0
 split at h
 ·cases h
 ·cases h
  exact vI 2 root 0 ws0 h0 (.inl rfl)
theorem Trees.mem {l : List UInt8} : ∀ {ps : List (Nat × Nat)} {ws : List WS}, Trees l ps ws → ∀ w ∈ ws, ∃ p ∈ ps, goP l p.1 = some w
 | [], [], _, _, h => by cases h
 | p :: ps, w :: ws, h, v, hv => by
  rcases Ar.1 hv with rfl | hv
  ·exact ⟨p, by simp, h.1⟩
  ·obtain ⟨q, h1, h2⟩ := Trees.mem h.2.2 v hv
   exact ⟨q, by simp [h1], h2⟩
 | [], _ :: _, h, _, _ => h.elim
 | _ :: _, [], h, _, _ => h.elim
theorem Ig {l : List UInt8} {x : Img} (hI : IsImg l x) : ∀ w ∈ x.trees, (∀ a ∈ w.nodes, reached l x a) ∧ ∀ a ∈ w.m, a = 0 ∨ reached l x a := by
 intro w hw
 obtain ⟨p, hp, hg⟩ := Trees.mem hI.trees w hw
 obtain ⟨f1, f2⟩ := Apt hg
 have hroot : p.1 ∈ x.sup.root :: x.recs.map Rec.root := by
  unfold Img.roots at hp
  rcases Ar.1 hp with rfl | hp
  ·simp
  ·obtain ⟨r, hr, rfl⟩ := Bt.1 hp
   simp only [Ar, Bt]
   exact .inr ⟨r, hr, rfl⟩
 refine ⟨fun a ha => ?_, fun a ha => ?_⟩
 ·rcases f1 a ha with rfl | ⟨nd, h1, h2⟩
  ·exact .inr (.inr (.inl hroot))
  ·exact .inr (.inr (.inr ⟨w, hw, nd, h1, h2⟩))
 ·rcases f2 a ha with rfl | ⟨nd, h1, h2⟩
  ·exact .inl rfl
  ·exact .inr (.inr (.inr (.inr ⟨w, hw, nd, h1, h2⟩)))
theorem gP {l : List UInt8} {x : Img} {ios : List IoV} {root size first : Nat} (hd : Dev l) (hI : IsImg l x) (hi : WFit (nb l) ios) (hf : ∀ y ∈ ios, ¬ reached l x y.at0) {a : Nat} (ha : 2 ≤ a) (hr : reached l x a) :
  blk (Bs l (Eu x.sup x.slot ios root size first)) a = blk l a := by
 have hnb2 : 2 ≤ nb l := by have := hd.nb; omega
 refine uO hnb2 hi (by omega) ?_
 intro y hy h
 exact hf y hy (h ▸ hr)
def tM (l : List UInt8) : Nat → Nat → List Nat
 | 0, a => Eo l a
 | v + 1, a => (Eo l a).flatMap fun p => if p = 0 then List.replicate (8 ^ (v + 1)) 0 else tM l v p
def tN (l : List UInt8) : Nat → Nat → List Nat
 | 0, a => [a]
 | v + 1, a => a :: (Eo l a).flatMap fun p => if p = 0 then [] else tN l v p
def tOk (l : List UInt8) : Nat → Nat → Prop
 | 0, a => (atP l (nb l) a 0).2 = true ∧ ∀ p ∈ Eo l a, p < nb l
 | v + 1, a => (atP l (nb l) a (v + 1)).2 = true ∧ ∀ p ∈ Eo l a, p < nb l ∧ (p ≠ 0 → tOk l v p)
theorem Oo (l : List UInt8) (a : Nat) : (Eo l a).length = 8 := Ie _
theorem aN {α β : Type} {f : α → List β} {k : Nat} : ∀ (ps : List α), (∀ p ∈ ps, (f p).length = k) → (ps.flatMap f).length = ps.length * k
 | [], _ => by simp
 | p :: ps, h => by
  rw [Cl, Am, h p (by simp), aN ps (fun q hq => h q (by simp [hq])), Ao, Mn, Nat.add_comm]
theorem Abj (l : List UInt8) : ∀ (v a : Nat), (tM l v a).length = 8 ^ (v + 1)
 | 0, a => by simp [tM, Oo]
 | v + 1, a => by
  simp only [tM]
  rw [aN (k := 8 ^ (v + 1)) _ (fun p _ => by
   split
   ·simp
   ·exact Abj l v p), Oo, Fw 8 (v + 1), Gl]
theorem zI {n level frm : Nat} {rec : Nat → Nat → WS → WS} {gm gn : Nat → List Nat} {gok : Nat → Prop} (hlen : ∀ p, (gm p).length = 8 ^ level)
  (hstep : ∀ (A C nodes : List Nat) (p i : Nat), nodes.Nodup → A.length = frm + i * 8 ^ level →
   (Kg n level frm rec ⟨A ++ (List.replicate (8 ^ level) 0 ++ C), nodes, false⟩ i p = ⟨A ++ (gm p ++ C), nodes ++ gn p, false⟩ ∧ gok p ∧ (nodes ++ gn p).Nodup) ∨
   ((Kg n level frm rec ⟨A ++ (List.replicate (8 ^ level) 0 ++ C), nodes, false⟩ i p).bad = true ∧ ¬ (gok p ∧ (nodes ++ gn p).Nodup))) :
  ∀ (ps : List Nat) (A C nodes : List Nat) (i : Nat), nodes.Nodup → A.length = frm + i * 8 ^ level →
   (Im n level frm rec ps i ⟨A ++ (List.replicate (ps.length * 8 ^ level) 0 ++ C), nodes, false⟩ = ⟨A ++ (ps.flatMap gm ++ C), nodes ++ ps.flatMap gn, false⟩ ∧ (∀ p ∈ ps, gok p) ∧ (nodes ++ ps.flatMap gn).Nodup) ∨
   ((Im n level frm rec ps i ⟨A ++ (List.replicate (ps.length * 8 ^ level) 0 ++ C), nodes, false⟩).bad = true ∧ ¬ ((∀ p ∈ ps, gok p) ∧ (nodes ++ ps.flatMap gn).Nodup))
 | [], A, C, nodes, i, hn, hA => by
  left
  simp only [Im, Cq, dV, List.replicate_zero, Dc, List.flatMap_nil, Bz]
  exact ⟨trivial, (fun p hp => by cases hp), hn⟩
 | p :: ps, A, C, nodes, i, hn, hA => by
  have e1 : List.replicate ((p :: ps).length * 8 ^ level) 0 ++ C = List.replicate (8 ^ level) 0 ++ (List.replicate (ps.length * 8 ^ level) 0 ++ C) := by
   rw [← Ce, List.replicate_append_replicate, Ao, Mn, Nat.add_comm]
  simp only [Im]
  rw [e1]
  rcases hstep A (List.replicate (ps.length * 8 ^ level) 0 ++ C) nodes p i hn hA with ⟨h1, h2, h3⟩ | ⟨h1, h2⟩
  ·rw [h1]
   have e2 : A ++ (gm p ++ (List.replicate (ps.length * 8 ^ level) 0 ++ C)) = (A ++ gm p) ++ (List.replicate (ps.length * 8 ^ level) 0 ++ C) := by simp
   have hA2 : (A ++ gm p).length = frm + (i + 1) * 8 ^ level := by rw [Am, hlen, hA, Mn]; omega
   rw [e2]
   rcases zI hlen hstep ps (A ++ gm p) C (nodes ++ gn p) (i + 1) h3 hA2 with ⟨k1, k2, k3⟩ | ⟨k1, k2⟩
   ·left
    refine ⟨?_, ?_, ?_⟩
    ·rw [k1]; simp [Cl]
    ·intro q hq
     rcases Ar.1 hq with rfl | hq
     ·exact h2
     ·exact k2 q hq
    ·simpa [Cl] using k3
   ·right
    refine ⟨k1, fun hh => k2 ⟨fun q hq => hh.1 q (by simp [hq]), ?_⟩⟩
    simpa [Cl] using hh.2
  ·right
   refine ⟨?_, fun hh => h2 ⟨hh.1 p (by simp), ?_⟩⟩
   ·rw [Qt _ _ h1]; exact h1
   ·have := hh.2
    rw [Cl, ← Ce, Ej] at this
    exact this.1
theorem yN {l : List UInt8} {level at0 : Nat} {rec : Nat → Nat → WS → WS} {gm gn : Nat → List Nat} {gok : Nat → Prop} (hlen : ∀ p, (gm p).length = 8 ^ level) (A C nodes : List Nat) (hn : nodes.Nodup)
  (hstep : ∀ (A' C nodes : List Nat) (p i : Nat), nodes.Nodup → A'.length = A.length + i * 8 ^ level →
   (Kg (nb l) level A.length rec ⟨A' ++ (List.replicate (8 ^ level) 0 ++ C), nodes, false⟩ i p = ⟨A' ++ (gm p ++ C), nodes ++ gn p, false⟩ ∧ gok p ∧ (nodes ++ gn p).Nodup) ∨
   ((Kg (nb l) level A.length rec ⟨A' ++ (List.replicate (8 ^ level) 0 ++ C), nodes, false⟩ i p).bad = true ∧ ¬ (gok p ∧ (nodes ++ gn p).Nodup))) :
  (Kz l (nb l) level at0 A.length rec ⟨A ++ (List.replicate (8 ^ (level + 1)) 0 ++ C), nodes, false⟩ = ⟨A ++ ((Eo l at0).flatMap gm ++ C), nodes ++ (at0 :: (Eo l at0).flatMap gn), false⟩ ∧ ((atP l (nb l) at0 level).2 = true ∧ ∀ p ∈ Eo l at0, gok p) ∧ (nodes ++ (at0 :: (Eo l at0).flatMap gn)).Nodup) ∨
  ((Kz l (nb l) level at0 A.length rec ⟨A ++ (List.replicate (8 ^ (level + 1)) 0 ++ C), nodes, false⟩).bad = true ∧ ¬ (((atP l (nb l) at0 level).2 = true ∧ ∀ p ∈ Eo l at0, gok p) ∧ (nodes ++ (at0 :: (Eo l at0).flatMap gn)).Nodup)) := by
 unfold Kz
 by_cases hc : (atP l (nb l) at0 level).2 = false ∨ nodes.any (at0 == ·) = true
 ·right
  refine ⟨by rw [if_pos hc], fun hh => ?_⟩
  rcases hc with hc | hc
  ·rw [hh.1.1] at hc; cases hc
  ·obtain ⟨y, hy, he⟩ := Ge.1 hc
   have : at0 = y := by simpa using he
   subst this
   have h2 := hh.2
   rw [Ej] at h2
   exact h2.2.2 at0 hy at0 (by simp) rfl
 ·rw [if_neg hc]
  have hat2 : (atP l (nb l) at0 level).2 = true := by
   cases hh : (atP l (nb l) at0 level).2 with
   | true => rfl
   | false => exact absurd (.inl hh) hc
  have hat : (atP l (nb l) at0 level).1.ptr = Eo l at0 := by
   have h2 := hat2
   unfold atP at h2 ⊢
   split
   ·rename_i h3; rw [if_pos h3] at h2; cases h2
   ·rfl
  have hnot : at0 ∉ nodes := fun h => hc (.inr (Ge.2 ⟨at0, h, by simp⟩))
  have hn2 : (nodes ++ [at0]).Nodup := by
   rw [Ej]
   exact ⟨hn, by simp, fun x hx y hy he => by rw [Bo] at hy; subst hy; subst he; exact hnot hx⟩
  rw [hat]
  have hl8 : 8 ^ (level + 1) = (Eo l at0).length * 8 ^ level := by rw [Oo, Fw, Gl]
  rw [hl8]
  rcases zI hlen hstep (Eo l at0) A C (nodes ++ [at0]) 0 hn2 (by omega) with ⟨k1, k2, k3⟩ | ⟨k1, k2⟩
  ·left
   refine ⟨?_, ⟨hat2, k2⟩, by simpa using k3⟩
   rw [k1]; simp
  ·right
   exact ⟨k1, fun hh => k2 ⟨hh.1.2, by simpa using hh.2⟩⟩
theorem Atr (A C : List Nat) (x y : Nat) : (A ++ (x :: C)).set A.length y = A ++ (y :: C) := by
 rw [Jt _ _ (Bc _), Mo]; rfl
theorem yY {l : List UInt8} : ∀ (v at0 : Nat) (A C nodes : List Nat), nodes.Nodup →
  (Fj l (nb l) v at0 A.length ⟨A ++ (List.replicate (8 ^ (v + 1)) 0 ++ C), nodes, false⟩ = ⟨A ++ (tM l v at0 ++ C), nodes ++ tN l v at0, false⟩ ∧ tOk l v at0 ∧ (nodes ++ tN l v at0).Nodup) ∨
  ((Fj l (nb l) v at0 A.length ⟨A ++ (List.replicate (8 ^ (v + 1)) 0 ++ C), nodes, false⟩).bad = true ∧ ¬ (tOk l v at0 ∧ (nodes ++ tN l v at0).Nodup))
 | 0, at0, A, C, nodes, hn => by
  have h := yN (l := l) (level := 0) (at0 := at0) (rec := fun _ _ w => w) (gm := fun p => [p]) (gn := fun _ => []) (gok := fun p => p < nb l) (fun p => rfl) A C nodes hn (by
   intro A' C nodes p i hn hA
   unfold Kg
   simp only [Bd, Cp, Bz]
   by_cases h1 : nb l ≤ p
   ·right
    rw [if_pos h1]
    exact ⟨rfl, fun hh => by have := hh.1; omega⟩
   ·left
    rw [if_neg h1]
    refine ⟨?_, by omega, hn⟩
    by_cases h2 : p = 0
    ·rw [if_pos h2, h2]; rfl
    ·rw [if_neg h2, if_pos trivial, ← hA]
     congr 1
     exact Atr A' C 0 p)
  have e1 : (Eo l at0).flatMap (fun p => [p]) = Eo l at0 := by simp
  have e2 : (Eo l at0).flatMap (fun _ => ([] : List Nat)) = [] := by simp
  rw [e1, e2] at h
  exact h
 | v + 1, at0, A, C, nodes, hn => by
  refine yN (l := l) (level := v + 1) (at0 := at0) (rec := Fj l (nb l) v) (gm := fun p => if p = 0 then List.replicate (8 ^ (v + 1)) 0 else tM l v p) (gn := fun p => if p = 0 then [] else tN l v p) (gok := fun p => p < nb l ∧ (p ≠ 0 → tOk l v p)) ?_ A C nodes hn ?_
  ·intro p
   show (if p = 0 then List.replicate (8 ^ (v + 1)) 0 else tM l v p).length = _
   split
   ·simp
   ·exact Abj l v p
  ·intro A' C nodes p i hn hA
   unfold Kg
   simp only [Bd, Cp]
   by_cases h1 : nb l ≤ p
   ·right
    rw [if_pos h1]
    exact ⟨rfl, fun hh => by have := hh.1.1; omega⟩
   ·rw [if_neg h1]
    by_cases h2 : p = 0
    ·left
     rw [if_pos h2, if_pos h2, if_pos h2, Bz]
     exact ⟨rfl, ⟨by omega, fun h => absurd h2 h⟩, hn⟩
    ·rw [if_neg h2, if_neg h2, if_neg h2, if_neg (by omega), ← hA]
     rcases yY v p A' C nodes hn with ⟨k1, k2, k3⟩ | ⟨k1, k2⟩
     ·left; exact ⟨k1, ⟨by omega, fun _ => k2⟩, k3⟩
     ·right; exact ⟨k1, fun hh => k2 ⟨hh.1.2 h2, hh.2⟩⟩
def iD (l : List UInt8) (root : Nat) : WS := if root = 0 then ws0 else ⟨tM l 2 root, tN l 2 root, false⟩
theorem goP_iff {l : List UInt8} {root : Nat} {w : WS} : goP l root = some w ↔ w = iD l root ∧ (root ≠ 0 → tOk l 2 root ∧ (tN l 2 root).Nodup ∧ ∀ b ∈ tM l 2 root, b ∉ tN l 2 root) := by
 unfold goP iD
 by_cases h0 : root = 0
 ·rw [if_pos h0, if_pos h0]
  constructor
  ·intro h; cases h; exact ⟨rfl, fun h => absurd h0 h⟩
  ·rintro ⟨rfl, _⟩; rfl
 rw [if_neg h0, if_neg h0]
 have h := yY (l := l) 2 root [] [] [] Ro
 have e : ([] : List Nat) ++ (List.replicate (8 ^ (2 + 1)) 0 ++ []) = List.replicate 512 0 := by
  show List.replicate 512 0 ++ [] = _; rw [Bz]
 rw [e] at h
 have hlen : ([] : List Nat).length = 0 := rfl
 rw [hlen] at h
 simp only [Dc, Bz] at h
 have ew : (⟨List.replicate 512 0, [], false⟩ : WS) = ws0 := rfl
 rw [ew] at h
 rcases h with ⟨k1, k2, k3⟩ | ⟨k1, k2⟩
 ·rw [k1]
  simp only [Bd, false_or]
  by_cases hc : (tM l 2 root).any (fun b => (tN l 2 root).any (b == ·)) = true
  ·rw [if_pos hc]
   constructor
   ·intro h; cases h
   ·rintro ⟨_, h⟩
    obtain ⟨b, hb, hb2⟩ := Ge.1 hc
    obtain ⟨y, hy, he⟩ := Ge.1 hb2
    have : b = y := by simpa using he
    subst this
    exact absurd hy ((h h0).2.2 b hb)
  ·rw [if_neg hc]
   constructor
   ·intro h; cases h
    exact ⟨rfl, fun _ => ⟨k2, k3, fun b hb hn => hc (Ge.2 ⟨b, hb, Ge.2 ⟨b, hn, by simp⟩⟩)⟩⟩
   ·rintro ⟨rfl, _⟩; rfl
 ·rw [if_pos (.inl k1)]
  constructor
  ·intro h; cases h
  ·rintro ⟨_, h⟩
   exact absurd ⟨(h h0).1, (h h0).2.1⟩ k2
theorem Acz (l : List UInt8) (v a : Nat) : a ∈ tN l v a := by cases v <;> simp [tN]
theorem Gg {l : List UInt8} {x : Img} (hI : IsImg l x) : ∃ w ws, x.trees = w :: ws ∧ goP l x.sup.root = some w ∧ Nb w.m x.sup.size = false ∧ Trees l (x.recs.map fun r => (r.root, r.size)) ws := by
 have ht := hI.trees
 unfold Img.roots at ht
 cases h : x.trees with
 | nil => rw [h] at ht; exact ht.elim
 | cons w ws => rw [h] at ht; exact ⟨w, ws, rfl, ht.1, ht.2.1, ht.2.2⟩
theorem Trees.len {l : List UInt8} : ∀ {ps : List (Nat × Nat)} {ws : List WS}, Trees l ps ws → ps.length = ws.length
 | [], [], _ => rfl
 | p :: ps, w :: ws, h => by simp [Trees.len h.2.2]
 | [], _ :: _, h => h.elim
 | _ :: _, [], h => h.elim
theorem Chain.hd {l : List UInt8} {a : Nat} {rs : List Rec} {bs : List Nat} (h : Chain l a rs bs) : bs.getD 0 default = a := by
 induction h with
 | nil => rfl
 | cons => rfl
theorem Chain.len {l : List UInt8} {a : Nat} {rs : List Rec} {bs : List Nat} (h : Chain l a rs bs) : bs.length = rs.length := by
 induction h with
 | nil => rfl
 | cons _ _ _ _ ih => simp [ih]
theorem Chain.ptr {l : List UInt8} {a : Nat} {rs : List Rec} {bs : List Nat} (h : Chain l a rs bs) : a = 0 ∨ 2 ≤ a ∧ a < nb l := by
 induction h with
 | nil => exact .inl rfl
 | cons h2 hn _ _ => exact .inr ⟨h2, hn⟩
theorem Chain.ptrOk {l : List UInt8} (hd : Dev l) {a : Nat} {rs : List Rec} {bs : List Nat} (h : Chain l a rs bs) : ptrOk a := by
 have := hd.nb
 rcases h.ptr with h | h
 ·exact .inl h
 ·exact .inr ⟨h.1, by omega⟩
theorem Qi {l : List UInt8} {x : Img} (hd : Dev l) (hx : x.fit l) {a : Nat} : a ∈ Cm (Bn l x) ↔ 2 ≤ a ∧ a < nb l ∧ ¬ reached l x a := by
 have hlen : (Bn l x).length = nb l := (Vh hx).1
 unfold Cm Lr
 rw [Eh, Bw, hlen, Dg]
 constructor
 ·rintro ⟨h1, h2, h3⟩; exact ⟨h2, h1, (jJ hd hx h1).1 h3⟩
 ·rintro ⟨h1, h2, h3⟩; exact ⟨h2, h1, (jJ hd hx h2).2 h3⟩
structure Frees (l : List UInt8) (x : Img) (ios : List IoV) : Prop where
 fit : WFit (nb l) ios
 free : ∀ y ∈ ios, ¬ reached l x y.at0
theorem Frees.append {l : List UInt8} {x : Img} {a b : List IoV} (ha : Frees l x a) (hb : Frees l x b) : Frees l x (a ++ b) :=
 ⟨fun y hy => (Bq.1 hy).elim (ha.fit y) (hb.fit y), fun y hy => (Bq.1 hy).elim (ha.free y) (hb.free y)⟩
structure Made (l l' : List UInt8) (x x' : Img) (k n : Nat) : Prop where
 img : IsImg l' x'
 len : l'.length = l.length
 stay : ∀ a, 2 ≤ a → reached l x a → blk l' a = blk l a
 blks : ∀ a ∈ x'.blocks, a ∈ (Cm (Bn l x)).take k ∨ a ∈ x.blocks.drop n
theorem uP {l l' : List UInt8} (hd : Dev l) (h : l'.length = l.length) : Dev l' := ⟨by rw [h]; exact hd.1, by rw [h]; exact hd.2⟩
theorem Iy {l : List UInt8} (hl : l.length < 1000000) {x : Img} : sO l = .ok x ↔ Dev l ∧ IsImg l x := by
 unfold sO
 constructor
 ·intro h
  split at h
  ·rename_i hd; exact ⟨⟨hl, hd⟩, (Ot ⟨hl, hd⟩).1 h⟩
  ·cases h
 ·rintro ⟨hd, h⟩
  rw [if_pos hd.2]
  exact (Ot hd).2 h
theorem Sa {l : List UInt8} {x : Img} (hd : Dev l) (h : IsImg l x) : x.fit l := cM hd ((Ot hd).2 h)
theorem Trees.get {l : List UInt8} : ∀ {ps : List (Nat × Nat)} {ws : List WS} (j : Nat) (hj : j < ps.length) (hw : j < ws.length), Trees l ps ws → goP l ps[j].1 = some ws[j] ∧ Nb ws[j].m ps[j].2 = false
 | p :: ps, w :: ws, 0, _, _, h => ⟨h.1, h.2.1⟩
 | p :: ps, w :: ws, j + 1, hj, hw, h => by
  simpa using Trees.get j (by simpa using hj) (by simpa using hw) h.2.2
theorem Ahg {b : List UInt8} (h : (Cw b).2 = 0) : (Cw b).1.ok := by
 unfold Cw at h ⊢
 split at h
 ·rename_i h1; exact absurd h h1
 ·rename_i h1
  rw [if_neg h1]
  split at h
  ·rename_i h2; rw [if_pos h2]; exact h2
  ·cases h
theorem jK {l : List UInt8} {n a v : Nat} (h : (atP l n a v).2 = true) : 2 ≤ a ∧ a < n ∧ (Cw (blk l a)).2 = 0 ∧ (Cw (blk l a)).1.level = v ∧ ∀ p ∈ Eo l a, ptrOk p := by
 unfold atP at h
 split at h
 ·cases h
 ·have hz := Ei h
  refine ⟨by omega, by omega, hz.1, hz.2, fun p hp => ?_⟩
  have := Ha.1 (Ahg hz.1).1 p hp
  rwa [Dg] at this
theorem Alq {l : List UInt8} : ∀ (v a : Nat), tOk l v a → ∀ b ∈ tM l v a, b = 0 ∨ 2 ≤ b ∧ b < nb l
 | 0, a, h, b, hb => by
  simp only [tM] at hb
  have h1 := (jK h.1).2.2.2.2 b hb
  have h2 := h.2 b hb
  unfold ptrOk at h1; omega
 | v + 1, a, h, b, hb => by
  simp only [tM, Db] at hb
  obtain ⟨p, hp, hb⟩ := hb
  split at hb
  ·exact .inl (Ew hb)
  ·rename_i h0
   exact Alq v p ((h.2 p hp).2 h0) b hb
theorem Us {l : List UInt8} {root : Nat} {w : WS} (h : goP l root = some w) : w.m.length = 512 ∧ ∀ a ∈ w.m, a = 0 ∨ 2 ≤ a ∧ a < nb l := by
 obtain ⟨rfl, h2⟩ := goP_iff.1 h
 unfold iD
 by_cases hr : root = 0
 ·rw [if_pos hr]
  exact ⟨by simp [ws0], fun a ha => .inl (Ew (show a ∈ List.replicate 512 0 from ha))⟩
 ·rw [if_neg hr]
  exact ⟨Abj l 2 root, fun a ha => Alq 2 root (h2 hr).1 a ha⟩
theorem uA {l l' : List UInt8} {x : Img} (hI : IsImg l x) (hs : ∀ a, 2 ≤ a → reached l x a → blk l' a = blk l a) {w : WS} (hw : w ∈ x.trees) (n : Nat) : Ji l' w.m n = Ji l w.m n := by
 refine Av fun a ha => ?_
 have ha := As ha
 unfold secB
 by_cases h0 : a = 0
 ·rw [if_pos h0, if_pos h0]
 ·rw [if_neg h0, if_neg h0]
  obtain ⟨p, hp, hg⟩ := Trees.mem hI.trees w hw
  exact hs a (((Us hg).2 a ha).resolve_left h0).1 (((Ig hI w hw).2 a ha).resolve_left h0)
theorem Yb {l l' : List UInt8} {x : Img} (hI : IsImg l x) (hs : ∀ a, 2 ≤ a → reached l x a → blk l' a = blk l a) {rs : List Rec} {ws : List WS} (hws : ∀ w ∈ ws, w ∈ x.trees) (q : Rec × WS → Bool) : ((rs.zip ws).filter q).map (Si l') = ((rs.zip ws).filter q).map (Si l) := by
 refine Av fun p hp => ?_
 unfold Si
 rw [uA hI hs (hws p.2 (Ky (Eh.1 hp).1).2)]
theorem nU {l : List UInt8} {s : Sup} {slot : Nat} {ios : List IoV} {root size first : Nat} (hd : Dev l) (hi : WFit (nb l) ios) : Kw l (Eu s slot ios root size first) = 0 := by
 have hn := hd.nb
 unfold Kw
 rw [if_neg (fun h => h hd.2), if_neg]
 intro h
 obtain ⟨x, hx, hxe⟩ := Ge.1 h
 have : Pp (nb l) x := by
  unfold Eu at hx
  rcases Bq.1 hx with hx | hx
  ·obtain ⟨y, hy, rfl⟩ := Bt.1 hx
   have := hi y hy
   exact .inl ⟨rfl, this.2.1, this.2.2⟩
  ·simp only [Ar, Nq, pJ] at hx
   rcases hx with rfl | rfl | rfl
   ·exact .inr ⟨rfl, rfl, rfl⟩
   ·exact .inl ⟨rfl, by show 1 - slot < nb l; omega, Mt _⟩
   ·exact .inr ⟨rfl, rfl, rfl⟩
 rw [An this] at hxe
 cases hxe
end Go.Proofs.YtkpndfkpdnknkaaGreat
