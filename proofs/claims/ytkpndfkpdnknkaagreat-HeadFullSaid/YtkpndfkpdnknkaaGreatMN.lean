/- Lemmas. -/
import Derived.Test.YtkpndfkpdnknkaaGreatMM
import Derived.Test.YtkpndfkpdnknkaaGreatMJ4
import Derived.Test.YtkpndfkpdnknkaaGreatME1
import Derived.Test.YtkpndfkpdnknkaaGreatMD1
set_option linter.unusedSimpArgs false
set_option linter.unusedVariables false
set_option maxRecDepth 10000
namespace Go.Proofs.YtkpndfkpdnknkaaGreat
open Go.AI
def WFit (n : Nat) (ios : List IoV) : Prop := ∀ y ∈ ios, 2 ≤ y.at0 ∧ y.at0 < n ∧ y.data.length = 64
theorem dE {n : Nat} {s : Sup} {slot : Nat} {ios : List IoV} {root size first : Nat} (hn : 2 ≤ n) (hi : WFit n ios) : ∀ x ∈ Eu s slot ios root size first, zE n x := by
 intro x hx hk
 unfold Eu at hx
 rcases Bq.1 hx with hx | hx
 ·obtain ⟨y, hy, rfl⟩ := Bt.1 hx
  exact ⟨(hi y hy).2.1, (hi y hy).2.2⟩
 ·simp only [Ar, Nq, pJ] at hx
  rcases hx with rfl | rfl | rfl
  ·exact absurd hk (by decide)
  ·exact ⟨by show 1 - slot < n; omega, Mt _⟩
  ·exact absurd hk (by decide)
theorem Aip {l : List UInt8} {s : Sup} {slot : Nat} {ios : List IoV} {root size first : Nat} (hn : 2 ≤ nb l) (hi : WFit (nb l) ios) :
  blk (Bs l (Eu s slot ios root size first)) (1 - slot) = supB (Vp s root size first) := by
 have e : Eu s slot ios root size first = (iosW ios ++ [flushIo]) ++ wIo (1 - slot) (supB (Vp s root size first)) :: [flushIo] := by
  unfold Eu; simp
 have hf := dE (s := s) (slot := slot) (root := root) (size := size) (first := first) hn hi
 rw [e] at hf ⊢
 refine tQ hf rfl ?_
 intro y hy hk
 rw [Bo] at hy
 subst hy
 exact absurd hk (by decide)
theorem uO {l : List UInt8} {s : Sup} {slot : Nat} {ios : List IoV} {root size first b : Nat} (hn : 2 ≤ nb l) (hi : WFit (nb l) ios) (hb : b ≠ 1 - slot) (hbi : ∀ y ∈ ios, y.at0 ≠ b) :
  blk (Bs l (Eu s slot ios root size first)) b = blk l b := by
 refine Sd _ _ (dE hn hi) ?_
 intro x hx hk
 unfold Eu at hx
 rcases Bq.1 hx with hx | hx
 ·obtain ⟨y, hy, rfl⟩ := Bt.1 hx
  exact hbi y hy
 ·simp only [Ar, Nq, pJ] at hx
  rcases hx with rfl | rfl | rfl
  ·exact absurd hk (by decide)
  ·exact fun h => hb h.symm
  ·exact absurd hk (by decide)
theorem xX {l : List UInt8} {s : Sup} {slot : Nat} {ios : List IoV} {root size first : Nat} (hn : 2 ≤ nb l) (hi : WFit (nb l) ios) (hd : (ios.map IoV.at0).Nodup) {y : IoV} (hy : y ∈ ios) :
  blk (Bs l (Eu s slot ios root size first)) y.at0 = y.data := by
 obtain ⟨a, b, rfl⟩ := List.append_of_mem hy
 have e : Eu s slot (a ++ y :: b) root size first = iosW a ++ wIo y.at0 y.data :: (iosW b ++ [flushIo, wIo (1 - slot) (supB (Vp s root size first)), flushIo]) := by
  unfold Eu iosW; simp
 have hf := dE (s := s) (slot := slot) (root := root) (size := size) (first := first) hn hi
 rw [e] at hf ⊢
 refine tQ (x := wIo y.at0 y.data) hf rfl ?_
 intro z hz hk
 rcases Bq.1 hz with hz | hz
 ·obtain ⟨u, hu, rfl⟩ := Bt.1 hz
  intro h
  rw [Br, Bb] at hd
  have := (Ej.1 hd).2.1
  rw [Gu] at this
  exact this.1 (Bt.2 ⟨u, hu, h⟩)
 ·simp only [Ar, Nq, pJ] at hz
  rcases hz with rfl | rfl | rfl
  ·exact absurd hk (by decide)
  ·have := (hi y (by simp)).1
   show 1 - slot ≠ y.at0
   omega
  ·exact absurd hk (by decide)
theorem cU {l : List UInt8} {s : Sup} {slot : Nat} {ios : List IoV} {root size first : Nat} (hn : 2 ≤ nb l) (hi : WFit (nb l) ios) : (Bs l (Eu s slot ios root size first)).length = l.length :=
 Oe _ _ (dE hn hi)
def Tk : List Rec → List Nat → Nat → List Rec → List Rec
 | r :: rs, a :: fs, p, acc => Tk rs fs a ({ r with next := p } :: acc)
 | _, _, _, acc => acc
def Rs : List Rec → List Nat → List Nat → List Nat
 | _ :: rs, a :: fs, acc => Rs rs fs (a :: acc)
 | _, _, acc => acc
theorem zK {l : List UInt8} : ∀ (rs : List Rec) (fs : List Nat) (p : Nat) (krs : List Rec) (kbs : List Nat), rs.length ≤ fs.length → (∀ y ∈ Ld rs fs p, blk l y.at0 = y.data) → (∀ a ∈ fs, 2 ≤ a ∧ a < nb l ∧ ptrOk a) → ptrOk p →
  (∀ r ∈ rs, ∀ q, ptrOk q → ({ r with next := q } : Rec).ok) → Chain l p krs kbs → Chain l (Vi rs fs p) (Tk rs fs p krs) (Rs rs fs kbs)
 | [], _, _, _, _, _, _, _, _, _, h => by simpa [Vi, Tk, Rs] using h
 | _ :: _, [], _, _, _, hl, _, _, _, _, _ => by simp at hl
 | r :: rs, a :: fs, p, krs, kbs, hl, hb, hf, hp, hr, h => by
  have ha := hf a (by simp)
  have hb0 := hb (wIo a (recB { r with next := p })) (by simp [Ld])
  have hok := hr r (by simp) p hp
  have hpr : Fb (blk l a) = ({ r with next := p }, 0) := by
   have : blk l a = recB { r with next := p } := hb0
   rw [this]; exact xB hok
  simp only [Vi, Tk, Rs]
  exact zK rs fs a _ _ (by simpa using hl) (fun y hy => hb y (by simp [Ld, hy])) (fun b hb' => hf b (by simp [hb'])) ha.2.2 (fun q hq => hr q (by simp [hq])) (Chain.cons ha.1 ha.2.1 hpr h)
theorem Trees.frame {l l' : List UInt8} (hn : nb l' = nb l) : ∀ {ps : List (Nat × Nat)} {ws : List WS}, Trees l ps ws → (∀ w ∈ ws, ∀ a ∈ w.nodes, blk l' a = blk l a) → Trees l' ps ws
 | [], [], _, _ => trivial
 | p :: ps, w :: ws, h, hf => ⟨Amj hn h.1 (hf w (by simp)), h.2.1, Trees.frame hn h.2.2 fun v hv => hf v (by simp [hv])⟩
 | [], _ :: _, h, _ => h.elim
 | _ :: _, [], h, _ => h.elim
theorem _root_.List.Nodup.sub {α : Type} {l l' : List α} (h : l.Nodup) (hs : l'.Sublist l) : l'.Nodup := List.Pairwise.sublist hs h
theorem aS (c : List Nat) : (Cm c).Nodup := List.Nodup.sub List.nodup_range List.filter_sublist
theorem mM : ∀ (rs : List Rec) (fs : List Nat) (p : Nat), rs.length ≤ fs.length → (Ld rs fs p).map IoV.at0 = fs.take rs.length
 | [], _, _, _ => by simp [Ld]
 | _ :: _, [], _, h => by simp at h
 | r :: rs, a :: fs, p, h => by
  simp only [Ld, Bb, Ao, Je]
  rw [mM rs fs a (by simpa using h)]; rfl
theorem uH {l : List UInt8} {x : Img} {ios : List IoV} {root size first : Nat} {rs : List Rec} {bs : List Nat} {ws : List WS} (hd : Dev l) (hI : IsImg l x) (hx : x.fit l) (hi : WFit (nb l) ios)
  (hs : (Vp x.sup root size first).ok) (hblocks : x.sup.blocks = nb l)
  (hch : Chain (Bs l (Eu x.sup x.slot ios root size first)) first rs bs) (hn : bs.Nodup) (hg : Il rs)
  (ht : Trees (Bs l (Eu x.sup x.slot ios root size first)) ((root, size) :: rs.map fun r => (r.root, r.size)) ws) (hcl : ∀ a, ¬ Ut bs ws a) :
  IsImg (Bs l (Eu x.sup x.slot ios root size first)) ⟨Vp x.sup root size first, 1 - x.slot, rs, bs, ws⟩ := by
 have hnb2 : 2 ≤ nb l := by have := hd.nb; omega
 have hlen := cU (s := x.sup) (slot := x.slot) (root := root) (size := size) (first := first) hnb2 hi
 have hnb : nb (Bs l (Eu x.sup x.slot ios root size first)) = nb l := by unfold nb; rw [hlen]
 have hslot := hx.slot
 refine ⟨Aop hI.pick hs ?_ ?_ hnb ?_ ?_, hch, hn, hg, ht, hcl⟩
 ·rw [hnb]; exact hblocks
 ·show x.sup.gen < x.sup.gen + 1; omega
 ·refine uO hnb2 hi (by omega) ?_
  intro y hy
  have := (hi y hy).1
  omega
 ·exact Aip hnb2 hi
def Eo (l : List UInt8) (nd : Nat) : List Nat := (Cw (blk l nd)).1.ptr
def From (l : List UInt8) (root : Nat) (w : WS) : Prop := (∀ a ∈ w.nodes, a = root ∨ ∃ nd ∈ w.nodes, a ∈ Eo l nd) ∧ (∀ a ∈ w.m, a = 0 ∨ ∃ nd ∈ w.nodes, a ∈ Eo l nd)
theorem Ahs {l : List UInt8} {root n level frm : Nat} {rec : Nat → Nat → WS → WS} (hr : ∀ p f w, From l root w → (∃ nd ∈ w.nodes, p ∈ Eo l nd) → From l root (rec p f w)) {w : WS} (h : From l root w) {i p : Nat} (hp : ∃ nd ∈ w.nodes, p ∈ Eo l nd) :
  From l root (Kg n level frm rec w i p) := by
 unfold Kg
 split
 ·exact h
 split
 ·exact h
 split
 ·exact h
 split
 ·refine ⟨h.1, fun a ha => ?_⟩
  rcases Eg ha with ha | rfl
  ·exact h.2 a ha
  ·exact .inr hp
 ·exact hr _ _ _ h hp
theorem tR {l : List UInt8} {root n level frm : Nat} {rec : Nat → Nat → WS → WS} (hm : ∀ p f w, ∀ x ∈ w.nodes, x ∈ (rec p f w).nodes) (hr : ∀ p f w, From l root w → (∃ nd ∈ w.nodes, p ∈ Eo l nd) → From l root (rec p f w)) :
  ∀ (ps : List Nat) (i : Nat) (w : WS), From l root w → (∀ p ∈ ps, ∃ nd ∈ w.nodes, p ∈ Eo l nd) → From l root (Im n level frm rec ps i w)
 | [], _, _, h, _ => h
 | p :: r, i, w, h, hp => by
  simp only [Im]
  refine tR hm hr r (i + 1) _ (Ahs hr h (hp p (by simp))) ?_
  intro q hq
  obtain ⟨nd, h1, h2⟩ := hp q (by simp [hq])
  exact ⟨nd, sE hm w i p nd h1, h2⟩
theorem uJ {l : List UInt8} {root n level at0 frm : Nat} {rec : Nat → Nat → WS → WS} (hm : ∀ p f w, ∀ x ∈ w.nodes, x ∈ (rec p f w).nodes) (hr : ∀ p f w, From l root w → (∃ nd ∈ w.nodes, p ∈ Eo l nd) → From l root (rec p f w))
  {w : WS} (h : From l root w) (ha : at0 = root ∨ ∃ nd ∈ w.nodes, at0 ∈ Eo l nd) : From l root (Kz l n level at0 frm rec w) := by
 unfold Kz
 split
 ·exact h
 ·rename_i hc
  have hat : (atP l n at0 level).1.ptr = Eo l at0 := by
   have h2 : (atP l n at0 level).2 = true := by
    cases hh : (atP l n at0 level).2 with
    | true => rfl
    | false => exact absurd (.inl hh) hc
   unfold atP at h2 ⊢
   split
   ·rename_i h3; rw [if_pos h3] at h2; cases h2
   ·rfl
  rw [hat]
  refine tR hm hr _ _ _ ⟨fun a hh => ?_, fun a hh => ?_⟩ fun p hp => ⟨at0, by simp, hp⟩
  ·rcases Bq.1 hh with hh | hh
   ·exact (h.1 a hh).imp id fun ⟨nd, h1, h2⟩ => ⟨nd, by simp [h1], h2⟩
   ·rw [Bo] at hh
    subst hh
    exact ha.imp id fun ⟨nd, h1, h2⟩ => ⟨nd, by simp [h1], h2⟩
  ·exact (h.2 a hh).imp id fun ⟨nd, h1, h2⟩ => ⟨nd, by simp [h1], h2⟩
theorem vI {l : List UInt8} {root n : Nat} : ∀ (v at0 frm : Nat) (w : WS), From l root w → (at0 = root ∨ ∃ nd ∈ w.nodes, at0 ∈ Eo l nd) → From l root (Fj l n v at0 frm w)
 | 0, _, _, _, h, ha => uJ (fun _ _ _ _ h => h) (fun _ _ _ h _ => h) h ha
 | v + 1, _, _, _, h, ha => uJ (fun p f w => fR l n v p f w) (fun p f w h hp => vI v p f w h (.inr hp)) h ha
theorem Apt {l : List UInt8} {root : Nat} {w : WS} (h : goP l root = some w) : From l root w := by
 have h0 : From l root ws0 := ⟨fun a ha => by simp [ws0] at ha, fun a ha => .inl (by have := Ew (show a ∈ List.replicate 512 0 from ha); exact this)⟩
 unfold goP at h
 split at h
 ·cases h; exact h0
 split at h
 ·cases h
 ·cases h
  exact vI 2 root 0 ws0 h0 (.inl rfl)
theorem Trees.mem {l : List UInt8} : ∀ {ps : List (Nat × Nat)} {ws : List WS}, Trees l ps ws → ∀ w ∈ ws, ∃ p ∈ ps, goP l p.1 = some w
 | [], [], _, _, h => by cases h
 | p :: ps, w :: ws, h, v, hv => by
  rcases Ar.1 hv with rfl | hv
  ·exact ⟨p, by simp, h.1⟩
  ·obtain ⟨q, h1, h2⟩ := Trees.mem h.2.2 v hv
   exact ⟨q, by simp [h1], h2⟩
 | [], _ :: _, h, _, _ => h.elim
 | _ :: _, [], h, _, _ => h.elim
theorem Ig {l : List UInt8} {x : Img} (hI : IsImg l x) : ∀ w ∈ x.trees, (∀ a ∈ w.nodes, reached l x a) ∧ ∀ a ∈ w.m, a = 0 ∨ reached l x a := by
 intro w hw
 obtain ⟨p, hp, hg⟩ := Trees.mem hI.trees w hw
 obtain ⟨f1, f2⟩ := Apt hg
 have hroot : p.1 ∈ x.sup.root :: x.recs.map Rec.root := by
  unfold Img.roots at hp
  rcases Ar.1 hp with rfl | hp
  ·simp
  ·obtain ⟨r, hr, rfl⟩ := Bt.1 hp
   simp only [Ar, Bt]
   exact .inr ⟨r, hr, rfl⟩
 refine ⟨fun a ha => ?_, fun a ha => ?_⟩
 ·rcases f1 a ha with rfl | ⟨nd, h1, h2⟩
  ·exact .inr (.inr (.inl hroot))
  ·exact .inr (.inr (.inr ⟨w, hw, nd, h1, h2⟩))
 ·rcases f2 a ha with rfl | ⟨nd, h1, h2⟩
  ·exact .inl rfl
  ·exact .inr (.inr (.inr (.inr ⟨w, hw, nd, h1, h2⟩)))
theorem gP {l : List UInt8} {x : Img} {ios : List IoV} {root size first : Nat} (hd : Dev l) (hI : IsImg l x) (hi : WFit (nb l) ios) (hf : ∀ y ∈ ios, ¬ reached l x y.at0) {a : Nat} (ha : 2 ≤ a) (hr : reached l x a) :
  blk (Bs l (Eu x.sup x.slot ios root size first)) a = blk l a := by
 have hnb2 : 2 ≤ nb l := by have := hd.nb; omega
 refine uO hnb2 hi (by omega) ?_
 intro y hy h
 exact hf y hy (h ▸ hr)
def tM (l : List UInt8) : Nat → Nat → List Nat
 | 0, a => Eo l a
 | v + 1, a => (Eo l a).flatMap fun p => if p = 0 then List.replicate (8 ^ (v + 1)) 0 else tM l v p
def tN (l : List UInt8) : Nat → Nat → List Nat
 | 0, a => [a]
 | v + 1, a => a :: (Eo l a).flatMap fun p => if p = 0 then [] else tN l v p
def tOk (l : List UInt8) : Nat → Nat → Prop
 | 0, a => (atP l (nb l) a 0).2 = true ∧ ∀ p ∈ Eo l a, p < nb l
 | v + 1, a => (atP l (nb l) a (v + 1)).2 = true ∧ ∀ p ∈ Eo l a, p < nb l ∧ (p ≠ 0 → tOk l v p)
theorem Oo (l : List UInt8) (a : Nat) : (Eo l a).length = 8 := Ie _
theorem aN {α β : Type} {f : α → List β} {k : Nat} : ∀ (ps : List α), (∀ p ∈ ps, (f p).length = k) → (ps.flatMap f).length = ps.length * k
 | [], _ => by simp
 | p :: ps, h => by
  rw [Cl, Am, h p (by simp), aN ps (fun q hq => h q (by simp [hq])), Ao, Mn, Nat.add_comm]
theorem Abj (l : List UInt8) : ∀ (v a : Nat), (tM l v a).length = 8 ^ (v + 1)
 | 0, a => by simp [tM, Oo]
 | v + 1, a => by
  simp only [tM]
  rw [aN (k := 8 ^ (v + 1)) _ (fun p _ => by
   split
   ·simp
   ·exact Abj l v p), Oo, Fw 8 (v + 1), Gl]
theorem zI {n level frm : Nat} {rec : Nat → Nat → WS → WS} {gm gn : Nat → List Nat} {gok : Nat → Prop} (hlen : ∀ p, (gm p).length = 8 ^ level)
  (hstep : ∀ (A C nodes : List Nat) (p i : Nat), nodes.Nodup → A.length = frm + i * 8 ^ level →
   (Kg n level frm rec ⟨A ++ (List.replicate (8 ^ level) 0 ++ C), nodes, false⟩ i p = ⟨A ++ (gm p ++ C), nodes ++ gn p, false⟩ ∧ gok p ∧ (nodes ++ gn p).Nodup) ∨
   ((Kg n level frm rec ⟨A ++ (List.replicate (8 ^ level) 0 ++ C), nodes, false⟩ i p).bad = true ∧ ¬ (gok p ∧ (nodes ++ gn p).Nodup))) :
  ∀ (ps : List Nat) (A C nodes : List Nat) (i : Nat), nodes.Nodup → A.length = frm + i * 8 ^ level →
   (Im n level frm rec ps i ⟨A ++ (List.replicate (ps.length * 8 ^ level) 0 ++ C), nodes, false⟩ = ⟨A ++ (ps.flatMap gm ++ C), nodes ++ ps.flatMap gn, false⟩ ∧ (∀ p ∈ ps, gok p) ∧ (nodes ++ ps.flatMap gn).Nodup) ∨
   ((Im n level frm rec ps i ⟨A ++ (List.replicate (ps.length * 8 ^ level) 0 ++ C), nodes, false⟩).bad = true ∧ ¬ ((∀ p ∈ ps, gok p) ∧ (nodes ++ ps.flatMap gn).Nodup))
 | [], A, C, nodes, i, hn, hA => by
  left
  simp only [Im, Cq, dV, List.replicate_zero, Dc, List.flatMap_nil, Bz]
  exact ⟨trivial, (fun p hp => by cases hp), hn⟩
 | p :: ps, A, C, nodes, i, hn, hA => by
  have e1 : List.replicate ((p :: ps).length * 8 ^ level) 0 ++ C = List.replicate (8 ^ level) 0 ++ (List.replicate (ps.length * 8 ^ level) 0 ++ C) := by
   rw [← Ce, List.replicate_append_replicate, Ao, Mn, Nat.add_comm]
  simp only [Im]
  rw [e1]
  rcases hstep A (List.replicate (ps.length * 8 ^ level) 0 ++ C) nodes p i hn hA with ⟨h1, h2, h3⟩ | ⟨h1, h2⟩
  ·rw [h1]
   have e2 : A ++ (gm p ++ (List.replicate (ps.length * 8 ^ level) 0 ++ C)) = (A ++ gm p) ++ (List.replicate (ps.length * 8 ^ level) 0 ++ C) := by simp
   have hA2 : (A ++ gm p).length = frm + (i + 1) * 8 ^ level := by rw [Am, hlen, hA, Mn]; omega
   rw [e2]
   rcases zI hlen hstep ps (A ++ gm p) C (nodes ++ gn p) (i + 1) h3 hA2 with ⟨k1, k2, k3⟩ | ⟨k1, k2⟩
   ·left
    refine ⟨?_, ?_, ?_⟩
    ·rw [k1]; simp [Cl]
    ·intro q hq
     rcases Ar.1 hq with rfl | hq
     ·exact h2
     ·exact k2 q hq
    ·simpa [Cl] using k3
   ·right
    refine ⟨k1, fun hh => k2 ⟨fun q hq => hh.1 q (by simp [hq]), ?_⟩⟩
    simpa [Cl] using hh.2
  ·right
   refine ⟨?_, fun hh => h2 ⟨hh.1 p (by simp), ?_⟩⟩
   ·rw [Qt _ _ h1]; exact h1
   ·have := hh.2
    rw [Cl, ← Ce, Ej] at this
    exact this.1
theorem yN {l : List UInt8} {level at0 : Nat} {rec : Nat → Nat → WS → WS} {gm gn : Nat → List Nat} {gok : Nat → Prop} (hlen : ∀ p, (gm p).length = 8 ^ level) (A C nodes : List Nat) (hn : nodes.Nodup)
  (hstep : ∀ (A' C nodes : List Nat) (p i : Nat), nodes.Nodup → A'.length = A.length + i * 8 ^ level →
   (Kg (nb l) level A.length rec ⟨A' ++ (List.replicate (8 ^ level) 0 ++ C), nodes, false⟩ i p = ⟨A' ++ (gm p ++ C), nodes ++ gn p, false⟩ ∧ gok p ∧ (nodes ++ gn p).Nodup) ∨
   ((Kg (nb l) level A.length rec ⟨A' ++ (List.replicate (8 ^ level) 0 ++ C), nodes, false⟩ i p).bad = true ∧ ¬ (gok p ∧ (nodes ++ gn p).Nodup))) :
  (Kz l (nb l) level at0 A.length rec ⟨A ++ (List.replicate (8 ^ (level + 1)) 0 ++ C), nodes, false⟩ = ⟨A ++ ((Eo l at0).flatMap gm ++ C), nodes ++ (at0 :: (Eo l at0).flatMap gn), false⟩ ∧ ((atP l (nb l) at0 level).2 = true ∧ ∀ p ∈ Eo l at0, gok p) ∧ (nodes ++ (at0 :: (Eo l at0).flatMap gn)).Nodup) ∨
  ((Kz l (nb l) level at0 A.length rec ⟨A ++ (List.replicate (8 ^ (level + 1)) 0 ++ C), nodes, false⟩).bad = true ∧ ¬ (((atP l (nb l) at0 level).2 = true ∧ ∀ p ∈ Eo l at0, gok p) ∧ (nodes ++ (at0 :: (Eo l at0).flatMap gn)).Nodup)) := by
 unfold Kz
 by_cases hc : (atP l (nb l) at0 level).2 = false ∨ nodes.any (at0 == ·) = true
 ·right
  refine ⟨by rw [if_pos hc], fun hh => ?_⟩
  rcases hc with hc | hc
  ·rw [hh.1.1] at hc; cases hc
  ·obtain ⟨y, hy, he⟩ := Ge.1 hc
   have : at0 = y := by simpa using he
   subst this
   have h2 := hh.2
   rw [Ej] at h2
   exact h2.2.2 at0 hy at0 (by simp) rfl
 ·rw [if_neg hc]
  have hat2 : (atP l (nb l) at0 level).2 = true := by
   cases hh : (atP l (nb l) at0 level).2 with
   | true => rfl
   | false => exact absurd (.inl hh) hc
  have hat : (atP l (nb l) at0 level).1.ptr = Eo l at0 := by
   have h2 := hat2
   unfold atP at h2 ⊢
   split
   ·rename_i h3; rw [if_pos h3] at h2; cases h2
   ·rfl
  have hnot : at0 ∉ nodes := fun h => hc (.inr (Ge.2 ⟨at0, h, by simp⟩))
  have hn2 : (nodes ++ [at0]).Nodup := by
   rw [Ej]
   exact ⟨hn, by simp, fun x hx y hy he => by rw [Bo] at hy; subst hy; subst he; exact hnot hx⟩
  rw [hat]
  have hl8 : 8 ^ (level + 1) = (Eo l at0).length * 8 ^ level := by rw [Oo, Fw, Gl]
  rw [hl8]
  rcases zI hlen hstep (Eo l at0) A C (nodes ++ [at0]) 0 hn2 (by omega) with ⟨k1, k2, k3⟩ | ⟨k1, k2⟩
  ·left
   refine ⟨?_, ⟨hat2, k2⟩, by simpa using k3⟩
   rw [k1]; simp
  ·right
   exact ⟨k1, fun hh => k2 ⟨hh.1.2, by simpa using hh.2⟩⟩
theorem Atr (A C : List Nat) (x y : Nat) : (A ++ (x :: C)).set A.length y = A ++ (y :: C) := by
 rw [Jt _ _ (Bc _), Mo]; rfl
theorem yY {l : List UInt8} : ∀ (v at0 : Nat) (A C nodes : List Nat), nodes.Nodup →
  (Fj l (nb l) v at0 A.length ⟨A ++ (List.replicate (8 ^ (v + 1)) 0 ++ C), nodes, false⟩ = ⟨A ++ (tM l v at0 ++ C), nodes ++ tN l v at0, false⟩ ∧ tOk l v at0 ∧ (nodes ++ tN l v at0).Nodup) ∨
  ((Fj l (nb l) v at0 A.length ⟨A ++ (List.replicate (8 ^ (v + 1)) 0 ++ C), nodes, false⟩).bad = true ∧ ¬ (tOk l v at0 ∧ (nodes ++ tN l v at0).Nodup))
 | 0, at0, A, C, nodes, hn => by
  have h := yN (l := l) (level := 0) (at0 := at0) (rec := fun _ _ w => w) (gm := fun p => [p]) (gn := fun _ => []) (gok := fun p => p < nb l) (fun p => rfl) A C nodes hn (by
   intro A' C nodes p i hn hA
   unfold Kg
   simp only [Bd, Cp, Bz]
   by_cases h1 : nb l ≤ p
   ·right
    rw [if_pos h1]
    exact ⟨rfl, fun hh => by have := hh.1; omega⟩
   ·left
    rw [if_neg h1]
    refine ⟨?_, by omega, hn⟩
    by_cases h2 : p = 0
    ·rw [if_pos h2, h2]; rfl
    ·rw [if_neg h2, if_pos trivial, ← hA]
     congr 1
     exact Atr A' C 0 p)
  have e1 : (Eo l at0).flatMap (fun p => [p]) = Eo l at0 := by simp
  have e2 : (Eo l at0).flatMap (fun _ => ([] : List Nat)) = [] := by simp
  rw [e1, e2] at h
  exact h
 | v + 1, at0, A, C, nodes, hn => by
  refine yN (l := l) (level := v + 1) (at0 := at0) (rec := Fj l (nb l) v) (gm := fun p => if p = 0 then List.replicate (8 ^ (v + 1)) 0 else tM l v p) (gn := fun p => if p = 0 then [] else tN l v p) (gok := fun p => p < nb l ∧ (p ≠ 0 → tOk l v p)) ?_ A C nodes hn ?_
  ·intro p
   show (if p = 0 then List.replicate (8 ^ (v + 1)) 0 else tM l v p).length = _
   split
   ·simp
   ·exact Abj l v p
  ·intro A' C nodes p i hn hA
   unfold Kg
   simp only [Bd, Cp]
   by_cases h1 : nb l ≤ p
   ·right
    rw [if_pos h1]
    exact ⟨rfl, fun hh => by have := hh.1.1; omega⟩
   ·rw [if_neg h1]
    by_cases h2 : p = 0
    ·left
     rw [if_pos h2, if_pos h2, if_pos h2, Bz]
     exact ⟨rfl, ⟨by omega, fun h => absurd h2 h⟩, hn⟩
    ·rw [if_neg h2, if_neg h2, if_neg h2, if_neg (by omega), ← hA]
     rcases yY v p A' C nodes hn with ⟨k1, k2, k3⟩ | ⟨k1, k2⟩
     ·left; exact ⟨k1, ⟨by omega, fun _ => k2⟩, k3⟩
     ·right; exact ⟨k1, fun hh => k2 ⟨hh.1.2 h2, hh.2⟩⟩
def iD (l : List UInt8) (root : Nat) : WS := if root = 0 then ws0 else ⟨tM l 2 root, tN l 2 root, false⟩
theorem goP_iff {l : List UInt8} {root : Nat} {w : WS} : goP l root = some w ↔ w = iD l root ∧ (root ≠ 0 → tOk l 2 root ∧ (tN l 2 root).Nodup ∧ ∀ b ∈ tM l 2 root, b ∉ tN l 2 root) := by
 unfold goP iD
 by_cases h0 : root = 0
 ·rw [if_pos h0, if_pos h0]
  constructor
  ·intro h; cases h; exact ⟨rfl, fun h => absurd h0 h⟩
  ·rintro ⟨rfl, _⟩; rfl
 rw [if_neg h0, if_neg h0]
 have h := yY (l := l) 2 root [] [] [] Ro
 have e : ([] : List Nat) ++ (List.replicate (8 ^ (2 + 1)) 0 ++ []) = List.replicate 512 0 := by
  show List.replicate 512 0 ++ [] = _; rw [Bz]
 rw [e] at h
 have hlen : ([] : List Nat).length = 0 := rfl
 rw [hlen] at h
 simp only [Dc, Bz] at h
 have ew : (⟨List.replicate 512 0, [], false⟩ : WS) = ws0 := rfl
 rw [ew] at h
 rcases h with ⟨k1, k2, k3⟩ | ⟨k1, k2⟩
 ·rw [k1]
  simp only [Bd, false_or]
  by_cases hc : (tM l 2 root).any (fun b => (tN l 2 root).any (b == ·)) = true
  ·rw [if_pos hc]
   constructor
   ·intro h; cases h
   ·rintro ⟨_, h⟩
    obtain ⟨b, hb, hb2⟩ := Ge.1 hc
    obtain ⟨y, hy, he⟩ := Ge.1 hb2
    have : b = y := by simpa using he
    subst this
    exact absurd hy ((h h0).2.2 b hb)
  ·rw [if_neg hc]
   constructor
   ·intro h; cases h
    exact ⟨rfl, fun _ => ⟨k2, k3, fun b hb hn => hc (Ge.2 ⟨b, hb, Ge.2 ⟨b, hn, by simp⟩⟩)⟩⟩
   ·rintro ⟨rfl, _⟩; rfl
 ·rw [if_pos (.inl k1)]
  constructor
  ·intro h; cases h
  ·rintro ⟨_, h⟩
   exact absurd ⟨(h h0).1, (h h0).2.1⟩ k2
theorem zG {l : List UInt8} : ∀ (v a : Nat), ∀ nd ∈ tN l v a, ∀ p ∈ Eo l nd, p = 0 ∨ p ∈ tN l v a ∨ p ∈ tM l v a
 | 0, a, nd, hnd, p, hp => by
  simp only [tN, Bo] at hnd
  subst hnd
  exact .inr (.inr hp)
 | v + 1, a, nd, hnd, p, hp => by
  simp only [tN, Ar, Db] at hnd
  rcases hnd with rfl | ⟨q, hq, hnd⟩
  ·by_cases h0 : p = 0
   ·exact .inl h0
   ·refine .inr (.inl ?_)
    simp only [tN, Ar, Db]
    refine .inr ⟨p, hp, ?_⟩
    rw [if_neg h0]
    cases v <;> simp [tN]
  ·by_cases h0 : q = 0
   ·rw [if_pos h0] at hnd; cases hnd
   ·rw [if_neg h0] at hnd
    rcases zG v q nd hnd p hp with h | h | h
    ·exact .inl h
    ·refine .inr (.inl ?_)
     simp only [tN, Ar, Db]
     exact .inr ⟨q, hq, by rw [if_neg h0]; exact h⟩
    ·refine .inr (.inr ?_)
     simp only [tM, Db]
     exact ⟨q, hq, by rw [if_neg h0]; exact h⟩
theorem Acz (l : List UInt8) (v a : Nat) : a ∈ tN l v a := by cases v <;> simp [tN]
theorem Amd {l : List UInt8} {root : Nat} {w : WS} (h : goP l root = some w) : (root = 0 ∨ root ∈ w.nodes) ∧ ∀ nd ∈ w.nodes, ∀ p ∈ Eo l nd, p = 0 ∨ p ∈ w.nodes ∨ p ∈ w.m := by
 obtain ⟨rfl, h2⟩ := goP_iff.1 h
 unfold iD
 by_cases h0 : root = 0
 ·rw [if_pos h0]
  exact ⟨.inl h0, fun nd hnd => by cases hnd⟩
 ·rw [if_neg h0]
  exact ⟨.inr (Acz l 2 root), fun nd hnd p hp => zG 2 root nd hnd p hp⟩
theorem Api {l l' : List UInt8} {x : Img} (hI : IsImg l x) (hlen : l'.length = l.length) (hs : ∀ a, reached l x a → blk l' a = blk l a) : IsImg l' x := by
 have hn : nb l' = nb l := by unfold nb; rw [hlen]
 refine ⟨?_, hI.chain.frame hn fun a ha => hs a (.inr (.inl ha)), hI.nodup, hI.good, Trees.frame hn hI.trees fun w hw a ha => hs a ((Ig hI w hw).1 a ha), hI.clash⟩
 have hp := hI.pick
 unfold Uj at hp ⊢
 rw [hs 0 (.inl (by omega)), hs 1 (.inl (by omega)), hn]; exact hp
theorem Anj {l l' : List UInt8} {x : Img} (hI : IsImg l x) (hs : ∀ a, reached l x a → blk l' a = blk l a) {w : WS} (hw : w ∈ x.trees) {a : Nat} (ha : a ∈ w.m) : secB l' a = secB l a := by
 unfold secB
 by_cases h0 : a = 0
 ·rw [if_pos h0, if_pos h0]
 ·rw [if_neg h0, if_neg h0]
  exact hs a (((Ig hI w hw).2 a ha).resolve_left h0)
theorem rV {l l' : List UInt8} {x : Img} (hI : IsImg l x) (hs : ∀ a, reached l x a → blk l' a = blk l a) {w : WS} (hw : w ∈ x.trees) (n : Nat) : Ji l' w.m n = Ji l w.m n :=
 Av fun a ha => Anj hI hs hw (As ha)
theorem wC {l l' : List UInt8} {x : Img} (hI : IsImg l x) (hs : ∀ a, reached l x a → blk l' a = blk l a) {p : Rec × WS} (hw : p.2 ∈ x.trees) : Si l' p = Si l p := by
 unfold Si; rw [rV hI hs hw]
theorem Gg {l : List UInt8} {x : Img} (hI : IsImg l x) : ∃ w ws, x.trees = w :: ws ∧ goP l x.sup.root = some w ∧ Nb w.m x.sup.size = false ∧ Trees l (x.recs.map fun r => (r.root, r.size)) ws := by
 have ht := hI.trees
 unfold Img.roots at ht
 cases h : x.trees with
 | nil => rw [h] at ht; exact ht.elim
 | cons w ws => rw [h] at ht; exact ⟨w, ws, rfl, ht.1, ht.2.1, ht.2.2⟩
theorem Trees.len {l : List UInt8} : ∀ {ps : List (Nat × Nat)} {ws : List WS}, Trees l ps ws → ps.length = ws.length
 | [], [], _ => rfl
 | p :: ps, w :: ws, h => by simp [Trees.len h.2.2]
 | [], _ :: _, h => h.elim
 | _ :: _, [], h => h.elim
theorem Ahw {l l' : List UInt8} {x : Img} (hI : IsImg l x) (hs : ∀ a, reached l x a → blk l' a = blk l a) : Ci l' x = Ci l x := by
 obtain ⟨w, ws, he, _⟩ := Gg hI
 unfold Ci
 have hm : ∀ p ∈ x.recs.zip x.trees.tail, p.2 ∈ x.trees := fun p hp => List.mem_of_mem_tail (Ky hp).2
 rw [Av (g := Si l) fun p hp => wC hI hs (hm p (Eh.1 hp).1)]
 rw [Av (g := Si l) fun p hp => wC hI hs (hm p (Eh.1 hp).1)]
 have hh : x.trees.headD ws0 ∈ x.trees := by rw [he]; simp
 rw [rV hI hs hh]
def core (r : Rec) : Rec := { r with next := 0 }
theorem kM : ∀ (rs : List Rec) (fs : List Nat) (p : Nat) (acc : List Rec), rs.length ≤ fs.length → (Tk rs fs p acc).map core = (rs.reverse ++ acc).map core
 | [], _, _, acc, _ => by simp [Tk]
 | r :: rs, [], _, _, h => by simp at h
 | r :: rs, a :: fs, p, acc, h => by
  simp only [Tk]
  rw [kM rs fs a _ (by simpa using h)]
  simp [core]
theorem Aox {α : Type} {l : List α} (h : l.Nodup) : l.reverse.Nodup := by
 unfold List.Nodup at h ⊢
 rw [List.pairwise_reverse]
 exact h.imp fun hh => hh.symm
theorem vG : ∀ (rs : List Rec) (fs acc : List Nat), rs.length ≤ fs.length → Rs rs fs acc = (fs.take rs.length).reverse ++ acc
 | [], _, acc, _ => by simp [Rs]
 | r :: rs, [], _, h => by simp at h
 | r :: rs, a :: fs, acc, h => by
  simp only [Rs]
  rw [vG rs fs _ (by simpa using h)]
  simp
theorem jO {α : Type} {f : Rec → α} (hf : ∀ r, f (core r) = f r) {a b : List Rec} (h : a.map core = b.map core) : a.map f = b.map f := by
 have e : ∀ l : List Rec, l.map f = (l.map core).map f := fun l => by rw [Fh]; exact Av fun r _ => (hf r).symm
 rw [e a, e b, h]
theorem zA {a b : List Rec} (h : a.map core = b.map core) : (∀ r ∈ a, r.kind = 0) → ∀ r ∈ b, r.kind = 0 := by
 intro ha r hr
 have hm : r.kind ∈ b.map Rec.kind := Bt.2 ⟨r, hr, rfl⟩
 rw [← jO (f := Rec.kind) (fun _ => rfl) h] at hm
 obtain ⟨s, hs, he⟩ := Bt.1 hm
 rw [← he]; exact ha s hs
theorem Ahx {a b : List Rec} (h : a.map core = b.map core) : (a.filter Mg).length = (b.filter Mg).length := by
 have e : ∀ l : List Rec, (l.filter Mg).length = ((l.map core).filter Mg).length := fun l => by
  rw [List.filter_map, Ah]; rfl
 rw [e a, e b, h]
theorem wX {a b : List Rec} (h : a.map core = b.map core) (hg : Il a) : Il b := by
 obtain ⟨h1, h2, h3⟩ := hg
 refine ⟨by rw [← jO (f := Rec.id) (fun _ => rfl) h]; exact h1, zA (a := a.drop 1) (by rw [Gt, Gt, h]) h2, by rw [← Ahx h]; exact h3⟩
theorem tD {a b : List Rec} (h : a.map core = b.map core) : a.map (fun r => (r.root, r.size)) = b.map fun r => (r.root, r.size) := jO (f := fun r => (r.root, r.size)) (fun _ => rfl) h
theorem Chain.hd {l : List UInt8} {a : Nat} {rs : List Rec} {bs : List Nat} (h : Chain l a rs bs) : bs.getD 0 default = a := by
 induction h with
 | nil => rfl
 | cons => rfl
theorem Chain.len {l : List UInt8} {a : Nat} {rs : List Rec} {bs : List Nat} (h : Chain l a rs bs) : bs.length = rs.length := by
 induction h with
 | nil => rfl
 | cons _ _ _ _ ih => simp [ih]
theorem Chain.drop' {l : List UInt8} {a : Nat} {rs : List Rec} {bs : List Nat} (h : Chain l a rs bs) : ∀ n, Chain l (bs.getD n default) (rs.drop n) (bs.drop n) := by
 induction h with
 | nil =>
  intro n
  have : (([] : List Nat).getD n default) = 0 := by simp
  rw [this]; simpa using Chain.nil
 | @cons a r rs bs h2 hn hp h ih =>
  intro n
  cases n with
  | zero => exact Chain.cons h2 hn hp h
  | succ n =>
   have := ih n
   simpa using this
theorem Chain.ptr {l : List UInt8} {a : Nat} {rs : List Rec} {bs : List Nat} (h : Chain l a rs bs) : a = 0 ∨ 2 ≤ a ∧ a < nb l := by
 induction h with
 | nil => exact .inl rfl
 | cons h2 hn _ _ => exact .inr ⟨h2, hn⟩
theorem Chain.ptrOk {l : List UInt8} (hd : Dev l) {a : Nat} {rs : List Rec} {bs : List Nat} (h : Chain l a rs bs) : ptrOk a := by
 have := hd.nb
 rcases h.ptr with h | h
 ·exact .inl h
 ·exact .inr ⟨h.1, by omega⟩
theorem Qi {l : List UInt8} {x : Img} (hd : Dev l) (hx : x.fit l) {a : Nat} : a ∈ Cm (Bn l x) ↔ 2 ≤ a ∧ a < nb l ∧ ¬ reached l x a := by
 have hlen : (Bn l x).length = nb l := (Vh hx).1
 unfold Cm Lr
 rw [Eh, Bw, hlen, Dg]
 constructor
 ·rintro ⟨h1, h2, h3⟩; exact ⟨h2, h1, (jJ hd hx h1).1 h3⟩
 ·rintro ⟨h1, h2, h3⟩; exact ⟨h2, h1, (jJ hd hx h2).2 h3⟩
structure Frees (l : List UInt8) (x : Img) (ios : List IoV) : Prop where
 fit : WFit (nb l) ios
 free : ∀ y ∈ ios, ¬ reached l x y.at0
theorem Frees.append {l : List UInt8} {x : Img} {a b : List IoV} (ha : Frees l x a) (hb : Frees l x b) : Frees l x (a ++ b) :=
 ⟨fun y hy => (Bq.1 hy).elim (ha.fit y) (hb.fit y), fun y hy => (Bq.1 hy).elim (ha.free y) (hb.free y)⟩
theorem fD : ∀ (rs : List Rec) (fs : List Nat) (p : Nat), ∀ y ∈ Ld rs fs p, y.at0 ∈ fs ∧ ∃ r ∈ rs, ∃ q, y = wIo y.at0 (recB { r with next := q })
 | [], _, _, y, h => by simp [Ld] at h
 | _ :: _, [], _, y, h => by simp [Ld] at h
 | r :: rs, a :: fs, p, y, h => by
  simp only [Ld, Ar] at h
  rcases h with rfl | h
  ·exact ⟨by simp [wIo], r, by simp, p, rfl⟩
  ·obtain ⟨h1, s, h2, q, h3⟩ := fD rs fs a y h
   exact ⟨by simp [h1], s, by simp [h2], q, h3⟩
theorem aM {l : List UInt8} {x : Img} {rs : List Rec} {fs : List Nat} {p : Nat} (hf : ∀ a ∈ fs, 2 ≤ a ∧ a < nb l ∧ ¬ reached l x a) : Frees l x (Ld rs fs p) := by
 constructor
 ·intro y hy
  obtain ⟨h1, r, h2, q, h3⟩ := fD rs fs p y hy
  refine ⟨(hf _ h1).1, (hf _ h1).2.1, ?_⟩
  rw [h3]; exact Aql _
 ·intro y hy
  exact (hf _ (fD rs fs p y hy).1).2.2
theorem Adk {l : List UInt8} {x : Img} {ios : List IoV} {anew : List Rec} {fs : List Nat} {n root size first : Nat} (hd : Dev l) (hI : IsImg l x) (hio : Frees l x ios) (hf : ∀ a ∈ fs, 2 ≤ a ∧ a < nb l ∧ ¬ reached l x a)
  (hnd : (ios.map IoV.at0 ++ fs).Nodup) (hk : anew.length ≤ fs.length) (hr : ∀ r ∈ anew, ∀ q, ptrOk q → ({ r with next := q } : Rec).ok) :
  Chain (Bs l (Eu x.sup x.slot (ios ++ Ld anew fs (x.blocks.getD n default)) root size first)) (Vi anew fs (x.blocks.getD n default)) (Tk anew fs (x.blocks.getD n default) (x.recs.drop n)) (Rs anew fs (x.blocks.drop n)) := by
 have hnb2 : 2 ≤ nb l := by have := hd.nb; omega
 have hall : Frees l x (ios ++ Ld anew fs (x.blocks.getD n default)) := hio.append (aM hf)
 have hlen := cU (s := x.sup) (slot := x.slot) (root := root) (size := size) (first := first) hnb2 hall.fit
 have hnb : nb (Bs l (Eu x.sup x.slot (ios ++ Ld anew fs (x.blocks.getD n default)) root size first)) = nb l := by unfold nb; rw [hlen]
 have hat : ((ios ++ Ld anew fs (x.blocks.getD n default)).map IoV.at0).Nodup := by
  rw [Br, mM _ _ _ hk]
  exact hnd.sub (List.Sublist.append_left (Wy _ _) _)
 refine zK anew fs _ _ _ hk ?_ ?_ ((hI.chain.drop' n).ptrOk hd) hr ?_
 ·intro y hy
  exact xX hnb2 hall.fit hat (Lv _ hy)
 ·intro a ha
  rw [hnb]
  have := hd.nb
  exact ⟨(hf a ha).1, (hf a ha).2.1, .inr ⟨(hf a ha).1, by have := (hf a ha).2.1; omega⟩⟩
 ·refine (hI.chain.drop' n).frame hnb fun a ha => ?_
  have ha' := Cc ha
  exact gP hd hI hall.fit hall.free (hI.chain.range a ha').1 (.inr (.inl ha'))
theorem Ajg {bl bl' : List Nat} {ts ts' : List WS} (h : ∀ a, ¬ Ut bl ts a) (ht : ∀ w ∈ ts', w ∈ ts) (hb : ∀ a ∈ bl', a ∈ bl ∨ (∀ w ∈ ts', a ∉ w.nodes ∧ (a ∉ w.m ∨ a = 0))) : ∀ a, ¬ Ut bl' ts' a := by
 rintro a (⟨⟨⟨w, hw, hm⟩, h0⟩, ⟨v, hv, hn⟩ | hb'⟩ | ⟨⟨w, hw, hn⟩, hb'⟩)
 ·exact h a (.inl ⟨⟨⟨w, ht w hw, hm⟩, h0⟩, .inl ⟨v, ht v hv, hn⟩⟩)
 ·rcases hb a hb' with hb' | hb'
  ·exact h a (.inl ⟨⟨⟨w, ht w hw, hm⟩, h0⟩, .inr hb'⟩)
  ·exact ((hb' w hw).2.resolve_right h0) hm
 ·rcases hb a hb' with hb' | hb'
  ·exact h a (.inr ⟨⟨w, ht w hw, hn⟩, hb'⟩)
  ·exact (hb' w hw).1 hn
structure Made (l l' : List UInt8) (x x' : Img) (k n : Nat) : Prop where
 img : IsImg l' x'
 len : l'.length = l.length
 stay : ∀ a, 2 ≤ a → reached l x a → blk l' a = blk l a
 blks : ∀ a ∈ x'.blocks, a ∈ (Cm (Bn l x)).take k ∨ a ∈ x.blocks.drop n
theorem Ama {l : List UInt8} {x : Img} {n : Nat} {first : Rec} {wth : Bool} {ios : List IoV} (hd : Dev l) (hI : IsImg l x) (hx : x.fit l) (hfo : wth = true → (core first).ok) (hmk : Yl l x n first wth = .ok ios) {ws : List WS}
  (hg : Il ((Ss x.recs n first wth).reverse ++ x.recs.drop n)) (hws : ∀ w ∈ ws, w ∈ x.trees) (ht : Trees l ((x.sup.root, x.sup.size) :: ((Ss x.recs n first wth).reverse ++ x.recs.drop n).map fun r => (r.root, r.size)) ws) :
  (Ss x.recs n first wth).length ≤ (Cm (Bn l x)).length ∧ ∃ rs bs fst, rs.map core = ((Ss x.recs n first wth).reverse ++ x.recs.drop n).map core ∧ Made l (Bs l ios) x ⟨Vp x.sup x.sup.root x.sup.size fst, 1 - x.slot, rs, bs, ws⟩ (Ss x.recs n first wth).length n := by
 unfold Yl at hmk
 split at hmk
 ·cases hmk
 rename_i hgen
 split at hmk
 ·cases hmk
 rename_i hfr
 cases hmk
 generalize hA : Ss x.recs n first wth = anew at *
 generalize hF : Cm (Bn l x) = fs at *
 have hnb2 : 2 ≤ nb l := by have := hd.nb; omega
 have hf : ∀ a ∈ fs, 2 ≤ a ∧ a < nb l ∧ ¬ reached l x a := fun a ha => (Qi hd hx).1 (hF ▸ ha)
 have hfn : fs.Nodup := by rw [← hF]; exact aS _
 have hro : ∀ r ∈ anew, ∀ q, ptrOk q → ({ r with next := q } : Rec).ok := by
  intro r hr q hq
  have hrok : r.ok ∨ (core r).ok := by
   rw [← hA] at hr
   unfold Ss at hr
   rcases Bq.1 hr with hr | hr
   ·exact .inl (hx.recs r (As (pT.1 hr)))
   ·split at hr
    ·rename_i hw
     rw [Bo] at hr; subst hr
     exact .inr (hfo hw)
    ·cases hr
  rcases hrok with h | h
  ·obtain ⟨_, h2, h3, h4, h5⟩ := h; exact ⟨hq, h2, h3, h4, h5⟩
  ·obtain ⟨_, h2, h3, h4, h5⟩ := h; exact ⟨hq, h2, h3, h4, h5⟩
 have hch := Adk (ios := []) (n := n) (root := x.sup.root) (size := x.sup.size) (first := Vi anew fs (x.blocks.getD n default)) hd hI ⟨(fun _ h => by cases h), (fun _ h => by cases h)⟩ hf (by simpa using hfn) (by omega) hro
 simp only [Dc] at hch
 have hF0 : Frees l x (Ld anew fs (x.blocks.getD n default)) := aM hf
 have hbk := vG anew fs (x.blocks.drop n) (by omega)
 have hcore := kM anew fs (x.blocks.getD n default) (x.recs.drop n) (by omega)
 have hlen := cU (s := x.sup) (slot := x.slot) (root := x.sup.root) (size := x.sup.size) (first := Vi anew fs (x.blocks.getD n default)) hnb2 hF0.fit
 have hnb : nb (Bs l (Eu x.sup x.slot (Ld anew fs (x.blocks.getD n default)) x.sup.root x.sup.size (Vi anew fs (x.blocks.getD n default)))) = nb l := by unfold nb; rw [hlen]
 have hstay : ∀ a, 2 ≤ a → reached l x a → blk (Bs l (Eu x.sup x.slot (Ld anew fs (x.blocks.getD n default)) x.sup.root x.sup.size (Vi anew fs (x.blocks.getD n default)))) a = blk l a := fun a h2 hr => gP hd hI hF0.fit hF0.free h2 hr
 refine ⟨by omega, Tk anew fs (x.blocks.getD n default) (x.recs.drop n), Rs anew fs (x.blocks.drop n), Vi anew fs (x.blocks.getD n default), hcore, ?_, hlen, hstay, ?_⟩
 ·refine uH hd hI hx hF0.fit ?_ hx.blocks hch ?_ (wX hcore.symm hg) ?_ ?_
  ·
   obtain ⟨h1, h2, h3, h4, h5⟩ := hx.sup
   refine ⟨⟨by show 1 ≤ x.sup.gen + 1; omega, by show x.sup.gen + 1 ≤ _; omega⟩, h2, h3, h4, ?_⟩
   have := hch.ptr
   rw [hnb] at this
   rw [← hx.blocks] at this
   exact this
  ·rw [hbk, Ej]
   refine ⟨Aox (hfn.sub (Wy _ _)), hI.nodup.sub (List.drop_sublist _ _), ?_⟩
   intro a ha b hb he
   subst he
   exact (hf a (As (pT.1 ha))).2.2 (.inr (.inl (Cc hb)))
  ·rw [tD hcore]
   refine Trees.frame hnb ht fun w hw a ha => ?_
   have hn := (Ig hI w (hws w hw)).1 a ha
   have := hx.tree w (hws w hw)
   exact hstay a (this.1.1.2.2 a ha).1 hn
  ·refine Ajg hI.clash hws fun a ha => ?_
   rw [hbk] at ha
   rcases Bq.1 ha with ha | ha
   ·right
    intro w hw
    have hnr := (hf a (As (pT.1 ha))).2.2
    have hnd := Ig hI w (hws w hw)
    refine ⟨fun h => hnr (hnd.1 a h), ?_⟩
    by_cases hm : a ∈ w.m
    ·exact .inr ((hnd.2 a hm).resolve_right hnr)
    ·exact .inl hm
   ·exact .inl (Cc ha)
 ·intro a ha
  have ha : a ∈ Rs anew fs (x.blocks.drop n) := ha
  rw [hbk] at ha
  rcases Bq.1 ha with ha | ha
  ·left; rw [hF]; exact pT.1 ha
  ·exact .inr ha
theorem uP {l l' : List UInt8} (hd : Dev l) (h : l'.length = l.length) : Dev l' := ⟨by rw [h]; exact hd.1, by rw [h]; exact hd.2⟩
theorem Iy {l : List UInt8} (hl : l.length < 1000000) {x : Img} : lookQ l = .ok x ↔ Dev l ∧ IsImg l x := by
 unfold lookQ
 constructor
 ·intro h
  split at h
  ·rename_i hd; exact ⟨⟨hl, hd⟩, (Ot ⟨hl, hd⟩).1 h⟩
  ·cases h
 ·rintro ⟨hd, h⟩
  rw [if_pos hd.2]
  exact (Ot hd).2 h
theorem Sa {l : List UInt8} {x : Img} (hd : Dev l) (h : IsImg l x) : x.fit l := cM hd ((Ot hd).2 h)
theorem Ate {α : Type} {p : α → Bool} : ∀ (l : List α) (i : Nat), ¬ idxL p l i < 0 → ∃ j, ∃ h : j < l.length, idxL p l i = ((i + j : Nat) : Int) ∧ p l[j] = true ∧ ∀ x ∈ l.take j, p x = false := by
 intro l i h
 rcases dG (p := p) l i with ⟨h1, _⟩ | h1
 ·rw [h1] at h; exact absurd (by decide) h
 ·exact h1
theorem uT {recs : List Rec} {id : Int} (h : ¬ oB recs id < 0) : ∃ j, ∃ hj : j < recs.length, oB recs id = (j : Int) ∧ ((recs[j].id : Nat) : Int) = id ∧ recs[j].kind = 0 := by
 obtain ⟨j, hj, h1, h2, _⟩ := Ate recs 0 h
 have h3 := Ei h2
 exact ⟨j, hj, by rw [Ct] at h1; exact h1, h3.1, h3.2⟩
theorem Trees.erase {l : List UInt8} : ∀ {ps : List (Nat × Nat)} {ws : List WS} (j : Nat), Trees l ps ws → Trees l (ps.eraseIdx j) (ws.eraseIdx j)
 | [], [], j, _ => by rw [List.eraseIdx_nil, List.eraseIdx_nil]; exact trivial
 | p :: ps, w :: ws, 0, h => h.2.2
 | p :: ps, w :: ws, j + 1, h => ⟨h.1, h.2.1, Trees.erase j h.2.2⟩
 | [], _ :: _, _, h => h.elim
 | _ :: _, [], _, h => h.elim
theorem Trees.get {l : List UInt8} : ∀ {ps : List (Nat × Nat)} {ws : List WS} (j : Nat) (hj : j < ps.length) (hw : j < ws.length), Trees l ps ws → goP l ps[j].1 = some ws[j] ∧ Nb ws[j].m ps[j].2 = false
 | p :: ps, w :: ws, 0, _, _, h => ⟨h.1, h.2.1⟩
 | p :: ps, w :: ws, j + 1, hj, hw, h => by
  simpa using Trees.get j (by simpa using hj) (by simpa using hw) h.2.2
theorem bQ {α : Type} (l : List α) (j : Nat) : l.eraseIdx j = l.take j ++ l.drop (j + 1) := List.eraseIdx_eq_take_drop_succ l j
theorem Aao {a b : List Rec} (hs : a.Sublist b) (h : Il b) : Il a := by
 obtain ⟨h1, h2, h3⟩ := h
 refine ⟨h1.sub (hs.map _), ?_, Hv (hs.filter Mg).length_le h3⟩
 intro r hr
 cases hs with
 | slnil => simp at hr
 | cons y hs => exact h2 r (by simpa using hs.mem (Cc hr))
 | cons_cons y hs => exact h2 r (by simpa using hs.mem (by simpa using hr))
theorem cV {α : Type} {l : List α} (h : l.Nodup) {i j : Nat} (hi : i < l.length) (hj : j < l.length) (he : l[i] = l[j]) : i = j := by
 have hp := List.pairwise_iff_getElem.1 h
 by_cases h1 : i < j
 ·exact absurd he (hp i j hi hj h1)
 by_cases h2 : j < i
 ·exact absurd he.symm (hp j i hj hi h2)
 omega
theorem mD {α β : Type} (f : α → β) : ∀ (l : List α) (j : Nat), (l.eraseIdx j).map f = (l.map f).eraseIdx j
 | [], j => by simp
 | x :: l, 0 => by simp
 | x :: l, j + 1 => by simp [mD f l j]
theorem vW {f : Rec × WS → SnapV} (hf : ∀ p, f (core p.1, p.2) = f p) {q : Rec × WS → Bool} (hq : ∀ p, q (core p.1, p.2) = q p) : ∀ {a b : List Rec} (ws : List WS), a.map core = b.map core → ((a.zip ws).filter q).map f = ((b.zip ws).filter q).map f
 | [], [], ws, _ => rfl
 | r :: a, s :: b, [], _ => by simp
 | r :: a, s :: b, w :: ws, h => by
  rw [Bb, Bb, List.cons.injEq] at h
  have ih := vW hf hq ws h.2
  have e1 : q (r, w) = q (s, w) := by rw [← hq (r, w), ← hq (s, w), h.1]
  have e2 : f (r, w) = f (s, w) := by rw [← hf (r, w), ← hf (s, w), h.1]
  simp only [Aka, Fl, e1]
  split
  ·rw [Bb, Bb, ih, e2]
  ·exact ih
 | [], _ :: _, _, h => by simp at h
 | _ :: _, [], _, h => by simp at h
theorem Ahg {b : List UInt8} (h : (Cw b).2 = 0) : (Cw b).1.ok := by
 unfold Cw at h ⊢
 split at h
 ·rename_i h1; exact absurd h h1
 ·rename_i h1
  rw [if_neg h1]
  split at h
  ·rename_i h2; rw [if_pos h2]; exact h2
  ·cases h
theorem jK {l : List UInt8} {n a v : Nat} (h : (atP l n a v).2 = true) : 2 ≤ a ∧ a < n ∧ (Cw (blk l a)).2 = 0 ∧ (Cw (blk l a)).1.level = v ∧ ∀ p ∈ Eo l a, ptrOk p := by
 unfold atP at h
 split at h
 ·cases h
 ·have hz := Ei h
  refine ⟨by omega, by omega, hz.1, hz.2, fun p hp => ?_⟩
  have := Ha.1 (Ahg hz.1).1 p hp
  rwa [Dg] at this
theorem Alq {l : List UInt8} : ∀ (v a : Nat), tOk l v a → ∀ b ∈ tM l v a, b = 0 ∨ 2 ≤ b ∧ b < nb l
 | 0, a, h, b, hb => by
  simp only [tM] at hb
  have h1 := (jK h.1).2.2.2.2 b hb
  have h2 := h.2 b hb
  unfold ptrOk at h1; omega
 | v + 1, a, h, b, hb => by
  simp only [tM, Db] at hb
  obtain ⟨p, hp, hb⟩ := hb
  split at hb
  ·exact .inl (Ew hb)
  ·rename_i h0
   exact Alq v p ((h.2 p hp).2 h0) b hb
theorem Us {l : List UInt8} {root : Nat} {w : WS} (h : goP l root = some w) : w.m.length = 512 ∧ ∀ a ∈ w.m, a = 0 ∨ 2 ≤ a ∧ a < nb l := by
 obtain ⟨rfl, h2⟩ := goP_iff.1 h
 unfold iD
 by_cases hr : root = 0
 ·rw [if_pos hr]
  exact ⟨by simp [ws0], fun a ha => .inl (Ew (show a ∈ List.replicate 512 0 from ha))⟩
 ·rw [if_neg hr]
  exact ⟨Abj l 2 root, fun a ha => Alq 2 root (h2 hr).1 a ha⟩
theorem uA {l l' : List UInt8} {x : Img} (hI : IsImg l x) (hs : ∀ a, 2 ≤ a → reached l x a → blk l' a = blk l a) {w : WS} (hw : w ∈ x.trees) (n : Nat) : Ji l' w.m n = Ji l w.m n := by
 refine Av fun a ha => ?_
 have ha := As ha
 unfold secB
 by_cases h0 : a = 0
 ·rw [if_pos h0, if_pos h0]
 ·rw [if_neg h0, if_neg h0]
  obtain ⟨p, hp, hg⟩ := Trees.mem hI.trees w hw
  exact hs a (((Us hg).2 a ha).resolve_left h0).1 (((Ig hI w hw).2 a ha).resolve_left h0)
theorem Yb {l l' : List UInt8} {x : Img} (hI : IsImg l x) (hs : ∀ a, 2 ≤ a → reached l x a → blk l' a = blk l a) {rs : List Rec} {ws : List WS} (hws : ∀ w ∈ ws, w ∈ x.trees) (q : Rec × WS → Bool) : ((rs.zip ws).filter q).map (Si l') = ((rs.zip ws).filter q).map (Si l) := by
 refine Av fun p hp => ?_
 unfold Si
 rw [uA hI hs (hws p.2 (Ky (Eh.1 hp).1).2)]
theorem Apa {l l' : List UInt8} {x : Img} (hI : IsImg l x) (hs : ∀ a, 2 ≤ a → reached l x a → blk l' a = blk l a) {s : Sup} {slot : Nat} {rs rs' : List Rec} {bs : List Nat} {w : WS} {ws : List WS} (hw : w ∈ x.trees) (hws : ∀ w ∈ ws, w ∈ x.trees) (hc : rs.map core = rs'.map core) :
  Ci l' ⟨s, slot, rs, bs, w :: ws⟩ = ⟨Ji l w.m s.size, ((rs'.zip ws).filter fun p => !Xw p).map (Si l), ((rs'.zip ws).filter Xw).map (Si l)⟩ := by
 unfold Ci
 simp only [Oy, Adn]
 rw [uA hI hs hw, Yb hI hs hws, Yb hI hs hws]
 rw [vW (f := Si l) (fun _ => rfl) (q := fun p => !Xw p) (fun _ => rfl) ws hc, vW (f := Si l) (fun _ => rfl) (q := Xw) (fun _ => rfl) ws hc]
theorem bF : ∀ (L M : List Nat), L.Nodup → (∀ a ∈ L, a ∈ M) → L.length ≤ M.length
 | [], _, _, _ => by simp
 | a :: L, M, hn, hm => by
  rw [Gu] at hn
  have ha := hm a (by simp)
  have := bF L (M.erase a) hn.2 fun b hb => (List.mem_erase_of_ne (fun h => by subst h; exact hn.1 hb)).2 (hm b (by simp [hb]))
  rw [List.length_erase_of_mem ha] at this
  have := List.length_pos_of_mem ha
  simp only [Ao]; omega
theorem nU {l : List UInt8} {s : Sup} {slot : Nat} {ios : List IoV} {root size first : Nat} (hd : Dev l) (hi : WFit (nb l) ios) : Kw l (Eu s slot ios root size first) = 0 := by
 have hn := hd.nb
 unfold Kw
 rw [if_neg (fun h => h hd.2), if_neg]
 intro h
 obtain ⟨x, hx, hxe⟩ := Ge.1 h
 have : Pp (nb l) x := by
  unfold Eu at hx
  rcases Bq.1 hx with hx | hx
  ·obtain ⟨y, hy, rfl⟩ := Bt.1 hx
   have := hi y hy
   exact .inl ⟨rfl, this.2.1, this.2.2⟩
  ·simp only [Ar, Nq, pJ] at hx
   rcases hx with rfl | rfl | rfl
   ·exact .inr ⟨rfl, rfl, rfl⟩
   ·exact .inl ⟨rfl, by show 1 - slot < nb l; omega, Mt _⟩
   ·exact .inr ⟨rfl, rfl, rfl⟩
 rw [An this] at hxe
 cases hxe
theorem Aej {l : List UInt8} {x : Img} {n : Nat} {first : Rec} {wth : Bool} {ios : List IoV} (hd : Dev l) (hx : x.fit l) (h : Yl l x n first wth = .ok ios) : Kw l ios = 0 := by
 unfold Yl at h
 split at h
 ·cases h
 split at h
 ·cases h
 cases h
 exact nU hd (aM fun a ha => (Qi hd hx).1 ha).fit
end Go.Proofs.YtkpndfkpdnknkaaGreat
