/- Lemmas. -/
import Derived.Test.YtkaiiopoilpjeaaMM
import Derived.Test.YtkaiiopoilpjeaaMJ4
import Derived.Test.YtkaiiopoilpjeaaME1
import Derived.Test.YtkaiiopoilpjeaaMD1
set_option linter.unusedSimpArgs false
set_option linter.unusedVariables false
set_option maxRecDepth 10000
namespace Go.Proofs.Ytkaiiopoilpjeaa
open Go.AI
def WFit (n : Nat) (ios : List IoV) : Prop := ∀ y ∈ ios, 2 ≤ y.at0 ∧ y.at0 < n ∧ y.data.length = 64
theorem Vh {n : Nat} {s : Sup} {slot : Nat} {ios : List IoV} {root size first : Nat} (hn : 2 ≤ n) (hi : WFit n ios) : ∀ x ∈ Ez s slot ios root size first, qY n x := by
 intro x hx hk
 unfold Ez at hx
 rcases Bg.1 hx with hx | hx
 ·obtain ⟨y, hy, rfl⟩ := Ca.1 hx
  exact ⟨(hi y hy).2.1, (hi y hy).2.2⟩
 ·simp only [Au, Kf, dO] at hx
  rcases hx with rfl | rfl | rfl
  ·exact absurd hk (by decide)
  ·exact ⟨by show 1 - slot < n; omega, Ki _⟩
  ·exact absurd hk (by decide)
theorem tV {l : List UInt8} {s : Sup} {slot : Nat} {ios : List IoV} {root size first : Nat} (hn : 2 ≤ nb l) (hi : WFit (nb l) ios) :
  blk (Cn l (Ez s slot ios root size first)) (1 - slot) = supB (Vq s root size first) := by
 have e : Ez s slot ios root size first = (iosW ios ++ [flushIo]) ++ wIo (1 - slot) (supB (Vq s root size first)) :: [flushIo] := by
  unfold Ez; simp
 have hf := Vh (s := s) (slot := slot) (root := root) (size := size) (first := first) hn hi
 rw [e] at hf ⊢
 refine fB hf rfl ?_
 intro y hy hk
 rw [Bw] at hy
 subst hy
 exact absurd hk (by decide)
theorem iV {l : List UInt8} {s : Sup} {slot : Nat} {ios : List IoV} {root size first b : Nat} (hn : 2 ≤ nb l) (hi : WFit (nb l) ios) (hb : b ≠ 1 - slot) (hbi : ∀ y ∈ ios, y.at0 ≠ b) :
  blk (Cn l (Ez s slot ios root size first)) b = blk l b := by
 refine Pl _ _ (Vh hn hi) ?_
 intro x hx hk
 unfold Ez at hx
 rcases Bg.1 hx with hx | hx
 ·obtain ⟨y, hy, rfl⟩ := Ca.1 hx
  exact hbi y hy
 ·simp only [Au, Kf, dO] at hx
  rcases hx with rfl | rfl | rfl
  ·exact absurd hk (by decide)
  ·exact fun h => hb h.symm
  ·exact absurd hk (by decide)
theorem zN {l : List UInt8} {s : Sup} {slot : Nat} {ios : List IoV} {root size first : Nat} (hn : 2 ≤ nb l) (hi : WFit (nb l) ios) (hd : (ios.map IoV.at0).Nodup) {y : IoV} (hy : y ∈ ios) :
  blk (Cn l (Ez s slot ios root size first)) y.at0 = y.data := by
 obtain ⟨a, b, rfl⟩ := List.append_of_mem hy
 have e : Ez s slot (a ++ y :: b) root size first = iosW a ++ wIo y.at0 y.data :: (iosW b ++ [flushIo, wIo (1 - slot) (supB (Vq s root size first)), flushIo]) := by
  unfold Ez iosW; simp
 have hf := Vh (s := s) (slot := slot) (root := root) (size := size) (first := first) hn hi
 rw [e] at hf ⊢
 refine fB (x := wIo y.at0 y.data) hf rfl ?_
 intro z hz hk
 rcases Bg.1 hz with hz | hz
 ·obtain ⟨u, hu, rfl⟩ := Ca.1 hz
  intro h
  rw [Br, Bc] at hd
  have := (Fs.1 hd).2.1
  rw [jF] at this
  exact this.1 (Ca.2 ⟨u, hu, h⟩)
 ·simp only [Au, Kf, dO] at hz
  rcases hz with rfl | rfl | rfl
  ·exact absurd hk (by decide)
  ·have := (hi y (by simp)).1
   show 1 - slot ≠ y.at0
   omega
  ·exact absurd hk (by decide)
theorem bT {l : List UInt8} {s : Sup} {slot : Nat} {ios : List IoV} {root size first : Nat} (hn : 2 ≤ nb l) (hi : WFit (nb l) ios) : (Cn l (Ez s slot ios root size first)).length = l.length :=
 Ks _ _ (Vh hn hi)
def Od : List Rec → List Nat → Nat → List Rec → List Rec
 | r :: rs, a :: fs, p, acc => Od rs fs a ({ r with next := p } :: acc)
 | _, _, _, acc => acc
def Ni : List Rec → List Nat → List Nat → List Nat
 | _ :: rs, a :: fs, acc => Ni rs fs (a :: acc)
 | _, _, acc => acc
theorem lN {l : List UInt8} : ∀ (rs : List Rec) (fs : List Nat) (p : Nat) (krs : List Rec) (kbs : List Nat), rs.length ≤ fs.length → (∀ y ∈ De rs fs p, blk l y.at0 = y.data) → (∀ a ∈ fs, 2 ≤ a ∧ a < nb l ∧ ptrOk a) → ptrOk p →
  (∀ r ∈ rs, ∀ q, ptrOk q → ({ r with next := q } : Rec).ok) → Chain l p krs kbs → Chain l (Ds rs fs p) (Od rs fs p krs) (Ni rs fs kbs)
 | [], _, _, _, _, _, _, _, _, _, h => by simpa [Ds, Od, Ni] using h
 | _ :: _, [], _, _, _, hl, _, _, _, _, _ => by simp at hl
 | r :: rs, a :: fs, p, krs, kbs, hl, hb, hf, hp, hr, h => by
  have ha := hf a (by simp)
  have hb0 := hb (wIo a (recB { r with next := p })) (by simp [De])
  have hok := hr r (by simp) p hp
  have hpr : Dt (blk l a) = ({ r with next := p }, 0) := by
   have : blk l a = recB { r with next := p } := hb0
   rw [this]; exact jN hok
  simp only [Ds, Od, Ni]
  exact lN rs fs a _ _ (by simpa using hl) (fun y hy => hb y (by simp [De, hy])) (fun b hb' => hf b (by simp [hb'])) ha.2.2 (fun q hq => hr q (by simp [hq])) (Chain.cons ha.1 ha.2.1 hpr h)
theorem Trees.frame {l l' : List UInt8} (hn : nb l' = nb l) : ∀ {ps : List (Nat × Nat)} {ws : List WS}, Trees l ps ws → (∀ w ∈ ws, ∀ a ∈ w.nodes, blk l' a = blk l a) → Trees l' ps ws
 | [], [], _, _ => trivial
 | p :: ps, w :: ws, h, hf => ⟨zE hn h.1 (hf w (by simp)), h.2.1, Trees.frame hn h.2.2 fun v hv => hf v (by simp [hv])⟩
 | [], _ :: _, h, _ => h.elim
 | _ :: _, [], h, _ => h.elim
theorem _root_.List.Nodup.sub {α : Type} {l l' : List α} (h : l.Nodup) (hs : l'.Sublist l) : l'.Nodup := List.Pairwise.sublist hs h
theorem qB (c : List Nat) : (Fm c).Nodup := List.Nodup.sub List.nodup_range List.filter_sublist
theorem Vf : ∀ (rs : List Rec) (fs : List Nat) (p : Nat), rs.length ≤ fs.length → (De rs fs p).map IoV.at0 = fs.take rs.length
 | [], _, _, _ => by simp [De]
 | _ :: _, [], _, h => by simp at h
 | r :: rs, a :: fs, p, h => by
  simp only [De, Bc, As, Jy]
  rw [Vf rs fs a (by simpa using h)]; rfl
theorem tU {l : List UInt8} {x : Img} {ios : List IoV} {root size first : Nat} {rs : List Rec} {bs : List Nat} {ws : List WS} (hd : Dev l) (hI : IsImg l x) (hx : x.fit l) (hi : WFit (nb l) ios)
  (hs : (Vq x.sup root size first).ok) (hblocks : x.sup.blocks = nb l)
  (hch : Chain (Cn l (Ez x.sup x.slot ios root size first)) first rs bs) (hn : bs.Nodup) (hg : Fy rs)
  (ht : Trees (Cn l (Ez x.sup x.slot ios root size first)) ((root, size) :: rs.map fun r => (r.root, r.size)) ws) (hcl : ∀ a, ¬ Ow bs ws a) :
  IsImg (Cn l (Ez x.sup x.slot ios root size first)) ⟨Vq x.sup root size first, 1 - x.slot, rs, bs, ws⟩ := by
 have hnb2 : 2 ≤ nb l := by have := hd.nb; omega
 have hlen := bT (s := x.sup) (slot := x.slot) (root := root) (size := size) (first := first) hnb2 hi
 have hnb : nb (Cn l (Ez x.sup x.slot ios root size first)) = nb l := by unfold nb; rw [hlen]
 have hslot := hx.slot
 refine ⟨zO hI.pick hs ?_ ?_ hnb ?_ ?_, hch, hn, hg, ht, hcl⟩
 ·rw [hnb]; exact hblocks
 ·show x.sup.gen < x.sup.gen + 1; omega
 ·refine iV hnb2 hi (by omega) ?_
  intro y hy
  have := (hi y hy).1
  omega
 ·exact tV hnb2 hi
def Hu (l : List UInt8) (nd : Nat) : List Nat := (Er (blk l nd)).1.ptr
def From (l : List UInt8) (root : Nat) (w : WS) : Prop := (∀ a ∈ w.nodes, a = root ∨ ∃ nd ∈ w.nodes, a ∈ Hu l nd) ∧ (∀ a ∈ w.m, a = 0 ∨ ∃ nd ∈ w.nodes, a ∈ Hu l nd)
theorem uQ {l : List UInt8} {root n level frm : Nat} {rec : Nat → Nat → WS → WS} (hr : ∀ p f w, From l root w → (∃ nd ∈ w.nodes, p ∈ Hu l nd) → From l root (rec p f w)) {w : WS} (h : From l root w) {i p : Nat} (hp : ∃ nd ∈ w.nodes, p ∈ Hu l nd) :
  From l root (Hj n level frm rec w i p) := by
 unfold Hj
 split
 ·exact h
 split
 ·exact h
 split
 ·exact h
 split
 ·refine ⟨h.1, fun a ha => ?_⟩
  rcases Eh ha with ha | rfl
  ·exact h.2 a ha
  ·exact .inr hp
 ·exact hr _ _ _ h hp
theorem fC {l : List UInt8} {root n level frm : Nat} {rec : Nat → Nat → WS → WS} (hm : ∀ p f w, ∀ x ∈ w.nodes, x ∈ (rec p f w).nodes) (hr : ∀ p f w, From l root w → (∃ nd ∈ w.nodes, p ∈ Hu l nd) → From l root (rec p f w)) :
  ∀ (ps : List Nat) (i : Nat) (w : WS), From l root w → (∀ p ∈ ps, ∃ nd ∈ w.nodes, p ∈ Hu l nd) → From l root (Gh n level frm rec ps i w)
 | [], _, _, h, _ => h
 | p :: r, i, w, h, hp => by
  simp only [Gh]
  refine fC hm hr r (i + 1) _ (uQ hr h (hp p (by simp))) ?_
  intro q hq
  obtain ⟨nd, h1, h2⟩ := hp q (by simp [hq])
  exact ⟨nd, gX hm w i p nd h1, h2⟩
theorem gN {l : List UInt8} {root n level at0 frm : Nat} {rec : Nat → Nat → WS → WS} (hm : ∀ p f w, ∀ x ∈ w.nodes, x ∈ (rec p f w).nodes) (hr : ∀ p f w, From l root w → (∃ nd ∈ w.nodes, p ∈ Hu l nd) → From l root (rec p f w))
  {w : WS} (h : From l root w) (ha : at0 = root ∨ ∃ nd ∈ w.nodes, at0 ∈ Hu l nd) : From l root (Hz l n level at0 frm rec w) := by
 unfold Hz
 split
 ·exact h
 ·rename_i hc
  have hat : (atP l n at0 level).1.ptr = Hu l at0 := by
   have h2 : (atP l n at0 level).2 = true := by
    cases hh : (atP l n at0 level).2 with
    | true => rfl
    | false => exact absurd (.inl hh) hc
   unfold atP at h2 ⊢
   split
   ·rename_i h3; rw [if_pos h3] at h2; cases h2
   ·rfl
  rw [hat]
  refine fC hm hr _ _ _ ⟨fun a hh => ?_, fun a hh => ?_⟩ fun p hp => ⟨at0, by simp, hp⟩
  ·rcases Bg.1 hh with hh | hh
   ·exact (h.1 a hh).imp id fun ⟨nd, h1, h2⟩ => ⟨nd, by simp [h1], h2⟩
   ·rw [Bw] at hh
    subst hh
    exact ha.imp id fun ⟨nd, h1, h2⟩ => ⟨nd, by simp [h1], h2⟩
  ·exact (h.2 a hh).imp id fun ⟨nd, h1, h2⟩ => ⟨nd, by simp [h1], h2⟩
theorem fU {l : List UInt8} {root n : Nat} : ∀ (v at0 frm : Nat) (w : WS), From l root w → (at0 = root ∨ ∃ nd ∈ w.nodes, at0 ∈ Hu l nd) → From l root (Dz l n v at0 frm w)
 | 0, _, _, _, h, ha => gN (fun _ _ _ _ h => h) (fun _ _ _ h _ => h) h ha
 | v + 1, _, _, _, h, ha => gN (fun p f w => Xd l n v p f w) (fun p f w h hp => fU v p f w h (.inr hp)) h ha
theorem Abi {l : List UInt8} {root : Nat} {w : WS} (h : goP l root = some w) : From l root w := by
 have h0 : From l root ws0 := ⟨fun a ha => by simp [ws0] at ha, fun a ha => .inl (by have := Et (show a ∈ List.replicate 512 0 from ha); exact this)⟩
 unfold goP at h
 split at h
 ·cases h; exact h0
 split at h
 ·cases h
 ·cases h
  exact fU 2 root 0 ws0 h0 (.inl rfl)
theorem Trees.mem {l : List UInt8} : ∀ {ps : List (Nat × Nat)} {ws : List WS}, Trees l ps ws → ∀ w ∈ ws, ∃ p ∈ ps, goP l p.1 = some w
 | [], [], _, _, h => by cases h
 | p :: ps, w :: ws, h, v, hv => by
  rcases Au.1 hv with rfl | hv
  ·exact ⟨p, by simp, h.1⟩
  ·obtain ⟨q, h1, h2⟩ := Trees.mem h.2.2 v hv
   exact ⟨q, by simp [h1], h2⟩
 | [], _ :: _, h, _, _ => h.elim
 | _ :: _, [], h, _, _ => h.elim
theorem Qc {l : List UInt8} {x : Img} (hI : IsImg l x) : ∀ w ∈ x.trees, (∀ a ∈ w.nodes, reached l x a) ∧ ∀ a ∈ w.m, a = 0 ∨ reached l x a := by
 intro w hw
 obtain ⟨p, hp, hg⟩ := Trees.mem hI.trees w hw
 obtain ⟨f1, f2⟩ := Abi hg
 have hroot : p.1 ∈ x.sup.root :: x.recs.map Rec.root := by
  unfold Img.roots at hp
  rcases Au.1 hp with rfl | hp
  ·simp
  ·obtain ⟨r, hr, rfl⟩ := Ca.1 hp
   simp only [Au, Ca]
   exact .inr ⟨r, hr, rfl⟩
 refine ⟨fun a ha => ?_, fun a ha => ?_⟩
 ·rcases f1 a ha with rfl | ⟨nd, h1, h2⟩
  ·exact .inr (.inr (.inl hroot))
  ·exact .inr (.inr (.inr ⟨w, hw, nd, h1, h2⟩))
 ·rcases f2 a ha with rfl | ⟨nd, h1, h2⟩
  ·exact .inl rfl
  ·exact .inr (.inr (.inr (.inr ⟨w, hw, nd, h1, h2⟩)))
theorem gM {l : List UInt8} {x : Img} {ios : List IoV} {root size first : Nat} (hd : Dev l) (hI : IsImg l x) (hi : WFit (nb l) ios) (hf : ∀ y ∈ ios, ¬ reached l x y.at0) {a : Nat} (ha : 2 ≤ a) (hr : reached l x a) :
  blk (Cn l (Ez x.sup x.slot ios root size first)) a = blk l a := by
 have hnb2 : 2 ≤ nb l := by have := hd.nb; omega
 refine iV hnb2 hi (by omega) ?_
 intro y hy h
 exact hf y hy (h ▸ hr)
def tM (l : List UInt8) : Nat → Nat → List Nat
 | 0, a => Hu l a
 | v + 1, a => (Hu l a).flatMap fun p => if p = 0 then List.replicate (8 ^ (v + 1)) 0 else tM l v p
def tN (l : List UInt8) : Nat → Nat → List Nat
 | 0, a => [a]
 | v + 1, a => a :: (Hu l a).flatMap fun p => if p = 0 then [] else tN l v p
def tOk (l : List UInt8) : Nat → Nat → Prop
 | 0, a => (atP l (nb l) a 0).2 = true ∧ ∀ p ∈ Hu l a, p < nb l
 | v + 1, a => (atP l (nb l) a (v + 1)).2 = true ∧ ∀ p ∈ Hu l a, p < nb l ∧ (p ≠ 0 → tOk l v p)
theorem Zz (l : List UInt8) (a : Nat) : (Hu l a).length = 8 := Ma _
theorem cF {α β : Type} {f : α → List β} {k : Nat} : ∀ (ps : List α), (∀ p ∈ ps, (f p).length = k) → (ps.flatMap f).length = ps.length * k
 | [], _ => by simp
 | p :: ps, h => by
  rw [Fq, Ar, h p (by simp), cF ps (fun q hq => h q (by simp [hq])), As, jB, Nat.add_comm]
theorem tO (l : List UInt8) : ∀ (v a : Nat), (tM l v a).length = 8 ^ (v + 1)
 | 0, a => by simp [tM, Zz]
 | v + 1, a => by
  simp only [tM]
  rw [cF (k := 8 ^ (v + 1)) _ (fun p _ => by
   split
   ·simp
   ·exact tO l v p), Zz, zZ 8 (v + 1), jC]
theorem lF {n level frm : Nat} {rec : Nat → Nat → WS → WS} {gm gn : Nat → List Nat} {gok : Nat → Prop} (hlen : ∀ p, (gm p).length = 8 ^ level)
  (hstep : ∀ (A C nodes : List Nat) (p i : Nat), nodes.Nodup → A.length = frm + i * 8 ^ level →
   (Hj n level frm rec ⟨A ++ (List.replicate (8 ^ level) 0 ++ C), nodes, false⟩ i p = ⟨A ++ (gm p ++ C), nodes ++ gn p, false⟩ ∧ gok p ∧ (nodes ++ gn p).Nodup) ∨
   ((Hj n level frm rec ⟨A ++ (List.replicate (8 ^ level) 0 ++ C), nodes, false⟩ i p).bad = true ∧ ¬ (gok p ∧ (nodes ++ gn p).Nodup))) :
  ∀ (ps : List Nat) (A C nodes : List Nat) (i : Nat), nodes.Nodup → A.length = frm + i * 8 ^ level →
   (Gh n level frm rec ps i ⟨A ++ (List.replicate (ps.length * 8 ^ level) 0 ++ C), nodes, false⟩ = ⟨A ++ (ps.flatMap gm ++ C), nodes ++ ps.flatMap gn, false⟩ ∧ (∀ p ∈ ps, gok p) ∧ (nodes ++ ps.flatMap gn).Nodup) ∨
   ((Gh n level frm rec ps i ⟨A ++ (List.replicate (ps.length * 8 ^ level) 0 ++ C), nodes, false⟩).bad = true ∧ ¬ ((∀ p ∈ ps, gok p) ∧ (nodes ++ ps.flatMap gn).Nodup))
 | [], A, C, nodes, i, hn, hA => by
  left
  simp only [Gh, Dl, iZ, List.replicate_zero, Dk, List.flatMap_nil, Bt]
  exact ⟨trivial, (fun p hp => by cases hp), hn⟩
 | p :: ps, A, C, nodes, i, hn, hA => by
  have e1 : List.replicate ((p :: ps).length * 8 ^ level) 0 ++ C = List.replicate (8 ^ level) 0 ++ (List.replicate (ps.length * 8 ^ level) 0 ++ C) := by
   rw [← Dr, List.replicate_append_replicate, As, jB, Nat.add_comm]
  simp only [Gh]
  rw [e1]
  rcases hstep A (List.replicate (ps.length * 8 ^ level) 0 ++ C) nodes p i hn hA with ⟨h1, h2, h3⟩ | ⟨h1, h2⟩
  ·rw [h1]
   have e2 : A ++ (gm p ++ (List.replicate (ps.length * 8 ^ level) 0 ++ C)) = (A ++ gm p) ++ (List.replicate (ps.length * 8 ^ level) 0 ++ C) := by simp
   have hA2 : (A ++ gm p).length = frm + (i + 1) * 8 ^ level := by rw [Ar, hlen, hA, jB]; omega
   rw [e2]
   rcases lF hlen hstep ps (A ++ gm p) C (nodes ++ gn p) (i + 1) h3 hA2 with ⟨k1, k2, k3⟩ | ⟨k1, k2⟩
   ·left
    refine ⟨?_, ?_, ?_⟩
    ·rw [k1]; simp [Fq]
    ·intro q hq
     rcases Au.1 hq with rfl | hq
     ·exact h2
     ·exact k2 q hq
    ·simpa [Fq] using k3
   ·right
    refine ⟨k1, fun hh => k2 ⟨fun q hq => hh.1 q (by simp [hq]), ?_⟩⟩
    simpa [Fq] using hh.2
  ·right
   refine ⟨?_, fun hh => h2 ⟨hh.1 p (by simp), ?_⟩⟩
   ·rw [Mp _ _ h1]; exact h1
   ·have := hh.2
    rw [Fq, ← Dr, Fs] at this
    exact this.1
theorem lA {l : List UInt8} {level at0 : Nat} {rec : Nat → Nat → WS → WS} {gm gn : Nat → List Nat} {gok : Nat → Prop} (hlen : ∀ p, (gm p).length = 8 ^ level) (A C nodes : List Nat) (hn : nodes.Nodup)
  (hstep : ∀ (A' C nodes : List Nat) (p i : Nat), nodes.Nodup → A'.length = A.length + i * 8 ^ level →
   (Hj (nb l) level A.length rec ⟨A' ++ (List.replicate (8 ^ level) 0 ++ C), nodes, false⟩ i p = ⟨A' ++ (gm p ++ C), nodes ++ gn p, false⟩ ∧ gok p ∧ (nodes ++ gn p).Nodup) ∨
   ((Hj (nb l) level A.length rec ⟨A' ++ (List.replicate (8 ^ level) 0 ++ C), nodes, false⟩ i p).bad = true ∧ ¬ (gok p ∧ (nodes ++ gn p).Nodup))) :
  (Hz l (nb l) level at0 A.length rec ⟨A ++ (List.replicate (8 ^ (level + 1)) 0 ++ C), nodes, false⟩ = ⟨A ++ ((Hu l at0).flatMap gm ++ C), nodes ++ (at0 :: (Hu l at0).flatMap gn), false⟩ ∧ ((atP l (nb l) at0 level).2 = true ∧ ∀ p ∈ Hu l at0, gok p) ∧ (nodes ++ (at0 :: (Hu l at0).flatMap gn)).Nodup) ∨
  ((Hz l (nb l) level at0 A.length rec ⟨A ++ (List.replicate (8 ^ (level + 1)) 0 ++ C), nodes, false⟩).bad = true ∧ ¬ (((atP l (nb l) at0 level).2 = true ∧ ∀ p ∈ Hu l at0, gok p) ∧ (nodes ++ (at0 :: (Hu l at0).flatMap gn)).Nodup)) := by
 unfold Hz
 by_cases hc : (atP l (nb l) at0 level).2 = false ∨ nodes.any (at0 == ·) = true
 ·right
  refine ⟨by rw [if_pos hc], fun hh => ?_⟩
  rcases hc with hc | hc
  ·rw [hh.1.1] at hc; cases hc
  ·obtain ⟨y, hy, he⟩ := Ec.1 hc
   have : at0 = y := by simpa using he
   subst this
   have h2 := hh.2
   rw [Fs] at h2
   exact h2.2.2 at0 hy at0 (by simp) rfl
 ·rw [if_neg hc]
  have hat2 : (atP l (nb l) at0 level).2 = true := by
   cases hh : (atP l (nb l) at0 level).2 with
   | true => rfl
   | false => exact absurd (.inl hh) hc
  have hat : (atP l (nb l) at0 level).1.ptr = Hu l at0 := by
   have h2 := hat2
   unfold atP at h2 ⊢
   split
   ·rename_i h3; rw [if_pos h3] at h2; cases h2
   ·rfl
  have hnot : at0 ∉ nodes := fun h => hc (.inr (Ec.2 ⟨at0, h, by simp⟩))
  have hn2 : (nodes ++ [at0]).Nodup := by
   rw [Fs]
   exact ⟨hn, by simp, fun x hx y hy he => by rw [Bw] at hy; subst hy; subst he; exact hnot hx⟩
  rw [hat]
  have hl8 : 8 ^ (level + 1) = (Hu l at0).length * 8 ^ level := by rw [Zz, zZ, jC]
  rw [hl8]
  rcases lF hlen hstep (Hu l at0) A C (nodes ++ [at0]) 0 hn2 (by omega) with ⟨k1, k2, k3⟩ | ⟨k1, k2⟩
  ·left
   refine ⟨?_, ⟨hat2, k2⟩, by simpa using k3⟩
   rw [k1]; simp
  ·right
   exact ⟨k1, fun hh => k2 ⟨hh.1.2, by simpa using hh.2⟩⟩
theorem Aem (A C : List Nat) (x y : Nat) : (A ++ (x :: C)).set A.length y = A ++ (y :: C) := by
 rw [kH _ _ (Ao _), zY]; rfl
theorem lZ {l : List UInt8} : ∀ (v at0 : Nat) (A C nodes : List Nat), nodes.Nodup →
  (Dz l (nb l) v at0 A.length ⟨A ++ (List.replicate (8 ^ (v + 1)) 0 ++ C), nodes, false⟩ = ⟨A ++ (tM l v at0 ++ C), nodes ++ tN l v at0, false⟩ ∧ tOk l v at0 ∧ (nodes ++ tN l v at0).Nodup) ∨
  ((Dz l (nb l) v at0 A.length ⟨A ++ (List.replicate (8 ^ (v + 1)) 0 ++ C), nodes, false⟩).bad = true ∧ ¬ (tOk l v at0 ∧ (nodes ++ tN l v at0).Nodup))
 | 0, at0, A, C, nodes, hn => by
  have h := lA (l := l) (level := 0) (at0 := at0) (rec := fun _ _ w => w) (gm := fun p => [p]) (gn := fun _ => []) (gok := fun p => p < nb l) (fun p => rfl) A C nodes hn (by
   intro A' C nodes p i hn hA
   unfold Hj
   simp only [Ap, Bx, Bt]
   by_cases h1 : nb l ≤ p
   ·right
    rw [if_pos h1]
    exact ⟨rfl, fun hh => by have := hh.1; omega⟩
   ·left
    rw [if_neg h1]
    refine ⟨?_, by omega, hn⟩
    by_cases h2 : p = 0
    ·rw [if_pos h2, h2]; rfl
    ·rw [if_neg h2, if_pos trivial, ← hA]
     congr 1
     exact Aem A' C 0 p)
  have e1 : (Hu l at0).flatMap (fun p => [p]) = Hu l at0 := by simp
  have e2 : (Hu l at0).flatMap (fun _ => ([] : List Nat)) = [] := by simp
  rw [e1, e2] at h
  exact h
 | v + 1, at0, A, C, nodes, hn => by
  refine lA (l := l) (level := v + 1) (at0 := at0) (rec := Dz l (nb l) v) (gm := fun p => if p = 0 then List.replicate (8 ^ (v + 1)) 0 else tM l v p) (gn := fun p => if p = 0 then [] else tN l v p) (gok := fun p => p < nb l ∧ (p ≠ 0 → tOk l v p)) ?_ A C nodes hn ?_
  ·intro p
   show (if p = 0 then List.replicate (8 ^ (v + 1)) 0 else tM l v p).length = _
   split
   ·simp
   ·exact tO l v p
  ·intro A' C nodes p i hn hA
   unfold Hj
   simp only [Ap, Bx]
   by_cases h1 : nb l ≤ p
   ·right
    rw [if_pos h1]
    exact ⟨rfl, fun hh => by have := hh.1.1; omega⟩
   ·rw [if_neg h1]
    by_cases h2 : p = 0
    ·left
     rw [if_pos h2, if_pos h2, if_pos h2, Bt]
     exact ⟨rfl, ⟨by omega, fun h => absurd h2 h⟩, hn⟩
    ·rw [if_neg h2, if_neg h2, if_neg h2, if_neg (by omega), ← hA]
     rcases lZ v p A' C nodes hn with ⟨k1, k2, k3⟩ | ⟨k1, k2⟩
     ·left; exact ⟨k1, ⟨by omega, fun _ => k2⟩, k3⟩
     ·right; exact ⟨k1, fun hh => k2 ⟨hh.1.2 h2, hh.2⟩⟩
def Acd (l : List UInt8) (root : Nat) : WS := if root = 0 then ws0 else ⟨tM l 2 root, tN l 2 root, false⟩
theorem goP_iff {l : List UInt8} {root : Nat} {w : WS} : goP l root = some w ↔ w = Acd l root ∧ (root ≠ 0 → tOk l 2 root ∧ (tN l 2 root).Nodup ∧ ∀ b ∈ tM l 2 root, b ∉ tN l 2 root) := by
 unfold goP Acd
 by_cases h0 : root = 0
 ·rw [if_pos h0, if_pos h0]
  constructor
  ·intro h; cases h; exact ⟨rfl, fun h => absurd h0 h⟩
  ·rintro ⟨rfl, _⟩; rfl
 rw [if_neg h0, if_neg h0]
 have h := lZ (l := l) 2 root [] [] [] Xu
 have e : ([] : List Nat) ++ (List.replicate (8 ^ (2 + 1)) 0 ++ []) = List.replicate 512 0 := by
  show List.replicate 512 0 ++ [] = _; rw [Bt]
 rw [e] at h
 have hlen : ([] : List Nat).length = 0 := rfl
 rw [hlen] at h
 simp only [Dk, Bt] at h
 have ew : (⟨List.replicate 512 0, [], false⟩ : WS) = ws0 := rfl
 rw [ew] at h
 rcases h with ⟨k1, k2, k3⟩ | ⟨k1, k2⟩
 ·rw [k1]
  simp only [Ap, false_or]
  by_cases hc : (tM l 2 root).any (fun b => (tN l 2 root).any (b == ·)) = true
  ·rw [if_pos hc]
   constructor
   ·intro h; cases h
   ·rintro ⟨_, h⟩
    obtain ⟨b, hb, hb2⟩ := Ec.1 hc
    obtain ⟨y, hy, he⟩ := Ec.1 hb2
    have : b = y := by simpa using he
    subst this
    exact absurd hy ((h h0).2.2 b hb)
  ·rw [if_neg hc]
   constructor
   ·intro h; cases h
    exact ⟨rfl, fun _ => ⟨k2, k3, fun b hb hn => hc (Ec.2 ⟨b, hb, Ec.2 ⟨b, hn, by simp⟩⟩)⟩⟩
   ·rintro ⟨rfl, _⟩; rfl
 ·rw [if_pos (.inl k1)]
  constructor
  ·intro h; cases h
  ·rintro ⟨_, h⟩
   exact absurd ⟨(h h0).1, (h h0).2.1⟩ k2
theorem eW {l : List UInt8} {x : Img} (hI : IsImg l x) : ∃ w ws, x.trees = w :: ws ∧ goP l x.sup.root = some w ∧ Oh w.m x.sup.size = false ∧ Trees l (x.recs.map fun r => (r.root, r.size)) ws := by
 have ht := hI.trees
 unfold Img.roots at ht
 cases h : x.trees with
 | nil => rw [h] at ht; exact ht.elim
 | cons w ws => rw [h] at ht; exact ⟨w, ws, rfl, ht.1, ht.2.1, ht.2.2⟩
theorem Trees.len {l : List UInt8} : ∀ {ps : List (Nat × Nat)} {ws : List WS}, Trees l ps ws → ps.length = ws.length
 | [], [], _ => rfl
 | p :: ps, w :: ws, h => by simp [Trees.len h.2.2]
 | [], _ :: _, h => h.elim
 | _ :: _, [], h => h.elim
def core (r : Rec) : Rec := { r with next := 0 }
theorem Xx : ∀ (rs : List Rec) (fs : List Nat) (p : Nat) (acc : List Rec), rs.length ≤ fs.length → (Od rs fs p acc).map core = (rs.reverse ++ acc).map core
 | [], _, _, acc, _ => by simp [Od]
 | r :: rs, [], _, _, h => by simp at h
 | r :: rs, a :: fs, p, acc, h => by
  simp only [Od]
  rw [Xx rs fs a _ (by simpa using h)]
  simp [core]
theorem yY {α : Type} {l : List α} (h : l.Nodup) : l.reverse.Nodup := by
 unfold List.Nodup at h ⊢
 rw [List.pairwise_reverse]
 exact h.imp fun hh => hh.symm
theorem fG : ∀ (rs : List Rec) (fs acc : List Nat), rs.length ≤ fs.length → Ni rs fs acc = (fs.take rs.length).reverse ++ acc
 | [], _, acc, _ => by simp [Ni]
 | r :: rs, [], _, h => by simp at h
 | r :: rs, a :: fs, acc, h => by
  simp only [Ni]
  rw [fG rs fs _ (by simpa using h)]
  simp
theorem Um {α : Type} {f : Rec → α} (hf : ∀ r, f (core r) = f r) {a b : List Rec} (h : a.map core = b.map core) : a.map f = b.map f := by
 have e : ∀ l : List Rec, l.map f = (l.map core).map f := fun l => by rw [Fh]; exact Bn fun r _ => (hf r).symm
 rw [e a, e b, h]
theorem aV {a b : List Rec} (h : a.map core = b.map core) : (∀ r ∈ a, r.kind = 0) → ∀ r ∈ b, r.kind = 0 := by
 intro ha r hr
 have hm : r.kind ∈ b.map Rec.kind := Ca.2 ⟨r, hr, rfl⟩
 rw [← Um (f := Rec.kind) (fun _ => rfl) h] at hm
 obtain ⟨s, hs, he⟩ := Ca.1 hm
 rw [← he]; exact ha s hs
theorem tW {a b : List Rec} (h : a.map core = b.map core) : (a.filter Hl).length = (b.filter Hl).length := by
 have e : ∀ l : List Rec, (l.filter Hl).length = ((l.map core).filter Hl).length := fun l => by
  rw [List.filter_map, Ak]; rfl
 rw [e a, e b, h]
theorem jZ {a b : List Rec} (h : a.map core = b.map core) (hg : Fy a) : Fy b := by
 obtain ⟨h1, h2, h3⟩ := hg
 refine ⟨by rw [← Um (f := Rec.id) (fun _ => rfl) h]; exact h1, aV (a := a.drop 1) (by rw [Ih, Ih, h]) h2, by rw [← tW h]; exact h3⟩
theorem Ww {a b : List Rec} (h : a.map core = b.map core) : a.map (fun r => (r.root, r.size)) = b.map fun r => (r.root, r.size) := Um (f := fun r => (r.root, r.size)) (fun _ => rfl) h
theorem Chain.hd {l : List UInt8} {a : Nat} {rs : List Rec} {bs : List Nat} (h : Chain l a rs bs) : bs.getD 0 default = a := by
 induction h with
 | nil => rfl
 | cons => rfl
theorem Chain.len {l : List UInt8} {a : Nat} {rs : List Rec} {bs : List Nat} (h : Chain l a rs bs) : bs.length = rs.length := by
 induction h with
 | nil => rfl
 | cons _ _ _ _ ih => simp [ih]
theorem Chain.drop' {l : List UInt8} {a : Nat} {rs : List Rec} {bs : List Nat} (h : Chain l a rs bs) : ∀ n, Chain l (bs.getD n default) (rs.drop n) (bs.drop n) := by
 induction h with
 | nil =>
  intro n
  have : (([] : List Nat).getD n default) = 0 := by simp
  rw [this]; simpa using Chain.nil
 | @cons a r rs bs h2 hn hp h ih =>
  intro n
  cases n with
  | zero => exact Chain.cons h2 hn hp h
  | succ n =>
   have := ih n
   simpa using this
theorem Chain.ptr {l : List UInt8} {a : Nat} {rs : List Rec} {bs : List Nat} (h : Chain l a rs bs) : a = 0 ∨ 2 ≤ a ∧ a < nb l := by
 induction h with
 | nil => exact .inl rfl
 | cons h2 hn _ _ => exact .inr ⟨h2, hn⟩
theorem Chain.ptrOk {l : List UInt8} (hd : Dev l) {a : Nat} {rs : List Rec} {bs : List Nat} (h : Chain l a rs bs) : ptrOk a := by
 have := hd.nb
 rcases h.ptr with h | h
 ·exact .inl h
 ·exact .inr ⟨h.1, by omega⟩
theorem fD {l : List UInt8} {x : Img} (hd : Dev l) (hx : x.fit l) {a : Nat} : a ∈ Fm (Dn l x) ↔ 2 ≤ a ∧ a < nb l ∧ ¬ reached l x a := by
 have hlen : (Dn l x).length = nb l := (Rv hx).1
 unfold Fm Ir
 rw [Ld, Kg, hlen, Dj]
 constructor
 ·rintro ⟨h1, h2, h3⟩; exact ⟨h2, h1, (Yz hd hx h1).1 h3⟩
 ·rintro ⟨h1, h2, h3⟩; exact ⟨h2, h1, (Yz hd hx h2).2 h3⟩
structure Frees (l : List UInt8) (x : Img) (ios : List IoV) : Prop where
 fit : WFit (nb l) ios
 free : ∀ y ∈ ios, ¬ reached l x y.at0
theorem Frees.append {l : List UInt8} {x : Img} {a b : List IoV} (ha : Frees l x a) (hb : Frees l x b) : Frees l x (a ++ b) :=
 ⟨fun y hy => (Bg.1 hy).elim (ha.fit y) (hb.fit y), fun y hy => (Bg.1 hy).elim (ha.free y) (hb.free y)⟩
theorem Wr : ∀ (rs : List Rec) (fs : List Nat) (p : Nat), ∀ y ∈ De rs fs p, y.at0 ∈ fs ∧ ∃ r ∈ rs, ∃ q, y = wIo y.at0 (recB { r with next := q })
 | [], _, _, y, h => by simp [De] at h
 | _ :: _, [], _, y, h => by simp [De] at h
 | r :: rs, a :: fs, p, y, h => by
  simp only [De, Au] at h
  rcases h with rfl | h
  ·exact ⟨by simp [wIo], r, by simp, p, rfl⟩
  ·obtain ⟨h1, s, h2, q, h3⟩ := Wr rs fs a y h
   exact ⟨by simp [h1], s, by simp [h2], q, h3⟩
theorem Un {l : List UInt8} {x : Img} {rs : List Rec} {fs : List Nat} {p : Nat} (hf : ∀ a ∈ fs, 2 ≤ a ∧ a < nb l ∧ ¬ reached l x a) : Frees l x (De rs fs p) := by
 constructor
 ·intro y hy
  obtain ⟨h1, r, h2, q, h3⟩ := Wr rs fs p y hy
  refine ⟨(hf _ h1).1, (hf _ h1).2.1, ?_⟩
  rw [h3]; exact eD _
 ·intro y hy
  exact (hf _ (Wr rs fs p y hy).1).2.2
theorem oP {l : List UInt8} {x : Img} {ios : List IoV} {anew : List Rec} {fs : List Nat} {n root size first : Nat} (hd : Dev l) (hI : IsImg l x) (hio : Frees l x ios) (hf : ∀ a ∈ fs, 2 ≤ a ∧ a < nb l ∧ ¬ reached l x a)
  (hnd : (ios.map IoV.at0 ++ fs).Nodup) (hk : anew.length ≤ fs.length) (hr : ∀ r ∈ anew, ∀ q, ptrOk q → ({ r with next := q } : Rec).ok) :
  Chain (Cn l (Ez x.sup x.slot (ios ++ De anew fs (x.blocks.getD n default)) root size first)) (Ds anew fs (x.blocks.getD n default)) (Od anew fs (x.blocks.getD n default) (x.recs.drop n)) (Ni anew fs (x.blocks.drop n)) := by
 have hnb2 : 2 ≤ nb l := by have := hd.nb; omega
 have hall : Frees l x (ios ++ De anew fs (x.blocks.getD n default)) := hio.append (Un hf)
 have hlen := bT (s := x.sup) (slot := x.slot) (root := root) (size := size) (first := first) hnb2 hall.fit
 have hnb : nb (Cn l (Ez x.sup x.slot (ios ++ De anew fs (x.blocks.getD n default)) root size first)) = nb l := by unfold nb; rw [hlen]
 have hat : ((ios ++ De anew fs (x.blocks.getD n default)).map IoV.at0).Nodup := by
  rw [Br, Vf _ _ _ hk]
  exact hnd.sub (List.Sublist.append_left (List.take_sublist _ _) _)
 refine lN anew fs _ _ _ hk ?_ ?_ ((hI.chain.drop' n).ptrOk hd) hr ?_
 ·intro y hy
  exact zN hnb2 hall.fit hat (List.mem_append_right _ hy)
 ·intro a ha
  rw [hnb]
  have := hd.nb
  exact ⟨(hf a ha).1, (hf a ha).2.1, .inr ⟨(hf a ha).1, by have := (hf a ha).2.1; omega⟩⟩
 ·refine (hI.chain.drop' n).frame hnb fun a ha => ?_
  have ha' := Na ha
  exact gM hd hI hall.fit hall.free (hI.chain.range a ha').1 (.inr (.inl ha'))
theorem tQ {bl bl' : List Nat} {ts ts' : List WS} (h : ∀ a, ¬ Ow bl ts a) (ht : ∀ w ∈ ts', w ∈ ts) (hb : ∀ a ∈ bl', a ∈ bl ∨ (∀ w ∈ ts', a ∉ w.nodes ∧ (a ∉ w.m ∨ a = 0))) : ∀ a, ¬ Ow bl' ts' a := by
 rintro a (⟨⟨⟨w, hw, hm⟩, h0⟩, ⟨v, hv, hn⟩ | hb'⟩ | ⟨⟨w, hw, hn⟩, hb'⟩)
 ·exact h a (.inl ⟨⟨⟨w, ht w hw, hm⟩, h0⟩, .inl ⟨v, ht v hv, hn⟩⟩)
 ·rcases hb a hb' with hb' | hb'
  ·exact h a (.inl ⟨⟨⟨w, ht w hw, hm⟩, h0⟩, .inr hb'⟩)
  ·exact ((hb' w hw).2.resolve_right h0) hm
 ·rcases hb a hb' with hb' | hb'
  ·exact h a (.inr ⟨⟨w, ht w hw, hn⟩, hb'⟩)
  ·exact (hb' w hw).1 hn
structure Made (l l' : List UInt8) (x x' : Img) (k n : Nat) : Prop where
 img : IsImg l' x'
 len : l'.length = l.length
 stay : ∀ a, 2 ≤ a → reached l x a → blk l' a = blk l a
 blks : ∀ a ∈ x'.blocks, a ∈ (Fm (Dn l x)).take k ∨ a ∈ x.blocks.drop n
theorem lM {l : List UInt8} {x : Img} {n : Nat} {first : Rec} {wth : Bool} {ios : List IoV} (hd : Dev l) (hI : IsImg l x) (hx : x.fit l) (hfo : wth = true → (core first).ok) (hmk : Iq l x n first wth = .ok ios) {ws : List WS}
  (hg : Fy ((Em x.recs n first wth).reverse ++ x.recs.drop n)) (hws : ∀ w ∈ ws, w ∈ x.trees) (ht : Trees l ((x.sup.root, x.sup.size) :: ((Em x.recs n first wth).reverse ++ x.recs.drop n).map fun r => (r.root, r.size)) ws) :
  (Em x.recs n first wth).length ≤ (Fm (Dn l x)).length ∧ ∃ rs bs fst, rs.map core = ((Em x.recs n first wth).reverse ++ x.recs.drop n).map core ∧ Made l (Cn l ios) x ⟨Vq x.sup x.sup.root x.sup.size fst, 1 - x.slot, rs, bs, ws⟩ (Em x.recs n first wth).length n := by
 unfold Iq at hmk
 split at hmk
 ·cases hmk
 rename_i hgen
 split at hmk
 ·cases hmk
 rename_i hfr
 cases hmk
 generalize hA : Em x.recs n first wth = anew at *
 generalize hF : Fm (Dn l x) = fs at *
 have hnb2 : 2 ≤ nb l := by have := hd.nb; omega
 have hf : ∀ a ∈ fs, 2 ≤ a ∧ a < nb l ∧ ¬ reached l x a := fun a ha => (fD hd hx).1 (hF ▸ ha)
 have hfn : fs.Nodup := by rw [← hF]; exact qB _
 have hro : ∀ r ∈ anew, ∀ q, ptrOk q → ({ r with next := q } : Rec).ok := by
  intro r hr q hq
  have hrok : r.ok ∨ (core r).ok := by
   rw [← hA] at hr
   unfold Em at hr
   rcases Bg.1 hr with hr | hr
   ·exact .inl (hx.recs r (Hn (Ns.1 hr)))
   ·split at hr
    ·rename_i hw
     rw [Bw] at hr; subst hr
     exact .inr (hfo hw)
    ·cases hr
  rcases hrok with h | h
  ·obtain ⟨_, h2, h3, h4, h5⟩ := h; exact ⟨hq, h2, h3, h4, h5⟩
  ·obtain ⟨_, h2, h3, h4, h5⟩ := h; exact ⟨hq, h2, h3, h4, h5⟩
 have hch := oP (ios := []) (n := n) (root := x.sup.root) (size := x.sup.size) (first := Ds anew fs (x.blocks.getD n default)) hd hI ⟨(fun _ h => by cases h), (fun _ h => by cases h)⟩ hf (by simpa using hfn) (by omega) hro
 simp only [Dk] at hch
 have hF0 : Frees l x (De anew fs (x.blocks.getD n default)) := Un hf
 have hbk := fG anew fs (x.blocks.drop n) (by omega)
 have hcore := Xx anew fs (x.blocks.getD n default) (x.recs.drop n) (by omega)
 have hlen := bT (s := x.sup) (slot := x.slot) (root := x.sup.root) (size := x.sup.size) (first := Ds anew fs (x.blocks.getD n default)) hnb2 hF0.fit
 have hnb : nb (Cn l (Ez x.sup x.slot (De anew fs (x.blocks.getD n default)) x.sup.root x.sup.size (Ds anew fs (x.blocks.getD n default)))) = nb l := by unfold nb; rw [hlen]
 have hstay : ∀ a, 2 ≤ a → reached l x a → blk (Cn l (Ez x.sup x.slot (De anew fs (x.blocks.getD n default)) x.sup.root x.sup.size (Ds anew fs (x.blocks.getD n default)))) a = blk l a := fun a h2 hr => gM hd hI hF0.fit hF0.free h2 hr
 refine ⟨by omega, Od anew fs (x.blocks.getD n default) (x.recs.drop n), Ni anew fs (x.blocks.drop n), Ds anew fs (x.blocks.getD n default), hcore, ?_, hlen, hstay, ?_⟩
 ·refine tU hd hI hx hF0.fit ?_ hx.blocks hch ?_ (jZ hcore.symm hg) ?_ ?_
  ·
   obtain ⟨h1, h2, h3, h4, h5⟩ := hx.sup
   refine ⟨⟨by show 1 ≤ x.sup.gen + 1; omega, by show x.sup.gen + 1 ≤ _; omega⟩, h2, h3, h4, ?_⟩
   have := hch.ptr
   rw [hnb] at this
   rw [← hx.blocks] at this
   exact this
  ·rw [hbk, Fs]
   refine ⟨yY (hfn.sub (List.take_sublist _ _)), hI.nodup.sub (List.drop_sublist _ _), ?_⟩
   intro a ha b hb he
   subst he
   exact (hf a (Hn (Ns.1 ha))).2.2 (.inr (.inl (Na hb)))
  ·rw [Ww hcore]
   refine Trees.frame hnb ht fun w hw a ha => ?_
   have hn := (Qc hI w (hws w hw)).1 a ha
   have := hx.tree w (hws w hw)
   exact hstay a (this.1.1.2.2 a ha).1 hn
  ·refine tQ hI.clash hws fun a ha => ?_
   rw [hbk] at ha
   rcases Bg.1 ha with ha | ha
   ·right
    intro w hw
    have hnr := (hf a (Hn (Ns.1 ha))).2.2
    have hnd := Qc hI w (hws w hw)
    refine ⟨fun h => hnr (hnd.1 a h), ?_⟩
    by_cases hm : a ∈ w.m
    ·exact .inr ((hnd.2 a hm).resolve_right hnr)
    ·exact .inl hm
   ·exact .inl (Na ha)
 ·intro a ha
  have ha : a ∈ Ni anew fs (x.blocks.drop n) := ha
  rw [hbk] at ha
  rcases Bg.1 ha with ha | ha
  ·left; rw [hF]; exact Ns.1 ha
  ·exact .inr ha
theorem Aae {l l' : List UInt8} (hd : Dev l) (h : l'.length = l.length) : Dev l' := ⟨by rw [h]; exact hd.1, by rw [h]; exact hd.2⟩
theorem Mx {l : List UInt8} (hl : l.length < 1000000) {x : Img} : lookQ l = .ok x ↔ Dev l ∧ IsImg l x := by
 unfold lookQ
 constructor
 ·intro h
  split at h
  ·rename_i hd; exact ⟨⟨hl, hd⟩, (bV ⟨hl, hd⟩).1 h⟩
  ·cases h
 ·rintro ⟨hd, h⟩
  rw [if_pos hd.2]
  exact (bV hd).2 h
theorem Yc {l : List UInt8} {x : Img} (hd : Dev l) (h : IsImg l x) : x.fit l := lB hd ((bV hd).2 h)
theorem Afh {α : Type} {p : α → Bool} : ∀ (l : List α) (i : Nat), ¬ idxL p l i < 0 → ∃ j, ∃ h : j < l.length, idxL p l i = ((i + j : Nat) : Int) ∧ p l[j] = true ∧ ∀ x ∈ l.take j, p x = false := by
 intro l i h
 rcases Ve (p := p) l i with ⟨h1, _⟩ | h1
 ·rw [h1] at h; exact absurd (by decide) h
 ·exact h1
theorem fF {recs : List Rec} {id : Int} (h : ¬ He recs id < 0) : ∃ j, ∃ hj : j < recs.length, He recs id = (j : Int) ∧ ((recs[j].id : Nat) : Int) = id ∧ recs[j].kind = 0 := by
 obtain ⟨j, hj, h1, h2, _⟩ := Afh recs 0 h
 have h3 := Jj h2
 exact ⟨j, hj, by rw [Da] at h1; exact h1, h3.1, h3.2⟩
theorem Trees.erase {l : List UInt8} : ∀ {ps : List (Nat × Nat)} {ws : List WS} (j : Nat), Trees l ps ws → Trees l (ps.eraseIdx j) (ws.eraseIdx j)
 | [], [], j, _ => by rw [List.eraseIdx_nil, List.eraseIdx_nil]; exact trivial
 | p :: ps, w :: ws, 0, h => h.2.2
 | p :: ps, w :: ws, j + 1, h => ⟨h.1, h.2.1, Trees.erase j h.2.2⟩
 | [], _ :: _, _, h => h.elim
 | _ :: _, [], _, h => h.elim
theorem Trees.get {l : List UInt8} : ∀ {ps : List (Nat × Nat)} {ws : List WS} (j : Nat) (hj : j < ps.length) (hw : j < ws.length), Trees l ps ws → goP l ps[j].1 = some ws[j] ∧ Oh ws[j].m ps[j].2 = false
 | p :: ps, w :: ws, 0, _, _, h => ⟨h.1, h.2.1⟩
 | p :: ps, w :: ws, j + 1, hj, hw, h => by
  simpa using Trees.get j (by simpa using hj) (by simpa using hw) h.2.2
theorem Ta {α : Type} (l : List α) (j : Nat) : l.eraseIdx j = l.take j ++ l.drop (j + 1) := List.eraseIdx_eq_take_drop_succ l j
theorem nR {a b : List Rec} (hs : a.Sublist b) (h : Fy b) : Fy a := by
 obtain ⟨h1, h2, h3⟩ := h
 refine ⟨h1.sub (hs.map _), ?_, Ga (hs.filter Hl).length_le h3⟩
 intro r hr
 cases hs with
 | slnil => simp at hr
 | cons y hs => exact h2 r (by simpa using hs.mem (Na hr))
 | cons_cons y hs => exact h2 r (by simpa using hs.mem (by simpa using hr))
theorem aC {α : Type} {l : List α} (h : l.Nodup) {i j : Nat} (hi : i < l.length) (hj : j < l.length) (he : l[i] = l[j]) : i = j := by
 have hp := List.pairwise_iff_getElem.1 h
 by_cases h1 : i < j
 ·exact absurd he (hp i j hi hj h1)
 by_cases h2 : j < i
 ·exact absurd he.symm (hp j i hj hi h2)
 omega
theorem aG {α β : Type} (f : α → β) : ∀ (l : List α) (j : Nat), (l.eraseIdx j).map f = (l.map f).eraseIdx j
 | [], j => by simp
 | x :: l, 0 => by simp
 | x :: l, j + 1 => by simp [aG f l j]
theorem fJ (recs : List Rec) (r : Rec) : (Em recs 0 r true).reverse ++ recs.drop 0 = r :: recs := by
 unfold Em; simp
theorem eY {f : Rec × WS → SnapV} (hf : ∀ p, f (core p.1, p.2) = f p) {q : Rec × WS → Bool} (hq : ∀ p, q (core p.1, p.2) = q p) : ∀ {a b : List Rec} (ws : List WS), a.map core = b.map core → ((a.zip ws).filter q).map f = ((b.zip ws).filter q).map f
 | [], [], ws, _ => rfl
 | r :: a, s :: b, [], _ => by simp
 | r :: a, s :: b, w :: ws, h => by
  rw [Bc, Bc, List.cons.injEq] at h
  have ih := eY hf hq ws h.2
  have e1 : q (r, w) = q (s, w) := by rw [← hq (r, w), ← hq (s, w), h.1]
  have e2 : f (r, w) = f (s, w) := by rw [← hf (r, w), ← hf (s, w), h.1]
  simp only [Xt, Gg, e1]
  split
  ·rw [Bc, Bc, ih, e2]
  ·exact ih
 | [], _ :: _, _, h => by simp at h
 | _ :: _, [], _, h => by simp at h
theorem rO {b : List UInt8} (h : (Er b).2 = 0) : (Er b).1.ok := by
 unfold Er at h ⊢
 split at h
 ·rename_i h1; exact absurd h h1
 ·rename_i h1
  rw [if_neg h1]
  split at h
  ·rename_i h2; rw [if_pos h2]; exact h2
  ·cases h
theorem Afq {l : List UInt8} {n a v : Nat} (h : (atP l n a v).2 = true) : 2 ≤ a ∧ a < n ∧ (Er (blk l a)).2 = 0 ∧ (Er (blk l a)).1.level = v ∧ ∀ p ∈ Hu l a, ptrOk p := by
 unfold atP at h
 split at h
 ·cases h
 ·have hz := Jj h
  refine ⟨by omega, by omega, hz.1, hz.2, fun p hp => ?_⟩
  have := Ij.1 (rO hz.1).1 p hp
  rwa [Dj] at this
theorem vV {l : List UInt8} : ∀ (v a : Nat), tOk l v a → ∀ b ∈ tM l v a, b = 0 ∨ 2 ≤ b ∧ b < nb l
 | 0, a, h, b, hb => by
  simp only [tM] at hb
  have h1 := (Afq h.1).2.2.2.2 b hb
  have h2 := h.2 b hb
  unfold ptrOk at h1; omega
 | v + 1, a, h, b, hb => by
  simp only [tM, Nq] at hb
  obtain ⟨p, hp, hb⟩ := hb
  split at hb
  ·exact .inl (Et hb)
  ·rename_i h0
   exact vV v p ((h.2 p hp).2 h0) b hb
theorem Ahn {l : List UInt8} {root : Nat} {w : WS} (h : goP l root = some w) : w.m.length = 512 ∧ ∀ a ∈ w.m, a = 0 ∨ 2 ≤ a ∧ a < nb l := by
 obtain ⟨rfl, h2⟩ := goP_iff.1 h
 unfold Acd
 by_cases hr : root = 0
 ·rw [if_pos hr]
  exact ⟨by simp [ws0], fun a ha => .inl (Et (show a ∈ List.replicate 512 0 from ha))⟩
 ·rw [if_neg hr]
  exact ⟨tO l 2 root, fun a ha => vV 2 root (h2 hr).1 a ha⟩
theorem gJ {l l' : List UInt8} {x : Img} (hI : IsImg l x) (hs : ∀ a, 2 ≤ a → reached l x a → blk l' a = blk l a) {w : WS} (hw : w ∈ x.trees) (n : Nat) : Ps l' w.m n = Ps l w.m n := by
 refine Bn fun a ha => ?_
 have ha := Hn ha
 unfold secB
 by_cases h0 : a = 0
 ·rw [if_pos h0, if_pos h0]
 ·rw [if_neg h0, if_neg h0]
  obtain ⟨p, hp, hg⟩ := Trees.mem hI.trees w hw
  exact hs a (((Ahn hg).2 a ha).resolve_left h0).1 (((Qc hI w hw).2 a ha).resolve_left h0)
theorem iB {l l' : List UInt8} {x : Img} (hI : IsImg l x) (hs : ∀ a, 2 ≤ a → reached l x a → blk l' a = blk l a) {rs : List Rec} {ws : List WS} (hws : ∀ w ∈ ws, w ∈ x.trees) (q : Rec × WS → Bool) : ((rs.zip ws).filter q).map (Sl l') = ((rs.zip ws).filter q).map (Sl l) := by
 refine Bn fun p hp => ?_
 unfold Sl
 rw [gJ hI hs (hws p.2 (Lf (Ld.1 hp).1).2)]
theorem lG {l l' : List UInt8} {x : Img} (hI : IsImg l x) (hs : ∀ a, 2 ≤ a → reached l x a → blk l' a = blk l a) {s : Sup} {slot : Nat} {rs rs' : List Rec} {bs : List Nat} {w : WS} {ws : List WS} (hw : w ∈ x.trees) (hws : ∀ w ∈ ws, w ∈ x.trees) (hc : rs.map core = rs'.map core) :
  Hy l' ⟨s, slot, rs, bs, w :: ws⟩ = ⟨Ps l w.m s.size, ((rs'.zip ws).filter fun p => !Qo p).map (Sl l), ((rs'.zip ws).filter Qo).map (Sl l)⟩ := by
 unfold Hy
 simp only [jG, pJ]
 rw [gJ hI hs hw, iB hI hs hws, iB hI hs hws]
 rw [eY (f := Sl l) (fun _ => rfl) (q := fun p => !Qo p) (fun _ => rfl) ws hc, eY (f := Sl l) (fun _ => rfl) (q := Qo) (fun _ => rfl) ws hc]
theorem rV : ∀ (L M : List Nat), L.Nodup → (∀ a ∈ L, a ∈ M) → L.length ≤ M.length
 | [], _, _, _ => by simp
 | a :: L, M, hn, hm => by
  rw [jF] at hn
  have ha := hm a (by simp)
  have := rV L (M.erase a) hn.2 fun b hb => (List.mem_erase_of_ne (fun h => by subst h; exact hn.1 hb)).2 (hm b (by simp [hb]))
  rw [List.length_erase_of_mem ha] at this
  have := List.length_pos_of_mem ha
  simp only [As]; omega
theorem gL {l : List UInt8} (hl : l.length < 1000000) {id : Int} {ios : List IoV} (h : Gw l id = .ok ios) : ∃ x x', Dev l ∧ IsImg l x ∧ createE x.recs id = 0 ∧ Iq l x 0 (Kq x id) true = .ok ios ∧ Made l (Cn l ios) x x' 1 0 ∧ x'.recs.map core = (Kq x id :: x.recs).map core ∧
  x'.sup.root = x.sup.root ∧ x'.sup.size = x.sup.size ∧ x'.sup.gen = x.sup.gen + 1 ∧ (∀ w ∈ x'.trees, w ∈ x.trees) ∧ Hy (Cn l ios) x' = ⟨(Hy l x).head, ⟨id.toNat, Kn x.recs, (Hy l x).head, 0, 0⟩ :: (Hy l x).snaps, (Hy l x).opens⟩ := by
 unfold Gw at h
 split at h
 ·cases h
 rename_i x hlk
 split at h
 ·cases h
 rename_i hc
 have hc := Cw.1 hc
 obtain ⟨hd, hI⟩ := (Mx hl).1 hlk
 have hx := Yc hd hI
 obtain ⟨w, ws, he, h1, h2, h3⟩ := eW hI
 have hmem : ∀ v ∈ w :: w :: ws, v ∈ x.trees := fun v hv => by
  rw [he]; simp only [Au] at hv ⊢; rcases hv with h | h | h <;> simp [h]
 have hg : Fy (Kq x id :: x.recs) := by
  obtain ⟨g1, g2, g3⟩ := hI.good
  have hc' := hc
  unfold createE at hc'
  split at hc'
  ·cases hc'
  rename_i c1
  split at hc'
  ·cases hc'
  rename_i c2
  split at hc'
  ·cases hc'
  rename_i c3
  split at hc'
  ·cases hc'
  rename_i c4
  have hid := Cw.1 c1
  refine ⟨?_, ?_, ?_⟩
  ·rw [Bc, jF]
   refine ⟨fun hm => c3 ?_, g1⟩
   obtain ⟨r, hr, her⟩ := Ca.1 hm
   refine Ec.2 ⟨r, hr, Az ?_⟩
   have her : r.id = id.toNat := her
   have := hid.1
   omega
  ·intro r hr
   have hr : r ∈ x.recs := by simpa using hr
   cases hrs : x.recs with
   | nil => rw [hrs] at hr; cases hr
   | cons y ys =>
    rw [hrs] at hr g2 c2
    rcases Au.1 hr with rfl | hr
    ·have hk := Rec.ok_kind (hx.recs r (by rw [hrs]; simp))
     rcases hk with hk | hk
     ·exact hk
     ·exfalso; apply c2; show (if r.kind = 1 then some r else none).isSome = true; rw [if_pos hk]; rfl
    ·exact g2 r (by simpa using hr)
  ·have := Hb Hl (Kq x id :: x.recs)
   simp only [As] at this
   omega
 obtain ⟨hk, rs, bs, fst, hcore, hm⟩ := lM hd hI hx (fun _ => lX hd hx hc) h (ws := w :: w :: ws) (by rw [fJ]; exact hg) hmem (by
  rw [fJ]
  exact ⟨h1, h2, h1, h2, h3⟩)
 rw [fJ] at hcore
 have hlen : (Em x.recs 0 (Kq x id) true).length = 1 := by unfold Em; simp
 rw [hlen] at hm
 refine ⟨x, _, hd, hI, hc, h, hm, hcore, rfl, rfl, rfl, hmem, ?_⟩
 rw [lG hI hm.stay (hmem w (by simp)) (fun v hv => hmem v (by simp only [Au] at hv ⊢; exact .inr hv)) hcore]
 unfold Hy
 rw [he]
 simp only [jG, pJ, Xt, Gg]
 rw [if_pos (show (!Qo (Kq x id, w)) = true from rfl), if_neg (show ¬ Qo (Kq x id, w) = true from Kv)]
 rfl
theorem qX {l : List UInt8} {s : Sup} {slot : Nat} {ios : List IoV} {root size first : Nat} (hd : Dev l) (hi : WFit (nb l) ios) : Kc l (Ez s slot ios root size first) = 0 := by
 have hn := hd.nb
 unfold Kc
 rw [if_neg (fun h => h hd.2), if_neg]
 intro h
 obtain ⟨x, hx, hxe⟩ := Ec.1 h
 have : Lt (nb l) x := by
  unfold Ez at hx
  rcases Bg.1 hx with hx | hx
  ·obtain ⟨y, hy, rfl⟩ := Ca.1 hx
   have := hi y hy
   exact .inl ⟨rfl, this.2.1, this.2.2⟩
  ·simp only [Au, Kf, dO] at hx
   rcases hx with rfl | rfl | rfl
   ·exact .inr ⟨rfl, rfl, rfl⟩
   ·exact .inl ⟨rfl, by show 1 - slot < nb l; omega, Ki _⟩
   ·exact .inr ⟨rfl, rfl, rfl⟩
 rw [Az this] at hxe
 cases hxe
theorem cX {l : List UInt8} {x : Img} {n : Nat} {first : Rec} {wth : Bool} {ios : List IoV} (hd : Dev l) (hx : x.fit l) (h : Iq l x n first wth = .ok ios) : Kc l ios = 0 := by
 unfold Iq at h
 split at h
 ·cases h
 split at h
 ·cases h
 cases h
 exact qX hd (Un fun a ha => (fD hd hx).1 ha).fit
end Go.Proofs.Ytkaiiopoilpjeaa
