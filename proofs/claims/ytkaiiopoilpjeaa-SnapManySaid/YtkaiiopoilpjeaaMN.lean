/- Lemmas. -/
import Derived.Test.YtkaiiopoilpjeaaMM
import Derived.Test.YtkaiiopoilpjeaaMJ4
import Derived.Test.YtkaiiopoilpjeaaME1
import Derived.Test.YtkaiiopoilpjeaaMD1
set_option linter.unusedSimpArgs false
set_option linter.unusedVariables false
set_option maxRecDepth 10000
namespace Go.Proofs.Ytkaiiopoilpjeaa
open Go.AI
def WFit (n : Nat) (ios : List IoV) : Prop := ∀ y ∈ ios, 2 ≤ y.at0 ∧ y.at0 < n ∧ y.data.length = 64
theorem steps_fit {n : Nat} {s : Sup} {slot : Nat} {ios : List IoV} {root size first : Nat} (hn : 2 ≤ n) (hi : WFit n ios) : ∀ x ∈ stepsL s slot ios root size first, ioFit n x := by
 intro x hx hk
 unfold stepsL at hx
 rcases List.mem_append.1 hx with hx | hx
 ·obtain ⟨y, hy, rfl⟩ := List.mem_map.1 hx
  exact ⟨(hi y hy).2.1, (hi y hy).2.2⟩
 ·simp only [List.mem_cons, List.not_mem_nil, or_false] at hx
  rcases hx with rfl | rfl | rfl
  ·exact absurd hk (by decide)
  ·exact ⟨by show 1 - slot < n; omega, supB_len _⟩
  ·exact absurd hk (by decide)
theorem steps_slot {l : List UInt8} {s : Sup} {slot : Nat} {ios : List IoV} {root size first : Nat} (hn : 2 ≤ nb l) (hi : WFit (nb l) ios) :
  blk (applyP l (stepsL s slot ios root size first)) (1 - slot) = supB (nextS s root size first) := by
 have e : stepsL s slot ios root size first = (iosW ios ++ [flushIo]) ++ wIo (1 - slot) (supB (nextS s root size first)) :: [flushIo] := by
  unfold stepsL; simp
 have hf := steps_fit (s := s) (slot := slot) (root := root) (size := size) (first := first) hn hi
 rw [e] at hf ⊢
 refine applyP_put hf rfl ?_
 intro y hy hk
 rw [List.mem_singleton] at hy
 subst hy
 exact absurd hk (by decide)
theorem steps_keep {l : List UInt8} {s : Sup} {slot : Nat} {ios : List IoV} {root size first b : Nat} (hn : 2 ≤ nb l) (hi : WFit (nb l) ios) (hb : b ≠ 1 - slot) (hbi : ∀ y ∈ ios, y.at0 ≠ b) :
  blk (applyP l (stepsL s slot ios root size first)) b = blk l b := by
 refine applyP_keep _ _ (steps_fit hn hi) ?_
 intro x hx hk
 unfold stepsL at hx
 rcases List.mem_append.1 hx with hx | hx
 ·obtain ⟨y, hy, rfl⟩ := List.mem_map.1 hx
  exact hbi y hy
 ·simp only [List.mem_cons, List.not_mem_nil, or_false] at hx
  rcases hx with rfl | rfl | rfl
  ·exact absurd hk (by decide)
  ·exact fun h => hb h.symm
  ·exact absurd hk (by decide)
theorem steps_put {l : List UInt8} {s : Sup} {slot : Nat} {ios : List IoV} {root size first : Nat} (hn : 2 ≤ nb l) (hi : WFit (nb l) ios) (hd : (ios.map IoV.at0).Nodup) {y : IoV} (hy : y ∈ ios) :
  blk (applyP l (stepsL s slot ios root size first)) y.at0 = y.data := by
 obtain ⟨a, b, rfl⟩ := List.append_of_mem hy
 have e : stepsL s slot (a ++ y :: b) root size first = iosW a ++ wIo y.at0 y.data :: (iosW b ++ [flushIo, wIo (1 - slot) (supB (nextS s root size first)), flushIo]) := by
  unfold stepsL iosW; simp
 have hf := steps_fit (s := s) (slot := slot) (root := root) (size := size) (first := first) hn hi
 rw [e] at hf ⊢
 refine applyP_put (x := wIo y.at0 y.data) hf rfl ?_
 intro z hz hk
 rcases List.mem_append.1 hz with hz | hz
 ·obtain ⟨u, hu, rfl⟩ := List.mem_map.1 hz
  intro h
  rw [List.map_append, List.map_cons] at hd
  have := (List.nodup_append.1 hd).2.1
  rw [List.nodup_cons] at this
  exact this.1 (List.mem_map.2 ⟨u, hu, h⟩)
 ·simp only [List.mem_cons, List.not_mem_nil, or_false] at hz
  rcases hz with rfl | rfl | rfl
  ·exact absurd hk (by decide)
  ·have := (hi y (by simp)).1
   show 1 - slot ≠ y.at0
   omega
  ·exact absurd hk (by decide)
theorem steps_len {l : List UInt8} {s : Sup} {slot : Nat} {ios : List IoV} {root size first : Nat} (hn : 2 ≤ nb l) (hi : WFit (nb l) ios) : (applyP l (stepsL s slot ios root size first)).length = l.length :=
 applyP_len _ _ (steps_fit hn hi)
def newRecs : List Rec → List Nat → Nat → List Rec → List Rec
 | r :: rs, a :: fs, p, acc => newRecs rs fs a ({ r with next := p } :: acc)
 | _, _, _, acc => acc
def newBlks : List Rec → List Nat → List Nat → List Nat
 | _ :: rs, a :: fs, acc => newBlks rs fs (a :: acc)
 | _, _, acc => acc
theorem chain_new {l : List UInt8} : ∀ (rs : List Rec) (fs : List Nat) (p : Nat) (krs : List Rec) (kbs : List Nat), rs.length ≤ fs.length → (∀ y ∈ chainL rs fs p, blk l y.at0 = y.data) → (∀ a ∈ fs, 2 ≤ a ∧ a < nb l ∧ ptrOk a) → ptrOk p →
  (∀ r ∈ rs, ∀ q, ptrOk q → ({ r with next := q } : Rec).ok) → Chain l p krs kbs → Chain l (chainE rs fs p) (newRecs rs fs p krs) (newBlks rs fs kbs)
 | [], _, _, _, _, _, _, _, _, _, h => by simpa [chainE, newRecs, newBlks] using h
 | _ :: _, [], _, _, _, hl, _, _, _, _, _ => by simp at hl
 | r :: rs, a :: fs, p, krs, kbs, hl, hb, hf, hp, hr, h => by
  have ha := hf a (by simp)
  have hb0 := hb (wIo a (recB { r with next := p })) (by simp [chainL])
  have hok := hr r (by simp) p hp
  have hpr : parseRec (blk l a) = ({ r with next := p }, 0) := by
   have : blk l a = recB { r with next := p } := hb0
   rw [this]; exact parseRec_recB hok
  simp only [chainE, newRecs, newBlks]
  exact chain_new rs fs a _ _ (by simpa using hl) (fun y hy => hb y (by simp [chainL, hy])) (fun b hb' => hf b (by simp [hb'])) ha.2.2 (fun q hq => hr q (by simp [hq])) (Chain.cons ha.1 ha.2.1 hpr h)
theorem Trees.frame {l l' : List UInt8} (hn : nb l' = nb l) : ∀ {ps : List (Nat × Nat)} {ws : List WS}, Trees l ps ws → (∀ w ∈ ws, ∀ a ∈ w.nodes, blk l' a = blk l a) → Trees l' ps ws
 | [], [], _, _ => trivial
 | p :: ps, w :: ws, h, hf => ⟨goP_frame hn h.1 (hf w (by simp)), h.2.1, Trees.frame hn h.2.2 fun v hv => hf v (by simp [hv])⟩
 | [], _ :: _, h, _ => h.elim
 | _ :: _, [], h, _ => h.elim
theorem _root_.List.Nodup.sub {α : Type} {l l' : List α} (h : l.Nodup) (hs : l'.Sublist l) : l'.Nodup := List.Pairwise.sublist hs h
theorem freeP_nodup (c : List Nat) : (freeP c).Nodup := List.Nodup.sub List.nodup_range List.filter_sublist
theorem chainL_at : ∀ (rs : List Rec) (fs : List Nat) (p : Nat), rs.length ≤ fs.length → (chainL rs fs p).map IoV.at0 = fs.take rs.length
 | [], _, _, _ => by simp [chainL]
 | _ :: _, [], _, h => by simp at h
 | r :: rs, a :: fs, p, h => by
  simp only [chainL, List.map_cons, List.length_cons, List.take_succ_cons]
  rw [chainL_at rs fs a (by simpa using h)]; rfl
theorem commit_img {l : List UInt8} {x : Img} {ios : List IoV} {root size first : Nat} {rs : List Rec} {bs : List Nat} {ws : List WS} (hd : Dev l) (hI : IsImg l x) (hx : x.fit l) (hi : WFit (nb l) ios)
  (hs : (nextS x.sup root size first).ok) (hblocks : x.sup.blocks = nb l)
  (hch : Chain (applyP l (stepsL x.sup x.slot ios root size first)) first rs bs) (hn : bs.Nodup) (hg : goodRecs rs)
  (ht : Trees (applyP l (stepsL x.sup x.slot ios root size first)) ((root, size) :: rs.map fun r => (r.root, r.size)) ws) (hcl : ∀ a, ¬ clashA bs ws a) :
  IsImg (applyP l (stepsL x.sup x.slot ios root size first)) ⟨nextS x.sup root size first, 1 - x.slot, rs, bs, ws⟩ := by
 have hnb2 : 2 ≤ nb l := by have := hd.nb; omega
 have hlen := steps_len (s := x.sup) (slot := x.slot) (root := root) (size := size) (first := first) hnb2 hi
 have hnb : nb (applyP l (stepsL x.sup x.slot ios root size first)) = nb l := by unfold nb; rw [hlen]
 have hslot := hx.slot
 refine ⟨pick_next hI.pick hs ?_ ?_ hnb ?_ ?_, hch, hn, hg, ht, hcl⟩
 ·rw [hnb]; exact hblocks
 ·show x.sup.gen < x.sup.gen + 1; omega
 ·refine steps_keep hnb2 hi (by omega) ?_
  intro y hy
  have := (hi y hy).1
  omega
 ·exact steps_slot hnb2 hi
def ptrsB (l : List UInt8) (nd : Nat) : List Nat := (parseNod (blk l nd)).1.ptr
def From (l : List UInt8) (root : Nat) (w : WS) : Prop := (∀ a ∈ w.nodes, a = root ∨ ∃ nd ∈ w.nodes, a ∈ ptrsB l nd) ∧ (∀ a ∈ w.m, a = 0 ∨ ∃ nd ∈ w.nodes, a ∈ ptrsB l nd)
theorem stepW_from {l : List UInt8} {root n level frm : Nat} {rec : Nat → Nat → WS → WS} (hr : ∀ p f w, From l root w → (∃ nd ∈ w.nodes, p ∈ ptrsB l nd) → From l root (rec p f w)) {w : WS} (h : From l root w) {i p : Nat} (hp : ∃ nd ∈ w.nodes, p ∈ ptrsB l nd) :
  From l root (stepW n level frm rec w i p) := by
 unfold stepW
 split
 ·exact h
 split
 ·exact h
 split
 ·exact h
 split
 ·refine ⟨h.1, fun a ha => ?_⟩
  rcases List.mem_or_eq_of_mem_set ha with ha | rfl
  ·exact h.2 a ha
  ·exact .inr hp
 ·exact hr _ _ _ h hp
theorem foldW_from {l : List UInt8} {root n level frm : Nat} {rec : Nat → Nat → WS → WS} (hm : ∀ p f w, ∀ x ∈ w.nodes, x ∈ (rec p f w).nodes) (hr : ∀ p f w, From l root w → (∃ nd ∈ w.nodes, p ∈ ptrsB l nd) → From l root (rec p f w)) :
  ∀ (ps : List Nat) (i : Nat) (w : WS), From l root w → (∀ p ∈ ps, ∃ nd ∈ w.nodes, p ∈ ptrsB l nd) → From l root (foldW n level frm rec ps i w)
 | [], _, _, h, _ => h
 | p :: r, i, w, h, hp => by
  simp only [foldW]
  refine foldW_from hm hr r (i + 1) _ (stepW_from hr h (hp p (by simp))) ?_
  intro q hq
  obtain ⟨nd, h1, h2⟩ := hp q (by simp [hq])
  exact ⟨nd, stepW_mono hm w i p nd h1, h2⟩
theorem nodeW_from {l : List UInt8} {root n level at0 frm : Nat} {rec : Nat → Nat → WS → WS} (hm : ∀ p f w, ∀ x ∈ w.nodes, x ∈ (rec p f w).nodes) (hr : ∀ p f w, From l root w → (∃ nd ∈ w.nodes, p ∈ ptrsB l nd) → From l root (rec p f w))
  {w : WS} (h : From l root w) (ha : at0 = root ∨ ∃ nd ∈ w.nodes, at0 ∈ ptrsB l nd) : From l root (nodeW l n level at0 frm rec w) := by
 unfold nodeW
 split
 ·exact h
 ·rename_i hc
  have hat : (atP l n at0 level).1.ptr = ptrsB l at0 := by
   have h2 : (atP l n at0 level).2 = true := by
    cases hh : (atP l n at0 level).2 with
    | true => rfl
    | false => exact absurd (.inl hh) hc
   unfold atP at h2 ⊢
   split
   ·rename_i h3; rw [if_pos h3] at h2; cases h2
   ·rfl
  rw [hat]
  refine foldW_from hm hr _ _ _ ⟨fun a hh => ?_, fun a hh => ?_⟩ fun p hp => ⟨at0, by simp, hp⟩
  ·rcases List.mem_append.1 hh with hh | hh
   ·exact (h.1 a hh).imp id fun ⟨nd, h1, h2⟩ => ⟨nd, by simp [h1], h2⟩
   ·rw [List.mem_singleton] at hh
    subst hh
    exact ha.imp id fun ⟨nd, h1, h2⟩ => ⟨nd, by simp [h1], h2⟩
  ·exact (h.2 a hh).imp id fun ⟨nd, h1, h2⟩ => ⟨nd, by simp [h1], h2⟩
theorem goesP_from {l : List UInt8} {root n : Nat} : ∀ (v at0 frm : Nat) (w : WS), From l root w → (at0 = root ∨ ∃ nd ∈ w.nodes, at0 ∈ ptrsB l nd) → From l root (goesP l n v at0 frm w)
 | 0, _, _, _, h, ha => nodeW_from (fun _ _ _ _ h => h) (fun _ _ _ h _ => h) h ha
 | v + 1, _, _, _, h, ha => nodeW_from (fun p f w => goesP_mono l n v p f w) (fun p f w h hp => goesP_from v p f w h (.inr hp)) h ha
theorem goP_from {l : List UInt8} {root : Nat} {w : WS} (h : goP l root = some w) : From l root w := by
 have h0 : From l root ws0 := ⟨fun a ha => by simp [ws0] at ha, fun a ha => .inl (by have := List.eq_of_mem_replicate (show a ∈ List.replicate 512 0 from ha); exact this)⟩
 unfold goP at h
 split at h
 ·cases h; exact h0
 split at h
 ·cases h
 ·cases h
  exact goesP_from 2 root 0 ws0 h0 (.inl rfl)
theorem Trees.mem {l : List UInt8} : ∀ {ps : List (Nat × Nat)} {ws : List WS}, Trees l ps ws → ∀ w ∈ ws, ∃ p ∈ ps, goP l p.1 = some w
 | [], [], _, _, h => by cases h
 | p :: ps, w :: ws, h, v, hv => by
  rcases List.mem_cons.1 hv with rfl | hv
  ·exact ⟨p, by simp, h.1⟩
  ·obtain ⟨q, h1, h2⟩ := Trees.mem h.2.2 v hv
   exact ⟨q, by simp [h1], h2⟩
 | [], _ :: _, h, _, _ => h.elim
 | _ :: _, [], h, _, _ => h.elim
theorem nodes_reached {l : List UInt8} {x : Img} (hI : IsImg l x) : ∀ w ∈ x.trees, (∀ a ∈ w.nodes, reached l x a) ∧ ∀ a ∈ w.m, a = 0 ∨ reached l x a := by
 intro w hw
 obtain ⟨p, hp, hg⟩ := Trees.mem hI.trees w hw
 obtain ⟨f1, f2⟩ := goP_from hg
 have hroot : p.1 ∈ x.sup.root :: x.recs.map Rec.root := by
  unfold Img.roots at hp
  rcases List.mem_cons.1 hp with rfl | hp
  ·simp
  ·obtain ⟨r, hr, rfl⟩ := List.mem_map.1 hp
   simp only [List.mem_cons, List.mem_map]
   exact .inr ⟨r, hr, rfl⟩
 refine ⟨fun a ha => ?_, fun a ha => ?_⟩
 ·rcases f1 a ha with rfl | ⟨nd, h1, h2⟩
  ·exact .inr (.inr (.inl hroot))
  ·exact .inr (.inr (.inr ⟨w, hw, nd, h1, h2⟩))
 ·rcases f2 a ha with rfl | ⟨nd, h1, h2⟩
  ·exact .inl rfl
  ·exact .inr (.inr (.inr (.inr ⟨w, hw, nd, h1, h2⟩)))
theorem steps_stay {l : List UInt8} {x : Img} {ios : List IoV} {root size first : Nat} (hd : Dev l) (hI : IsImg l x) (hi : WFit (nb l) ios) (hf : ∀ y ∈ ios, ¬ reached l x y.at0) {a : Nat} (ha : 2 ≤ a) (hr : reached l x a) :
  blk (applyP l (stepsL x.sup x.slot ios root size first)) a = blk l a := by
 have hnb2 : 2 ≤ nb l := by have := hd.nb; omega
 refine steps_keep hnb2 hi (by omega) ?_
 intro y hy h
 exact hf y hy (h ▸ hr)
def tM (l : List UInt8) : Nat → Nat → List Nat
 | 0, a => ptrsB l a
 | v + 1, a => (ptrsB l a).flatMap fun p => if p = 0 then List.replicate (8 ^ (v + 1)) 0 else tM l v p
def tN (l : List UInt8) : Nat → Nat → List Nat
 | 0, a => [a]
 | v + 1, a => a :: (ptrsB l a).flatMap fun p => if p = 0 then [] else tN l v p
def tOk (l : List UInt8) : Nat → Nat → Prop
 | 0, a => (atP l (nb l) a 0).2 = true ∧ ∀ p ∈ ptrsB l a, p < nb l
 | v + 1, a => (atP l (nb l) a (v + 1)).2 = true ∧ ∀ p ∈ ptrsB l a, p < nb l ∧ (p ≠ 0 → tOk l v p)
theorem ptrsB_len (l : List UInt8) (a : Nat) : (ptrsB l a).length = 8 := parseNod_len _
theorem flatMap_len {α β : Type} {f : α → List β} {k : Nat} : ∀ (ps : List α), (∀ p ∈ ps, (f p).length = k) → (ps.flatMap f).length = ps.length * k
 | [], _ => by simp
 | p :: ps, h => by
  rw [List.flatMap_cons, List.length_append, h p (by simp), flatMap_len ps (fun q hq => h q (by simp [hq])), List.length_cons, Nat.succ_mul, Nat.add_comm]
theorem tM_len (l : List UInt8) : ∀ (v a : Nat), (tM l v a).length = 8 ^ (v + 1)
 | 0, a => by simp [tM, ptrsB_len]
 | v + 1, a => by
  simp only [tM]
  rw [flatMap_len (k := 8 ^ (v + 1)) _ (fun p _ => by
   split
   ·simp
   ·exact tM_len l v p), ptrsB_len, Nat.pow_succ 8 (v + 1), Nat.mul_comm]
theorem fold_spec {n level frm : Nat} {rec : Nat → Nat → WS → WS} {gm gn : Nat → List Nat} {gok : Nat → Prop} (hlen : ∀ p, (gm p).length = 8 ^ level)
  (hstep : ∀ (A C nodes : List Nat) (p i : Nat), nodes.Nodup → A.length = frm + i * 8 ^ level →
   (stepW n level frm rec ⟨A ++ (List.replicate (8 ^ level) 0 ++ C), nodes, false⟩ i p = ⟨A ++ (gm p ++ C), nodes ++ gn p, false⟩ ∧ gok p ∧ (nodes ++ gn p).Nodup) ∨
   ((stepW n level frm rec ⟨A ++ (List.replicate (8 ^ level) 0 ++ C), nodes, false⟩ i p).bad = true ∧ ¬ (gok p ∧ (nodes ++ gn p).Nodup))) :
  ∀ (ps : List Nat) (A C nodes : List Nat) (i : Nat), nodes.Nodup → A.length = frm + i * 8 ^ level →
   (foldW n level frm rec ps i ⟨A ++ (List.replicate (ps.length * 8 ^ level) 0 ++ C), nodes, false⟩ = ⟨A ++ (ps.flatMap gm ++ C), nodes ++ ps.flatMap gn, false⟩ ∧ (∀ p ∈ ps, gok p) ∧ (nodes ++ ps.flatMap gn).Nodup) ∨
   ((foldW n level frm rec ps i ⟨A ++ (List.replicate (ps.length * 8 ^ level) 0 ++ C), nodes, false⟩).bad = true ∧ ¬ ((∀ p ∈ ps, gok p) ∧ (nodes ++ ps.flatMap gn).Nodup))
 | [], A, C, nodes, i, hn, hA => by
  left
  simp only [foldW, List.length_nil, Nat.zero_mul, List.replicate_zero, List.nil_append, List.flatMap_nil, List.append_nil]
  exact ⟨trivial, (fun p hp => by cases hp), hn⟩
 | p :: ps, A, C, nodes, i, hn, hA => by
  have e1 : List.replicate ((p :: ps).length * 8 ^ level) 0 ++ C = List.replicate (8 ^ level) 0 ++ (List.replicate (ps.length * 8 ^ level) 0 ++ C) := by
   rw [← List.append_assoc, List.replicate_append_replicate, List.length_cons, Nat.succ_mul, Nat.add_comm]
  simp only [foldW]
  rw [e1]
  rcases hstep A (List.replicate (ps.length * 8 ^ level) 0 ++ C) nodes p i hn hA with ⟨h1, h2, h3⟩ | ⟨h1, h2⟩
  ·rw [h1]
   have e2 : A ++ (gm p ++ (List.replicate (ps.length * 8 ^ level) 0 ++ C)) = (A ++ gm p) ++ (List.replicate (ps.length * 8 ^ level) 0 ++ C) := by simp
   have hA2 : (A ++ gm p).length = frm + (i + 1) * 8 ^ level := by rw [List.length_append, hlen, hA, Nat.succ_mul]; omega
   rw [e2]
   rcases fold_spec hlen hstep ps (A ++ gm p) C (nodes ++ gn p) (i + 1) h3 hA2 with ⟨k1, k2, k3⟩ | ⟨k1, k2⟩
   ·left
    refine ⟨?_, ?_, ?_⟩
    ·rw [k1]; simp [List.flatMap_cons]
    ·intro q hq
     rcases List.mem_cons.1 hq with rfl | hq
     ·exact h2
     ·exact k2 q hq
    ·simpa [List.flatMap_cons] using k3
   ·right
    refine ⟨k1, fun hh => k2 ⟨fun q hq => hh.1 q (by simp [hq]), ?_⟩⟩
    simpa [List.flatMap_cons] using hh.2
  ·right
   refine ⟨?_, fun hh => h2 ⟨hh.1 p (by simp), ?_⟩⟩
   ·rw [foldW_bad _ _ h1]; exact h1
   ·have := hh.2
    rw [List.flatMap_cons, ← List.append_assoc, List.nodup_append] at this
    exact this.1
theorem node_spec {l : List UInt8} {level at0 : Nat} {rec : Nat → Nat → WS → WS} {gm gn : Nat → List Nat} {gok : Nat → Prop} (hlen : ∀ p, (gm p).length = 8 ^ level) (A C nodes : List Nat) (hn : nodes.Nodup)
  (hstep : ∀ (A' C nodes : List Nat) (p i : Nat), nodes.Nodup → A'.length = A.length + i * 8 ^ level →
   (stepW (nb l) level A.length rec ⟨A' ++ (List.replicate (8 ^ level) 0 ++ C), nodes, false⟩ i p = ⟨A' ++ (gm p ++ C), nodes ++ gn p, false⟩ ∧ gok p ∧ (nodes ++ gn p).Nodup) ∨
   ((stepW (nb l) level A.length rec ⟨A' ++ (List.replicate (8 ^ level) 0 ++ C), nodes, false⟩ i p).bad = true ∧ ¬ (gok p ∧ (nodes ++ gn p).Nodup))) :
  (nodeW l (nb l) level at0 A.length rec ⟨A ++ (List.replicate (8 ^ (level + 1)) 0 ++ C), nodes, false⟩ = ⟨A ++ ((ptrsB l at0).flatMap gm ++ C), nodes ++ (at0 :: (ptrsB l at0).flatMap gn), false⟩ ∧ ((atP l (nb l) at0 level).2 = true ∧ ∀ p ∈ ptrsB l at0, gok p) ∧ (nodes ++ (at0 :: (ptrsB l at0).flatMap gn)).Nodup) ∨
  ((nodeW l (nb l) level at0 A.length rec ⟨A ++ (List.replicate (8 ^ (level + 1)) 0 ++ C), nodes, false⟩).bad = true ∧ ¬ (((atP l (nb l) at0 level).2 = true ∧ ∀ p ∈ ptrsB l at0, gok p) ∧ (nodes ++ (at0 :: (ptrsB l at0).flatMap gn)).Nodup)) := by
 unfold nodeW
 by_cases hc : (atP l (nb l) at0 level).2 = false ∨ nodes.any (at0 == ·) = true
 ·right
  refine ⟨by rw [if_pos hc], fun hh => ?_⟩
  rcases hc with hc | hc
  ·rw [hh.1.1] at hc; cases hc
  ·obtain ⟨y, hy, he⟩ := List.any_eq_true.1 hc
   have : at0 = y := by simpa using he
   subst this
   have h2 := hh.2
   rw [List.nodup_append] at h2
   exact h2.2.2 at0 hy at0 (by simp) rfl
 ·rw [if_neg hc]
  have hat2 : (atP l (nb l) at0 level).2 = true := by
   cases hh : (atP l (nb l) at0 level).2 with
   | true => rfl
   | false => exact absurd (.inl hh) hc
  have hat : (atP l (nb l) at0 level).1.ptr = ptrsB l at0 := by
   have h2 := hat2
   unfold atP at h2 ⊢
   split
   ·rename_i h3; rw [if_pos h3] at h2; cases h2
   ·rfl
  have hnot : at0 ∉ nodes := fun h => hc (.inr (List.any_eq_true.2 ⟨at0, h, by simp⟩))
  have hn2 : (nodes ++ [at0]).Nodup := by
   rw [List.nodup_append]
   exact ⟨hn, by simp, fun x hx y hy he => by rw [List.mem_singleton] at hy; subst hy; subst he; exact hnot hx⟩
  rw [hat]
  have hl8 : 8 ^ (level + 1) = (ptrsB l at0).length * 8 ^ level := by rw [ptrsB_len, Nat.pow_succ, Nat.mul_comm]
  rw [hl8]
  rcases fold_spec hlen hstep (ptrsB l at0) A C (nodes ++ [at0]) 0 hn2 (by omega) with ⟨k1, k2, k3⟩ | ⟨k1, k2⟩
  ·left
   refine ⟨?_, ⟨hat2, k2⟩, by simpa using k3⟩
   rw [k1]; simp
  ·right
   exact ⟨k1, fun hh => k2 ⟨hh.1.2, by simpa using hh.2⟩⟩
theorem set_mid (A C : List Nat) (x y : Nat) : (A ++ (x :: C)).set A.length y = A ++ (y :: C) := by
 rw [List.set_append_right _ _ (Nat.le_refl _), Nat.sub_self]; rfl
theorem goes_spec {l : List UInt8} : ∀ (v at0 : Nat) (A C nodes : List Nat), nodes.Nodup →
  (goesP l (nb l) v at0 A.length ⟨A ++ (List.replicate (8 ^ (v + 1)) 0 ++ C), nodes, false⟩ = ⟨A ++ (tM l v at0 ++ C), nodes ++ tN l v at0, false⟩ ∧ tOk l v at0 ∧ (nodes ++ tN l v at0).Nodup) ∨
  ((goesP l (nb l) v at0 A.length ⟨A ++ (List.replicate (8 ^ (v + 1)) 0 ++ C), nodes, false⟩).bad = true ∧ ¬ (tOk l v at0 ∧ (nodes ++ tN l v at0).Nodup))
 | 0, at0, A, C, nodes, hn => by
  have h := node_spec (l := l) (level := 0) (at0 := at0) (rec := fun _ _ w => w) (gm := fun p => [p]) (gn := fun _ => []) (gok := fun p => p < nb l) (fun p => rfl) A C nodes hn (by
   intro A' C nodes p i hn hA
   unfold stepW
   simp only [Bool.false_eq_true, if_false, List.append_nil]
   by_cases h1 : nb l ≤ p
   ·right
    rw [if_pos h1]
    exact ⟨rfl, fun hh => by have := hh.1; omega⟩
   ·left
    rw [if_neg h1]
    refine ⟨?_, by omega, hn⟩
    by_cases h2 : p = 0
    ·rw [if_pos h2, h2]; rfl
    ·rw [if_neg h2, if_pos trivial, ← hA]
     congr 1
     exact set_mid A' C 0 p)
  have e1 : (ptrsB l at0).flatMap (fun p => [p]) = ptrsB l at0 := by simp
  have e2 : (ptrsB l at0).flatMap (fun _ => ([] : List Nat)) = [] := by simp
  rw [e1, e2] at h
  exact h
 | v + 1, at0, A, C, nodes, hn => by
  refine node_spec (l := l) (level := v + 1) (at0 := at0) (rec := goesP l (nb l) v) (gm := fun p => if p = 0 then List.replicate (8 ^ (v + 1)) 0 else tM l v p) (gn := fun p => if p = 0 then [] else tN l v p) (gok := fun p => p < nb l ∧ (p ≠ 0 → tOk l v p)) ?_ A C nodes hn ?_
  ·intro p
   show (if p = 0 then List.replicate (8 ^ (v + 1)) 0 else tM l v p).length = _
   split
   ·simp
   ·exact tM_len l v p
  ·intro A' C nodes p i hn hA
   unfold stepW
   simp only [Bool.false_eq_true, if_false]
   by_cases h1 : nb l ≤ p
   ·right
    rw [if_pos h1]
    exact ⟨rfl, fun hh => by have := hh.1.1; omega⟩
   ·rw [if_neg h1]
    by_cases h2 : p = 0
    ·left
     rw [if_pos h2, if_pos h2, if_pos h2, List.append_nil]
     exact ⟨rfl, ⟨by omega, fun h => absurd h2 h⟩, hn⟩
    ·rw [if_neg h2, if_neg h2, if_neg h2, if_neg (by omega), ← hA]
     rcases goes_spec v p A' C nodes hn with ⟨k1, k2, k3⟩ | ⟨k1, k2⟩
     ·left; exact ⟨k1, ⟨by omega, fun _ => k2⟩, k3⟩
     ·right; exact ⟨k1, fun hh => k2 ⟨hh.1.2 h2, hh.2⟩⟩
def tree3 (l : List UInt8) (root : Nat) : WS := if root = 0 then ws0 else ⟨tM l 2 root, tN l 2 root, false⟩
theorem goP_iff {l : List UInt8} {root : Nat} {w : WS} : goP l root = some w ↔ w = tree3 l root ∧ (root ≠ 0 → tOk l 2 root ∧ (tN l 2 root).Nodup ∧ ∀ b ∈ tM l 2 root, b ∉ tN l 2 root) := by
 unfold goP tree3
 by_cases h0 : root = 0
 ·rw [if_pos h0, if_pos h0]
  constructor
  ·intro h; cases h; exact ⟨rfl, fun h => absurd h0 h⟩
  ·rintro ⟨rfl, _⟩; rfl
 rw [if_neg h0, if_neg h0]
 have h := goes_spec (l := l) 2 root [] [] [] List.nodup_nil
 have e : ([] : List Nat) ++ (List.replicate (8 ^ (2 + 1)) 0 ++ []) = List.replicate 512 0 := by
  show List.replicate 512 0 ++ [] = _; rw [List.append_nil]
 rw [e] at h
 have hlen : ([] : List Nat).length = 0 := rfl
 rw [hlen] at h
 simp only [List.nil_append, List.append_nil] at h
 have ew : (⟨List.replicate 512 0, [], false⟩ : WS) = ws0 := rfl
 rw [ew] at h
 rcases h with ⟨k1, k2, k3⟩ | ⟨k1, k2⟩
 ·rw [k1]
  simp only [Bool.false_eq_true, false_or]
  by_cases hc : (tM l 2 root).any (fun b => (tN l 2 root).any (b == ·)) = true
  ·rw [if_pos hc]
   constructor
   ·intro h; cases h
   ·rintro ⟨_, h⟩
    obtain ⟨b, hb, hb2⟩ := List.any_eq_true.1 hc
    obtain ⟨y, hy, he⟩ := List.any_eq_true.1 hb2
    have : b = y := by simpa using he
    subst this
    exact absurd hy ((h h0).2.2 b hb)
  ·rw [if_neg hc]
   constructor
   ·intro h; cases h
    exact ⟨rfl, fun _ => ⟨k2, k3, fun b hb hn => hc (List.any_eq_true.2 ⟨b, hb, List.any_eq_true.2 ⟨b, hn, by simp⟩⟩)⟩⟩
   ·rintro ⟨rfl, _⟩; rfl
 ·rw [if_pos (.inl k1)]
  constructor
  ·intro h; cases h
  ·rintro ⟨_, h⟩
   exact absurd ⟨(h h0).1, (h h0).2.1⟩ k2
theorem trees_head {l : List UInt8} {x : Img} (hI : IsImg l x) : ∃ w ws, x.trees = w :: ws ∧ goP l x.sup.root = some w ∧ beyondP w.m x.sup.size = false ∧ Trees l (x.recs.map fun r => (r.root, r.size)) ws := by
 have ht := hI.trees
 unfold Img.roots at ht
 cases h : x.trees with
 | nil => rw [h] at ht; exact ht.elim
 | cons w ws => rw [h] at ht; exact ⟨w, ws, rfl, ht.1, ht.2.1, ht.2.2⟩
theorem Trees.len {l : List UInt8} : ∀ {ps : List (Nat × Nat)} {ws : List WS}, Trees l ps ws → ps.length = ws.length
 | [], [], _ => rfl
 | p :: ps, w :: ws, h => by simp [Trees.len h.2.2]
 | [], _ :: _, h => h.elim
 | _ :: _, [], h => h.elim
def core (r : Rec) : Rec := { r with next := 0 }
theorem newRecs_core : ∀ (rs : List Rec) (fs : List Nat) (p : Nat) (acc : List Rec), rs.length ≤ fs.length → (newRecs rs fs p acc).map core = (rs.reverse ++ acc).map core
 | [], _, _, acc, _ => by simp [newRecs]
 | r :: rs, [], _, _, h => by simp at h
 | r :: rs, a :: fs, p, acc, h => by
  simp only [newRecs]
  rw [newRecs_core rs fs a _ (by simpa using h)]
  simp [core]
theorem nodup_rev {α : Type} {l : List α} (h : l.Nodup) : l.reverse.Nodup := by
 unfold List.Nodup at h ⊢
 rw [List.pairwise_reverse]
 exact h.imp fun hh => hh.symm
theorem newBlks_eq : ∀ (rs : List Rec) (fs acc : List Nat), rs.length ≤ fs.length → newBlks rs fs acc = (fs.take rs.length).reverse ++ acc
 | [], _, acc, _ => by simp [newBlks]
 | r :: rs, [], _, h => by simp at h
 | r :: rs, a :: fs, acc, h => by
  simp only [newBlks]
  rw [newBlks_eq rs fs _ (by simpa using h)]
  simp
theorem core_map {α : Type} {f : Rec → α} (hf : ∀ r, f (core r) = f r) {a b : List Rec} (h : a.map core = b.map core) : a.map f = b.map f := by
 have e : ∀ l : List Rec, l.map f = (l.map core).map f := fun l => by rw [List.map_map]; exact List.map_congr_left fun r _ => (hf r).symm
 rw [e a, e b, h]
theorem core_kind {a b : List Rec} (h : a.map core = b.map core) : (∀ r ∈ a, r.kind = 0) → ∀ r ∈ b, r.kind = 0 := by
 intro ha r hr
 have hm : r.kind ∈ b.map Rec.kind := List.mem_map.2 ⟨r, hr, rfl⟩
 rw [← core_map (f := Rec.kind) (fun _ => rfl) h] at hm
 obtain ⟨s, hs, he⟩ := List.mem_map.1 hm
 rw [← he]; exact ha s hs
theorem core_whole {a b : List Rec} (h : a.map core = b.map core) : (a.filter wholeR).length = (b.filter wholeR).length := by
 have e : ∀ l : List Rec, (l.filter wholeR).length = ((l.map core).filter wholeR).length := fun l => by
  rw [List.filter_map, List.length_map]; rfl
 rw [e a, e b, h]
theorem goodRecs_core {a b : List Rec} (h : a.map core = b.map core) (hg : goodRecs a) : goodRecs b := by
 obtain ⟨h1, h2, h3⟩ := hg
 refine ⟨by rw [← core_map (f := Rec.id) (fun _ => rfl) h]; exact h1, core_kind (a := a.drop 1) (by rw [List.map_drop, List.map_drop, h]) h2, by rw [← core_whole h]; exact h3⟩
theorem core_roots {a b : List Rec} (h : a.map core = b.map core) : a.map (fun r => (r.root, r.size)) = b.map fun r => (r.root, r.size) := core_map (f := fun r => (r.root, r.size)) (fun _ => rfl) h
theorem Chain.hd {l : List UInt8} {a : Nat} {rs : List Rec} {bs : List Nat} (h : Chain l a rs bs) : bs.getD 0 default = a := by
 induction h with
 | nil => rfl
 | cons => rfl
theorem Chain.len {l : List UInt8} {a : Nat} {rs : List Rec} {bs : List Nat} (h : Chain l a rs bs) : bs.length = rs.length := by
 induction h with
 | nil => rfl
 | cons _ _ _ _ ih => simp [ih]
theorem Chain.drop' {l : List UInt8} {a : Nat} {rs : List Rec} {bs : List Nat} (h : Chain l a rs bs) : ∀ n, Chain l (bs.getD n default) (rs.drop n) (bs.drop n) := by
 induction h with
 | nil =>
  intro n
  have : (([] : List Nat).getD n default) = 0 := by simp
  rw [this]; simpa using Chain.nil
 | @cons a r rs bs h2 hn hp h ih =>
  intro n
  cases n with
  | zero => exact Chain.cons h2 hn hp h
  | succ n =>
   have := ih n
   simpa using this
theorem Chain.ptr {l : List UInt8} {a : Nat} {rs : List Rec} {bs : List Nat} (h : Chain l a rs bs) : a = 0 ∨ 2 ≤ a ∧ a < nb l := by
 induction h with
 | nil => exact .inl rfl
 | cons h2 hn _ _ => exact .inr ⟨h2, hn⟩
theorem Chain.ptrOk {l : List UInt8} (hd : Dev l) {a : Nat} {rs : List Rec} {bs : List Nat} (h : Chain l a rs bs) : ptrOk a := by
 have := hd.nb
 rcases h.ptr with h | h
 ·exact .inl h
 ·exact .inr ⟨h.1, by omega⟩
theorem mem_free {l : List UInt8} {x : Img} (hd : Dev l) (hx : x.fit l) {a : Nat} : a ∈ freeP (countsP l x) ↔ 2 ≤ a ∧ a < nb l ∧ ¬ reached l x a := by
 have hlen : (countsP l x).length = nb l := (countsP_cb hx).1
 unfold freeP isFree
 rw [List.mem_filter, List.mem_range, hlen, decide_eq_true_eq]
 constructor
 ·rintro ⟨h1, h2, h3⟩; exact ⟨h2, h1, (countsP_zero hd hx h1).1 h3⟩
 ·rintro ⟨h1, h2, h3⟩; exact ⟨h2, h1, (countsP_zero hd hx h2).2 h3⟩
structure Frees (l : List UInt8) (x : Img) (ios : List IoV) : Prop where
 fit : WFit (nb l) ios
 free : ∀ y ∈ ios, ¬ reached l x y.at0
theorem Frees.append {l : List UInt8} {x : Img} {a b : List IoV} (ha : Frees l x a) (hb : Frees l x b) : Frees l x (a ++ b) :=
 ⟨fun y hy => (List.mem_append.1 hy).elim (ha.fit y) (hb.fit y), fun y hy => (List.mem_append.1 hy).elim (ha.free y) (hb.free y)⟩
theorem chainL_mem : ∀ (rs : List Rec) (fs : List Nat) (p : Nat), ∀ y ∈ chainL rs fs p, y.at0 ∈ fs ∧ ∃ r ∈ rs, ∃ q, y = wIo y.at0 (recB { r with next := q })
 | [], _, _, y, h => by simp [chainL] at h
 | _ :: _, [], _, y, h => by simp [chainL] at h
 | r :: rs, a :: fs, p, y, h => by
  simp only [chainL, List.mem_cons] at h
  rcases h with rfl | h
  ·exact ⟨by simp [wIo], r, by simp, p, rfl⟩
  ·obtain ⟨h1, s, h2, q, h3⟩ := chainL_mem rs fs a y h
   exact ⟨by simp [h1], s, by simp [h2], q, h3⟩
theorem frees_chain {l : List UInt8} {x : Img} {rs : List Rec} {fs : List Nat} {p : Nat} (hf : ∀ a ∈ fs, 2 ≤ a ∧ a < nb l ∧ ¬ reached l x a) : Frees l x (chainL rs fs p) := by
 constructor
 ·intro y hy
  obtain ⟨h1, r, h2, q, h3⟩ := chainL_mem rs fs p y hy
  refine ⟨(hf _ h1).1, (hf _ h1).2.1, ?_⟩
  rw [h3]; exact recB_len _
 ·intro y hy
  exact (hf _ (chainL_mem rs fs p y hy).1).2.2
theorem chain_commit {l : List UInt8} {x : Img} {ios : List IoV} {anew : List Rec} {fs : List Nat} {n root size first : Nat} (hd : Dev l) (hI : IsImg l x) (hio : Frees l x ios) (hf : ∀ a ∈ fs, 2 ≤ a ∧ a < nb l ∧ ¬ reached l x a)
  (hnd : (ios.map IoV.at0 ++ fs).Nodup) (hk : anew.length ≤ fs.length) (hr : ∀ r ∈ anew, ∀ q, ptrOk q → ({ r with next := q } : Rec).ok) :
  Chain (applyP l (stepsL x.sup x.slot (ios ++ chainL anew fs (x.blocks.getD n default)) root size first)) (chainE anew fs (x.blocks.getD n default)) (newRecs anew fs (x.blocks.getD n default) (x.recs.drop n)) (newBlks anew fs (x.blocks.drop n)) := by
 have hnb2 : 2 ≤ nb l := by have := hd.nb; omega
 have hall : Frees l x (ios ++ chainL anew fs (x.blocks.getD n default)) := hio.append (frees_chain hf)
 have hlen := steps_len (s := x.sup) (slot := x.slot) (root := root) (size := size) (first := first) hnb2 hall.fit
 have hnb : nb (applyP l (stepsL x.sup x.slot (ios ++ chainL anew fs (x.blocks.getD n default)) root size first)) = nb l := by unfold nb; rw [hlen]
 have hat : ((ios ++ chainL anew fs (x.blocks.getD n default)).map IoV.at0).Nodup := by
  rw [List.map_append, chainL_at _ _ _ hk]
  exact hnd.sub (List.Sublist.append_left (List.take_sublist _ _) _)
 refine chain_new anew fs _ _ _ hk ?_ ?_ ((hI.chain.drop' n).ptrOk hd) hr ?_
 ·intro y hy
  exact steps_put hnb2 hall.fit hat (List.mem_append_right _ hy)
 ·intro a ha
  rw [hnb]
  have := hd.nb
  exact ⟨(hf a ha).1, (hf a ha).2.1, .inr ⟨(hf a ha).1, by have := (hf a ha).2.1; omega⟩⟩
 ·refine (hI.chain.drop' n).frame hnb fun a ha => ?_
  have ha' := List.mem_of_mem_drop ha
  exact steps_stay hd hI hall.fit hall.free (hI.chain.range a ha').1 (.inr (.inl ha'))
theorem clash_mono {bl bl' : List Nat} {ts ts' : List WS} (h : ∀ a, ¬ clashA bl ts a) (ht : ∀ w ∈ ts', w ∈ ts) (hb : ∀ a ∈ bl', a ∈ bl ∨ (∀ w ∈ ts', a ∉ w.nodes ∧ (a ∉ w.m ∨ a = 0))) : ∀ a, ¬ clashA bl' ts' a := by
 rintro a (⟨⟨⟨w, hw, hm⟩, h0⟩, ⟨v, hv, hn⟩ | hb'⟩ | ⟨⟨w, hw, hn⟩, hb'⟩)
 ·exact h a (.inl ⟨⟨⟨w, ht w hw, hm⟩, h0⟩, .inl ⟨v, ht v hv, hn⟩⟩)
 ·rcases hb a hb' with hb' | hb'
  ·exact h a (.inl ⟨⟨⟨w, ht w hw, hm⟩, h0⟩, .inr hb'⟩)
  ·exact ((hb' w hw).2.resolve_right h0) hm
 ·rcases hb a hb' with hb' | hb'
  ·exact h a (.inr ⟨⟨w, ht w hw, hn⟩, hb'⟩)
  ·exact (hb' w hw).1 hn
structure Made (l l' : List UInt8) (x x' : Img) (k n : Nat) : Prop where
 img : IsImg l' x'
 len : l'.length = l.length
 stay : ∀ a, 2 ≤ a → reached l x a → blk l' a = blk l a
 blks : ∀ a ∈ x'.blocks, a ∈ (freeP (countsP l x)).take k ∨ a ∈ x.blocks.drop n
theorem makes_img {l : List UInt8} {x : Img} {n : Nat} {first : Rec} {wth : Bool} {ios : List IoV} (hd : Dev l) (hI : IsImg l x) (hx : x.fit l) (hfo : wth = true → (core first).ok) (hmk : makesP l x n first wth = .ok ios) {ws : List WS}
  (hg : goodRecs ((anewP x.recs n first wth).reverse ++ x.recs.drop n)) (hws : ∀ w ∈ ws, w ∈ x.trees) (ht : Trees l ((x.sup.root, x.sup.size) :: ((anewP x.recs n first wth).reverse ++ x.recs.drop n).map fun r => (r.root, r.size)) ws) :
  (anewP x.recs n first wth).length ≤ (freeP (countsP l x)).length ∧ ∃ rs bs fst, rs.map core = ((anewP x.recs n first wth).reverse ++ x.recs.drop n).map core ∧ Made l (applyP l ios) x ⟨nextS x.sup x.sup.root x.sup.size fst, 1 - x.slot, rs, bs, ws⟩ (anewP x.recs n first wth).length n := by
 unfold makesP at hmk
 split at hmk
 ·cases hmk
 rename_i hgen
 split at hmk
 ·cases hmk
 rename_i hfr
 cases hmk
 generalize hA : anewP x.recs n first wth = anew at *
 generalize hF : freeP (countsP l x) = fs at *
 have hnb2 : 2 ≤ nb l := by have := hd.nb; omega
 have hf : ∀ a ∈ fs, 2 ≤ a ∧ a < nb l ∧ ¬ reached l x a := fun a ha => (mem_free hd hx).1 (hF ▸ ha)
 have hfn : fs.Nodup := by rw [← hF]; exact freeP_nodup _
 have hro : ∀ r ∈ anew, ∀ q, ptrOk q → ({ r with next := q } : Rec).ok := by
  intro r hr q hq
  have hrok : r.ok ∨ (core r).ok := by
   rw [← hA] at hr
   unfold anewP at hr
   rcases List.mem_append.1 hr with hr | hr
   ·exact .inl (hx.recs r (List.mem_of_mem_take (List.mem_reverse.1 hr)))
   ·split at hr
    ·rename_i hw
     rw [List.mem_singleton] at hr; subst hr
     exact .inr (hfo hw)
    ·cases hr
  rcases hrok with h | h
  ·obtain ⟨_, h2, h3, h4, h5⟩ := h; exact ⟨hq, h2, h3, h4, h5⟩
  ·obtain ⟨_, h2, h3, h4, h5⟩ := h; exact ⟨hq, h2, h3, h4, h5⟩
 have hch := chain_commit (ios := []) (n := n) (root := x.sup.root) (size := x.sup.size) (first := chainE anew fs (x.blocks.getD n default)) hd hI ⟨(fun _ h => by cases h), (fun _ h => by cases h)⟩ hf (by simpa using hfn) (by omega) hro
 simp only [List.nil_append] at hch
 have hF0 : Frees l x (chainL anew fs (x.blocks.getD n default)) := frees_chain hf
 have hbk := newBlks_eq anew fs (x.blocks.drop n) (by omega)
 have hcore := newRecs_core anew fs (x.blocks.getD n default) (x.recs.drop n) (by omega)
 have hlen := steps_len (s := x.sup) (slot := x.slot) (root := x.sup.root) (size := x.sup.size) (first := chainE anew fs (x.blocks.getD n default)) hnb2 hF0.fit
 have hnb : nb (applyP l (stepsL x.sup x.slot (chainL anew fs (x.blocks.getD n default)) x.sup.root x.sup.size (chainE anew fs (x.blocks.getD n default)))) = nb l := by unfold nb; rw [hlen]
 have hstay : ∀ a, 2 ≤ a → reached l x a → blk (applyP l (stepsL x.sup x.slot (chainL anew fs (x.blocks.getD n default)) x.sup.root x.sup.size (chainE anew fs (x.blocks.getD n default)))) a = blk l a := fun a h2 hr => steps_stay hd hI hF0.fit hF0.free h2 hr
 refine ⟨by omega, newRecs anew fs (x.blocks.getD n default) (x.recs.drop n), newBlks anew fs (x.blocks.drop n), chainE anew fs (x.blocks.getD n default), hcore, ?_, hlen, hstay, ?_⟩
 ·refine commit_img hd hI hx hF0.fit ?_ hx.blocks hch ?_ (goodRecs_core hcore.symm hg) ?_ ?_
  ·
   obtain ⟨h1, h2, h3, h4, h5⟩ := hx.sup
   refine ⟨⟨by show 1 ≤ x.sup.gen + 1; omega, by show x.sup.gen + 1 ≤ _; omega⟩, h2, h3, h4, ?_⟩
   have := hch.ptr
   rw [hnb] at this
   rw [← hx.blocks] at this
   exact this
  ·rw [hbk, List.nodup_append]
   refine ⟨nodup_rev (hfn.sub (List.take_sublist _ _)), hI.nodup.sub (List.drop_sublist _ _), ?_⟩
   intro a ha b hb he
   subst he
   exact (hf a (List.mem_of_mem_take (List.mem_reverse.1 ha))).2.2 (.inr (.inl (List.mem_of_mem_drop hb)))
  ·rw [core_roots hcore]
   refine Trees.frame hnb ht fun w hw a ha => ?_
   have hn := (nodes_reached hI w (hws w hw)).1 a ha
   have := hx.tree w (hws w hw)
   exact hstay a (this.1.1.2.2 a ha).1 hn
  ·refine clash_mono hI.clash hws fun a ha => ?_
   rw [hbk] at ha
   rcases List.mem_append.1 ha with ha | ha
   ·right
    intro w hw
    have hnr := (hf a (List.mem_of_mem_take (List.mem_reverse.1 ha))).2.2
    have hnd := nodes_reached hI w (hws w hw)
    refine ⟨fun h => hnr (hnd.1 a h), ?_⟩
    by_cases hm : a ∈ w.m
    ·exact .inr ((hnd.2 a hm).resolve_right hnr)
    ·exact .inl hm
   ·exact .inl (List.mem_of_mem_drop ha)
 ·intro a ha
  have ha : a ∈ newBlks anew fs (x.blocks.drop n) := ha
  rw [hbk] at ha
  rcases List.mem_append.1 ha with ha | ha
  ·left; rw [hF]; exact List.mem_reverse.1 ha
  ·exact .inr ha
theorem dev_of {l l' : List UInt8} (hd : Dev l) (h : l'.length = l.length) : Dev l' := ⟨by rw [h]; exact hd.1, by rw [h]; exact hd.2⟩
theorem lookQ_iff {l : List UInt8} (hl : l.length < 1000000) {x : Img} : lookQ l = .ok x ↔ Dev l ∧ IsImg l x := by
 unfold lookQ
 constructor
 ·intro h
  split at h
  ·rename_i hd; exact ⟨⟨hl, hd⟩, (lookP_iff ⟨hl, hd⟩).1 h⟩
  ·cases h
 ·rintro ⟨hd, h⟩
  rw [if_pos hd.2]
  exact (lookP_iff hd).2 h
theorem img_fit {l : List UInt8} {x : Img} (hd : Dev l) (h : IsImg l x) : x.fit l := lookP_fit hd ((lookP_iff hd).2 h)
theorem idxL_eq {α : Type} {p : α → Bool} : ∀ (l : List α) (i : Nat), ¬ idxL p l i < 0 → ∃ j, ∃ h : j < l.length, idxL p l i = ((i + j : Nat) : Int) ∧ p l[j] = true ∧ ∀ x ∈ l.take j, p x = false := by
 intro l i h
 rcases idxL_spec (p := p) l i with ⟨h1, _⟩ | h1
 ·rw [h1] at h; exact absurd (by decide) h
 ·exact h1
theorem findP_spec {recs : List Rec} {id : Int} (h : ¬ findP recs id < 0) : ∃ j, ∃ hj : j < recs.length, findP recs id = (j : Int) ∧ ((recs[j].id : Nat) : Int) = id ∧ recs[j].kind = 0 := by
 obtain ⟨j, hj, h1, h2, _⟩ := idxL_eq recs 0 h
 have h3 := of_decide_eq_true h2
 exact ⟨j, hj, by rw [Nat.zero_add] at h1; exact h1, h3.1, h3.2⟩
theorem Trees.erase {l : List UInt8} : ∀ {ps : List (Nat × Nat)} {ws : List WS} (j : Nat), Trees l ps ws → Trees l (ps.eraseIdx j) (ws.eraseIdx j)
 | [], [], j, _ => by rw [List.eraseIdx_nil, List.eraseIdx_nil]; exact trivial
 | p :: ps, w :: ws, 0, h => h.2.2
 | p :: ps, w :: ws, j + 1, h => ⟨h.1, h.2.1, Trees.erase j h.2.2⟩
 | [], _ :: _, _, h => h.elim
 | _ :: _, [], _, h => h.elim
theorem Trees.get {l : List UInt8} : ∀ {ps : List (Nat × Nat)} {ws : List WS} (j : Nat) (hj : j < ps.length) (hw : j < ws.length), Trees l ps ws → goP l ps[j].1 = some ws[j] ∧ beyondP ws[j].m ps[j].2 = false
 | p :: ps, w :: ws, 0, _, _, h => ⟨h.1, h.2.1⟩
 | p :: ps, w :: ws, j + 1, hj, hw, h => by
  simpa using Trees.get j (by simpa using hj) (by simpa using hw) h.2.2
theorem eraseIdx_eq {α : Type} (l : List α) (j : Nat) : l.eraseIdx j = l.take j ++ l.drop (j + 1) := List.eraseIdx_eq_take_drop_succ l j
theorem goodRecs_sub {a b : List Rec} (hs : a.Sublist b) (h : goodRecs b) : goodRecs a := by
 obtain ⟨h1, h2, h3⟩ := h
 refine ⟨h1.sub (hs.map _), ?_, Nat.le_trans (hs.filter wholeR).length_le h3⟩
 intro r hr
 cases hs with
 | slnil => simp at hr
 | cons y hs => exact h2 r (by simpa using hs.mem (List.mem_of_mem_drop hr))
 | cons_cons y hs => exact h2 r (by simpa using hs.mem (by simpa using hr))
theorem nodup_inj {α : Type} {l : List α} (h : l.Nodup) {i j : Nat} (hi : i < l.length) (hj : j < l.length) (he : l[i] = l[j]) : i = j := by
 have hp := List.pairwise_iff_getElem.1 h
 by_cases h1 : i < j
 ·exact absurd he (hp i j hi hj h1)
 by_cases h2 : j < i
 ·exact absurd he.symm (hp j i hj hi h2)
 omega
theorem map_erase {α β : Type} (f : α → β) : ∀ (l : List α) (j : Nat), (l.eraseIdx j).map f = (l.map f).eraseIdx j
 | [], j => by simp
 | x :: l, 0 => by simp
 | x :: l, j + 1 => by simp [map_erase f l j]
theorem anew_del (recs : List Rec) (j : Nat) : (anewP recs (j + 1) rec0 false).reverse ++ recs.drop (j + 1) = recs.eraseIdx j := by
 unfold anewP; rw [eraseIdx_eq]; simp
theorem anew_new (recs : List Rec) (r : Rec) : (anewP recs 0 r true).reverse ++ recs.drop 0 = r :: recs := by
 unfold anewP; simp
theorem zip_erase {α β : Type} : ∀ (l : List α) (m : List β) (j : Nat), (l.eraseIdx j).zip (m.eraseIdx j) = (l.zip m).eraseIdx j
 | [], m, j => by simp
 | x :: l, [], j => by cases j <;> simp
 | x :: l, y :: m, 0 => by simp
 | x :: l, y :: m, j + 1 => by simp [zip_erase l m j]
theorem zip_core {f : Rec × WS → SnapV} (hf : ∀ p, f (core p.1, p.2) = f p) {q : Rec × WS → Bool} (hq : ∀ p, q (core p.1, p.2) = q p) : ∀ {a b : List Rec} (ws : List WS), a.map core = b.map core → ((a.zip ws).filter q).map f = ((b.zip ws).filter q).map f
 | [], [], ws, _ => rfl
 | r :: a, s :: b, [], _ => by simp
 | r :: a, s :: b, w :: ws, h => by
  rw [List.map_cons, List.map_cons, List.cons.injEq] at h
  have ih := zip_core hf hq ws h.2
  have e1 : q (r, w) = q (s, w) := by rw [← hq (r, w), ← hq (s, w), h.1]
  have e2 : f (r, w) = f (s, w) := by rw [← hf (r, w), ← hf (s, w), h.1]
  simp only [List.zip_cons_cons, List.filter_cons, e1]
  split
  ·rw [List.map_cons, List.map_cons, ih, e2]
  ·exact ih
 | [], _ :: _, _, h => by simp at h
 | _ :: _, [], _, h => by simp at h
theorem parseNod_ok {b : List UInt8} (h : (parseNod b).2 = 0) : (parseNod b).1.ok := by
 unfold parseNod at h ⊢
 split at h
 ·rename_i h1; exact absurd h h1
 ·rename_i h1
  rw [if_neg h1]
  split at h
  ·rename_i h2; rw [if_pos h2]; exact h2
  ·cases h
theorem atP_ptr {l : List UInt8} {n a v : Nat} (h : (atP l n a v).2 = true) : 2 ≤ a ∧ a < n ∧ (parseNod (blk l a)).2 = 0 ∧ (parseNod (blk l a)).1.level = v ∧ ∀ p ∈ ptrsB l a, ptrOk p := by
 unfold atP at h
 split at h
 ·cases h
 ·have hz := of_decide_eq_true h
  refine ⟨by omega, by omega, hz.1, hz.2, fun p hp => ?_⟩
  have := List.all_eq_true.1 (parseNod_ok hz.1).1 p hp
  rwa [decide_eq_true_eq] at this
theorem tree_lo {l : List UInt8} : ∀ (v a : Nat), tOk l v a → ∀ b ∈ tM l v a, b = 0 ∨ 2 ≤ b ∧ b < nb l
 | 0, a, h, b, hb => by
  simp only [tM] at hb
  have h1 := (atP_ptr h.1).2.2.2.2 b hb
  have h2 := h.2 b hb
  unfold ptrOk at h1; omega
 | v + 1, a, h, b, hb => by
  simp only [tM, List.mem_flatMap] at hb
  obtain ⟨p, hp, hb⟩ := hb
  split at hb
  ·exact .inl (List.eq_of_mem_replicate hb)
  ·rename_i h0
   exact tree_lo v p ((h.2 p hp).2 h0) b hb
theorem goP_lo {l : List UInt8} {root : Nat} {w : WS} (h : goP l root = some w) : w.m.length = 512 ∧ ∀ a ∈ w.m, a = 0 ∨ 2 ≤ a ∧ a < nb l := by
 obtain ⟨rfl, h2⟩ := goP_iff.1 h
 unfold tree3
 by_cases hr : root = 0
 ·rw [if_pos hr]
  exact ⟨by simp [ws0], fun a ha => .inl (List.eq_of_mem_replicate (show a ∈ List.replicate 512 0 from ha))⟩
 ·rw [if_neg hr]
  exact ⟨tM_len l 2 root, fun a ha => tree_lo 2 root (h2 hr).1 a ha⟩
theorem secsP_made {l l' : List UInt8} {x : Img} (hI : IsImg l x) (hs : ∀ a, 2 ≤ a → reached l x a → blk l' a = blk l a) {w : WS} (hw : w ∈ x.trees) (n : Nat) : secsP l' w.m n = secsP l w.m n := by
 refine List.map_congr_left fun a ha => ?_
 have ha := List.mem_of_mem_take ha
 unfold secB
 by_cases h0 : a = 0
 ·rw [if_pos h0, if_pos h0]
 ·rw [if_neg h0, if_neg h0]
  obtain ⟨p, hp, hg⟩ := Trees.mem hI.trees w hw
  exact hs a (((goP_lo hg).2 a ha).resolve_left h0).1 (((nodes_reached hI w hw).2 a ha).resolve_left h0)
theorem snaps_made {l l' : List UInt8} {x : Img} (hI : IsImg l x) (hs : ∀ a, 2 ≤ a → reached l x a → blk l' a = blk l a) {rs : List Rec} {ws : List WS} (hws : ∀ w ∈ ws, w ∈ x.trees) (q : Rec × WS → Bool) : ((rs.zip ws).filter q).map (snapV l') = ((rs.zip ws).filter q).map (snapV l) := by
 refine List.map_congr_left fun p hp => ?_
 unfold snapV
 rw [secsP_made hI hs (hws p.2 (List.of_mem_zip (List.mem_filter.1 hp).1).2)]
theorem view_made {l l' : List UInt8} {x : Img} (hI : IsImg l x) (hs : ∀ a, 2 ≤ a → reached l x a → blk l' a = blk l a) {s : Sup} {slot : Nat} {rs rs' : List Rec} {bs : List Nat} {w : WS} {ws : List WS} (hw : w ∈ x.trees) (hws : ∀ w ∈ ws, w ∈ x.trees) (hc : rs.map core = rs'.map core) :
  viewP l' ⟨s, slot, rs, bs, w :: ws⟩ = ⟨secsP l w.m s.size, ((rs'.zip ws).filter fun p => !pendR p).map (snapV l), ((rs'.zip ws).filter pendR).map (snapV l)⟩ := by
 unfold viewP
 simp only [List.headD_cons, List.tail_cons]
 rw [secsP_made hI hs hw, snaps_made hI hs hws, snaps_made hI hs hws]
 rw [zip_core (f := snapV l) (fun _ => rfl) (q := fun p => !pendR p) (fun _ => rfl) ws hc, zip_core (f := snapV l) (fun _ => rfl) (q := pendR) (fun _ => rfl) ws hc]
theorem nodup_le : ∀ (L M : List Nat), L.Nodup → (∀ a ∈ L, a ∈ M) → L.length ≤ M.length
 | [], _, _, _ => by simp
 | a :: L, M, hn, hm => by
  rw [List.nodup_cons] at hn
  have ha := hm a (by simp)
  have := nodup_le L (M.erase a) hn.2 fun b hb => (List.mem_erase_of_ne (fun h => by subst h; exact hn.1 hb)).2 (hm b (by simp [hb]))
  rw [List.length_erase_of_mem ha] at this
  have := List.length_pos_of_mem ha
  simp only [List.length_cons]; omega
theorem create_img {l : List UInt8} (hl : l.length < 1000000) {id : Int} {ios : List IoV} (h : createP l id = .ok ios) : ∃ x x', Dev l ∧ IsImg l x ∧ createE x.recs id = 0 ∧ makesP l x 0 (newRec x id) true = .ok ios ∧ Made l (applyP l ios) x x' 1 0 ∧ x'.recs.map core = (newRec x id :: x.recs).map core ∧
  x'.sup.root = x.sup.root ∧ x'.sup.size = x.sup.size ∧ x'.sup.gen = x.sup.gen + 1 ∧ (∀ w ∈ x'.trees, w ∈ x.trees) ∧ viewP (applyP l ios) x' = ⟨(viewP l x).head, ⟨id.toNat, parentP x.recs, (viewP l x).head, 0, 0⟩ :: (viewP l x).snaps, (viewP l x).opens⟩ := by
 unfold createP at h
 split at h
 ·cases h
 rename_i x hlk
 split at h
 ·cases h
 rename_i hc
 have hc := Classical.not_not.1 hc
 obtain ⟨hd, hI⟩ := (lookQ_iff hl).1 hlk
 have hx := img_fit hd hI
 obtain ⟨w, ws, he, h1, h2, h3⟩ := trees_head hI
 have hmem : ∀ v ∈ w :: w :: ws, v ∈ x.trees := fun v hv => by
  rw [he]; simp only [List.mem_cons] at hv ⊢; rcases hv with h | h | h <;> simp [h]
 have hg : goodRecs (newRec x id :: x.recs) := by
  obtain ⟨g1, g2, g3⟩ := hI.good
  have hc' := hc
  unfold createE at hc'
  split at hc'
  ·cases hc'
  rename_i c1
  split at hc'
  ·cases hc'
  rename_i c2
  split at hc'
  ·cases hc'
  rename_i c3
  split at hc'
  ·cases hc'
  rename_i c4
  have hid := Classical.not_not.1 c1
  refine ⟨?_, ?_, ?_⟩
  ·rw [List.map_cons, List.nodup_cons]
   refine ⟨fun hm => c3 ?_, g1⟩
   obtain ⟨r, hr, her⟩ := List.mem_map.1 hm
   refine List.any_eq_true.2 ⟨r, hr, decide_eq_true ?_⟩
   have her : r.id = id.toNat := her
   have := hid.1
   omega
  ·intro r hr
   have hr : r ∈ x.recs := by simpa using hr
   cases hrs : x.recs with
   | nil => rw [hrs] at hr; cases hr
   | cons y ys =>
    rw [hrs] at hr g2 c2
    rcases List.mem_cons.1 hr with rfl | hr
    ·have hk := Rec.ok_kind (hx.recs r (by rw [hrs]; simp))
     rcases hk with hk | hk
     ·exact hk
     ·exfalso; apply c2; show (if r.kind = 1 then some r else none).isSome = true; rw [if_pos hk]; rfl
    ·exact g2 r (by simpa using hr)
  ·have := List.length_filter_le wholeR (newRec x id :: x.recs)
   simp only [List.length_cons] at this
   omega
 obtain ⟨hk, rs, bs, fst, hcore, hm⟩ := makes_img hd hI hx (fun _ => newRec_ok hd hx hc) h (ws := w :: w :: ws) (by rw [anew_new]; exact hg) hmem (by
  rw [anew_new]
  exact ⟨h1, h2, h1, h2, h3⟩)
 rw [anew_new] at hcore
 have hlen : (anewP x.recs 0 (newRec x id) true).length = 1 := by unfold anewP; simp
 rw [hlen] at hm
 refine ⟨x, _, hd, hI, hc, h, hm, hcore, rfl, rfl, rfl, hmem, ?_⟩
 rw [view_made hI hm.stay (hmem w (by simp)) (fun v hv => hmem v (by simp only [List.mem_cons] at hv ⊢; exact .inr hv)) hcore]
 unfold viewP
 rw [he]
 simp only [List.headD_cons, List.tail_cons, List.zip_cons_cons, List.filter_cons]
 rw [if_pos (show (!pendR (newRec x id, w)) = true from rfl), if_neg (show ¬ pendR (newRec x id, w) = true from Bool.false_ne_true)]
 rfl
theorem delete_img {l : List UInt8} (hl : l.length < 1000000) {id : Int} {ios : List IoV} (h : deleteP l id = .ok ios) : ∃ x x' j, ∃ hj : j < x.recs.length, Dev l ∧ IsImg l x ∧ (x.recs[j].id : Int) = id ∧ x.recs[j].kind = 0 ∧ makesP l x (j + 1) rec0 false = .ok ios ∧ Made l (applyP l ios) x x' j (j + 1) ∧ j ≤ (freeP (countsP l x)).length ∧ x'.recs.map core = (x.recs.eraseIdx j).map core ∧
  x'.sup.root = x.sup.root ∧ x'.sup.size = x.sup.size ∧ x'.sup.gen = x.sup.gen + 1 ∧ (∀ w ∈ x'.trees, w ∈ x.trees) ∧ viewP (applyP l ios) x' = ⟨(viewP l x).head, (viewP l x).snaps.filter (fun s => decide ((s.id : Int) ≠ id)), (viewP l x).opens⟩ := by
 unfold deleteP at h
 split at h
 ·cases h
 rename_i x hlk
 obtain ⟨hd, hI⟩ := (lookQ_iff hl).1 hlk
 have hx := img_fit hd hI
 split at h
 ·cases h
 rename_i c1
 split at h
 ·cases h
 rename_i c2
 have hmk : makesP l x ((findP x.recs id).toNat + 1) rec0 false = .ok ios := by
  revert h
  cases pendP x.recs with
  | none => intro h; rw [if_neg (show ¬ (false = true) from Bool.false_ne_true)] at h; exact h
  | some r =>
   simp only
   intro h
   split at h
   ·cases h
   ·exact h
 obtain ⟨j, hj, f1, f2, f3⟩ := findP_spec c2
 rw [f1, Int.toNat_natCast] at hmk
 obtain ⟨w, ws, he, h1, h2, h3⟩ := trees_head hI
 have hmem : ∀ v ∈ w :: ws.eraseIdx j, v ∈ x.trees := fun v hv => by
  rw [he]
  rcases List.mem_cons.1 hv with rfl | hv
  ·simp
  ·exact List.mem_cons_of_mem _ ((List.eraseIdx_sublist ws j).mem hv)
 obtain ⟨hk, rs, bs, fst, hcore, hm⟩ := makes_img hd hI hx (fun h => by cases h) hmk (ws := w :: ws.eraseIdx j) (by
  rw [anew_del]; exact goodRecs_sub (List.eraseIdx_sublist _ _) hI.good) hmem (by
  rw [anew_del]
  refine ⟨h1, h2, ?_⟩
  have := h3.erase j
  rw [← map_erase] at this
  exact this)
 rw [anew_del] at hcore
 have hlen : (anewP x.recs (j + 1) rec0 false).length = j := by unfold anewP; simp; omega
 rw [hlen] at hm hk
 refine ⟨x, _, j, hj, hd, hI, f2, f3, hmk, hm, hk, hcore, rfl, rfl, rfl, hmem, ?_⟩
 rw [view_made hI hm.stay (hmem w (by simp)) (fun v hv => hmem v (List.mem_cons_of_mem _ hv)) hcore]
 unfold viewP
 rw [he]
 simp only [List.headD_cons, List.tail_cons]
 have hwl : ws.length = x.recs.length := by have := h3.len; simpa using this.symm
 have hzl : j < (x.recs.zip ws).length := by rw [List.length_zip]; omega
 have hgj : (x.recs.zip ws)[j].1 = x.recs[j] := by simp
 have key : ∀ q : Rec × WS → Bool, (((x.recs.zip ws).eraseIdx j).filter q) = ((x.recs.zip ws).filter q).filter fun p => decide ((p.1.id : Int) ≠ id) := by
  intro q
  have hnd := hI.good.1
  rw [List.filter_filter]
  have e1 : x.recs.zip ws = (x.recs.zip ws).take j ++ (x.recs.zip ws)[j] :: (x.recs.zip ws).drop (j + 1) := by
   rw [List.getElem_cons_drop, List.take_append_drop]
  have hfst : (x.recs.zip ws).map Prod.fst = x.recs := List.map_fst_zip (by omega)
  have hids : ((x.recs.zip ws).map fun p => p.1.id).Nodup := by
   have : ((x.recs.zip ws).map fun p => p.1.id) = x.recs.map Rec.id := by
    conv => rhs; rw [← hfst]
    rw [List.map_map]; rfl
   rw [this]; exact hnd
  rw [e1, List.map_append, List.map_cons] at hids
  have hne : ∀ p ∈ (x.recs.zip ws).take j ++ (x.recs.zip ws).drop (j + 1), (p.1.id : Int) ≠ id := by
   intro p hp hid
   rw [List.nodup_append] at hids
   obtain ⟨n1, n2, n3⟩ := hids
   rw [List.nodup_cons] at n2
   have hpid : p.1.id = (x.recs.zip ws)[j].1.id := by rw [hgj]; omega
   rcases List.mem_append.1 hp with hp | hp
   ·exact n3 _ (List.mem_map.2 ⟨p, hp, rfl⟩) _ (List.mem_cons_self ..) hpid
   ·exact n2.1 (List.mem_map.2 ⟨p, hp, hpid⟩)
  rw [eraseIdx_eq]
  conv => rhs; rw [e1]
  rw [List.filter_append, List.filter_append, List.filter_cons]
  rw [if_neg (by rw [hgj]; simp [f2])]
  congr 1
  ·exact List.filter_congr fun p hp => by rw [decide_eq_true (hne p (List.mem_append_left _ hp))]; simp
  ·exact List.filter_congr fun p hp => by rw [decide_eq_true (hne p (List.mem_append_right _ hp))]; simp
 rw [zip_erase, key, key]
 rw [ViewV.mk.injEq]
 refine ⟨rfl, ?_, ?_⟩
 ·rw [List.filter_map]; rfl
 ·
  congr 1
  rw [List.filter_eq_self]
  intro p hp
  obtain ⟨hp1, hp2⟩ := List.mem_filter.1 hp
  rw [decide_eq_true_eq]
  intro hid
  have hpr := (List.of_mem_zip hp1).1
  have : p.1 = x.recs[j] := by
   have hnd := hI.good.1
   obtain ⟨i, hi, hpi⟩ := List.getElem_of_mem hpr
   have hij : i = j := by
    have hmi : (x.recs.map Rec.id)[i]'(by simpa using hi) = (x.recs.map Rec.id)[j]'(by simpa using hj) := by
     simp only [List.getElem_map]; rw [hpi]; omega
    exact nodup_inj hnd _ _ hmi
   subst hij; exact hpi.symm
  unfold pendR at hp2
  rw [decide_eq_true_eq, this] at hp2
  omega
theorem steps_right {l : List UInt8} {s : Sup} {slot : Nat} {ios : List IoV} {root size first : Nat} (hd : Dev l) (hi : WFit (nb l) ios) : stepsE l (stepsL s slot ios root size first) = 0 := by
 have hn := hd.nb
 unfold stepsE
 rw [if_neg (fun h => h hd.2), if_neg]
 intro h
 obtain ⟨x, hx, hxe⟩ := List.any_eq_true.1 h
 have : rightP (nb l) x := by
  unfold stepsL at hx
  rcases List.mem_append.1 hx with hx | hx
  ·obtain ⟨y, hy, rfl⟩ := List.mem_map.1 hx
   have := hi y hy
   exact .inl ⟨rfl, this.2.1, this.2.2⟩
  ·simp only [List.mem_cons, List.not_mem_nil, or_false] at hx
   rcases hx with rfl | rfl | rfl
   ·exact .inr ⟨rfl, rfl, rfl⟩
   ·exact .inl ⟨rfl, by show 1 - slot < nb l; omega, supB_len _⟩
   ·exact .inr ⟨rfl, rfl, rfl⟩
 rw [decide_eq_true this] at hxe
 cases hxe
theorem makes_right {l : List UInt8} {x : Img} {n : Nat} {first : Rec} {wth : Bool} {ios : List IoV} (hd : Dev l) (hx : x.fit l) (h : makesP l x n first wth = .ok ios) : stepsE l ios = 0 := by
 unfold makesP at h
 split at h
 ·cases h
 split at h
 ·cases h
 cases h
 exact steps_right hd (frees_chain fun a ha => (mem_free hd hx).1 ha).fit
end Go.Proofs.Ytkaiiopoilpjeaa
