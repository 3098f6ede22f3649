/- Lemmas. -/
import Derived.Test.YtkaiiopoilpjeaaGreatMM
import Derived.Test.YtkaiiopoilpjeaaGreatMJ4
import Derived.Test.YtkaiiopoilpjeaaGreatME1
import Derived.Test.YtkaiiopoilpjeaaGreatMD1
set_option linter.unusedSimpArgs false
set_option linter.unusedVariables false
set_option maxRecDepth 10000
namespace Go.Proofs.YtkaiiopoilpjeaaGreat
open Go.AI
def WFit (n : Nat) (ios : List IoV) : Prop := ∀ y ∈ ios, 2 ≤ y.at0 ∧ y.at0 < n ∧ y.data.length = 64
theorem Trees.frame {l l' : List UInt8} (hn : nb l' = nb l) : ∀ {ps : List (Nat × Nat)} {ws : List WS}, Trees l ps ws → (∀ w ∈ ws, ∀ a ∈ w.nodes, blk l' a = blk l a) → Trees l' ps ws
 | [], [], _, _ => trivial
 | p :: ps, w :: ws, h, hf => ⟨Akp hn h.1 (hf w (by simp)), h.2.1, Trees.frame hn h.2.2 fun v hv => hf v (by simp [hv])⟩
 | [], _ :: _, h, _ => h.elim
 | _ :: _, [], h, _ => h.elim
theorem _root_.List.Nodup.sub {α : Type} {l l' : List α} (h : l.Nodup) (hs : l'.Sublist l) : l'.Nodup := List.Pairwise.sublist hs h
theorem Trees.mem {l : List UInt8} : ∀ {ps : List (Nat × Nat)} {ws : List WS}, Trees l ps ws → ∀ w ∈ ws, ∃ p ∈ ps, goP l p.1 = some w
 | [], [], _, _, h => by cases h
 | p :: ps, w :: ws, h, v, hv => by
  rcases Ap.1 hv with rfl | hv
  ·exact ⟨p, by simp, h.1⟩
  ·obtain ⟨q, h1, h2⟩ := Trees.mem h.2.2 v hv
   exact ⟨q, by simp [h1], h2⟩
 | [], _ :: _, h, _, _ => h.elim
 | _ :: _, [], h, _, _ => h.elim
theorem Trees.len {l : List UInt8} : ∀ {ps : List (Nat × Nat)} {ws : List WS}, Trees l ps ws → ps.length = ws.length
 | [], [], _ => rfl
 | p :: ps, w :: ws, h => by simp [Trees.len h.2.2]
 | [], _ :: _, h => h.elim
 | _ :: _, [], h => h.elim
theorem Chain.hd {l : List UInt8} {a : Nat} {rs : List Rec} {bs : List Nat} (h : Chain l a rs bs) : bs.getD 0 default = a := by
 induction h with
 | nil => rfl
 | cons => rfl
theorem Chain.len {l : List UInt8} {a : Nat} {rs : List Rec} {bs : List Nat} (h : Chain l a rs bs) : bs.length = rs.length := by
 induction h with
 | nil => rfl
 | cons _ _ _ _ ih => simp [ih]
theorem Chain.ptr {l : List UInt8} {a : Nat} {rs : List Rec} {bs : List Nat} (h : Chain l a rs bs) : a = 0 ∨ 2 ≤ a ∧ a < nb l := by
 induction h with
 | nil => exact .inl rfl
 | cons h2 hn _ _ => exact .inr ⟨h2, hn⟩
theorem Chain.ptrOk {l : List UInt8} (hd : Dev l) {a : Nat} {rs : List Rec} {bs : List Nat} (h : Chain l a rs bs) : ptrOk a := by
 have := hd.nb
 rcases h.ptr with h | h
 ·exact .inl h
 ·exact .inr ⟨h.1, by omega⟩
structure Frees (l : List UInt8) (x : Img) (ios : List IoV) : Prop where
 fit : WFit (nb l) ios
 free : ∀ y ∈ ios, ¬ reached l x y.at0
theorem Frees.append {l : List UInt8} {x : Img} {a b : List IoV} (ha : Frees l x a) (hb : Frees l x b) : Frees l x (a ++ b) :=
 ⟨fun y hy => (Bi.1 hy).elim (ha.fit y) (hb.fit y), fun y hy => (Bi.1 hy).elim (ha.free y) (hb.free y)⟩
structure Made (l l' : List UInt8) (x x' : Img) (k n : Nat) : Prop where
 img : IsImg l' x'
 len : l'.length = l.length
 stay : ∀ a, 2 ≤ a → reached l x a → blk l' a = blk l a
 blks : ∀ a ∈ x'.blocks, a ∈ (Cd (Ay l x)).take k ∨ a ∈ x.blocks.drop n
theorem Trees.get {l : List UInt8} : ∀ {ps : List (Nat × Nat)} {ws : List WS} (j : Nat) (hj : j < ps.length) (hw : j < ws.length), Trees l ps ws → goP l ps[j].1 = some ws[j] ∧ Mz ws[j].m ps[j].2 = false
 | p :: ps, w :: ws, 0, _, _, h => ⟨h.1, h.2.1⟩
 | p :: ps, w :: ws, j + 1, hj, hw, h => by
  simpa using Trees.get j (by simpa using hj) (by simpa using hw) h.2.2
end Go.Proofs.YtkaiiopoilpjeaaGreat
