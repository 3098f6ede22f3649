/- Lemmas. -/
import Derived.Test.YtkpndfkpdnknkaaGreatMJ7
import Derived.Test.YtkpndfkpdnknkaaGreatMF2
set_option linter.unusedSimpArgs false
set_option linter.unusedVariables false
set_option maxRecDepth 10000
namespace Go.Proofs.YtkpndfkpdnknkaaGreat
open Go.AI
theorem Akg (w1 : List Nat) : ∀ (ps : List Nat) (i place : Nat) (A : List Nat) (r : Nat), A.length = place * 8 + i → lr1F ps i place (A ++ List.replicate (ps.length + r) 0, w1) = (A ++ ps ++ List.replicate r 0, w1)
 | [], i, place, A, r, h => by simp [lr1F]
 | p :: ps, i, place, A, r, h => by
  simp only [lr1F]
  have e : lr0 p (place * 8 + i) (A ++ List.replicate ((p :: ps).length + r) 0) = (A ++ [p]) ++ List.replicate (ps.length + r) 0 := by
   rw [show (p :: ps).length + r = (ps.length + r) + 1 by simp only [Ao]; omega, La]
   unfold lr0
   split
   ·rename_i h0; rw [h0]; simp
   ·rw [Jt _ _ (by omega), h, Mo, Vj]; simp
  rw [e, Akg w1 ps (i + 1) place (A ++ [p]) r (by simp; omega)]
  simp
def dn (l : List UInt8) (a : Nat) : List Nat := if a = 0 then List.replicate 8 0 else Eo l a
theorem Axw (l : List UInt8) (p i : Nat) (A B : List Nat) (r q : Nat) (hA : A.length = i * 8) (hB : B.length = i) : lr1 l p i (A ++ List.replicate (8 + r) 0, B ++ List.replicate (q + 1) 0) = (A ++ dn l p ++ List.replicate r 0, B ++ [p] ++ List.replicate q 0) := by
 unfold lr1 dn
 split
 ·rename_i h0
  rw [h0, ← List.replicate_append_replicate]; simp; exact La
 ·rename_i h0
  have h8 : (Cw (blk l p)).1.ptr.length = 8 := Ie _
  have e : (B ++ List.replicate (q + 1) 0).set i p = B ++ [p] ++ List.replicate q 0 := by
   rw [Jt _ _ (by omega), hB, Mo, La, Vj]; simp
  simp only [e]
  have := Akg (B ++ [p] ++ List.replicate q 0) (Cw (blk l p)).1.ptr 0 i A r (by omega)
  rw [h8] at this
  exact this
theorem Awz (l : List UInt8) (a : Nat) : (dn l a).length = 8 := by
 unfold dn; split
 ·simp
 ·exact Ie _
theorem Alu (l : List UInt8) (w2 : List Nat) : ∀ (ps : List Nat) (i : Nat) (A B : List Nat), A.length = i * 8 → B.length = i → lr2F l ps i (A ++ List.replicate (8 * ps.length) 0, B ++ List.replicate ps.length 0, w2) = (A ++ ps.flatMap (dn l), B ++ ps, w2)
 | [], i, A, B, hA, hB => by simp [lr2F]
 | p :: ps, i, A, B, hA, hB => by
  simp only [lr2F]
  have e := Axw l p (0 * 8 + i) A B (8 * ps.length) ps.length (by omega) (by omega)
  rw [show 8 * (p :: ps).length = 8 + 8 * ps.length by simp only [Ao]; omega, show (p :: ps).length = ps.length + 1 from rfl, e]
  rw [Alu l w2 ps (i + 1) (A ++ dn l p) (B ++ [p]) (by rw [Am, Awz]; omega) (by simp; omega)]
  simp
theorem Ale (l : List UInt8) (a : Nat) : was3 l a = (wasL l a 2, wasL l a 1, wasL l a 0) := by
 unfold was3 lr2
 by_cases h0 : a = 0
 ·rw [if_pos h0, h0]; rfl
 ·rw [if_neg h0]
  have h8 : (Cw (blk l a)).1.ptr.length = 8 := Ie _
  have := Alu l ((List.replicate 1 0).set 0 a) (Cw (blk l a)).1.ptr 0 [] [] rfl rfl
  rw [h8] at this
  simp only [Dc] at this
  have e1 : wasL l a 1 = (Cw (blk l a)).1.ptr := by
   show ([a].flatMap fun a => if a = 0 then List.replicate 8 0 else Eo l a) = _
   simp [h0, Eo]
  have e2 : wasL l a 2 = (Cw (blk l a)).1.ptr.flatMap (dn l) := by
   show Avu l (wasL l a 1) = _
   rw [e1]; rfl
  rw [e1, e2]
  exact this
def prL (lv : Nat) : List (Option Nat) → Nat → List (Nat × Nat)
 | [], _ => []
 | some _ :: ks, i => prL lv ks (i + 1)
 | none :: ks, i => (lv, i) :: prL lv ks (i + 1)
def Wb (ps : List (Nat × Nat)) : List Nat := ps.flatMap fun p => [p.1, p.2]
theorem Vr (lv : Nat) : ∀ (ks : List (Option Nat)) (i : Nat), (prL lv ks i).length = Dn ks
 | [], _ => rfl
 | some _ :: ks, i => by simp only [prL]; rw [Vr lv ks]; simp [Dn]
 | none :: ks, i => by simp only [prL, Ao]; rw [Vr lv ks]; simp [Dn]
theorem uI (lv : Nat) (x : Option Nat) : ∀ (ks : List (Option Nat)) (i : Nat), prL lv (ks ++ [x]) i = prL lv ks i ++ (match x with | none => [(lv, i + ks.length)] | some _ => [])
 | [], i => by cases x <;> rfl
 | some a :: ks, i => by
  show prL lv (ks ++ [x]) (i + 1) = prL lv ks (i + 1) ++ _
  rw [uI lv x ks (i + 1), Ao, show i + (ks.length + 1) = i + 1 + ks.length by omega]
 | none :: ks, i => by
  show (lv, i) :: prL lv (ks ++ [x]) (i + 1) = (lv, i) :: prL lv ks (i + 1) ++ _
  rw [uI lv x ks (i + 1), Ao, show i + (ks.length + 1) = i + 1 + ks.length by omega]; rfl
theorem Yo (a b : List (Nat × Nat)) : Wb (a ++ b) = Wb a ++ Wb b := by unfold Wb; rw [Te]
theorem zY (a : List (Nat × Nat)) : (Wb a).length = 2 * a.length := by
 induction a with
 | nil => rfl
 | cons p a ih =>
  show ([p.1, p.2] ++ Wb a).length = _
  rw [Am, ih, Ao]; simp; omega
theorem qG (m m0 was : List Nat) (lv : Nat) : ∀ n, newR m m0 was lv n = Wb (prL lv ((List.range n).map (Fq m m0 was lv)) 0)
 | 0 => rfl
 | n + 1 => by
  rw [Xn, qG m m0 was lv n, Jl, Br, Bb, Lj, uI, Yo]
  congr 1
  cases hk : Fq m m0 was lv n with
  | none => simp [Wb]
  | some a => simp [Wb]
section
variable {l : List UInt8} {root : Nat} {w : WS} {m : List Nat}
def prsL (l : List UInt8) (root : Nat) (m : List Nat) (w : WS) : List (Nat × Nat) := prL 0 (Cu l root m w.m 0) 0 ++ prL 1 (Cu l root m w.m 1) 0 ++ prL 2 (Cu l root m w.m 2) 0
theorem lG : Ux l root m w = Wb (prsL l root m w) := by
 unfold Ux prsL Of
 rw [Ale, Yo, Yo, qG, qG, qG]
 rfl
theorem Om : Dq l root m w = Ho l root m w.m := by
 unfold Dq Ho
 rw [lG, zY]
 unfold prsL
 rw [Am, Am, Vr, Vr, Vr]; omega
theorem iO : (prsL l root m w).length = Ho l root m w.m := by
 unfold prsL Ho
 rw [Am, Am, Vr, Vr, Vr]
end
def runW (m : List Nat) : List (Nat × Nat) → List Nat → WSt → WSt
 | [], _, s => s
 | _ :: _, [], s => s
 | p :: ps, b :: fs, s => runW m ps fs (s.step m p.1 p.2 b)
def rC (m : List Nat) : List (Nat × Nat) → List Nat → WSt → Prop
 | [], _, s => True
 | _ :: _, [], s => True
 | p :: ps, b :: fs, s => (p.1 ≤ 2 ∧ p.2 < 8 ^ (2 - p.1)) ∧ Nod.ok ⟨p.1, oct ((s.step m p.1 p.2 b).below m p.1) p.2⟩ ∧ rC m ps fs (s.step m p.1 p.2 b)
theorem yA (m : List Nat) : ∀ (ps : List (Nat × Nat)) (fs : List Nat) (s : WSt), runW m ps (fs.take ps.length) s = runW m ps fs s
 | [], fs, s => rfl
 | p :: ps, [], s => rfl
 | p :: ps, b :: fs, s => yA m ps fs _
theorem rI (m : List Nat) : ∀ (ps : List (Nat × Nat)) (fs : List Nat) (s : WSt), rC m ps fs s → rC m ps (fs.take ps.length) s
 | [], fs, s, _ => trivial
 | p :: ps, [], s, _ => trivial
 | p :: ps, b :: fs, s, ⟨h1, h2, h3⟩ => ⟨h1, h2, rI m ps fs _ h3⟩
theorem lD (l : List Nat) (a i : Nat) : (l.drop a).getD i 0 = l.getD (a + i) 0 := by
 rw [Ae, Ae, Fu]
theorem lP (m fl fs : List Nat) (s : WSt) : ∀ i, wst m fl fs s (i + 1) = wst m (fl.drop 2) (fs.drop 1) (s.step m (fl.getD 0 0) (fl.getD 1 0) (fs.getD 0 0)) i
 | 0 => rfl
 | i + 1 => by
  show (wst m fl fs s (i + 1)).step m _ _ _ = (wst m (fl.drop 2) (fs.drop 1) _ i).step m _ _ _
  rw [lP m fl fs s i, lD, lD, lD, show 2 + 2 * i = 2 * (i + 1) by omega, show 2 + (2 * i + 1) = 2 * (i + 1) + 1 by omega, show 1 + i = i + 1 by omega]
theorem vE (p : Nat × Nat) (ps : List (Nat × Nat)) : Wb (p :: ps) = p.1 :: p.2 :: Wb ps := rfl
theorem Ali (m : List Nat) : ∀ (ps : List (Nat × Nat)) (fs : List Nat) (s : WSt), fs.length ≤ ps.length → wst m (Wb ps) fs s fs.length = runW m ps fs s
 | [], [], s, _ => rfl
 | [], _ :: _, s, h => by simp at h
 | p :: ps, [], s, _ => rfl
 | p :: ps, b :: fs, s, h => by
  rw [Ao, lP, vE]
  exact Ali m ps fs _ (by simpa using h)
theorem yK (m : List Nat) : ∀ (ps : List (Nat × Nat)) (fs : List Nat) (s : WSt), fs.length ≤ ps.length → rC m ps fs s → xK m (Wb ps) fs s
 | [], [], s, _, _ => fun i hi => by simp at hi
 | [], _ :: _, s, h, _ => by simp at h
 | p :: ps, [], s, _, _ => fun i hi => by simp at hi
 | p :: ps, b :: fs, s, h, ⟨h1, h2, h3⟩ => by
  intro i hi
  cases i with
  | zero => exact ⟨by rw [zY, Ao]; omega, h1, h2⟩
  | succ i =>
   have ih := yK m ps fs _ (by simpa using h) h3 i (by simpa using hi)
   rw [lP, vE]
   rw [show 2 * (i + 1) = (2 * i + 1) + 1 by omega, Hk, Hk, Hk, Hk]
   refine ⟨?_, ih.2.1, ih.2.2⟩
   simp only [Ao]
   have := ih.1
   omega
def WSt.row (s : WSt) (lv : Nat) : List Nat := match lv with | 0 => s.i0 | 1 => s.i1 | _ => s.i2
def WSt.upd (s : WSt) (lv : Nat) (X : List Nat) (ios : List IoV) : WSt := match lv with | 0 => ⟨ios, X, s.i1, s.i2⟩ | 1 => ⟨ios, s.i0, X, s.i2⟩ | _ => ⟨ios, s.i0, s.i1, X⟩
theorem Avh (s : WSt) (m : List Nat) (lv pl b : Nat) : s.step m lv pl b = s.upd lv ((s.row lv).set pl b) (s.ios ++ [wIo b (nodB ⟨lv, oct (s.below m lv) pl⟩)]) := by
 match lv with
 | 0 => rfl
 | 1 => rfl
 | n + 2 => rfl
theorem upd_upd (s : WSt) (lv : Nat) (X Y : List Nat) (a b : List IoV) : (s.upd lv X a).upd lv Y b = s.upd lv Y b := by
 match lv with
 | 0 => rfl
 | 1 => rfl
 | n + 2 => rfl
theorem upd_self (s : WSt) (lv : Nat) : s.upd lv (s.row lv) s.ios = s := by
 match lv with
 | 0 => rfl
 | 1 => rfl
 | n + 2 => rfl
theorem Atz (s : WSt) (lv : Nat) (X : List Nat) (a : List IoV) : (s.upd lv X a).row lv = X := by
 match lv with
 | 0 => rfl
 | 1 => rfl
 | n + 2 => rfl
theorem Aos (s : WSt) (m : List Nat) (lv : Nat) (X : List Nat) (a : List IoV) : (s.upd lv X a).below m lv = s.below m lv := by
 match lv with
 | 0 => rfl
 | 1 => rfl
 | n + 2 => rfl
theorem Atl (s : WSt) (lv : Nat) (X : List Nat) (a : List IoV) : (s.upd lv X a).ios = a := by
 match lv with
 | 0 => rfl
 | 1 => rfl
 | n + 2 => rfl
def bI : List (Option Nat) → List Nat → Prop
 | [], [] => True
 | some a :: ks, v :: V => v = a ∧ bI ks V
 | none :: ks, _ :: V => bI ks V
 | _, _ => False
theorem nF {k : Nat → Option Nat} {f : Nat → Nat} (h : ∀ j a, k j = some a → f j = a) : ∀ js : List Nat, bI (js.map k) (js.map f)
 | [] => trivial
 | j :: js => by
  rw [Bb, Bb]
  cases hk : k j with
  | none => exact nF h js
  | some a => exact ⟨h j a hk, nF h js⟩
theorem Afa (m : List Nat) (lv : Nat) (rest : List (Nat × Nat)) : ∀ (ks : List (Option Nat)) (i : Nat) (A V fs : List Nat) (s : WSt), s.row lv = A ++ V → A.length = i → bI ks V → Dn ks ≤ fs.length →
  runW m (prL lv ks i ++ rest) fs s = runW m rest (fs.drop (Dn ks)) (s.upd lv (A ++ (Ey lv (s.below m lv) ks i fs).1) (s.ios ++ (Ey lv (s.below m lv) ks i fs).2.1)) ∧
  ((lv ≤ 2 ∧ i + ks.length ≤ 8 ^ (2 - lv) ∧ (∀ j (h : j < ks.length), ks[j] = none → Nod.ok ⟨lv, oct (s.below m lv) (i + j)⟩) ∧ rC m rest (fs.drop (Dn ks)) (s.upd lv (A ++ (Ey lv (s.below m lv) ks i fs).1) (s.ios ++ (Ey lv (s.below m lv) ks i fs).2.1))) → rC m (prL lv ks i ++ rest) fs s)
 | [], i, A, [], fs, s, hr, hA, hag, hn => by
  have e : s.upd lv (A ++ (Ey lv (s.below m lv) [] i fs).1) (s.ios ++ (Ey lv (s.below m lv) [] i fs).2.1) = s := by
   simp only [Ey, Bz]
   rw [Bz] at hr
   rw [← hr, upd_self]
  rw [e]
  exact ⟨rfl, fun h => h.2.2.2⟩
 | [], i, A, _ :: _, fs, s, hr, hA, hag, hn => hag.elim
 | some a :: ks, i, A, [], fs, s, hr, hA, hag, hn => hag.elim
 | none :: ks, i, A, [], fs, s, hr, hA, hag, hn => hag.elim
 | some a :: ks, i, A, v :: V, fs, s, hr, hA, ⟨hv, hag⟩, hn => by
  subst hv
  have hnd : Dn (some v :: ks) = Dn ks := by simp [Dn]
  rw [hnd] at hn ⊢
  have ih := Afa m lv rest ks (i + 1) (A ++ [v]) V fs s (by rw [hr]; simp) (by simp [hA]) hag hn
  simp only [Ey]
  have e : A ++ [v] ++ (Ey lv (s.below m lv) ks (i + 1) fs).1 = A ++ v :: (Ey lv (s.below m lv) ks (i + 1) fs).1 := by simp
  rw [e] at ih
  refine ⟨ih.1, fun h => ih.2 ⟨h.1, by have := h.2.1; simp only [Ao] at this; omega, fun j hj hk => ?_, h.2.2.2⟩⟩
  have := h.2.2.1 (j + 1) (by simpa using hj) (by simpa using hk)
  rw [show i + 1 + j = i + (j + 1) by omega]; exact this
 | none :: ks, i, A, v :: V, [], s, hr, hA, hag, hn => by simp [Dn] at hn
 | none :: ks, i, A, v :: V, b :: fs, s, hr, hA, hag, hn => by
  have hnd : Dn (none :: ks) = Dn ks + 1 := by simp [Dn]
  rw [hnd] at hn ⊢
  have hst : s.step m lv i b = s.upd lv ((A ++ [b]) ++ V) (s.ios ++ [wIo b (nodB ⟨lv, oct (s.below m lv) i⟩)]) := by
   rw [Avh, hr, Jt _ _ (by omega), hA, Mo, Vj]; simp
  have ih := Afa m lv rest ks (i + 1) (A ++ [b]) V fs (s.step m lv i b) (by rw [hst, Atz]) (by simp [hA]) hag (by simpa using hn)
  have hb : (s.step m lv i b).below m lv = s.below m lv := by rw [hst, Aos]
  have hi : (s.step m lv i b).ios = s.ios ++ [wIo b (nodB ⟨lv, oct (s.below m lv) i⟩)] := by rw [hst, Atl]
  have hu : ∀ X a, (s.step m lv i b).upd lv X a = s.upd lv X a := fun X a => by rw [hst, upd_upd]
  rw [hb, hi, hu] at ih
  simp only [Ey, Oy, Ahk, Cd]
  have e : A ++ [b] ++ (Ey lv (s.below m lv) ks (i + 1) fs).1 = A ++ b :: (Ey lv (s.below m lv) ks (i + 1) fs).1 := by simp
  have e2 : s.ios ++ [wIo b (nodB ⟨lv, oct (s.below m lv) i⟩)] ++ (Ey lv (s.below m lv) ks (i + 1) fs).2.1 = s.ios ++ wIo b (nodB ⟨lv, oct (s.below m lv) i⟩) :: (Ey lv (s.below m lv) ks (i + 1) fs).2.1 := by simp
  rw [e, e2] at ih
  refine ⟨ih.1, fun h => ?_⟩
  have h1 := h.2.1
  simp only [Ao] at h1
  refine ⟨⟨h.1, by show i < 8 ^ (2 - lv); omega⟩, ?_, ih.2 ⟨h.1, by omega, fun j hj hk => ?_, h.2.2.2⟩⟩
  ·show Nod.ok ⟨lv, oct ((s.step m lv i b).below m lv) i⟩
   rw [hb]
   exact h.2.2.1 0 (by simp) rfl
  ·have := h.2.2.1 (j + 1) (by simpa using hj) (by simpa using hk)
   rw [show i + 1 + j = i + (j + 1) by omega]; exact this
section
variable {l : List UInt8} {root : Nat} {w : WS} {m fs : List Nat}
theorem lO (m m0 was : List Nat) (lv n : Nat) : bI ((List.range n).map (Fq m m0 was lv)) (isR m m0 was lv n) := by
 unfold isR
 refine nF (fun j a h => ?_) _
 unfold isOf; rw [h]; rfl
def Acb (l : List UInt8) (root : Nat) (m m0 fs : List Nat) : Prop := ∀ lv pl, lv ≤ 2 → pl < 8 ^ (2 - lv) → Fq m m0 (wasL l root (2 - lv)) lv pl = none → Nod.ok ⟨lv, oct (Ki l root m m0 fs lv) pl⟩
theorem Aey (hroom : Ho l root m w.m ≤ fs.length) : runW m (prsL l root m w) fs (Rl l root m w) = ⟨Gx l root m w.m fs, (lay0 l root m w.m fs).1, (lay1 l root m w.m fs).1, (lay2 l root m w.m fs).1⟩ ∧ (Acb l root m w.m fs → rC m (prsL l root m w) fs (Rl l root m w)) := by
 have hr := hroom
 unfold Ho at hr
 have e1 : (lay0 l root m w.m fs).2.2 = fs.drop (Dn (Cu l root m w.m 0)) := Ja _ _ _
 have e2 : (lay1 l root m w.m fs).2.2 = (lay0 l root m w.m fs).2.2.drop (Dn (Cu l root m w.m 1)) := Ja _ _ _
 have hs0 : Rl l root m w = ⟨[], isR m w.m (wasL l root 2) 0 64, isR m w.m (wasL l root 1) 1 8, isR m w.m (wasL l root 0) 2 1⟩ := by unfold Rl; rw [Ale]
 rw [hs0]
 unfold prsL
 rw [Ce]
 have r0 := Afa m 0 (prL 1 (Cu l root m w.m 1) 0 ++ prL 2 (Cu l root m w.m 2) 0) (Cu l root m w.m 0) 0 [] (isR m w.m (wasL l root 2) 0 64) fs ⟨[], isR m w.m (wasL l root 2) 0 64, isR m w.m (wasL l root 1) 1 8, isR m w.m (wasL l root 0) 2 1⟩ rfl rfl (lO m w.m (wasL l root 2) 0 64) (by omega)
 have r1 := Afa m 1 (prL 2 (Cu l root m w.m 2) 0) (Cu l root m w.m 1) 0 [] (isR m w.m (wasL l root 1) 1 8) (fs.drop (Dn (Cu l root m w.m 0))) ⟨[] ++ (lay0 l root m w.m fs).2.1, [] ++ (lay0 l root m w.m fs).1, isR m w.m (wasL l root 1) 1 8, isR m w.m (wasL l root 0) 2 1⟩ rfl rfl (lO m w.m (wasL l root 1) 1 8) (by rw [Bl]; omega)
 rw [← e1] at r1
 have r2 := Afa m 2 [] (Cu l root m w.m 2) 0 [] (isR m w.m (wasL l root 0) 2 1) ((lay0 l root m w.m fs).2.2.drop (Dn (Cu l root m w.m 1))) ⟨[] ++ (lay0 l root m w.m fs).2.1 ++ (lay1 l root m w.m fs).2.1, [] ++ (lay0 l root m w.m fs).1, [] ++ (lay1 l root m w.m fs).1, isR m w.m (wasL l root 0) 2 1⟩ rfl rfl (lO m w.m (wasL l root 0) 2 1) (by rw [e1, Bl, Bl]; omega)
 rw [← e2, Bz] at r2
 have g0 : ∀ lv, lv ≤ 2 → Acb l root m w.m fs → ∀ j (h : j < (Cu l root m w.m lv).length), (Cu l root m w.m lv)[j] = none → Nod.ok ⟨lv, oct (Ki l root m w.m fs lv) (0 + j)⟩ := by
  intro lv hlv hN j h hk
  rw [Hy] at h
  rw [fQ h] at hk
  rw [Ct]
  exact hN lv j hlv h hk
 have q0 : (0 : Nat) + (Cu l root m w.m 0).length ≤ 8 ^ (2 - 0) := by rw [Hy]; decide
 have q1 : (0 : Nat) + (Cu l root m w.m 1).length ≤ 8 ^ (2 - 1) := by rw [Hy]; decide
 have q2 : (0 : Nat) + (Cu l root m w.m 2).length ≤ 8 ^ (2 - 2) := by rw [Hy]; decide
 refine ⟨?_, fun hN => ?_⟩
 ·rw [r0.1, ← e1]
  refine Eq.trans r1.1 ?_
  rw [← e2]
  refine Eq.trans r2.1 ?_
  show (⟨[] ++ (lay0 l root m w.m fs).2.1 ++ (lay1 l root m w.m fs).2.1 ++ (lay2 l root m w.m fs).2.1, [] ++ (lay0 l root m w.m fs).1, [] ++ (lay1 l root m w.m fs).1, [] ++ (lay2 l root m w.m fs).1⟩ : WSt) = _
  simp only [Dc]; rfl
 ·refine r0.2 ⟨by decide, q0, g0 0 (by decide) hN, ?_⟩
  rw [← e1]
  refine r1.2 ⟨by decide, q1, g0 1 (by decide) hN, ?_⟩
  rw [← e2]
  exact r2.2 ⟨by decide, q2, g0 2 (by decide) hN, trivial⟩
theorem Ago (hroom : Ho l root m w.m ≤ fs.length) : Vc l root m w fs = ⟨Gx l root m w.m fs, (lay0 l root m w.m fs).1, (lay1 l root m w.m fs).1, (lay2 l root m w.m fs).1⟩ := by
 unfold Vc
 rw [Om, lG, Ali _ _ _ _ (by rw [iO, Ay]; omega), ← (Aey hroom).1, ← iO (l := l) (root := root) (m := m) (w := w)]
 exact yA _ _ _ _
theorem Apy (hroom : Ho l root m w.m ≤ fs.length) (hN : Acb l root m w.m fs) : xK m (Ux l root m w) (fs.take (Dq l root m w)) (Rl l root m w) := by
 rw [Om, lG]
 refine yK _ _ _ _ (by rw [iO, Ay]; omega) ?_
 rw [← iO (l := l) (root := root) (m := m) (w := w)]
 exact rI _ _ _ _ ((Aey hroom).2 hN)
end
end Go.Proofs.YtkpndfkpdnknkaaGreat
set_option maxRecDepth 10000
namespace Go.Proofs.YtkpndfkpdnknkaaGreat
open Go.AI
theorem Asp : ∀ (ios : List IoV) (l : List UInt8), (∀ y ∈ ios, y.at0 < nb l ∧ y.data.length = 64) → (ios.map IoV.at0).Nodup → ∃ l', l'.length = l.length ∧ (∀ a, a ∉ ios.map IoV.at0 → blk l' a = blk l a) ∧ ∀ y ∈ ios, blk l' y.at0 = y.data
 | [], l, _, _ => ⟨l, rfl, fun _ _ => rfl, fun _ h => by cases h⟩
 | y :: ios, l, h, hn => by
  have h0 := h y (by simp)
  have hle : 64 * (y.at0 + 1) ≤ l.length := by have := h0.1; unfold nb at this; omega
  rw [Bb, Gu] at hn
  have hlen := Aaw hle h0.2
  have hnb : nb (wr l y.at0 y.data) = nb l := by unfold nb; rw [hlen]
  obtain ⟨l', g1, g2, g3⟩ := Asp ios (wr l y.at0 y.data) (fun z hz => by rw [hnb]; exact h z (by simp [hz])) hn.2
  refine ⟨l', g1.trans hlen, fun a ha => ?_, fun z hz => ?_⟩
  ·simp only [Bb, Ar, not_or] at ha
   rw [g2 a ha.2, Abf hle h0.2, if_neg ha.1]
  ·rcases Ar.1 hz with rfl | hz
   ·rw [g2 _ hn.1, Abf hle h0.2, if_pos rfl]
   ·exact g3 z hz
section
variable {l l' : List UInt8} {root : Nat} {w : WS} {m fs : List Nat}
theorem yU {lv : Nat} {ps : List Nat} (hp : ∀ p ∈ ps, ptrOk p) (hlv : lv ≤ 2) (hz : ¬ Mr ps) : Nod.ok ⟨lv, ps⟩ :=
 ⟨Ha.2 fun p hpm => An (hp p hpm), hlv, by
  cases ha : ps.any (fun b => decide (b ≠ 0)) with
  | true => rfl
  | false => exact absurd (any_zeros.1 ha) hz⟩
theorem Lay.nod_ok (h : Lay l l' root w m fs) {lv pl : Nat} (hlv : lv ≤ 2) (hpl : pl < 8 ^ (2 - lv)) (hk : Fq m w.m (wasL l root (2 - lv)) lv pl = none) : Nod.ok ⟨lv, oct (Ki l root m w.m fs lv) pl⟩ := by
 have hz := Qv hk
 have h4 := h.nb4
 cases lv with
 | zero =>
  refine yU (fun p hp => ?_) hlv hz
  have := h.range p (Cc (As hp))
  unfold ptrOk; omega
 | succ lv =>
  have hlv : lv < 2 := by omega
  have h2 : 2 - lv = (2 - (lv + 1)) + 1 := by omega
  have hidx : ∀ i, i < 8 → 8 * pl + i < 8 ^ (2 - lv) := fun i hi => by rw [h2, Fw]; omega
  have h8 : (oct (Ki l root m w.m fs (lv + 1)) pl).length = 8 := Adf (n := 8 ^ (2 - (lv + 1))) (by rw [mV hlv, h2, Fw, Gl]) hpl
  have hget : ∀ i, i < 8 → (oct (Ki l root m w.m fs (lv + 1)) pl).getD i 0 = isN l root m w.m fs lv (8 * pl + i) := fun i hi => by rw [iL hi, lZ hlv]
  refine yU (fun p hp => ?_) (by omega) (fun hzz => hz ?_)
  ·obtain ⟨i, hi, rfl⟩ := uR h8 hp
   rw [hget i hi]
   exact (h.bound (by omega) (hidx i hi) (h.all (by omega) (hidx i hi))).1
  ·rw [Re m lv pl]
   intro x hx
   obtain ⟨i, hi, hx⟩ := Db.1 hx
   have hi := Bw.1 hi
   have hmem : (oct (Ki l root m w.m fs (lv + 1)) pl).getD i 0 ∈ oct (Ki l root m w.m fs (lv + 1)) pl := by simp [Ae, Aa (by omega : i < (oct (Ki l root m w.m fs (lv + 1)) pl).length)]
   have h0 := hzz _ hmem
   rw [hget i hi] at h0
   exact (h.all (by omega) (hidx i hi)).zero h0 x hx
theorem Awy (old : goP l root = some w) (len : m.length = 512) (range : ∀ a ∈ m, a = 0 ∨ 2 ≤ a ∧ a < nb l) (nb4 : 4 ≤ nb l ∧ nb l ≤ 4096) (nodup : fs.Nodup) (free : ∀ a ∈ fs, 2 ≤ a ∧ a < nb l ∧ a ∉ w.nodes) (room : Ho l root m w.m ≤ fs.length) : ∃ l', Lay l l' root w m fs := by
 have hat := aO (l := l) (root := root) (m := m) room
 obtain ⟨l', g1, g2, g3⟩ := Asp (Gx l root m w.m fs) l (fun y hy => ⟨(free _ (As (by rw [← hat]; exact List.mem_map_of_mem hy))).2.1, Wo len y hy⟩) (by rw [hat]; exact nodup.sublist (Wy _ _))
 exact ⟨l', old, len, range, nb4, nodup, free, room, by unfold nb; rw [g1], fun a ha => g2 a (by rw [hat]; exact fun h => (free a (As h)).2.2 ha), g3⟩
theorem Akw (old : goP l root = some w) (len : m.length = 512) (range : ∀ a ∈ m, a = 0 ∨ 2 ≤ a ∧ a < nb l) (nb4 : 4 ≤ nb l ∧ nb l ≤ 4096) (nodup : fs.Nodup) (free : ∀ a ∈ fs, 2 ≤ a ∧ a < nb l ∧ a ∉ w.nodes) (room : Ho l root m w.m ≤ fs.length) : Acb l root m w.m fs ∧ ((lay2 l root m w.m fs).1.getD 0 0 = 0 ∨ 2 ≤ (lay2 l root m w.m fs).1.getD 0 0 ∧ (lay2 l root m w.m fs).1.getD 0 0 < nb l) := by
 obtain ⟨l', h⟩ := Awy old len range nb4 nodup free room
 refine ⟨fun lv pl hlv hpl hk => h.nod_ok hlv hpl hk, ?_⟩
 have hb := h.bound (lv := 2) (pl := 0) (by decide) (by decide) (h.all (by decide) (by decide))
 have hb1 := hb.1
 have hb2 := hb.2
 unfold ptrOk at hb1
 have e : isN l root m w.m fs 2 0 = (lay2 l root m w.m fs).1.getD 0 0 := rfl
 rw [e] at hb1 hb2
 omega
end
section
variable {s : St} {tk : List Nat}
theorem Abe : ∀ i, (lyS s tk i).2.2 ≤ tk.length → ∀ a ∈ (lyS s tk i).1, a ∈ s.m ∨ a ∈ tk
 | 0, _, a, ha => .inl ha
 | i + 1, hc, a, ha => by
  have ih := Abe i
  unfold lyS at hc ha
  split at hc
  ·rename_i hg; rw [hg] at ha; exact ih hc a ha
  ·rename_i d hg
   rw [hg] at ha
   simp only at hc ha
   rcases Eg ha with h | h
   ·exact ih (by omega) a h
   ·right
    rw [h, Ae, Aa (by omega)]
    exact Bx _
theorem rU (hd : ∀ p ∈ s.nw, p.2.length = 64) : ∀ i, (lyS s tk i).2.2 ≤ tk.length → ∀ y ∈ (lyS s tk i).2.1, y.kind = 1 ∧ y.at0 ∈ tk ∧ y.data.length = 64 ∧ y.s = 1 ∧ y.t = false
 | 0, _, y, hy => by cases hy
 | i + 1, hc, y, hy => by
  have ih := rU hd i
  have hgm : ∀ (l : List (Nat × List UInt8)) (d : List UInt8), nGet i l = some d → ∃ p ∈ l, p.2 = d := by
   intro l d
   induction l with
   | nil => intro h; cases h
   | cons p r ihl =>
    obtain ⟨a, v⟩ := p
    intro h
    unfold nGet at h
    split at h
    ·have h : v = d := by simpa using h
     exact ⟨(a, v), Dt .., h⟩
    ·obtain ⟨p, hp, he⟩ := ihl h; exact ⟨p, by simp [hp], he⟩
  unfold lyS at hc hy
  split at hc
  ·rename_i hg; rw [hg] at hy; exact ih hc y hy
  ·rename_i d hg
   rw [hg] at hy
   simp only at hc hy
   rcases Bq.1 hy with h | h
   ·exact ih (by omega) y h
   ·rw [Bo.1 h]
    obtain ⟨p, hp, rfl⟩ := hgm s.nw d hg
    refine ⟨rfl, ?_, hd p hp, rfl, rfl⟩
    show tk.getD _ 0 ∈ tk
    rw [Ae, Aa (by omega)]
    exact Bx _
theorem iU (k : Nat) : ∀ l : List (Nat × List UInt8), (nGet k l).isSome = true ↔ k ∈ l.map Prod.fst
 | [] => by simp [nGet]
 | (a, v) :: r => by
  unfold nGet
  by_cases h : k = a
  ·rw [if_pos h]; simp [h]
  ·rw [if_neg h, iU k r]; simp [h]
theorem Akm : ∀ i, (lyS s tk i).2.2 = ((List.range i).filter fun j => (nGet j s.nw).isSome).length
 | 0 => rfl
 | i + 1 => by
  rw [Jl, Ic, Am, ← Akm i]
  show (match nGet i s.nw with
  | none => lyS s tk i
  | some d => ((lyS s tk i).1.set i (tk.getD (lyS s tk i).2.2 0), (lyS s tk i).2.1 ++ [wIo (tk.getD (lyS s tk i).2.2 0) d], (lyS s tk i).2.2 + 1)).2.2 = _
  cases hg : nGet i s.nw with
  | none => simp [hg]
  | some d => simp [hg]
theorem cO (hn : (s.nw.map Prod.fst).Nodup) (hk : ∀ p ∈ s.nw, p.1 < 512) : (lyS s tk 512).2.2 = s.nw.length := by
 rw [Akm]
 have hp : ((List.range 512).filter fun j => (nGet j s.nw).isSome).Perm (s.nw.map Prod.fst) := by
  refine (List.perm_ext_iff_of_nodup (List.nodup_range.filter _) hn).2 fun a => ?_
  rw [Eh, iU, Bw]
  constructor
  ·exact fun h => h.2
  ·intro h
   obtain ⟨p, hp, rfl⟩ := Bt.1 h
   exact ⟨hk p hp, h⟩
 rw [hp.length_eq, Ah]
end
end Go.Proofs.YtkpndfkpdnknkaaGreat
set_option maxRecDepth 10000
namespace Go.Proofs.YtkpndfkpdnknkaaGreat
open Go.AI
structure StOk (w : WS) (s : St) : Prop where
 len : s.m.length = 512
 mem : ∀ a ∈ s.m, a = 0 ∨ a ∈ w.m
 keys : (s.nw.map Prod.fst).Nodup
 klt : ∀ p ∈ s.nw, p.1 < 512
 dat : ∀ p ∈ s.nw, p.2.length = 64
 size : s.size ≤ 512
def Ez (x : Img) : WS := x.trees.headD ⟨[], [], false⟩
theorem Aob {n : Nat} {l : List Nat} (hn : l.Nodup) (h : ∀ a ∈ l, a < n) : l.length ≤ n := by
 have hp : ((List.range n).filter fun a => decide (a ∈ l)).Perm l := by
  refine (List.perm_ext_iff_of_nodup (List.nodup_range.filter _) hn).2 fun a => ?_
  rw [Eh, Bw]
  constructor
  ·exact fun h => Ei h.2
  ·exact fun ha => ⟨h a ha, An ha⟩
 rw [← hp.length_eq]
 have := Fg (fun a => decide (a ∈ l)) (List.range n)
 simpa using this
theorem rP (ks : List (Option Nat)) : Dn ks ≤ ks.length := by unfold Dn; exact Fg _ _
theorem iM (l : List UInt8) (root : Nat) (m m0 : List Nat) : Ho l root m m0 ≤ 73 := by
 have h0 := rP (Cu l root m m0 0)
 have h1 := rP (Cu l root m m0 1)
 have h2 := rP (Cu l root m m0 2)
 rw [Hy] at h0 h1 h2
 unfold Ho
 have e0 : 8 ^ (2 - 0) = 64 := rfl
 have e1 : 8 ^ (2 - 1) = 8 := rfl
 have e2 : 8 ^ (2 - 2) = 1 := rfl
 omega
section
variable {l : List UInt8} {x : Img} {s : St}
theorem zP (hd : Dev l) (h : Zr l = .ok x) (hs : StOk (Ez x) s) (hle : s.nw.length ≤ (Cm (Bn l x)).length) :
  goP l x.sup.root = some (Ez x) ∧ Ez x ∈ x.trees ∧ (∀ a ∈ layM s (Cm (Bn l x)), a = 0 ∨ 2 ≤ a ∧ a < nb l) ∧ (layM s (Cm (Bn l x))).length = 512 ∧ MayP l (Ez x) (layM s (Cm (Bn l x))) ((Cm (Bn l x)).drop s.nw.length) ∧
  ((Cm (Bn l x)).drop s.nw.length).Nodup ∧ ∀ a ∈ (Cm (Bn l x)).drop s.nw.length, 2 ≤ a ∧ a < nb l ∧ a ∉ (Ez x).nodes := by
 have hI := (Ot hd).1 h
 have hx := cM hd h
 obtain ⟨w, ws, ht, hg, _, _⟩ := Gg hI
 have hw : Ez x = w := by unfold Ez; rw [ht]; rfl
 rw [hw] at hs ⊢
 have hwm : w ∈ x.trees := by rw [ht]; simp
 have hnr := Ig hI w hwm
 have hlo := Us hg
 have hfr : ∀ a ∈ Cm (Bn l x), 2 ≤ a ∧ a < nb l ∧ ¬ reached l x a := fun a ha => (Qi hd hx).1 ha
 have hfn := aS (Bn l x)
 have hri := Adl (Bn l x)
 generalize Cm (Bn l x) = fs at *
 have hcnt : (lyS s (fs.take s.nw.length) 512).2.2 ≤ (fs.take s.nw.length).length := by
  rw [cO hs.keys hs.klt, Ay]; omega
 have hmm : ∀ a ∈ layM s fs, a = 0 ∨ a ∈ w.m ∨ a ∈ fs.take s.nw.length := fun a ha => by
  rcases Abe 512 hcnt a ha with h | h
  ·exact (hs.mem a h).imp id .inl
  ·exact .inr (.inr h)
 have hdt : ∀ a, a ∈ fs.drop s.nw.length → a ∉ fs.take s.nw.length := fun a h1 h2 => by
  have := hfn
  rw [← Js s.nw.length fs] at this
  exact (Ej.1 this).2.2 a h2 a h1 rfl
 refine ⟨hg, hwm, fun a ha => ?_, by unfold layM; rw [(Rx s _ 512).1, hs.len], ⟨fun i hi => ?_, fun i hi => ?_⟩, hfn.sublist (List.drop_sublist _ _), fun a ha => ?_⟩
 ·rcases hmm a ha with h | h | h
  ·exact .inl h
  ·exact hlo.2 a h
  ·have := hfr a (As h); exact .inr ⟨this.1, this.2.1⟩
 ·have hmd : (fs.drop s.nw.length)[i] ∈ fs.drop s.nw.length := Bx _
  generalize (fs.drop s.nw.length)[i] = a at *
  have hf := hfr a (Cc hmd)
  refine ⟨hf.1, hf.2.1, fun hm => ?_, fun hm => ?_, fun hm => hf.2.2 (hnr.1 a hm)⟩
  ·rcases hmm a hm with h | h | h
   ·omega
   ·exact hf.2.2 ((hnr.2 a h).resolve_left (by omega))
   ·exact hdt a hmd h
  ·exact hf.2.2 ((hnr.2 a hm).resolve_left (by omega))
 ·have hlen : (fs.drop s.nw.length).length = fs.length - s.nw.length := Bl
  have := hri (s.nw.length + i) (by omega)
  rw [Qm, Qm]
  simp only [Ae, Aa (show s.nw.length + i < fs.length by omega), Aa (show s.nw.length + i + 1 < fs.length by omega), Asw] at this
  exact this
 ·have hf := hfr a (Cc ha)
  exact ⟨hf.1, hf.2.1, fun hm => hf.2.2 (hnr.1 a hm)⟩
theorem Avm (hd : Dev l) (h : Zr l = .ok x) (hs : StOk (Ez x) s) : MakeH l x s := by
 have hx := cM hd h
 have hI := (Ot hd).1 h
 have hnb := hd.nb
 have hF := zP hd h hs
 have hfl : (Cm (Bn l x)).length ≤ 4096 := by
  have h1 := Amr (Bn l x)
  rw [(Vh hx).1] at h1; omega
 have hnl : s.nw.length ≤ 512 := by
  have := Aob hs.keys fun a ha => by
   obtain ⟨p, hp, rfl⟩ := Bt.1 ha; exact hs.klt p hp
  simpa using this
 obtain ⟨w, ws, ht, hg, _, _⟩ := Gg hI
 have hw : Ez x = w := by unfold Ez; rw [ht]; rfl
 have hwm : w ∈ x.trees := by rw [ht]; simp
 have hgd := hx.tree w hwm
 have hok := (goP_iff.1 hg).2
 have hw' : x.trees.headD ⟨[], [], false⟩ = w := hw
 have hdrop : ∀ {fs : List Nat}, s.nw.length ≤ fs.length → Ho l x.sup.root (layM s fs) w.m ≤ (fs.drop s.nw.length).length → True := fun _ _ => trivial
 refine ⟨?_, hs.size, ?_⟩
 ·rw [hw']
  rw [hw] at hF
  refine ⟨hd, hg, hgd.1.1.1, by have := hgd.1.2; omega, fun h0 => lS (hok h0).1, fun h0 p hp hp0 => ?_, by omega, hnl, cO hs.keys hs.klt, fun hle => (hF hle).2.2.1, fun hle => (hF hle).2.2.2.2.1, fun hle hroom => ?_⟩
  ·have h2 : tOk l 2 x.sup.root := (hok h0).1
   exact lS ((h2.2 p hp).2 hp0)
  ·obtain ⟨f1, f2, f3, f4, f5, f6, f7⟩ := hF hle
   rw [Om] at hroom
   exact Apy hroom (Akw hg f4 f3 ⟨hnb.1, hnb.2⟩ f6 f7 hroom).1
 ·intro r ios rest hl
  rw [hw'] at hl
  rw [hw] at hF
  unfold layP at hl
  by_cases h1 : (Cm (Bn l x)).length < s.nw.length
  ·rw [if_pos h1] at hl; cases hl
  rw [if_neg h1] at hl
  by_cases h2 : ((Cm (Bn l x)).drop s.nw.length).length < Dq l x.sup.root (layM s (Cm (Bn l x))) w
  ·rw [if_pos h2] at hl; cases hl
  rw [if_neg h2] at hl
  obtain ⟨f1, f2, f3, f4, f5, f6, f7⟩ := hF (by omega)
  have hfr : ∀ a ∈ Cm (Bn l x), 2 ≤ a ∧ a < nb l := fun a ha => ⟨((Qi hd hx).1 ha).1, ((Qi hd hx).1 ha).2.1⟩
  generalize Cm (Bn l x) = fs at *
  rw [Om] at h2
  have hroom : Ho l x.sup.root (layM s fs) w.m ≤ (fs.drop s.nw.length).length := by omega
  have hR := Akw hg f4 f3 ⟨hnb.1, hnb.2⟩ f6 f7 hroom
  rw [Ago hroom] at hl
  simp only [Ag, Al] at hl
  obtain ⟨rfl, rfl, _⟩ := hl
  have hcnt : (lyS s (fs.take s.nw.length) 512).2.2 ≤ (fs.take s.nw.length).length := by
   rw [cO hs.keys hs.klt, Ay]; omega
  have hio := rU hs.dat 512 hcnt
  have hat := aO (l := l) (root := x.sup.root) (m := layM s fs) hroom
  have hbl : (Gx l x.sup.root (layM s fs) w.m (fs.drop s.nw.length)).length ≤ 73 := by
   have := Bk List.length hat
   rw [Ah, Ay] at this
   have := iM l x.sup.root (layM s fs) w.m
   omega
  have hbt : ∀ y ∈ Gx l x.sup.root (layM s fs) w.m (fs.drop s.nw.length), y.kind = 1 ∧ y.s = 1 ∧ y.t = false := by
   have key : ∀ (lv : Nat) (below : List Nat) (ks : List (Option Nat)) (i : Nat) (fs : List Nat), ∀ y ∈ (Ey lv below ks i fs).2.1, y.kind = 1 ∧ y.s = 1 ∧ y.t = false := by
    intro lv below ks
    induction ks with
    | nil => intro i fs y hy; simp [Ey] at hy
    | cons k ks ih =>
     intro i fs y hy
     cases k with
     | some a => exact ih _ _ y hy
     | none =>
      simp only [Ey, Ar] at hy
      rcases hy with rfl | hy
      ·exact ⟨rfl, rfl, rfl⟩
      ·exact ih _ _ y hy
   intro y hy
   unfold Gx at hy
   rcases Bq.1 hy with hy | hy
   ·rcases Bq.1 hy with hy | hy
    ·exact key _ _ _ _ _ y hy
    ·exact key _ _ _ _ _ y hy
   ·exact key _ _ _ _ _ y hy
  refine ⟨?_, fun y hy => ?_, hR.2⟩
  ·rw [Am, (Rx s _ 512).2, cO hs.keys hs.klt]; omega
  ·rcases Bq.1 hy with hy | hy
   ·obtain ⟨g1, g2, g3, g4, g5⟩ := hio y hy
    have := hfr _ (As g2)
    exact ⟨⟨g1, this, g3⟩, g4, g5⟩
   ·have g2 : y.at0 ∈ fs := Cc (As (by rw [← hat]; exact List.mem_map_of_mem hy))
    obtain ⟨g1, g4, g5⟩ := hbt y hy
    exact ⟨⟨g1, hfr _ g2, Wo f4 y hy⟩, g4, g5⟩
end
theorem jZ {k : Nat} : ∀ {l : List (Nat × List UInt8)} {p : Nat × List UInt8}, p ∈ nDel k l → p ∈ l
 | (a, u) :: r, p, h => by
  unfold nDel at h
  split at h
  ·exact Cb _ h
  ·rcases Ar.1 h with h | h
   ·rw [h]; simp
   ·exact Cb _ (jZ h)
theorem zZ (k : Nat) : ∀ l : List (Nat × List UInt8), ((nDel k l).map Prod.fst).Sublist (l.map Prod.fst)
 | [] => List.Sublist.refl _
 | (a, u) :: r => by
  unfold nDel
  split
  ·exact List.sublist_cons_self _ _
  ·exact (zZ k r).cons_cons _
theorem Afb (k : Nat) : ∀ l : List (Nat × List UInt8), (l.map Prod.fst).Nodup → k ∉ (nDel k l).map Prod.fst
 | [], _ => by simp [nDel]
 | (a, u) :: r, h => by
  rw [Bb, Gu] at h
  unfold nDel
  split
  ·rename_i he; rw [he]; exact h.1
  ·rename_i he
   rw [Bb, Ar, not_or]
   exact ⟨he, Afb k r h.2⟩
theorem rA (k : Nat) (v : List UInt8) : ∀ l : List (Nat × List UInt8), k ∉ l.map Prod.fst → nSet k v l = l ++ [(k, v)]
 | [], _ => rfl
 | (a, u) :: r, h => by
  rw [Bb, Ar, not_or] at h
  unfold nSet
  rw [if_neg h.1, rA k v r h.2]; rfl
section
variable {w : WS} {s : St}
theorem StOk.put (h : StOk w s) (i : Nat) {a : Nat} (ha : a = 0 ∨ a ∈ w.m) : StOk w (s.put i a) :=
 ⟨by show (s.m.set i a).length = 512; rw [Ee]; exact h.len, fun b hb => by
  rcases Eg hb with hb | rfl
  ·exact h.mem b hb
  ·exact ha, h.keys.sublist (zZ i s.nw), fun p hp => h.klt p (jZ hp), fun p hp => h.dat p (jZ hp), h.size⟩
theorem StOk.zero (h : StOk w s) (frm : Nat) : ∀ n, StOk w (s.zero frm n)
 | 0 => h
 | n + 1 => (h.zero frm n).put _ (.inl rfl)
theorem StOk.write (h : StOk w s) (frm : Nat) {d : List UInt8} : ∀ n, frm + n ≤ 512 → 64 * n ≤ d.length → StOk w (s.write frm d n)
 | 0, _, _ => h
 | n + 1, h1, h2 => by
  have ih := h.write frm (d := d) n (by omega) (by omega)
  have hp := ih.put (frm + n) (.inl rfl)
  have hnot : frm + n ∉ ((s.write frm d n).put (frm + n) 0).nw.map Prod.fst := Afb _ _ ih.keys
  have hs := rA (frm + n) (blk d n) _ hnot
  have hbl : (blk d n).length = 64 := by unfold blk; rw [Ay, Bl]; omega
  refine ⟨hp.len, hp.mem, ?_, ?_, ?_, hp.size⟩
  ·show ((nSet (frm + n) (blk d n) ((s.write frm d n).put (frm + n) 0).nw).map Prod.fst).Nodup
   rw [hs, Br]
   refine Ej.2 ⟨hp.keys, by simp, fun a ha b hb => ?_⟩
   rintro rfl
   rw [Bb, Lj, Bo] at hb
   subst hb
   exact hnot ha
  ·intro p hpp
   have hpp : p ∈ nSet (frm + n) (blk d n) ((s.write frm d n).put (frm + n) 0).nw := hpp
   rw [hs] at hpp
   rcases Bq.1 hpp with hpp | hpp
   ·exact hp.klt p hpp
   ·rw [Bo.1 hpp]; show frm + n < 512; omega
  ·intro p hpp
   have hpp : p ∈ nSet (frm + n) (blk d n) ((s.write frm d n).put (frm + n) 0).nw := hpp
   rw [hs] at hpp
   rcases Bq.1 hpp with hpp | hpp
   ·exact hp.dat p hpp
   ·rw [Bo.1 hpp]; exact hbl
theorem StOk.sized (h : StOk w s) {n : Nat} (hn : n ≤ 512) : StOk w { s with size := n } := ⟨h.len, h.mem, h.keys, h.klt, h.dat, hn⟩
end
end Go.Proofs.YtkpndfkpdnknkaaGreat
