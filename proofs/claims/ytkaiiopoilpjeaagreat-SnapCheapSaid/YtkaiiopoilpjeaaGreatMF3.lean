/- Lemmas. -/
import Derived.Test.YtkaiiopoilpjeaaGreatMJ7
import Derived.Test.YtkaiiopoilpjeaaGreatMF2
set_option linter.unusedSimpArgs false
set_option linter.unusedVariables false
set_option maxRecDepth 10000
namespace Go.Proofs.YtkaiiopoilpjeaaGreat
open Go.AI
theorem Aig (w1 : List Nat) : ∀ (ps : List Nat) (i place : Nat) (A : List Nat) (r : Nat), A.length = place * 8 + i → lr1F ps i place (A ++ List.replicate (ps.length + r) 0, w1) = (A ++ ps ++ List.replicate r 0, w1)
 | [], i, place, A, r, h => by simp [lr1F]
 | p :: ps, i, place, A, r, h => by
  simp only [lr1F]
  have e : lr0 p (place * 8 + i) (A ++ List.replicate ((p :: ps).length + r) 0) = (A ++ [p]) ++ List.replicate (ps.length + r) 0 := by
   rw [show (p :: ps).length + r = (ps.length + r) + 1 by simp only [Ao]; omega, Ni]
   unfold lr0
   split
   ·rename_i h0; rw [h0]; simp
   ·rw [Js _ _ (by omega), h, Rx, Tz]; simp
  rw [e, Aig w1 ps (i + 1) place (A ++ [p]) r (by simp; omega)]
  simp
def dn (l : List UInt8) (a : Nat) : List Nat := if a = 0 then List.replicate 8 0 else Ea l a
theorem Awc (l : List UInt8) (p i : Nat) (A B : List Nat) (r q : Nat) (hA : A.length = i * 8) (hB : B.length = i) : lr1 l p i (A ++ List.replicate (8 + r) 0, B ++ List.replicate (q + 1) 0) = (A ++ dn l p ++ List.replicate r 0, B ++ [p] ++ List.replicate q 0) := by
 unfold lr1 dn
 split
 ·rename_i h0
  rw [h0, ← List.replicate_append_replicate]; simp; exact Ni
 ·rename_i h0
  have h8 : (Cx (blk l p)).1.ptr.length = 8 := Im _
  have e : (B ++ List.replicate (q + 1) 0).set i p = B ++ [p] ++ List.replicate q 0 := by
   rw [Js _ _ (by omega), hB, Rx, Ni, Tz]; simp
  simp only [e]
  have := Aig (B ++ [p] ++ List.replicate q 0) (Cx (blk l p)).1.ptr 0 i A r (by omega)
  rw [h8] at this
  exact this
theorem Awx (l : List UInt8) (a : Nat) : (dn l a).length = 8 := by
 unfold dn; split
 ·simp
 ·exact Im _
theorem Aie (l : List UInt8) (w2 : List Nat) : ∀ (ps : List Nat) (i : Nat) (A B : List Nat), A.length = i * 8 → B.length = i → lr2F l ps i (A ++ List.replicate (8 * ps.length) 0, B ++ List.replicate ps.length 0, w2) = (A ++ ps.flatMap (dn l), B ++ ps, w2)
 | [], i, A, B, hA, hB => by simp [lr2F]
 | p :: ps, i, A, B, hA, hB => by
  simp only [lr2F]
  have e := Awc l p (0 * 8 + i) A B (8 * ps.length) ps.length (by omega) (by omega)
  rw [show 8 * (p :: ps).length = 8 + 8 * ps.length by simp only [Ao]; omega, show (p :: ps).length = ps.length + 1 from rfl, e]
  rw [Aie l w2 ps (i + 1) (A ++ dn l p) (B ++ [p]) (by rw [An, Awx]; omega) (by simp; omega)]
  simp
theorem Ain (l : List UInt8) (a : Nat) : was3 l a = (wasL l a 2, wasL l a 1, wasL l a 0) := by
 unfold was3 lr2
 by_cases h0 : a = 0
 ·rw [if_pos h0, h0]; rfl
 ·rw [if_neg h0]
  have h8 : (Cx (blk l a)).1.ptr.length = 8 := Im _
  have := Aie l ((List.replicate 1 0).set 0 a) (Cx (blk l a)).1.ptr 0 [] [] rfl rfl
  rw [h8] at this
  simp only [Dd] at this
  have e1 : wasL l a 1 = (Cx (blk l a)).1.ptr := by
   show ([a].flatMap fun a => if a = 0 then List.replicate 8 0 else Ea l a) = _
   simp [h0, Ea]
  have e2 : wasL l a 2 = (Cx (blk l a)).1.ptr.flatMap (dn l) := by
   show Auy l (wasL l a 1) = _
   rw [e1]; rfl
  rw [e1, e2]
  exact this
def prL (lv : Nat) : List (Option Nat) → Nat → List (Nat × Nat)
 | [], _ => []
 | some _ :: ks, i => prL lv ks (i + 1)
 | none :: ks, i => (lv, i) :: prL lv ks (i + 1)
def Uj (ps : List (Nat × Nat)) : List Nat := ps.flatMap fun p => [p.1, p.2]
theorem Ud (lv : Nat) : ∀ (ks : List (Option Nat)) (i : Nat), (prL lv ks i).length = Dr ks
 | [], _ => rfl
 | some _ :: ks, i => by simp only [prL]; rw [Ud lv ks]; simp [Dr]
 | none :: ks, i => by simp only [prL, Ao]; rw [Ud lv ks]; simp [Dr]
theorem oS (lv : Nat) (x : Option Nat) : ∀ (ks : List (Option Nat)) (i : Nat), prL lv (ks ++ [x]) i = prL lv ks i ++ (match x with | none => [(lv, i + ks.length)] | some _ => [])
 | [], i => by cases x <;> rfl
 | some a :: ks, i => by
  show prL lv (ks ++ [x]) (i + 1) = prL lv ks (i + 1) ++ _
  rw [oS lv x ks (i + 1), Ao, show i + (ks.length + 1) = i + 1 + ks.length by omega]
 | none :: ks, i => by
  show (lv, i) :: prL lv (ks ++ [x]) (i + 1) = (lv, i) :: prL lv ks (i + 1) ++ _
  rw [oS lv x ks (i + 1), Ao, show i + (ks.length + 1) = i + 1 + ks.length by omega]; rfl
theorem Xt (a b : List (Nat × Nat)) : Uj (a ++ b) = Uj a ++ Uj b := by unfold Uj; rw [Sh]
theorem wU (a : List (Nat × Nat)) : (Uj a).length = 2 * a.length := by
 induction a with
 | nil => rfl
 | cons p a ih =>
  show ([p.1, p.2] ++ Uj a).length = _
  rw [An, ih, Ao]; simp; omega
theorem oG (m m0 was : List Nat) (lv : Nat) : ∀ n, newR m m0 was lv n = Uj (prL lv ((List.range n).map (Fq m m0 was lv)) 0)
 | 0 => rfl
 | n + 1 => by
  rw [Wm, oG m m0 was lv n, Kt, Bq, Aw, Jz, oS, Xt]
  congr 1
  cases hk : Fq m m0 was lv n with
  | none => simp [Uj]
  | some a => simp [Uj]
section
variable {l : List UInt8} {root : Nat} {w : WS} {m : List Nat}
def prsL (l : List UInt8) (root : Nat) (m : List Nat) (w : WS) : List (Nat × Nat) := prL 0 (Cv l root m w.m 0) 0 ++ prL 1 (Cv l root m w.m 1) 0 ++ prL 2 (Cv l root m w.m 2) 0
theorem jE : Tw l root m w = Uj (prsL l root m w) := by
 unfold Tw prsL Oj
 rw [Ain, Xt, Xt, oG, oG, oG]
 rfl
theorem Oq : Du l root m w = Ht l root m w.m := by
 unfold Du Ht
 rw [jE, wU]
 unfold prsL
 rw [An, An, Ud, Ud, Ud]; omega
theorem iL : (prsL l root m w).length = Ht l root m w.m := by
 unfold prsL Ht
 rw [An, An, Ud, Ud, Ud]
end
def runW (m : List Nat) : List (Nat × Nat) → List Nat → WSt → WSt
 | [], _, s => s
 | _ :: _, [], s => s
 | p :: ps, b :: fs, s => runW m ps fs (s.step m p.1 p.2 b)
def pD (m : List Nat) : List (Nat × Nat) → List Nat → WSt → Prop
 | [], _, s => True
 | _ :: _, [], s => True
 | p :: ps, b :: fs, s => (p.1 ≤ 2 ∧ p.2 < 8 ^ (2 - p.1)) ∧ Nod.ok ⟨p.1, oct ((s.step m p.1 p.2 b).below m p.1) p.2⟩ ∧ pD m ps fs (s.step m p.1 p.2 b)
theorem vN (m : List Nat) : ∀ (ps : List (Nat × Nat)) (fs : List Nat) (s : WSt), runW m ps (fs.take ps.length) s = runW m ps fs s
 | [], fs, s => rfl
 | p :: ps, [], s => rfl
 | p :: ps, b :: fs, s => vN m ps fs _
theorem rQ (m : List Nat) : ∀ (ps : List (Nat × Nat)) (fs : List Nat) (s : WSt), pD m ps fs s → pD m ps (fs.take ps.length) s
 | [], fs, s, _ => trivial
 | p :: ps, [], s, _ => trivial
 | p :: ps, b :: fs, s, ⟨h1, h2, h3⟩ => ⟨h1, h2, rQ m ps fs _ h3⟩
theorem jS (l : List Nat) (a i : Nat) : (l.drop a).getD i 0 = l.getD (a + i) 0 := by
 rw [Af, Af, Ok]
theorem kI (m fl fs : List Nat) (s : WSt) : ∀ i, wst m fl fs s (i + 1) = wst m (fl.drop 2) (fs.drop 1) (s.step m (fl.getD 0 0) (fl.getD 1 0) (fs.getD 0 0)) i
 | 0 => rfl
 | i + 1 => by
  show (wst m fl fs s (i + 1)).step m _ _ _ = (wst m (fl.drop 2) (fs.drop 1) _ i).step m _ _ _
  rw [kI m fl fs s i, jS, jS, jS, show 2 + 2 * i = 2 * (i + 1) by omega, show 2 + (2 * i + 1) = 2 * (i + 1) + 1 by omega, show 1 + i = i + 1 by omega]
theorem pU (p : Nat × Nat) (ps : List (Nat × Nat)) : Uj (p :: ps) = p.1 :: p.2 :: Uj ps := rfl
theorem Ait (m : List Nat) : ∀ (ps : List (Nat × Nat)) (fs : List Nat) (s : WSt), fs.length ≤ ps.length → wst m (Uj ps) fs s fs.length = runW m ps fs s
 | [], [], s, _ => rfl
 | [], _ :: _, s, h => by simp at h
 | p :: ps, [], s, _ => rfl
 | p :: ps, b :: fs, s, h => by
  rw [Ao, kI, pU]
  exact Ait m ps fs _ (by simpa using h)
theorem wE (m : List Nat) : ∀ (ps : List (Nat × Nat)) (fs : List Nat) (s : WSt), fs.length ≤ ps.length → pD m ps fs s → wM m (Uj ps) fs s
 | [], [], s, _, _ => fun i hi => by simp at hi
 | [], _ :: _, s, h, _ => by simp at h
 | p :: ps, [], s, _, _ => fun i hi => by simp at hi
 | p :: ps, b :: fs, s, h, ⟨h1, h2, h3⟩ => by
  intro i hi
  cases i with
  | zero => exact ⟨by rw [wU, Ao]; omega, h1, h2⟩
  | succ i =>
   have ih := wE m ps fs _ (by simpa using h) h3 i (by simpa using hi)
   rw [kI, pU]
   rw [show 2 * (i + 1) = (2 * i + 1) + 1 by omega, Hn, Hn, Hn, Hn]
   refine ⟨?_, ih.2.1, ih.2.2⟩
   simp only [Ao]
   have := ih.1
   omega
def WSt.row (s : WSt) (lv : Nat) : List Nat := match lv with | 0 => s.i0 | 1 => s.i1 | _ => s.i2
def WSt.upd (s : WSt) (lv : Nat) (X : List Nat) (ios : List IoV) : WSt := match lv with | 0 => ⟨ios, X, s.i1, s.i2⟩ | 1 => ⟨ios, s.i0, X, s.i2⟩ | _ => ⟨ios, s.i0, s.i1, X⟩
theorem Ati (s : WSt) (m : List Nat) (lv pl b : Nat) : s.step m lv pl b = s.upd lv ((s.row lv).set pl b) (s.ios ++ [wIo b (nodB ⟨lv, oct (s.below m lv) pl⟩)]) := by
 match lv with
 | 0 => rfl
 | 1 => rfl
 | n + 2 => rfl
theorem upd_upd (s : WSt) (lv : Nat) (X Y : List Nat) (a b : List IoV) : (s.upd lv X a).upd lv Y b = s.upd lv Y b := by
 match lv with
 | 0 => rfl
 | 1 => rfl
 | n + 2 => rfl
theorem upd_self (s : WSt) (lv : Nat) : s.upd lv (s.row lv) s.ios = s := by
 match lv with
 | 0 => rfl
 | 1 => rfl
 | n + 2 => rfl
theorem Ash (s : WSt) (lv : Nat) (X : List Nat) (a : List IoV) : (s.upd lv X a).row lv = X := by
 match lv with
 | 0 => rfl
 | 1 => rfl
 | n + 2 => rfl
theorem Amw (s : WSt) (m : List Nat) (lv : Nat) (X : List Nat) (a : List IoV) : (s.upd lv X a).below m lv = s.below m lv := by
 match lv with
 | 0 => rfl
 | 1 => rfl
 | n + 2 => rfl
theorem Aud (s : WSt) (lv : Nat) (X : List Nat) (a : List IoV) : (s.upd lv X a).ios = a := by
 match lv with
 | 0 => rfl
 | 1 => rfl
 | n + 2 => rfl
def Zz : List (Option Nat) → List Nat → Prop
 | [], [] => True
 | some a :: ks, v :: V => v = a ∧ Zz ks V
 | none :: ks, _ :: V => Zz ks V
 | _, _ => False
theorem lI {k : Nat → Option Nat} {f : Nat → Nat} (h : ∀ j a, k j = some a → f j = a) : ∀ js : List Nat, Zz (js.map k) (js.map f)
 | [] => trivial
 | j :: js => by
  rw [Aw, Aw]
  cases hk : k j with
  | none => exact lI h js
  | some a => exact ⟨h j a hk, lI h js⟩
theorem Ado (m : List Nat) (lv : Nat) (rest : List (Nat × Nat)) : ∀ (ks : List (Option Nat)) (i : Nat) (A V fs : List Nat) (s : WSt), s.row lv = A ++ V → A.length = i → Zz ks V → Dr ks ≤ fs.length →
  runW m (prL lv ks i ++ rest) fs s = runW m rest (fs.drop (Dr ks)) (s.upd lv (A ++ (Fc lv (s.below m lv) ks i fs).1) (s.ios ++ (Fc lv (s.below m lv) ks i fs).2.1)) ∧
  ((lv ≤ 2 ∧ i + ks.length ≤ 8 ^ (2 - lv) ∧ (∀ j (h : j < ks.length), ks[j] = none → Nod.ok ⟨lv, oct (s.below m lv) (i + j)⟩) ∧ pD m rest (fs.drop (Dr ks)) (s.upd lv (A ++ (Fc lv (s.below m lv) ks i fs).1) (s.ios ++ (Fc lv (s.below m lv) ks i fs).2.1))) → pD m (prL lv ks i ++ rest) fs s)
 | [], i, A, [], fs, s, hr, hA, hag, hn => by
  have e : s.upd lv (A ++ (Fc lv (s.below m lv) [] i fs).1) (s.ios ++ (Fc lv (s.below m lv) [] i fs).2.1) = s := by
   simp only [Fc, Bv]
   rw [Bv] at hr
   rw [← hr, upd_self]
  rw [e]
  exact ⟨rfl, fun h => h.2.2.2⟩
 | [], i, A, _ :: _, fs, s, hr, hA, hag, hn => hag.elim
 | some a :: ks, i, A, [], fs, s, hr, hA, hag, hn => hag.elim
 | none :: ks, i, A, [], fs, s, hr, hA, hag, hn => hag.elim
 | some a :: ks, i, A, v :: V, fs, s, hr, hA, ⟨hv, hag⟩, hn => by
  subst hv
  have hnd : Dr (some v :: ks) = Dr ks := by simp [Dr]
  rw [hnd] at hn ⊢
  have ih := Ado m lv rest ks (i + 1) (A ++ [v]) V fs s (by rw [hr]; simp) (by simp [hA]) hag hn
  simp only [Fc]
  have e : A ++ [v] ++ (Fc lv (s.below m lv) ks (i + 1) fs).1 = A ++ v :: (Fc lv (s.below m lv) ks (i + 1) fs).1 := by simp
  rw [e] at ih
  refine ⟨ih.1, fun h => ih.2 ⟨h.1, by have := h.2.1; simp only [Ao] at this; omega, fun j hj hk => ?_, h.2.2.2⟩⟩
  have := h.2.2.1 (j + 1) (by simpa using hj) (by simpa using hk)
  rw [show i + 1 + j = i + (j + 1) by omega]; exact this
 | none :: ks, i, A, v :: V, [], s, hr, hA, hag, hn => by simp [Dr] at hn
 | none :: ks, i, A, v :: V, b :: fs, s, hr, hA, hag, hn => by
  have hnd : Dr (none :: ks) = Dr ks + 1 := by simp [Dr]
  rw [hnd] at hn ⊢
  have hst : s.step m lv i b = s.upd lv ((A ++ [b]) ++ V) (s.ios ++ [wIo b (nodB ⟨lv, oct (s.below m lv) i⟩)]) := by
   rw [Ati, hr, Js _ _ (by omega), hA, Rx, Tz]; simp
  have ih := Ado m lv rest ks (i + 1) (A ++ [b]) V fs (s.step m lv i b) (by rw [hst, Ash]) (by simp [hA]) hag (by simpa using hn)
  have hb : (s.step m lv i b).below m lv = s.below m lv := by rw [hst, Amw]
  have hi : (s.step m lv i b).ios = s.ios ++ [wIo b (nodB ⟨lv, oct (s.below m lv) i⟩)] := by rw [hst, Aud]
  have hu : ∀ X a, (s.step m lv i b).upd lv X a = s.upd lv X a := fun X a => by rw [hst, upd_upd]
  rw [hb, hi, hu] at ih
  simp only [Fc, Mn, Afb, Cb]
  have e : A ++ [b] ++ (Fc lv (s.below m lv) ks (i + 1) fs).1 = A ++ b :: (Fc lv (s.below m lv) ks (i + 1) fs).1 := by simp
  have e2 : s.ios ++ [wIo b (nodB ⟨lv, oct (s.below m lv) i⟩)] ++ (Fc lv (s.below m lv) ks (i + 1) fs).2.1 = s.ios ++ wIo b (nodB ⟨lv, oct (s.below m lv) i⟩) :: (Fc lv (s.below m lv) ks (i + 1) fs).2.1 := by simp
  rw [e, e2] at ih
  refine ⟨ih.1, fun h => ?_⟩
  have h1 := h.2.1
  simp only [Ao] at h1
  refine ⟨⟨h.1, by show i < 8 ^ (2 - lv); omega⟩, ?_, ih.2 ⟨h.1, by omega, fun j hj hk => ?_, h.2.2.2⟩⟩
  ·show Nod.ok ⟨lv, oct ((s.step m lv i b).below m lv) i⟩
   rw [hb]
   exact h.2.2.1 0 (by simp) rfl
  ·have := h.2.2.1 (j + 1) (by simpa using hj) (by simpa using hk)
   rw [show i + 1 + j = i + (j + 1) by omega]; exact this
section
variable {l : List UInt8} {root : Nat} {w : WS} {m fs : List Nat}
theorem lC (m m0 was : List Nat) (lv n : Nat) : Zz ((List.range n).map (Fq m m0 was lv)) (isR m m0 was lv n) := by
 unfold isR
 refine lI (fun j a h => ?_) _
 unfold isOf; rw [h]; rfl
def yO (l : List UInt8) (root : Nat) (m m0 fs : List Nat) : Prop := ∀ lv pl, lv ≤ 2 → pl < 8 ^ (2 - lv) → Fq m m0 (wasL l root (2 - lv)) lv pl = none → Nod.ok ⟨lv, oct (Kc l root m m0 fs lv) pl⟩
theorem Abm (hroom : Ht l root m w.m ≤ fs.length) : runW m (prsL l root m w) fs (Qq l root m w) = ⟨Gw l root m w.m fs, (lay0 l root m w.m fs).1, (lay1 l root m w.m fs).1, (lay2 l root m w.m fs).1⟩ ∧ (yO l root m w.m fs → pD m (prsL l root m w) fs (Qq l root m w)) := by
 have hr := hroom
 unfold Ht at hr
 have e1 : (lay0 l root m w.m fs).2.2 = fs.drop (Dr (Cv l root m w.m 0)) := Jc _ _ _
 have e2 : (lay1 l root m w.m fs).2.2 = (lay0 l root m w.m fs).2.2.drop (Dr (Cv l root m w.m 1)) := Jc _ _ _
 have hs0 : Qq l root m w = ⟨[], isR m w.m (wasL l root 2) 0 64, isR m w.m (wasL l root 1) 1 8, isR m w.m (wasL l root 0) 2 1⟩ := by unfold Qq; rw [Ain]
 rw [hs0]
 unfold prsL
 rw [Cf]
 have r0 := Ado m 0 (prL 1 (Cv l root m w.m 1) 0 ++ prL 2 (Cv l root m w.m 2) 0) (Cv l root m w.m 0) 0 [] (isR m w.m (wasL l root 2) 0 64) fs ⟨[], isR m w.m (wasL l root 2) 0 64, isR m w.m (wasL l root 1) 1 8, isR m w.m (wasL l root 0) 2 1⟩ rfl rfl (lC m w.m (wasL l root 2) 0 64) (by omega)
 have r1 := Ado m 1 (prL 2 (Cv l root m w.m 2) 0) (Cv l root m w.m 1) 0 [] (isR m w.m (wasL l root 1) 1 8) (fs.drop (Dr (Cv l root m w.m 0))) ⟨[] ++ (lay0 l root m w.m fs).2.1, [] ++ (lay0 l root m w.m fs).1, isR m w.m (wasL l root 1) 1 8, isR m w.m (wasL l root 0) 2 1⟩ rfl rfl (lC m w.m (wasL l root 1) 1 8) (by rw [Ba]; omega)
 rw [← e1] at r1
 have r2 := Ado m 2 [] (Cv l root m w.m 2) 0 [] (isR m w.m (wasL l root 0) 2 1) ((lay0 l root m w.m fs).2.2.drop (Dr (Cv l root m w.m 1))) ⟨[] ++ (lay0 l root m w.m fs).2.1 ++ (lay1 l root m w.m fs).2.1, [] ++ (lay0 l root m w.m fs).1, [] ++ (lay1 l root m w.m fs).1, isR m w.m (wasL l root 0) 2 1⟩ rfl rfl (lC m w.m (wasL l root 0) 2 1) (by rw [e1, Ba, Ba]; omega)
 rw [← e2, Bv] at r2
 have g0 : ∀ lv, lv ≤ 2 → yO l root m w.m fs → ∀ j (h : j < (Cv l root m w.m lv).length), (Cv l root m w.m lv)[j] = none → Nod.ok ⟨lv, oct (Kc l root m w.m fs lv) (0 + j)⟩ := by
  intro lv hlv hN j h hk
  rw [Ii] at h
  rw [dS h] at hk
  rw [Cq]
  exact hN lv j hlv h hk
 have q0 : (0 : Nat) + (Cv l root m w.m 0).length ≤ 8 ^ (2 - 0) := by rw [Ii]; decide
 have q1 : (0 : Nat) + (Cv l root m w.m 1).length ≤ 8 ^ (2 - 1) := by rw [Ii]; decide
 have q2 : (0 : Nat) + (Cv l root m w.m 2).length ≤ 8 ^ (2 - 2) := by rw [Ii]; decide
 refine ⟨?_, fun hN => ?_⟩
 ·rw [r0.1, ← e1]
  refine Eq.trans r1.1 ?_
  rw [← e2]
  refine Eq.trans r2.1 ?_
  show (⟨[] ++ (lay0 l root m w.m fs).2.1 ++ (lay1 l root m w.m fs).2.1 ++ (lay2 l root m w.m fs).2.1, [] ++ (lay0 l root m w.m fs).1, [] ++ (lay1 l root m w.m fs).1, [] ++ (lay2 l root m w.m fs).1⟩ : WSt) = _
  simp only [Dd]; rfl
 ·refine r0.2 ⟨by decide, q0, g0 0 (by decide) hN, ?_⟩
  rw [← e1]
  refine r1.2 ⟨by decide, q1, g0 1 (by decide) hN, ?_⟩
  rw [← e2]
  exact r2.2 ⟨by decide, q2, g0 2 (by decide) hN, trivial⟩
theorem Adg (hroom : Ht l root m w.m ≤ fs.length) : Tj l root m w fs = ⟨Gw l root m w.m fs, (lay0 l root m w.m fs).1, (lay1 l root m w.m fs).1, (lay2 l root m w.m fs).1⟩ := by
 unfold Tj
 rw [Oq, jE, Ait _ _ _ _ (by rw [iL, Bc]; omega), ← (Abm hroom).1, ← iL (l := l) (root := root) (m := m) (w := w)]
 exact vN _ _ _ _
theorem Apm (hroom : Ht l root m w.m ≤ fs.length) (hN : yO l root m w.m fs) : wM m (Tw l root m w) (fs.take (Du l root m w)) (Qq l root m w) := by
 rw [Oq, jE]
 refine wE _ _ _ _ (by rw [iL, Bc]; omega) ?_
 rw [← iL (l := l) (root := root) (m := m) (w := w)]
 exact rQ _ _ _ _ ((Abm hroom).2 hN)
end
end Go.Proofs.YtkaiiopoilpjeaaGreat
set_option maxRecDepth 10000
namespace Go.Proofs.YtkaiiopoilpjeaaGreat
open Go.AI
theorem Apc : ∀ (ios : List IoV) (l : List UInt8), (∀ y ∈ ios, y.at0 < nb l ∧ y.data.length = 64) → (ios.map IoV.at0).Nodup → ∃ l', l'.length = l.length ∧ (∀ a, a ∉ ios.map IoV.at0 → blk l' a = blk l a) ∧ ∀ y ∈ ios, blk l' y.at0 = y.data
 | [], l, _, _ => ⟨l, rfl, fun _ _ => rfl, fun _ h => by cases h⟩
 | y :: ios, l, h, hn => by
  have h0 := h y (by simp)
  have hle : 64 * (y.at0 + 1) ≤ l.length := by have := h0.1; unfold nb at this; omega
  rw [Aw, Gu] at hn
  have hlen := yT hle h0.2
  have hnb : nb (wr l y.at0 y.data) = nb l := by unfold nb; rw [hlen]
  obtain ⟨l', g1, g2, g3⟩ := Apc ios (wr l y.at0 y.data) (fun z hz => by rw [hnb]; exact h z (by simp [hz])) hn.2
  refine ⟨l', g1.trans hlen, fun a ha => ?_, fun z hz => ?_⟩
  ·simp only [Aw, Ap, not_or] at ha
   rw [g2 a ha.2, Aav hle h0.2, if_neg ha.1]
  ·rcases Ap.1 hz with rfl | hz
   ·rw [g2 _ hn.1, Aav hle h0.2, if_pos rfl]
   ·exact g3 z hz
section
variable {l l' : List UInt8} {root : Nat} {w : WS} {m fs : List Nat}
theorem vA {lv : Nat} {ps : List Nat} (hp : ∀ p ∈ ps, ptrOk p) (hlv : lv ≤ 2) (hz : ¬ Mp ps) : Nod.ok ⟨lv, ps⟩ :=
 ⟨Hb.2 fun p hpm => As (hp p hpm), hlv, by
  cases ha : ps.any (fun b => decide (b ≠ 0)) with
  | true => rfl
  | false => exact absurd (any_zeros.1 ha) hz⟩
theorem Lay.nod_ok (h : Lay l l' root w m fs) {lv pl : Nat} (hlv : lv ≤ 2) (hpl : pl < 8 ^ (2 - lv)) (hk : Fq m w.m (wasL l root (2 - lv)) lv pl = none) : Nod.ok ⟨lv, oct (Kc l root m w.m fs lv) pl⟩ := by
 have hz := Qu hk
 have h4 := h.nb4
 cases lv with
 | zero =>
  refine vA (fun p hp => ?_) hlv hz
  have := h.range p (Cu (Bs hp))
  unfold ptrOk; omega
 | succ lv =>
  have hlv : lv < 2 := by omega
  have h2 : 2 - lv = (2 - (lv + 1)) + 1 := by omega
  have hidx : ∀ i, i < 8 → 8 * pl + i < 8 ^ (2 - lv) := fun i hi => by rw [h2, Fx]; omega
  have h8 : (oct (Kc l root m w.m fs (lv + 1)) pl).length = 8 := Aad (n := 8 ^ (2 - (lv + 1))) (by rw [lG hlv, h2, Fx, Gl]) hpl
  have hget : ∀ i, i < 8 → (oct (Kc l root m w.m fs (lv + 1)) pl).getD i 0 = isN l root m w.m fs lv (8 * pl + i) := fun i hi => by rw [gZ hi, jD hlv]
  refine vA (fun p hp => ?_) (by omega) (fun hzz => hz ?_)
  ·obtain ⟨i, hi, rfl⟩ := rZ h8 hp
   rw [hget i hi]
   exact (h.bound (by omega) (hidx i hi) (h.all (by omega) (hidx i hi))).1
  ·rw [Qv m lv pl]
   intro x hx
   obtain ⟨i, hi, hx⟩ := Dg.1 hx
   have hi := Cc.1 hi
   have hmem : (oct (Kc l root m w.m fs (lv + 1)) pl).getD i 0 ∈ oct (Kc l root m w.m fs (lv + 1)) pl := by simp [Af, Aa (by omega : i < (oct (Kc l root m w.m fs (lv + 1)) pl).length)]
   have h0 := hzz _ hmem
   rw [hget i hi] at h0
   exact (h.all (by omega) (hidx i hi)).zero h0 x hx
theorem Avy (old : goP l root = some w) (len : m.length = 512) (range : ∀ a ∈ m, a = 0 ∨ 2 ≤ a ∧ a < nb l) (nb4 : 4 ≤ nb l ∧ nb l ≤ 4096) (nodup : fs.Nodup) (free : ∀ a ∈ fs, 2 ≤ a ∧ a < nb l ∧ a ∉ w.nodes) (room : Ht l root m w.m ≤ fs.length) : ∃ l', Lay l l' root w m fs := by
 have hat := Za (l := l) (root := root) (m := m) room
 obtain ⟨l', g1, g2, g3⟩ := Apc (Gw l root m w.m fs) l (fun y hy => ⟨(free _ (Bs (by rw [← hat]; exact List.mem_map_of_mem hy))).2.1, Vi len y hy⟩) (by rw [hat]; exact nodup.sublist (Vr _ _))
 exact ⟨l', old, len, range, nb4, nodup, free, room, by unfold nb; rw [g1], fun a ha => g2 a (by rw [hat]; exact fun h => (free a (Bs h)).2.2 ha), g3⟩
theorem Ail (old : goP l root = some w) (len : m.length = 512) (range : ∀ a ∈ m, a = 0 ∨ 2 ≤ a ∧ a < nb l) (nb4 : 4 ≤ nb l ∧ nb l ≤ 4096) (nodup : fs.Nodup) (free : ∀ a ∈ fs, 2 ≤ a ∧ a < nb l ∧ a ∉ w.nodes) (room : Ht l root m w.m ≤ fs.length) : yO l root m w.m fs ∧ ((lay2 l root m w.m fs).1.getD 0 0 = 0 ∨ 2 ≤ (lay2 l root m w.m fs).1.getD 0 0 ∧ (lay2 l root m w.m fs).1.getD 0 0 < nb l) := by
 obtain ⟨l', h⟩ := Avy old len range nb4 nodup free room
 refine ⟨fun lv pl hlv hpl hk => h.nod_ok hlv hpl hk, ?_⟩
 have hb := h.bound (lv := 2) (pl := 0) (by decide) (by decide) (h.all (by decide) (by decide))
 have hb1 := hb.1
 have hb2 := hb.2
 unfold ptrOk at hb1
 have e : isN l root m w.m fs 2 0 = (lay2 l root m w.m fs).1.getD 0 0 := rfl
 rw [e] at hb1 hb2
 omega
end
section
variable {s : St} {tk : List Nat}
theorem zP : ∀ i, (lyS s tk i).2.2 ≤ tk.length → ∀ a ∈ (lyS s tk i).1, a ∈ s.m ∨ a ∈ tk
 | 0, _, a, ha => .inl ha
 | i + 1, hc, a, ha => by
  have ih := zP i
  unfold lyS at hc ha
  split at hc
  ·rename_i hg; rw [hg] at ha; exact ih hc a ha
  ·rename_i d hg
   rw [hg] at ha
   simp only at hc ha
   rcases En ha with h | h
   ·exact ih (by omega) a h
   ·right
    rw [h, Af, Aa (by omega)]
    exact Bw _
theorem Aah (hd : ∀ p ∈ s.nw, p.2.length = 64) : ∀ i, (lyS s tk i).2.2 ≤ tk.length → ∀ y ∈ (lyS s tk i).2.1, y.kind = 1 ∧ y.at0 ∈ tk ∧ y.data.length = 64 ∧ y.s = 1 ∧ y.t = false
 | 0, _, y, hy => by cases hy
 | i + 1, hc, y, hy => by
  have ih := Aah hd i
  have hgm : ∀ (l : List (Nat × List UInt8)) (d : List UInt8), nGet i l = some d → ∃ p ∈ l, p.2 = d := by
   intro l d
   induction l with
   | nil => intro h; cases h
   | cons p r ihl =>
    obtain ⟨a, v⟩ := p
    intro h
    unfold nGet at h
    split at h
    ·have h : v = d := by simpa using h
     exact ⟨(a, v), Ct .., h⟩
    ·obtain ⟨p, hp, he⟩ := ihl h; exact ⟨p, by simp [hp], he⟩
  unfold lyS at hc hy
  split at hc
  ·rename_i hg; rw [hg] at hy; exact ih hc y hy
  ·rename_i d hg
   rw [hg] at hy
   simp only at hc hy
   rcases Bi.1 hy with h | h
   ·exact ih (by omega) y h
   ·rw [Bg.1 h]
    obtain ⟨p, hp, rfl⟩ := hgm s.nw d hg
    refine ⟨rfl, ?_, hd p hp, rfl, rfl⟩
    show tk.getD _ 0 ∈ tk
    rw [Af, Aa (by omega)]
    exact Bw _
theorem gJ (k : Nat) : ∀ l : List (Nat × List UInt8), (nGet k l).isSome = true ↔ k ∈ l.map Prod.fst
 | [] => by simp [nGet]
 | (a, v) :: r => by
  unfold nGet
  by_cases h : k = a
  ·rw [if_pos h]; simp [h]
  ·rw [if_neg h, gJ k r]; simp [h]
theorem Ajw : ∀ i, (lyS s tk i).2.2 = ((List.range i).filter fun j => (nGet j s.nw).isSome).length
 | 0 => rfl
 | i + 1 => by
  rw [Kt, Gs, An, ← Ajw i]
  show (match nGet i s.nw with
  | none => lyS s tk i
  | some d => ((lyS s tk i).1.set i (tk.getD (lyS s tk i).2.2 0), (lyS s tk i).2.1 ++ [wIo (tk.getD (lyS s tk i).2.2 0) d], (lyS s tk i).2.2 + 1)).2.2 = _
  cases hg : nGet i s.nw with
  | none => simp [hg]
  | some d => simp [hg]
theorem fK (hn : (s.nw.map Prod.fst).Nodup) (hk : ∀ p ∈ s.nw, p.1 < 512) : (lyS s tk 512).2.2 = s.nw.length := by
 rw [Ajw]
 have hp : ((List.range 512).filter fun j => (nGet j s.nw).isSome).Perm (s.nw.map Prod.fst) := by
  refine (List.perm_ext_iff_of_nodup (List.nodup_range.filter _) hn).2 fun a => ?_
  rw [Ew, gJ, Cc]
  constructor
  ·exact fun h => h.2
  ·intro h
   obtain ⟨p, hp, rfl⟩ := Bz.1 h
   exact ⟨hk p hp, h⟩
 rw [hp.length_eq, Ah]
end
end Go.Proofs.YtkaiiopoilpjeaaGreat
set_option maxRecDepth 10000
namespace Go.Proofs.YtkaiiopoilpjeaaGreat
open Go.AI
structure StOk (w : WS) (s : St) : Prop where
 len : s.m.length = 512
 mem : ∀ a ∈ s.m, a = 0 ∨ a ∈ w.m
 keys : (s.nw.map Prod.fst).Nodup
 klt : ∀ p ∈ s.nw, p.1 < 512
 dat : ∀ p ∈ s.nw, p.2.length = 64
 size : s.size ≤ 512
def Ee (x : Img) : WS := x.trees.headD ⟨[], [], false⟩
theorem Ali {n : Nat} {l : List Nat} (hn : l.Nodup) (h : ∀ a ∈ l, a < n) : l.length ≤ n := by
 have hp : ((List.range n).filter fun a => decide (a ∈ l)).Perm l := by
  refine (List.perm_ext_iff_of_nodup (List.nodup_range.filter _) hn).2 fun a => ?_
  rw [Ew, Cc]
  constructor
  ·exact fun h => Kq h.2
  ·exact fun ha => ⟨h a ha, As ha⟩
 rw [← hp.length_eq]
 have := Ej (fun a => decide (a ∈ l)) (List.range n)
 simpa using this
theorem pP (ks : List (Option Nat)) : Dr ks ≤ ks.length := by unfold Dr; exact Ej _ _
theorem Apu (l : List UInt8) (root : Nat) (m m0 : List Nat) : Ht l root m m0 ≤ 73 := by
 have h0 := pP (Cv l root m m0 0)
 have h1 := pP (Cv l root m m0 1)
 have h2 := pP (Cv l root m m0 2)
 rw [Ii] at h0 h1 h2
 unfold Ht
 have e0 : 8 ^ (2 - 0) = 64 := rfl
 have e1 : 8 ^ (2 - 1) = 8 := rfl
 have e2 : 8 ^ (2 - 2) = 1 := rfl
 omega
section
variable {l : List UInt8} {x : Img} {s : St}
theorem uZ (hd : Dev l) (h : Yp l = .ok x) (hs : StOk (Ee x) s) (hle : s.nw.length ≤ (Cd (Ay l x)).length) :
  goP l x.sup.root = some (Ee x) ∧ Ee x ∈ x.trees ∧ (∀ a ∈ layM s (Cd (Ay l x)), a = 0 ∨ 2 ≤ a ∧ a < nb l) ∧ (layM s (Cd (Ay l x))).length = 512 ∧ MayP l (Ee x) (layM s (Cd (Ay l x))) ((Cd (Ay l x)).drop s.nw.length) ∧
  ((Cd (Ay l x)).drop s.nw.length).Nodup ∧ ∀ a ∈ (Cd (Ay l x)).drop s.nw.length, 2 ≤ a ∧ a < nb l ∧ a ∉ (Ee x).nodes := by
 have hI := (Ot hd).1 h
 have hx := cB hd h
 obtain ⟨w, ws, ht, hg, _, _⟩ := Hm hI
 have hw : Ee x = w := by unfold Ee; rw [ht]; rfl
 rw [hw] at hs ⊢
 have hwm : w ∈ x.trees := by rw [ht]; simp
 have hnr := Jp hI w hwm
 have hlo := Zl hg
 have hfr : ∀ a ∈ Cd (Ay l x), 2 ≤ a ∧ a < nb l ∧ ¬ reached l x a := fun a ha => (Jk hd hx).1 ha
 have hfn := Oo (Ay l x)
 have hri := fQ (Ay l x)
 generalize Cd (Ay l x) = fs at *
 have hcnt : (lyS s (fs.take s.nw.length) 512).2.2 ≤ (fs.take s.nw.length).length := by
  rw [fK hs.keys hs.klt, Bc]; omega
 have hmm : ∀ a ∈ layM s fs, a = 0 ∨ a ∈ w.m ∨ a ∈ fs.take s.nw.length := fun a ha => by
  rcases zP 512 hcnt a ha with h | h
  ·exact (hs.mem a h).imp id .inl
  ·exact .inr (.inr h)
 have hdt : ∀ a, a ∈ fs.drop s.nw.length → a ∉ fs.take s.nw.length := fun a h1 h2 => by
  have := hfn
  rw [← Hv s.nw.length fs] at this
  exact (Ei.1 this).2.2 a h2 a h1 rfl
 refine ⟨hg, hwm, fun a ha => ?_, by unfold layM; rw [(Re s _ 512).1, hs.len], ⟨fun i hi => ?_, fun i hi => ?_⟩, hfn.sublist (List.drop_sublist _ _), fun a ha => ?_⟩
 ·rcases hmm a ha with h | h | h
  ·exact .inl h
  ·exact hlo.2 a h
  ·have := hfr a (Bs h); exact .inr ⟨this.1, this.2.1⟩
 ·have hmd : (fs.drop s.nw.length)[i] ∈ fs.drop s.nw.length := Bw _
  generalize (fs.drop s.nw.length)[i] = a at *
  have hf := hfr a (Cu hmd)
  refine ⟨hf.1, hf.2.1, fun hm => ?_, fun hm => ?_, fun hm => hf.2.2 (hnr.1 a hm)⟩
  ·rcases hmm a hm with h | h | h
   ·omega
   ·exact hf.2.2 ((hnr.2 a h).resolve_left (by omega))
   ·exact hdt a hmd h
  ·exact hf.2.2 ((hnr.2 a hm).resolve_left (by omega))
 ·have hlen : (fs.drop s.nw.length).length = fs.length - s.nw.length := Ba
  have := hri (s.nw.length + i) (by omega)
  rw [Qg, Qg]
  simp only [Af, Aa (show s.nw.length + i < fs.length by omega), Aa (show s.nw.length + i + 1 < fs.length by omega), Ns] at this
  exact this
 ·have hf := hfr a (Cu ha)
  exact ⟨hf.1, hf.2.1, fun hm => hf.2.2 (hnr.1 a hm)⟩
theorem Aus (hd : Dev l) (h : Yp l = .ok x) (hs : StOk (Ee x) s) : MakeH l x s := by
 have hx := cB hd h
 have hI := (Ot hd).1 h
 have hnb := hd.nb
 have hF := uZ hd h hs
 have hfl : (Cd (Ay l x)).length ≤ 4096 := by
  have h1 := kW (Ay l x)
  rw [(Oe hx).1] at h1; omega
 have hnl : s.nw.length ≤ 512 := by
  have := Ali hs.keys fun a ha => by
   obtain ⟨p, hp, rfl⟩ := Bz.1 ha; exact hs.klt p hp
  simpa using this
 obtain ⟨w, ws, ht, hg, _, _⟩ := Hm hI
 have hw : Ee x = w := by unfold Ee; rw [ht]; rfl
 have hwm : w ∈ x.trees := by rw [ht]; simp
 have hgd := hx.tree w hwm
 have hok := (goP_iff.1 hg).2
 have hw' : x.trees.headD ⟨[], [], false⟩ = w := hw
 have hdrop : ∀ {fs : List Nat}, s.nw.length ≤ fs.length → Ht l x.sup.root (layM s fs) w.m ≤ (fs.drop s.nw.length).length → True := fun _ _ => trivial
 refine ⟨?_, hs.size, ?_⟩
 ·rw [hw']
  rw [hw] at hF
  refine ⟨hd, hg, hgd.1.1.1, by have := hgd.1.2; omega, fun h0 => jR (hok h0).1, fun h0 p hp hp0 => ?_, by omega, hnl, fK hs.keys hs.klt, fun hle => (hF hle).2.2.1, fun hle => (hF hle).2.2.2.2.1, fun hle hroom => ?_⟩
  ·have h2 : tOk l 2 x.sup.root := (hok h0).1
   exact jR ((h2.2 p hp).2 hp0)
  ·obtain ⟨f1, f2, f3, f4, f5, f6, f7⟩ := hF hle
   rw [Oq] at hroom
   exact Apm hroom (Ail hg f4 f3 ⟨hnb.1, hnb.2⟩ f6 f7 hroom).1
 ·intro r ios rest hl
  rw [hw'] at hl
  rw [hw] at hF
  unfold layP at hl
  by_cases h1 : (Cd (Ay l x)).length < s.nw.length
  ·rw [if_pos h1] at hl; cases hl
  rw [if_neg h1] at hl
  by_cases h2 : ((Cd (Ay l x)).drop s.nw.length).length < Du l x.sup.root (layM s (Cd (Ay l x))) w
  ·rw [if_pos h2] at hl; cases hl
  rw [if_neg h2] at hl
  obtain ⟨f1, f2, f3, f4, f5, f6, f7⟩ := hF (by omega)
  have hfr : ∀ a ∈ Cd (Ay l x), 2 ≤ a ∧ a < nb l := fun a ha => ⟨((Jk hd hx).1 ha).1, ((Jk hd hx).1 ha).2.1⟩
  generalize Cd (Ay l x) = fs at *
  rw [Oq] at h2
  have hroom : Ht l x.sup.root (layM s fs) w.m ≤ (fs.drop s.nw.length).length := by omega
  have hR := Ail hg f4 f3 ⟨hnb.1, hnb.2⟩ f6 f7 hroom
  rw [Adg hroom] at hl
  simp only [Ag, Am] at hl
  obtain ⟨rfl, rfl, _⟩ := hl
  have hcnt : (lyS s (fs.take s.nw.length) 512).2.2 ≤ (fs.take s.nw.length).length := by
   rw [fK hs.keys hs.klt, Bc]; omega
  have hio := Aah hs.dat 512 hcnt
  have hat := Za (l := l) (root := x.sup.root) (m := layM s fs) hroom
  have hbl : (Gw l x.sup.root (layM s fs) w.m (fs.drop s.nw.length)).length ≤ 73 := by
   have := Bo List.length hat
   rw [Ah, Bc] at this
   have := Apu l x.sup.root (layM s fs) w.m
   omega
  have hbt : ∀ y ∈ Gw l x.sup.root (layM s fs) w.m (fs.drop s.nw.length), y.kind = 1 ∧ y.s = 1 ∧ y.t = false := by
   have key : ∀ (lv : Nat) (below : List Nat) (ks : List (Option Nat)) (i : Nat) (fs : List Nat), ∀ y ∈ (Fc lv below ks i fs).2.1, y.kind = 1 ∧ y.s = 1 ∧ y.t = false := by
    intro lv below ks
    induction ks with
    | nil => intro i fs y hy; simp [Fc] at hy
    | cons k ks ih =>
     intro i fs y hy
     cases k with
     | some a => exact ih _ _ y hy
     | none =>
      simp only [Fc, Ap] at hy
      rcases hy with rfl | hy
      ·exact ⟨rfl, rfl, rfl⟩
      ·exact ih _ _ y hy
   intro y hy
   unfold Gw at hy
   rcases Bi.1 hy with hy | hy
   ·rcases Bi.1 hy with hy | hy
    ·exact key _ _ _ _ _ y hy
    ·exact key _ _ _ _ _ y hy
   ·exact key _ _ _ _ _ y hy
  refine ⟨?_, fun y hy => ?_, hR.2⟩
  ·rw [An, (Re s _ 512).2, fK hs.keys hs.klt]; omega
  ·rcases Bi.1 hy with hy | hy
   ·obtain ⟨g1, g2, g3, g4, g5⟩ := hio y hy
    have := hfr _ (Bs g2)
    exact ⟨⟨g1, this, g3⟩, g4, g5⟩
   ·have g2 : y.at0 ∈ fs := Cu (Bs (by rw [← hat]; exact List.mem_map_of_mem hy))
    obtain ⟨g1, g4, g5⟩ := hbt y hy
    exact ⟨⟨g1, hfr _ g2, Vi f4 y hy⟩, g4, g5⟩
end
theorem fP {k : Nat} : ∀ {l : List (Nat × List UInt8)} {p : Nat × List UInt8}, p ∈ nDel k l → p ∈ l
 | (a, u) :: r, p, h => by
  unfold nDel at h
  split at h
  ·exact Bu _ h
  ·rcases Ap.1 h with h | h
   ·rw [h]; simp
   ·exact Bu _ (fP h)
theorem wL (k : Nat) : ∀ l : List (Nat × List UInt8), ((nDel k l).map Prod.fst).Sublist (l.map Prod.fst)
 | [] => List.Sublist.refl _
 | (a, u) :: r => by
  unfold nDel
  split
  ·exact List.sublist_cons_self _ _
  ·exact (wL k r).cons_cons _
theorem Abk (k : Nat) : ∀ l : List (Nat × List UInt8), (l.map Prod.fst).Nodup → k ∉ (nDel k l).map Prod.fst
 | [], _ => by simp [nDel]
 | (a, u) :: r, h => by
  rw [Aw, Gu] at h
  unfold nDel
  split
  ·rename_i he; rw [he]; exact h.1
  ·rename_i he
   rw [Aw, Ap, not_or]
   exact ⟨he, Abk k r h.2⟩
theorem oJ (k : Nat) (v : List UInt8) : ∀ l : List (Nat × List UInt8), k ∉ l.map Prod.fst → nSet k v l = l ++ [(k, v)]
 | [], _ => rfl
 | (a, u) :: r, h => by
  rw [Aw, Ap, not_or] at h
  unfold nSet
  rw [if_neg h.1, oJ k v r h.2]; rfl
section
variable {w : WS} {s : St}
theorem StOk.put (h : StOk w s) (i : Nat) {a : Nat} (ha : a = 0 ∨ a ∈ w.m) : StOk w (s.put i a) :=
 ⟨by show (s.m.set i a).length = 512; rw [El]; exact h.len, fun b hb => by
  rcases En hb with hb | rfl
  ·exact h.mem b hb
  ·exact ha, h.keys.sublist (wL i s.nw), fun p hp => h.klt p (fP hp), fun p hp => h.dat p (fP hp), h.size⟩
theorem StOk.zero (h : StOk w s) (frm : Nat) : ∀ n, StOk w (s.zero frm n)
 | 0 => h
 | n + 1 => (h.zero frm n).put _ (.inl rfl)
theorem StOk.write (h : StOk w s) (frm : Nat) {d : List UInt8} : ∀ n, frm + n ≤ 512 → 64 * n ≤ d.length → StOk w (s.write frm d n)
 | 0, _, _ => h
 | n + 1, h1, h2 => by
  have ih := h.write frm (d := d) n (by omega) (by omega)
  have hp := ih.put (frm + n) (.inl rfl)
  have hnot : frm + n ∉ ((s.write frm d n).put (frm + n) 0).nw.map Prod.fst := Abk _ _ ih.keys
  have hs := oJ (frm + n) (blk d n) _ hnot
  have hbl : (blk d n).length = 64 := by unfold blk; rw [Bc, Ba]; omega
  refine ⟨hp.len, hp.mem, ?_, ?_, ?_, hp.size⟩
  ·show ((nSet (frm + n) (blk d n) ((s.write frm d n).put (frm + n) 0).nw).map Prod.fst).Nodup
   rw [hs, Bq]
   refine Ei.2 ⟨hp.keys, by simp, fun a ha b hb => ?_⟩
   rintro rfl
   rw [Aw, Jz, Bg] at hb
   subst hb
   exact hnot ha
  ·intro p hpp
   have hpp : p ∈ nSet (frm + n) (blk d n) ((s.write frm d n).put (frm + n) 0).nw := hpp
   rw [hs] at hpp
   rcases Bi.1 hpp with hpp | hpp
   ·exact hp.klt p hpp
   ·rw [Bg.1 hpp]; show frm + n < 512; omega
  ·intro p hpp
   have hpp : p ∈ nSet (frm + n) (blk d n) ((s.write frm d n).put (frm + n) 0).nw := hpp
   rw [hs] at hpp
   rcases Bi.1 hpp with hpp | hpp
   ·exact hp.dat p hpp
   ·rw [Bg.1 hpp]; exact hbl
theorem StOk.sized (h : StOk w s) {n : Nat} (hn : n ≤ 512) : StOk w { s with size := n } := ⟨h.len, h.mem, h.keys, h.klt, h.dat, hn⟩
end
end Go.Proofs.YtkaiiopoilpjeaaGreat
