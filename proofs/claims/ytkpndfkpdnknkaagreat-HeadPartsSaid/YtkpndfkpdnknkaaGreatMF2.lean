/- Lemmas. -/
import Derived.Test.YtkpndfkpdnknkaaGreatMN
set_option linter.unusedSimpArgs false
set_option linter.unusedVariables false
set_option maxRecDepth 10000
namespace Go.Proofs.YtkpndfkpdnknkaaGreat
open Go.AI
def oct (l : List Nat) (i : Nat) : List Nat := (l.drop (8 * i)).take 8
def Avu (l : List UInt8) (aa : List Nat) : List Nat := aa.flatMap fun a => if a = 0 then List.replicate 8 0 else Eo l a
def wasL (l : List UInt8) (root : Nat) : Nat → List Nat
 | 0 => [root]
 | k + 1 => Avu l (wasL l root k)
def part (m : List Nat) (lv pl : Nat) : List Nat := (m.drop (8 ^ (lv + 1) * pl)).take (8 ^ (lv + 1))
def Fq (m m0 was : List Nat) (lv pl : Nat) : Option Nat :=
 if (part m lv pl).any (fun b => decide (b ≠ 0)) = false then some 0 else if part m lv pl = part m0 lv pl then some (was.getD pl 0) else none
def Ey (lv : Nat) (below : List Nat) : List (Option Nat) → Nat → List Nat → List Nat × List IoV × List Nat
 | [], _, fs => ([], [], fs)
 | some a :: ks, i, fs => let r := Ey lv below ks (i + 1) fs; (a :: r.1, r.2.1, r.2.2)
 | none :: ks, i, fs => let r := Ey lv below ks (i + 1) (fs.drop 1); (fs.headD 0 :: r.1, wIo (fs.headD 0) (nodB ⟨lv, oct below i⟩) :: r.2.1, r.2.2)
def Cu (l : List UInt8) (root : Nat) (m m0 : List Nat) (lv : Nat) : List (Option Nat) := (List.range (8 ^ (2 - lv))).map (Fq m m0 (wasL l root (2 - lv)) lv)
def Dn (ks : List (Option Nat)) : Nat := (ks.filter Option.isNone).length
def lay0 (l : List UInt8) (root : Nat) (m m0 fs : List Nat) := Ey 0 m (Cu l root m m0 0) 0 fs
def lay1 (l : List UInt8) (root : Nat) (m m0 fs : List Nat) := Ey 1 (lay0 l root m m0 fs).1 (Cu l root m m0 1) 0 (lay0 l root m m0 fs).2.2
def lay2 (l : List UInt8) (root : Nat) (m m0 fs : List Nat) := Ey 2 (lay1 l root m m0 fs).1 (Cu l root m m0 2) 0 (lay1 l root m m0 fs).2.2
def Ho (l : List UInt8) (root : Nat) (m m0 : List Nat) : Nat := Dn (Cu l root m m0 0) + Dn (Cu l root m m0 1) + Dn (Cu l root m m0 2)
def Jq (l : List UInt8) (root : Nat) (m m0 fs : List Nat) : Nat := (lay2 l root m m0 fs).1.headD 0
def Gx (l : List UInt8) (root : Nat) (m m0 fs : List Nat) : List IoV := (lay0 l root m m0 fs).2.1 ++ (lay1 l root m m0 fs).2.1 ++ (lay2 l root m m0 fs).2.1
theorem Tx {lv : Nat} {below : List Nat} : ∀ (ks : List (Option Nat)) (i : Nat) (fs : List Nat), (Ey lv below ks i fs).1.length = ks.length
 | [], _, _ => rfl
 | some a :: ks, i, fs => by simp [Ey, Tx ks]
 | none :: ks, i, fs => by simp [Ey, Tx ks]
theorem Ja {lv : Nat} {below : List Nat} : ∀ (ks : List (Option Nat)) (i : Nat) (fs : List Nat), (Ey lv below ks i fs).2.2 = fs.drop (Dn ks)
 | [], _, fs => by simp [Ey, Dn]
 | some a :: ks, i, fs => by simp [Ey, Ja ks, Dn]
 | none :: ks, i, fs => by
  simp only [Ey]
  rw [Ja ks, Nn]
  simp [Dn, Nat.add_comm]
theorem Sl {lv : Nat} {below : List Nat} : ∀ (ks : List (Option Nat)) (i : Nat) (fs : List Nat), Dn ks ≤ fs.length → (Ey lv below ks i fs).2.1.map IoV.at0 = fs.take (Dn ks)
 | [], _, fs, _ => by simp [Ey, Dn]
 | some a :: ks, i, fs, h => by
  simp only [Ey]
  rw [Sl ks _ _ (by simpa [Dn] using h)]; simp [Dn]
 | none :: ks, i, [], h => by simp [Dn] at h
 | none :: ks, i, b :: fs, h => by
  have hn : Dn (none :: ks) = Dn ks + 1 := by simp [Dn]
  rw [hn] at h ⊢
  simp only [Ey, Ahk, Cd, Oy, Bb, Je]
  rw [Sl ks _ _ (by simpa using h)]; rfl
theorem Xo {lv : Nat} {below : List Nat} : ∀ (ks : List (Option Nat)) (i : Nat) (fs : List Nat), Dn ks ≤ fs.length → ∀ (j : Nat) (hj : j < ks.length),
  (∀ a, ks[j] = some a → (Ey lv below ks i fs).1.getD j 0 = a) ∧ (ks[j] = none → (Ey lv below ks i fs).1.getD j 0 ∈ fs.take (Dn ks) ∧ wIo ((Ey lv below ks i fs).1.getD j 0) (nodB ⟨lv, oct below (i + j)⟩) ∈ (Ey lv below ks i fs).2.1)
 | [], _, _, _, j, hj => by simp at hj
 | some a :: ks, i, fs, h, 0, _ => by
  refine ⟨fun b hb => ?_, fun hb => by cases hb⟩
  simp only [List.getElem_cons_zero, Ag] at hb
  subst hb; rfl
 | some a :: ks, i, fs, h, j + 1, hj => by
  have ih := Xo (lv := lv) (below := below) ks (i + 1) fs (by simpa [Dn] using h) j (by simpa using hj)
  rw [show i + 1 + j = i + (j + 1) by omega] at ih
  have hn : Dn (some a :: ks) = Dn ks := by simp [Dn]
  rw [hn]
  simpa [Ey] using ih
 | none :: ks, i, [], h, _, _ => by simp [Dn] at h
 | none :: ks, i, b :: fs, h, 0, _ => by
  have hn : Dn (none :: ks) = Dn ks + 1 := by simp [Dn]
  refine ⟨fun a ha => (by cases ha), fun _ => ⟨?_, ?_⟩⟩
  ·rw [hn]; simp [Ey]
  ·simp [Ey]
 | none :: ks, i, b :: fs, h, j + 1, hj => by
  have hn : Dn (none :: ks) = Dn ks + 1 := by simp [Dn]
  rw [hn] at h ⊢
  have ih := Xo (lv := lv) (below := below) ks (i + 1) fs (by simpa using h) j (by simpa using hj)
  rw [show i + 1 + j = i + (j + 1) by omega] at ih
  simp only [Ey, Ahk, Cd, Oy, Je, List.getElem_cons_succ, Hk, Ar]
  exact ⟨ih.1, fun hh => ⟨.inr (ih.2 hh).1, .inr (ih.2 hh).2⟩⟩
theorem Afq (l : List UInt8) (root : Nat) : ∀ k, (wasL l root k).length = 8 ^ k
 | 0 => rfl
 | k + 1 => by
  show ((wasL l root k).flatMap fun a => if a = 0 then List.replicate 8 0 else Eo l a).length = _
  rw [aN (k := 8) _ (fun a _ => by
   split
   ·simp
   ·exact Oo l a), Afq l root k, Fw]
theorem iI {f : Nat → List Nat} (hf : ∀ a, (f a).length = 8) : ∀ (aa : List Nat) (i : Nat), i < aa.length → oct (aa.flatMap f) i = f (aa.getD i 0)
 | [], i, h => by simp at h
 | a :: aa, 0, _ => by
  unfold oct
  rw [Cl, Ol, Cd, Cr (by rw [hf]; exact Bc _), Aj (by rw [hf]; exact Bc _)]; rfl
 | a :: aa, i + 1, h => by
  have ih := iI hf aa i (by simpa using h)
  unfold oct at ih ⊢
  rw [Cl, Ii, hf, Ck (by rw [hf]; omega), Dc, show 8 * (i + 1) - 8 = 8 * i by omega, ih]
  simp
theorem yB (l : List UInt8) (root k i : Nat) (h : i < 8 ^ k) : oct (wasL l root (k + 1)) i = if (wasL l root k).getD i 0 = 0 then List.replicate 8 0 else Eo l ((wasL l root k).getD i 0) := by
 show oct ((wasL l root k).flatMap fun a => if a = 0 then List.replicate 8 0 else Eo l a) i = _
 rw [iI (fun a => by
  split
  ·simp
  ·exact Oo l a) _ _ (by rw [Afq]; exact h)]
theorem iL {l : List Nat} {i j : Nat} (hj : j < 8) : (oct l i).getD j 0 = l.getD (8 * i + j) 0 := by
 unfold oct
 simp only [Ae, Fv, Fu]
 rw [if_pos hj]
theorem jQ {m : List Nat} {lv pl : Nat} (h : 8 ^ (lv + 1) * (pl + 1) ≤ m.length) : (part m lv pl).length = 8 ^ (lv + 1) := by
 unfold part
 rw [Ay, Bl]
 rw [Nat.mul_succ] at h
 omega
theorem Re (m : List Nat) (lv pl : Nat) : part m (lv + 1) pl = (List.range 8).flatMap fun i => part m lv (8 * pl + i) := by
 have key : ∀ (n k : Nat) (a : List Nat), (a.take (n * k)) = (List.range n).flatMap fun i => (a.drop (k * i)).take k := by
  intro n k
  induction n with
  | zero => intro a; simp
  | succ n ih =>
   intro a
   rw [Jl, Te, ← ih a]
   simp only [Cl, List.flatMap_nil, Bz]
   rw [Mn, Zx, Gl k n]
 unfold part
 rw [Fw 8 (lv + 1), Gl (8 ^ (lv + 1)) 8, key 8 (8 ^ (lv + 1)) _]
 congr 1
 funext i
 rw [Nn]
 congr 2
 rw [Nat.mul_add, ← Nat.mul_assoc, Gl (8 ^ (lv + 1)) 8]
end Go.Proofs.YtkpndfkpdnknkaaGreat
set_option maxRecDepth 10000
namespace Go.Proofs.YtkpndfkpdnknkaaGreat
open Go.AI
theorem yI {l l' : List UInt8} {n a v : Nat} (h : blk l' a = blk l a) : atP l' n a v = atP l n a v := by unfold atP; rw [h]
theorem fT {l l' : List UInt8} (hn : nb l' = nb l) : ∀ (v a : Nat), (∀ x ∈ tN l v a, blk l' x = blk l x) → (tOk l v a → tOk l' v a) ∧ tM l' v a = tM l v a ∧ tN l' v a = tN l v a
 | 0, a, h => by
  have ha := h a (Acz l 0 a)
  have hp : Eo l' a = Eo l a := by unfold Eo; rw [ha]
  simp only [tOk, tM, tN]
  rw [hn, yI ha, hp]
  exact ⟨id, rfl, trivial⟩
 | v + 1, a, h => by
  have ha := h a (Acz l (v + 1) a)
  have hp : Eo l' a = Eo l a := by unfold Eo; rw [ha]
  have hs : ∀ p ∈ Eo l a, p ≠ 0 → (tOk l v p → tOk l' v p) ∧ tM l' v p = tM l v p ∧ tN l' v p = tN l v p := by
   intro p hp h0
   refine fT hn v p fun x hx => h x ?_
   simp only [tN, Ar, Db]
   exact .inr ⟨p, hp, by rw [if_neg h0]; exact hx⟩
  simp only [tOk, tM, tN]
  rw [hn, yI ha, hp]
  refine ⟨fun ⟨h1, h2⟩ => ⟨h1, fun p hp => ⟨(h2 p hp).1, fun h0 => (hs p hp h0).1 ((h2 p hp).2 h0)⟩⟩, ?_, ?_⟩
  ·rw [Jy, Jy]
   congr 1
   refine Av fun p hp => ?_
   split
   ·rfl
   ·rename_i h0; exact (hs p hp h0).2.1
  ·congr 1
   rw [Jy, Jy]
   congr 1
   refine Av fun p hp => ?_
   split
   ·rfl
   ·rename_i h0; exact (hs p hp h0).2.2
theorem Wr {f g : Nat → List Nat} {K : Nat} (hf : ∀ i, (f i).length = K) (hg : ∀ i, (g i).length = K) : ∀ (ls : List Nat), ls.flatMap f = ls.flatMap g → ∀ i ∈ ls, f i = g i
 | [], _, i, h => by cases h
 | a :: ls, h, i, hi => by
  rw [Cl, Cl] at h
  have h1 := List.append_inj h (by rw [hf, hg])
  rcases Ar.1 hi with rfl | hi
  ·exact h1.1
  ·exact Wr hf hg ls h1.2 i hi
theorem Amb {l : List Nat} {n : Nat} (h : l.length = n) : l = (List.range n).map fun i => l.getD i 0 := by
 apply Zn
 ·simp [h]
 ·intro i h1 h2
  simp at h2
  simp [h1]
theorem Qh {f : Nat → List Nat} {l : List Nat} (h : l.length = 8) : l.flatMap f = (List.range 8).flatMap fun i => f (l.getD i 0) := by
 conv => lhs; rw [Amb h]
 rw [pU]
theorem Agl (n i : Nat) : (List.replicate n 0).getD i 0 = 0 := by
 rw [Ae, Nr]
 split <;> rfl
def Mr (l : List Nat) : Prop := ∀ b ∈ l, b = 0
theorem dI {l : List Nat} {n : Nat} (h : l.length = n) : Mr l ↔ l = List.replicate n 0 := by
 constructor
 ·intro hz; exact List.eq_replicate_iff.2 ⟨h, hz⟩
 ·rintro rfl b hb; exact Ew hb
theorem any_zeros {l : List Nat} : l.any (fun b => decide (b ≠ 0)) = false ↔ Mr l := by
 rw [Wx]
 constructor
 ·intro h b hb
  have := h b hb
  simpa using this
 ·intro h b hb
  simp [h b hb]
section
variable {l : List UInt8} {root : Nat} {w : WS}
def wasN (l : List UInt8) (root lv pl : Nat) : Nat := (wasL l root (2 - lv)).getD pl 0
def sH (l : List UInt8) (root : Nat) (m0 : List Nat) (nodes : List Nat) (lv pl : Nat) : Prop :=
 (wasN l root lv pl = 0 → Mr (part m0 lv pl)) ∧ (wasN l root lv pl ≠ 0 → tOk l lv (wasN l root lv pl) ∧ tM l lv (wasN l root lv pl) = part m0 lv pl ∧ ∀ x ∈ tN l lv (wasN l root lv pl), x ∈ nodes)
theorem Aep {m0 nodes : List Nat} (hm : m0.length = 512) {lv pl : Nat} (hlv : lv < 2) (hpl : pl < 8 ^ (2 - (lv + 1))) (h : sH l root m0 nodes (lv + 1) pl) {i : Nat} (hi : i < 8) : sH l root m0 nodes lv (8 * pl + i) := by
 have h2 : 2 - lv = (2 - (lv + 1)) + 1 := by omega
 have hw : wasN l root lv (8 * pl + i) = (if wasN l root (lv + 1) pl = 0 then List.replicate 8 0 else Eo l (wasN l root (lv + 1) pl)).getD i 0 := by
  unfold wasN
  rw [← yB l root _ pl hpl, iL hi, h2]
 have hps := Re m0 lv pl
 have hpw : 8 ^ (2 - lv) * 8 ^ (lv + 1) = 512 := by
  rcases (by omega : lv = 0 ∨ lv = 1) with rfl | rfl <;> rfl
 have hpl2 : 8 * pl + i < 8 ^ (2 - lv) := by rw [h2, Fw]; omega
 have hlen : ∀ j, j < 8 → (part m0 lv (8 * pl + j)).length = 8 ^ (lv + 1) := by
  intro j hj
  have : 8 * pl + j < 8 ^ (2 - lv) := by rw [h2, Fw]; omega
  refine jQ ?_
  rw [hm, ← hpw, Gl (8 ^ (2 - lv))]
  exact Nat.mul_le_mul_left _ this
 by_cases h0 : wasN l root (lv + 1) pl = 0
 ·have hz := h.1 h0
  rw [if_pos h0] at hw
  have hw0 : wasN l root lv (8 * pl + i) = 0 := by rw [hw]; exact Agl 8 i
  refine ⟨fun _ b hb => hz b ?_, fun hne => absurd hw0 hne⟩
  rw [hps, Db]
  exact ⟨i, Bw.2 hi, hb⟩
 ·obtain ⟨k1, k2, k3⟩ := h.2 h0
  rw [if_neg h0] at hw
  generalize hA : wasN l root (lv + 1) pl = A at *
  simp only [tOk] at k1
  simp only [tM] at k2
  rw [Qh (Oo l A), hps] at k2
  have hmem : (Eo l A).getD i 0 ∈ Eo l A := by
   have := Oo l A
   simp [Ae, Aa (by omega : i < (Eo l A).length)]
  have hch : (if (Eo l A).getD i 0 = 0 then List.replicate (8 ^ (lv + 1)) 0 else tM l lv ((Eo l A).getD i 0)) = part m0 lv (8 * pl + i) := by
   have := Wr (f := fun i => if (Eo l A).getD i 0 = 0 then List.replicate (8 ^ (lv + 1)) 0 else tM l lv ((Eo l A).getD i 0)) (g := fun i => if i < 8 then part m0 lv (8 * pl + i) else List.replicate (8 ^ (lv + 1)) 0) (K := 8 ^ (lv + 1)) (fun j => by
    show (if _ then _ else _ : List Nat).length = _
    split
    ·simp
    ·exact Abj l lv _) (fun j => by
    show (if _ then _ else _ : List Nat).length = _
    split
    ·rename_i hj; exact hlen j hj
    ·simp) (List.range 8) (by
    rw [k2, Jy, Jy]
    exact Bk List.flatten (Av fun j hj => (if_pos (Bw.1 hj)).symm)) i (Bw.2 hi)
   simpa [hi] using this
  rw [← hw] at hch hmem
  refine ⟨fun hz => ?_, fun hne => ?_⟩
  ·rw [if_pos hz] at hch
   rw [← hch]
   exact (dI (by simp)).2 rfl
  ·rw [if_neg hne] at hch
   refine ⟨(k1.2 _ hmem).2 hne, hch, fun x hx => k3 x ?_⟩
   simp only [tN, Ar, Db]
   exact .inr ⟨_, hmem, by rw [if_neg hne]; exact hx⟩
theorem Akc (hg : goP l root = some w) : ∀ (lv pl : Nat), lv ≤ 2 → pl < 8 ^ (2 - lv) → sH l root w.m w.nodes lv pl := by
 have hm := (Us hg).1
 have h2 : sH l root w.m w.nodes 2 0 := by
  obtain ⟨hw, hok⟩ := goP_iff.1 hg
  have hpt : part w.m 2 0 = w.m := by
   unfold part
   rw [Ol, Cd, Aj]
   rw [hm]; exact Bc _
  have hwn : wasN l root 2 0 = root := rfl
  unfold sH
  rw [hpt, hwn]
  refine ⟨fun h0 => ?_, fun h0 => ?_⟩
  ·rw [hw]
   unfold iD
   rw [if_pos h0]
   exact (dI (n := 512) (by simp [ws0])).2 rfl
  ·obtain ⟨k1, k2, k3⟩ := hok h0
   rw [hw]
   unfold iD
   rw [if_neg h0]
   exact ⟨k1, rfl, fun x hx => hx⟩
 have h1 : ∀ pl, pl < 8 → sH l root w.m w.nodes 1 pl := fun pl hpl => by
  have := Aep (lv := 1) (pl := 0) hm (by decide) (by decide) h2 hpl
  rwa [Ol, Ct] at this
 have h0 : ∀ pl, pl < 64 → sH l root w.m w.nodes 0 pl := fun pl hpl => by
  have := Aep (lv := 0) (pl := pl / 8) hm (by decide) (by show pl / 8 < 8; omega) (h1 (pl / 8) (by omega)) (i := pl % 8) (Nat.mod_lt _ (by decide))
  rwa [Nat.div_add_mod] at this
 intro lv pl hlv hpl
 rcases (by omega : lv = 0 ∨ lv = 1 ∨ lv = 2) with rfl | rfl | rfl
 ·exact h0 pl hpl
 ·exact h1 pl hpl
 ·have : pl = 0 := by
   have : pl < 1 := hpl
   omega
  rw [this]; exact h2
end
end Go.Proofs.YtkpndfkpdnknkaaGreat
set_option maxRecDepth 10000
namespace Go.Proofs.YtkpndfkpdnknkaaGreat
open Go.AI
structure Lay (l l' : List UInt8) (root : Nat) (w : WS) (m fs : List Nat) : Prop where
 old : goP l root = some w
 len : m.length = 512
 range : ∀ a ∈ m, a = 0 ∨ 2 ≤ a ∧ a < nb l
 nb4 : 4 ≤ nb l ∧ nb l ≤ 4096
 nodup : fs.Nodup
 free : ∀ a ∈ fs, 2 ≤ a ∧ a < nb l ∧ a ∉ w.nodes
 room : Ho l root m w.m ≤ fs.length
 hnb : nb l' = nb l
 keep : ∀ a ∈ w.nodes, blk l' a = blk l a
 put : ∀ y ∈ Gx l root m w.m fs, blk l' y.at0 = y.data
section
variable {l l' : List UInt8} {root : Nat} {w : WS} {m fs : List Nat}
def isN (l : List UInt8) (root : Nat) (m m0 fs : List Nat) : Nat → Nat → Nat
 | 0, pl => (lay0 l root m m0 fs).1.getD pl 0
 | 1, pl => (lay1 l root m m0 fs).1.getD pl 0
 | _, pl => (lay2 l root m m0 fs).1.getD pl 0
def Ki (l : List UInt8) (root : Nat) (m m0 fs : List Nat) : Nat → List Nat
 | 0 => m
 | 1 => (lay0 l root m m0 fs).1
 | _ => (lay1 l root m m0 fs).1
theorem Hy (lv : Nat) (m0 : List Nat) : (Cu l root m m0 lv).length = 8 ^ (2 - lv) := by unfold Cu; simp
theorem fQ {lv pl : Nat} {m0 : List Nat} (h : pl < 8 ^ (2 - lv)) : (Cu l root m m0 lv)[pl]'(by rw [Hy]; exact h) = Fq m m0 (wasL l root (2 - lv)) lv pl := by
 unfold Cu; simp
theorem Lay.rooms (h : Lay l l' root w m fs) : Dn (Cu l root m w.m 0) ≤ fs.length ∧ Dn (Cu l root m w.m 1) ≤ (lay0 l root m w.m fs).2.2.length ∧ Dn (Cu l root m w.m 2) ≤ (lay1 l root m w.m fs).2.2.length := by
 have hr := h.room
 unfold Ho at hr
 have e1 : (lay0 l root m w.m fs).2.2 = fs.drop (Dn (Cu l root m w.m 0)) := Ja _ _ _
 have e2 : (lay1 l root m w.m fs).2.2 = (lay0 l root m w.m fs).2.2.drop (Dn (Cu l root m w.m 1)) := Ja _ _ _
 simp only [e2, e1, Bl]
 omega
theorem Lay.place (h : Lay l l' root w m fs) {lv pl : Nat} (hlv : lv ≤ 2) (hpl : pl < 8 ^ (2 - lv)) :
  (∀ a, Fq m w.m (wasL l root (2 - lv)) lv pl = some a → isN l root m w.m fs lv pl = a) ∧ (Fq m w.m (wasL l root (2 - lv)) lv pl = none → isN l root m w.m fs lv pl ∈ fs ∧ blk l' (isN l root m w.m fs lv pl) = nodB ⟨lv, oct (Ki l root m w.m fs lv) pl⟩) := by
 obtain ⟨r0, r1, r2⟩ := h.rooms
 have e1 : (lay0 l root m w.m fs).2.2 = fs.drop (Dn (Cu l root m w.m 0)) := Ja _ _ _
 have e2 : (lay1 l root m w.m fs).2.2 = (lay0 l root m w.m fs).2.2.drop (Dn (Cu l root m w.m 1)) := Ja _ _ _
 have hk := fQ (l := l) (root := root) (m := m) (m0 := w.m) hpl
 rcases (by omega : lv = 0 ∨ lv = 1 ∨ lv = 2) with rfl | rfl | rfl
 ·have := Xo (lv := 0) (below := m) (Cu l root m w.m 0) 0 fs r0 pl (by rw [Hy]; exact hpl)
  rw [hk] at this
  refine ⟨this.1, fun hn => ⟨As (this.2 hn).1, ?_⟩⟩
  have hw := (this.2 hn).2
  rw [Ct] at hw
  exact h.put _ (Gs _ (Gs _ hw))
 ·have := Xo (lv := 1) (below := (lay0 l root m w.m fs).1) (Cu l root m w.m 1) 0 (lay0 l root m w.m fs).2.2 r1 pl (by rw [Hy]; exact hpl)
  rw [hk] at this
  refine ⟨this.1, fun hn => ⟨?_, ?_⟩⟩
  ·have h1 : isN l root m w.m fs 1 pl ∈ (lay0 l root m w.m fs).2.2 := As (this.2 hn).1
   rw [e1] at h1
   exact Cc h1
  ·have hw := (this.2 hn).2
   rw [Ct] at hw
   exact h.put _ (Gs _ (Lv _ hw))
 ·have := Xo (lv := 2) (below := (lay1 l root m w.m fs).1) (Cu l root m w.m 2) 0 (lay1 l root m w.m fs).2.2 r2 pl (by rw [Hy]; exact hpl)
  rw [hk] at this
  refine ⟨this.1, fun hn => ⟨?_, ?_⟩⟩
  ·have h1 : isN l root m w.m fs 2 pl ∈ (lay1 l root m w.m fs).2.2 := As (this.2 hn).1
   rw [e2, e1] at h1
   exact Cc (Cc h1)
  ·have hw := (this.2 hn).2
   rw [Ct] at hw
   exact h.put _ (Lv _ hw)
structure NewAt (l l' : List UInt8) (root : Nat) (w : WS) (m fs : List Nat) (lv pl : Nat) : Prop where
 zero : isN l root m w.m fs lv pl = 0 → Mr (part m lv pl)
 nz : isN l root m w.m fs lv pl ≠ 0 → ¬ Mr (part m lv pl)
 ok : isN l root m w.m fs lv pl ≠ 0 → tOk l' lv (isN l root m w.m fs lv pl) ∧ tM l' lv (isN l root m w.m fs lv pl) = part m lv pl
 nodes : isN l root m w.m fs lv pl ≠ 0 → ∀ x ∈ tN l' lv (isN l root m w.m fs lv pl), x ∈ w.nodes ∨ x ∈ fs
theorem lS {l : List UInt8} : ∀ {v a : Nat}, tOk l v a → 2 ≤ a ∧ a < nb l
 | 0, a, h => ⟨(jK h.1).1, (jK h.1).2.1⟩
 | v + 1, a, h => ⟨(jK h.1).1, (jK h.1).2.1⟩
theorem gI {m m0 was : List Nat} {lv pl : Nat} {a : Nat} (h : Fq m m0 was lv pl = .some a) : (Mr (part m lv pl) ∧ a = 0) ∨ (¬ Mr (part m lv pl) ∧ part m lv pl = part m0 lv pl ∧ a = was.getD pl 0) := by
 unfold Fq at h
 split at h
 ·rename_i hz; cases h; exact .inl ⟨any_zeros.1 hz, rfl⟩
 ·rename_i hz
  split at h
  ·rename_i he; cases h; exact .inr ⟨fun hh => hz (any_zeros.2 hh), he, rfl⟩
  ·cases h
theorem Qv {m m0 was : List Nat} {lv pl : Nat} (h : Fq m m0 was lv pl = none) : ¬ Mr (part m lv pl) := by
 unfold Fq at h
 split at h
 ·cases h
 ·rename_i hz; exact fun hh => hz (any_zeros.2 hh)
theorem Lay.kept (h : Lay l l' root w m fs) {lv pl : Nat} (hlv : lv ≤ 2) (hpl : pl < 8 ^ (2 - lv)) {a : Nat} (hk : Fq m w.m (wasL l root (2 - lv)) lv pl = .some a) : NewAt l l' root w m fs lv pl := by
 have hi := (h.place hlv hpl).1 a hk
 have ho := Akc h.old lv pl hlv hpl
 rcases gI hk with ⟨h1, h2⟩ | ⟨h1, h2, h3⟩
 ·refine ⟨fun _ => h1, fun hh => absurd (hi.trans h2) hh, fun hh => absurd (hi.trans h2) hh, fun hh => absurd (hi.trans h2) hh⟩
 ·have ha : a = wasN l root lv pl := h3
  have hne : wasN l root lv pl ≠ 0 := fun hz => h1 (by rw [h2]; exact ho.1 hz)
  obtain ⟨k1, k2, k3⟩ := ho.2 hne
  obtain ⟨f1, f2, f3⟩ := fT (l' := l') h.hnb lv (wasN l root lv pl) fun x hx => h.keep x (k3 x hx)
  rw [← ha, ← hi] at f1 f2 f3 hne k1 k2 k3
  exact ⟨fun hz => absurd hz hne, fun _ => h1, fun _ => ⟨f1 k1, by rw [f2, k2, h2]⟩, fun _ x hx => .inl (k3 x (by rw [← f3]; exact hx))⟩
theorem vV {l' : List UInt8} {b lv : Nat} {ps : List Nat} (hb : blk l' b = nodB ⟨lv, ps⟩) (h2 : 2 ≤ b) (hn : b < nb l') (h8 : ps.length = 8) (hp : ∀ p ∈ ps, ptrOk p) (hlv : lv ≤ 2) (hz : ¬ Mr ps) : (atP l' (nb l') b lv).2 = true ∧ Eo l' b = ps := by
 have hok : Nod.ok ⟨lv, ps⟩ := ⟨Ha.2 fun p hpm => An (hp p hpm), hlv, by
  cases ha : ps.any (fun b => decide (b ≠ 0)) with
  | true => rfl
  | false => exact absurd (any_zeros.1 ha) hz⟩
 have hpn := wH (n := ⟨lv, ps⟩) h8 hok
 unfold atP Eo
 rw [hb, hpn, if_neg (by omega)]
 exact ⟨An ⟨rfl, rfl⟩, rfl⟩
theorem Lay.bound (h : Lay l l' root w m fs) {lv pl : Nat} (hlv : lv ≤ 2) (hpl : pl < 8 ^ (2 - lv)) (hN : NewAt l l' root w m fs lv pl) : ptrOk (isN l root m w.m fs lv pl) ∧ isN l root m w.m fs lv pl < nb l := by
 have h4 := h.nb4
 by_cases h0 : isN l root m w.m fs lv pl = 0
 ·rw [h0]; exact ⟨.inl rfl, by omega⟩
 ·have := lS ((hN.ok h0).1)
  rw [h.hnb] at this
  exact ⟨.inr ⟨this.1, by omega⟩, this.2⟩
end
end Go.Proofs.YtkpndfkpdnknkaaGreat
set_option maxRecDepth 10000
namespace Go.Proofs.YtkpndfkpdnknkaaGreat
open Go.AI
section
variable {l l' : List UInt8} {root : Nat} {w : WS} {m fs : List Nat}
theorem lZ {m0 : List Nat} {lv j : Nat} (h : lv < 2) : (Ki l root m m0 fs (lv + 1)).getD j 0 = isN l root m m0 fs lv j := by
 rcases (by omega : lv = 0 ∨ lv = 1) with rfl | rfl <;> rfl
theorem mV {m0 : List Nat} {lv : Nat} (h : lv < 2) : (Ki l root m m0 fs (lv + 1)).length = 8 ^ (2 - lv) := by
 rcases (by omega : lv = 0 ∨ lv = 1) with rfl | rfl
 ·show (lay0 l root m m0 fs).1.length = _
  unfold lay0; rw [Tx, Hy]
 ·show (lay1 l root m m0 fs).1.length = _
  unfold lay1; rw [Tx, Hy]
theorem Adf {a : List Nat} {i n : Nat} (h : a.length = 8 * n) (hi : i < n) : (oct a i).length = 8 := by
 unfold oct
 rw [Ay, Bl]; omega
theorem uR {a : List Nat} {x n : Nat} (h : a.length = n) (hx : x ∈ a) : ∃ i, i < n ∧ a.getD i 0 = x := by
 obtain ⟨i, hi, he⟩ := List.getElem_of_mem hx
 exact ⟨i, by omega, by simp [hi, he]⟩
theorem Lay.new0 (h : Lay l l' root w m fs) {pl : Nat} (hpl : pl < 64) (hk : Fq m w.m (wasL l root 2) 0 pl = none) : NewAt l l' root w m fs 0 pl := by
 obtain ⟨hb, hw⟩ := (h.place (lv := 0) (by decide) hpl).2 hk
 have hf := h.free _ hb
 have h4 := h.nb4
 have hz := Qv hk
 have hpt : oct m pl = part m 0 pl := rfl
 have h8 : (part m 0 pl).length = 8 := jQ (by rw [h.len]; show 8 * (pl + 1) ≤ 512; omega)
 have hmem : ∀ p ∈ part m 0 pl, p ∈ m := fun p hp => Cc (As hp)
 have hlt : ∀ p ∈ part m 0 pl, p < nb l := fun p hp => by
  have := h.range p (hmem p hp); omega
 generalize hB : isN l root m w.m fs 0 pl = b at *
 have hN := vV (l' := l') (b := b) (lv := 0) (ps := part m 0 pl) hw hf.1 (by rw [h.hnb]; exact hf.2.1) h8 (fun p hp => by
  have := h.range p (hmem p hp)
  unfold ptrOk; omega) (by decide) hz
 refine ⟨fun h0 => by rw [hB] at h0; omega, fun _ => hz, fun _ => ?_, fun _ x hx => ?_⟩
 ·rw [hB]
  refine ⟨⟨hN.1, fun p hp => ?_⟩, hN.2⟩
  rw [hN.2] at hp
  rw [h.hnb]; exact hlt p hp
 ·rw [hB] at hx
  simp only [tN, Bo] at hx
  rw [hx]; exact .inr hb
theorem Lay.newS (h : Lay l l' root w m fs) {lv pl : Nat} (hlv : lv < 2) (hpl : pl < 8 ^ (2 - (lv + 1))) (ih : ∀ p, p < 8 ^ (2 - lv) → NewAt l l' root w m fs lv p) (hk : Fq m w.m (wasL l root (2 - (lv + 1))) (lv + 1) pl = none) : NewAt l l' root w m fs (lv + 1) pl := by
 obtain ⟨hb, hw⟩ := (h.place (lv := lv + 1) (by omega) hpl).2 hk
 have hf := h.free _ hb
 have h4 := h.nb4
 have hz := Qv hk
 have h2 : 2 - lv = (2 - (lv + 1)) + 1 := by omega
 have hidx : ∀ i, i < 8 → 8 * pl + i < 8 ^ (2 - lv) := fun i hi => by rw [h2, Fw]; omega
 have h8 : (oct (Ki l root m w.m fs (lv + 1)) pl).length = 8 := Adf (n := 8 ^ (2 - (lv + 1))) (by rw [mV hlv, h2, Fw, Gl]) hpl
 have hget : ∀ i, i < 8 → (oct (Ki l root m w.m fs (lv + 1)) pl).getD i 0 = isN l root m w.m fs lv (8 * pl + i) := fun i hi => by rw [iL hi, lZ hlv]
 have hps := Re m lv pl
 have hps8 : ∀ p ∈ oct (Ki l root m w.m fs (lv + 1)) pl, ∃ i, i < 8 ∧ p = isN l root m w.m fs lv (8 * pl + i) := fun p hp => by
  obtain ⟨i, hi, he⟩ := uR h8 hp
  exact ⟨i, hi, by rw [← he, hget i hi]⟩
 have hbd : ∀ p ∈ oct (Ki l root m w.m fs (lv + 1)) pl, ptrOk p ∧ p < nb l := fun p hp => by
  obtain ⟨i, hi, rfl⟩ := hps8 p hp
  exact h.bound (by omega) (hidx i hi) (ih _ (hidx i hi))
 generalize hO : oct (Ki l root m w.m fs (lv + 1)) pl = ps at *
 generalize hB : isN l root m w.m fs (lv + 1) pl = b at *
 have hnz : ¬ Mr ps := by
  intro hzz
  refine hz ?_
  rw [hps]
  intro x hx
  obtain ⟨i, hi, hx⟩ := Db.1 hx
  have hi := Bw.1 hi
  have hmem : ps.getD i 0 ∈ ps := by simp [Ae, Aa (by omega : i < ps.length)]
  have h0 := hzz _ hmem
  rw [hget i hi] at h0
  exact (ih _ (hidx i hi)).zero h0 x hx
 have hN := vV (l' := l') (b := b) (lv := lv + 1) (ps := ps) hw hf.1 (by rw [h.hnb]; exact hf.2.1) h8 (fun p hp => (hbd p hp).1) (by omega) hnz
 refine ⟨fun h0 => by rw [hB] at h0; omega, fun _ => hz, fun _ => ⟨?_, ?_⟩, fun _ x hx => ?_⟩
 ·rw [hB]
  refine ⟨hN.1, fun p hp => ?_⟩
  rw [hN.2] at hp
  refine ⟨by rw [h.hnb]; exact (hbd p hp).2, fun h0 => ?_⟩
  obtain ⟨i, hi, rfl⟩ := hps8 p hp
  exact ((ih _ (hidx i hi)).ok h0).1
 ·rw [hB]
  simp only [tM]
  rw [hN.2, Qh h8, hps]
  refine Bk List.flatten (Av fun i hi => ?_)
  have hi := Bw.1 hi
  rw [hget i hi]
  have hlen : (part m lv (8 * pl + i)).length = 8 ^ (lv + 1) := by
   refine jQ ?_
   rw [h.len]
   have hpw : 8 ^ (lv + 1) * 8 ^ (2 - lv) = 512 := by
    rcases (by omega : lv = 0 ∨ lv = 1) with rfl | rfl <;> rfl
   rw [← hpw]
   exact Nat.mul_le_mul_left _ (hidx i hi)
  split
  ·rename_i h0
   exact ((dI hlen).1 ((ih _ (hidx i hi)).zero h0)).symm
  ·rename_i h0
   exact ((ih _ (hidx i hi)).ok h0).2
 ·rw [hB] at hx
  simp only [tN, Ar, Db] at hx
  rcases hx with rfl | ⟨p, hp, hx⟩
  ·exact .inr hb
  ·rw [hN.2] at hp
   obtain ⟨i, hi, rfl⟩ := hps8 p hp
   split at hx
   ·cases hx
   ·rename_i h0
    exact (ih _ (hidx i hi)).nodes h0 x hx
theorem Lay.all (h : Lay l l' root w m fs) {lv pl : Nat} (hlv : lv ≤ 2) (hpl : pl < 8 ^ (2 - lv)) : NewAt l l' root w m fs lv pl := by
 have a0 : ∀ pl, pl < 64 → NewAt l l' root w m fs 0 pl := fun pl hpl => by
  cases hk : Fq m w.m (wasL l root 2) 0 pl with
  | some a => exact h.kept (by decide) hpl hk
  | none => exact h.new0 hpl hk
 have a1 : ∀ pl, pl < 8 → NewAt l l' root w m fs 1 pl := fun pl hpl => by
  cases hk : Fq m w.m (wasL l root 1) 1 pl with
  | some a => exact h.kept (by decide) hpl hk
  | none => exact h.newS (by decide) hpl a0 hk
 have a2 : ∀ pl, pl < 1 → NewAt l l' root w m fs 2 pl := fun pl hpl => by
  cases hk : Fq m w.m (wasL l root 0) 2 pl with
  | some a => exact h.kept (by decide) hpl hk
  | none => exact h.newS (by decide) hpl a1 hk
 rcases (by omega : lv = 0 ∨ lv = 1 ∨ lv = 2) with rfl | rfl | rfl
 ·exact a0 pl hpl
 ·exact a1 pl hpl
 ·exact a2 pl hpl
end
end Go.Proofs.YtkpndfkpdnknkaaGreat
set_option maxRecDepth 10000
namespace Go.Proofs.YtkpndfkpdnknkaaGreat
open Go.AI
theorem Zq {f g : Nat → List Nat} : ∀ (ls : List Nat), (∀ i ∈ ls, (f i).Sublist (g i)) → (ls.flatMap f).Sublist (ls.flatMap g)
 | [], _ => by simp
 | a :: ls, h => by
  rw [Cl, Cl]
  exact (h a (by simp)).append (Zq ls fun i hi => h i (by simp [hi]))
theorem jP {f : Nat → List Nat} {ls : List Nat} (h : ∀ i ∈ ls, f i = []) : ls.flatMap f = [] := by
 rw [List.flatMap_eq_nil_iff]; exact h
theorem Yr {f g : Nat → List Nat} : ∀ (ls : List Nat), (ls.flatMap fun i => f i ++ g i).Perm (ls.flatMap f ++ ls.flatMap g)
 | [] => by simp
 | a :: ls => by
  simp only [Cl]
  have ih := Yr (f := f) (g := g) ls
  refine (Xx _ ih).trans ?_
  rw [Ce, Ce]
  refine Xx _ ?_
  rw [← Ce, ← Ce]
  exact List.Perm.append_right _ List.perm_append_comm
theorem kZ {f : Nat → List Nat} : ∀ n, ((List.range n).flatMap fun p => (List.range 8).flatMap fun i => f (8 * p + i)) = (List.range (8 * n)).flatMap f
 | 0 => by simp
 | n + 1 => by
  rw [show List.range (n + 1) = List.range n ++ [n] from Jl, Te, kZ n]
  have e : List.range (8 * (n + 1)) = List.range (8 * n) ++ (List.range 8).map (8 * n + ·) := by
   rw [show 8 * (n + 1) = 8 * n + 8 by omega, List.range_add]
  rw [e, Te, pU]
  simp
theorem cA {p : Nat → Bool} : ∀ {a : List Nat}, (a.filter p).Nodup → (a.filter fun x => !p x).Nodup → a.Nodup
 | [], _, _ => Ro
 | x :: a, h1, h2 => by
  rw [Fl] at h1 h2
  cases hp : p x with
  | true =>
   rw [hp] at h1 h2
   simp only [if_true, Kf, Bd, Cp, Gu] at h1 h2
   rw [Gu]
   exact ⟨fun hx => h1.1 (Eh.2 ⟨hx, hp⟩), cA h1.2 h2⟩
  | false =>
   rw [hp] at h1 h2
   simp only [Bool.not_false, if_true, Bd, Cp, Gu] at h1 h2
   rw [Gu]
   exact ⟨fun hx => h2.1 (Eh.2 ⟨hx, by simp [hp]⟩), cA h1 h2.2⟩
theorem gH {lv : Nat} {below : List Nat} : ∀ (ks : List (Option Nat)) (i : Nat) (fs : List Nat), ((List.range ks.length).flatMap fun j => if ks.getD j (some 0) = none then [(Ey lv below ks i fs).1.getD j 0] else []) = (Ey lv below ks i fs).2.1.map IoV.at0
 | [], _, _ => by simp [Ey]
 | some a :: ks, i, fs => by
  have ih := gH (lv := lv) (below := below) ks (i + 1) fs
  simp only [Ao, Wu, Cl, pU, Ey, Hk, List.getD_cons_zero]
  rw [if_neg (by simp), Dc]
  exact ih
 | none :: ks, i, fs => by
  have ih := gH (lv := lv) (below := below) ks (i + 1) (fs.drop 1)
  simp only [Ao, Wu, Cl, pU, Ey, Hk, List.getD_cons_zero, Bb]
  rw [ih]
  simp [wIo]
section
variable {l l' : List UInt8} {root : Nat} {w : WS} {m fs : List Nat}
def nN (l l' : List UInt8) (root : Nat) (m m0 fs : List Nat) (lv pl : Nat) : List Nat := if isN l root m m0 fs lv pl = 0 then [] else tN l' lv (isN l root m m0 fs lv pl)
def oN (l : List UInt8) (root lv pl : Nat) : List Nat := if wasN l root lv pl = 0 then [] else tN l lv (wasN l root lv pl)
theorem Axo {lv pl : Nat} (hlv : lv < 2) (hpl : pl < 8 ^ (2 - (lv + 1))) : ((List.range 8).flatMap fun i => oN l root lv (8 * pl + i)).Sublist (oN l root (lv + 1) pl) := by
 have h2 : 2 - lv = (2 - (lv + 1)) + 1 := by omega
 have hw : ∀ i, i < 8 → wasN l root lv (8 * pl + i) = (if wasN l root (lv + 1) pl = 0 then List.replicate 8 0 else Eo l (wasN l root (lv + 1) pl)).getD i 0 := by
  intro i hi
  unfold wasN
  rw [← yB l root _ pl hpl, iL hi, h2]
 by_cases h0 : wasN l root (lv + 1) pl = 0
 ·rw [jP]
  ·exact List.nil_sublist _
  ·intro i hi
   have := hw i (Bw.1 hi)
   rw [if_pos h0, Agl] at this
   unfold oN; rw [if_pos this]
 ·have e : oN l root (lv + 1) pl = wasN l root (lv + 1) pl :: ((List.range 8).flatMap fun i => oN l root lv (8 * pl + i)) := by
   unfold oN
   rw [if_neg h0]
   simp only [tN]
   congr 1
   rw [Qh (Oo l _)]
   refine Bk List.flatten (Av fun i hi => ?_)
   have := hw i (Bw.1 hi)
   rw [if_neg h0] at this
   rw [this]
  rw [e]
  exact List.sublist_cons_self _ _
theorem Lay.kept_nodes (h : Lay l l' root w m fs) {lv pl : Nat} (hlv : lv ≤ 2) (hpl : pl < 8 ^ (2 - lv)) {a : Nat} (hk : Fq m w.m (wasL l root (2 - lv)) lv pl = some a) : (nN l l' root m w.m fs lv pl = [] ∨ nN l l' root m w.m fs lv pl = oN l root lv pl) ∧ ∀ x ∈ nN l l' root m w.m fs lv pl, x ∈ w.nodes := by
 have hi := (h.place hlv hpl).1 a hk
 have ho := Akc h.old lv pl hlv hpl
 rcases gI hk with ⟨h1, h2⟩ | ⟨h1, h2, h3⟩
 ·have : nN l l' root m w.m fs lv pl = [] := by unfold nN; rw [if_pos (hi.trans h2)]
  rw [this]
  exact ⟨.inl rfl, fun x hx => by cases hx⟩
 ·have ha : a = wasN l root lv pl := h3
  have hne : wasN l root lv pl ≠ 0 := fun hz => h1 (by rw [h2]; exact ho.1 hz)
  obtain ⟨k1, k2, k3⟩ := ho.2 hne
  obtain ⟨f1, f2, f3⟩ := fT (l' := l') h.hnb lv (wasN l root lv pl) fun x hx => h.keep x (k3 x hx)
  have e : nN l l' root m w.m fs lv pl = oN l root lv pl := by
   unfold nN oN
   rw [hi, ha, if_neg hne, if_neg hne, f3]
  refine ⟨.inr e, fun x hx => k3 x ?_⟩
  rw [e] at hx
  unfold oN at hx
  rwa [if_neg hne] at hx
theorem Lay.filter_old (h : Lay l l' root w m fs) {a : List Nat} (ha : ∀ x ∈ a, x ∈ w.nodes) : a.filter (fun x => decide (x ∈ fs)) = [] := by
 rw [List.filter_eq_nil_iff]
 intro x hx
 rw [Dg]
 exact fun hf => (h.free x hf).2.2 (ha x hx)
theorem Lay.new_nodes (h : Lay l l' root w m fs) {lv pl : Nat} (hlv : lv < 2) (hpl : pl < 8 ^ (2 - (lv + 1))) (hk : Fq m w.m (wasL l root (2 - (lv + 1))) (lv + 1) pl = none) :
  nN l l' root m w.m fs (lv + 1) pl = isN l root m w.m fs (lv + 1) pl :: ((List.range 8).flatMap fun i => nN l l' root m w.m fs lv (8 * pl + i)) := by
 obtain ⟨hb, hw⟩ := (h.place (lv := lv + 1) (by omega) hpl).2 hk
 have hN := (h.all (lv := lv + 1) (by omega) hpl)
 have hne : isN l root m w.m fs (lv + 1) pl ≠ 0 := fun h0 => Qv hk (hN.zero h0)
 have h2 : 2 - lv = (2 - (lv + 1)) + 1 := by omega
 have h8 : (oct (Ki l root m w.m fs (lv + 1)) pl).length = 8 := Adf (n := 8 ^ (2 - (lv + 1))) (by rw [mV hlv, h2, Fw, Gl]) hpl
 have hget : ∀ i, i < 8 → (oct (Ki l root m w.m fs (lv + 1)) pl).getD i 0 = isN l root m w.m fs lv (8 * pl + i) := fun i hi => by rw [iL hi, lZ hlv]
 have hidx : ∀ i, i < 8 → 8 * pl + i < 8 ^ (2 - lv) := fun i hi => by rw [h2, Fw]; omega
 have hf := h.free _ hb
 have hpt : Eo l' (isN l root m w.m fs (lv + 1) pl) = oct (Ki l root m w.m fs (lv + 1)) pl := by
  refine (vV (l' := l') hw hf.1 (by rw [h.hnb]; exact hf.2.1) h8 (fun p hp => ?_) (by omega) ?_).2
  ·obtain ⟨i, hi, he⟩ := uR h8 hp
   rw [hget i hi] at he
   rw [← he]
   exact (h.bound (by omega) (hidx i hi) (h.all (by omega) (hidx i hi))).1
  ·intro hzz
   refine Qv hk ?_
   rw [Re]
   intro x hx
   obtain ⟨i, hi, hx⟩ := Db.1 hx
   have hi := Bw.1 hi
   have hmem : (oct (Ki l root m w.m fs (lv + 1)) pl).getD i 0 ∈ oct (Ki l root m w.m fs (lv + 1)) pl := by simp [Ae, Aa (by omega : i < (oct (Ki l root m w.m fs (lv + 1)) pl).length)]
   have h0 := hzz _ hmem
   rw [hget i hi] at h0
   exact (h.all (by omega) (hidx i hi)).zero h0 x hx
 unfold nN
 rw [if_neg hne]
 simp only [tN]
 congr 1
 rw [hpt, Qh h8]
 refine Bk List.flatten (Av fun i hi => ?_)
 rw [hget i (Bw.1 hi)]
theorem Lay.old_sub (h : Lay l l' root w m fs) : ∀ (lv pl : Nat), lv ≤ 2 → pl < 8 ^ (2 - lv) → ((nN l l' root m w.m fs lv pl).filter fun x => !decide (x ∈ fs)).Sublist (oN l root lv pl)
 | 0, pl, hlv, hpl => by
  cases hk : Fq m w.m (wasL l root (2 - 0)) 0 pl with
  | some a =>
   rcases (h.kept_nodes hlv hpl hk).1 with he | he
   ·rw [he]; simp
   ·rw [he]; exact List.filter_sublist
  | none =>
   obtain ⟨hb, _⟩ := (h.place hlv hpl).2 hk
   unfold nN
   split
   ·simp
   ·simp only [tN]
    rw [Fl, if_neg (by simp [hb])]
    simp
 | lv + 1, pl, hlv, hpl => by
  cases hk : Fq m w.m (wasL l root (2 - (lv + 1))) (lv + 1) pl with
  | some a =>
   rcases (h.kept_nodes hlv hpl hk).1 with he | he
   ·rw [he]; simp
   ·rw [he]; exact List.filter_sublist
  | none =>
   obtain ⟨hb, _⟩ := (h.place hlv hpl).2 hk
   have h2 : 2 - lv = (2 - (lv + 1)) + 1 := by omega
   rw [h.new_nodes (by omega) hpl hk, Fl, if_neg (by simp [hb]), List.filter_flatMap]
   refine List.Sublist.trans (Zq _ fun i hi => ?_) (Axo (by omega) hpl)
   have hi := Bw.1 hi
   exact h.old_sub lv (8 * pl + i) (by omega) (by rw [h2, Fw]; omega)
def newB (l : List UInt8) (root : Nat) (m m0 fs : List Nat) (lv pl : Nat) : List Nat := if Fq m m0 (wasL l root (2 - lv)) lv pl = none then [isN l root m m0 fs lv pl] else []
theorem Lay.new0_filter (h : Lay l l' root w m fs) {pl : Nat} (hpl : pl < 8 ^ (2 - 0)) : (nN l l' root m w.m fs 0 pl).filter (fun x => decide (x ∈ fs)) = newB l root m w.m fs 0 pl := by
 unfold newB
 cases hk : Fq m w.m (wasL l root (2 - 0)) 0 pl with
 | some a => rw [if_neg (by simp), h.filter_old (h.kept_nodes (by decide) hpl hk).2]
 | none =>
  obtain ⟨hb, _⟩ := (h.place (lv := 0) (by decide) hpl).2 hk
  rw [if_pos rfl]
  unfold nN
  rw [if_neg (fun h0 => Qv hk ((h.all (lv := 0) (by decide) hpl).zero h0))]
  simp only [tN]
  rw [Fl, if_pos (An hb)]; rfl
theorem Ajb {m m0 : List Nat} {was was2 : List Nat} (hm : m.length = 512) (hm0 : m0.length = 512) {lv pl : Nat} (hlv : lv < 2) (hpl : pl < 8 ^ (2 - (lv + 1))) {a : Nat} (hk : Fq m m0 was (lv + 1) pl = some a) {i : Nat} (hi : i < 8) : Fq m m0 was2 lv (8 * pl + i) ≠ none := by
 have hps := Re m lv pl
 have hps0 := Re m0 lv pl
 have h2 : 2 - lv = (2 - (lv + 1)) + 1 := by omega
 have hpw : 8 ^ (lv + 1) * 8 ^ (2 - lv) = 512 := by
  rcases (by omega : lv = 0 ∨ lv = 1) with rfl | rfl <;> rfl
 have hlen : ∀ (q : List Nat), q.length = 512 → ∀ j, j < 8 → (part q lv (8 * pl + j)).length = 8 ^ (lv + 1) := by
  intro q hq j hj
  refine jQ ?_
  rw [hq, ← hpw]
  exact Nat.mul_le_mul_left _ (by rw [h2, Fw]; omega)
 rcases gI hk with ⟨h1, _⟩ | ⟨_, h1, _⟩
 ·have hz : Mr (part m lv (8 * pl + i)) := fun x hx => h1 x (by rw [hps, Db]; exact ⟨i, Bw.2 hi, hx⟩)
  unfold Fq
  rw [if_pos (any_zeros.2 hz)]
  simp
 ·have hc := Wr (f := fun j => if j < 8 then part m lv (8 * pl + j) else List.replicate (8 ^ (lv + 1)) 0) (g := fun j => if j < 8 then part m0 lv (8 * pl + j) else List.replicate (8 ^ (lv + 1)) 0) (K := 8 ^ (lv + 1)) (fun j => by
   show (if _ then _ else _ : List Nat).length = _
   split
   ·rename_i hj; exact hlen m hm j hj
   ·simp) (fun j => by
   show (if _ then _ else _ : List Nat).length = _
   split
   ·rename_i hj; exact hlen m0 hm0 j hj
   ·simp) (List.range 8) (by
   have e : ∀ q : List Nat, ((List.range 8).flatMap fun j => if j < 8 then part q lv (8 * pl + j) else List.replicate (8 ^ (lv + 1)) 0) = (List.range 8).flatMap fun j => part q lv (8 * pl + j) := fun q => Bk List.flatten (Av fun j hj => if_pos (Bw.1 hj))
   rw [e m, e m0, ← hps, ← hps0, h1]) i (Bw.2 hi)
  simp only [hi, if_true] at hc
  unfold Fq
  split
  ·simp
  ·first | simp | (rw [if_pos hc]; simp)
theorem Lay.newS_filter (h : Lay l l' root w m fs) {lv pl : Nat} (hlv : lv < 2) (hpl : pl < 8 ^ (2 - (lv + 1))) : (nN l l' root m w.m fs (lv + 1) pl).filter (fun x => decide (x ∈ fs)) = newB l root m w.m fs (lv + 1) pl ++ (List.range 8).flatMap fun i => (nN l l' root m w.m fs lv (8 * pl + i)).filter fun x => decide (x ∈ fs) := by
 have h2 : 2 - lv = (2 - (lv + 1)) + 1 := by omega
 unfold newB
 cases hk : Fq m w.m (wasL l root (2 - (lv + 1))) (lv + 1) pl with
 | some a =>
  rw [if_neg (by simp), h.filter_old (h.kept_nodes (by omega) hpl hk).2, Dc, jP]
  intro i hi
  have hi := Bw.1 hi
  have hpi : 8 * pl + i < 8 ^ (2 - lv) := by rw [h2, Fw]; omega
  cases hk2 : Fq m w.m (wasL l root (2 - lv)) lv (8 * pl + i) with
  | none => exact absurd hk2 (Ajb h.len (Us h.old).1 hlv hpl hk hi)
  | some b => exact h.filter_old (h.kept_nodes (by omega) hpi hk2).2
 | none =>
  obtain ⟨hb, _⟩ := (h.place (lv := lv + 1) (by omega) hpl).2 hk
  rw [if_pos rfl, h.new_nodes hlv hpl hk, Fl, if_pos (An hb), List.filter_flatMap]; rfl
theorem Auc (h : Lay l l' root w m fs) : (List.range 64).flatMap (newB l root m w.m fs 0) = (lay0 l root m w.m fs).2.1.map IoV.at0 ∧ (List.range 8).flatMap (newB l root m w.m fs 1) = (lay1 l root m w.m fs).2.1.map IoV.at0 ∧ (List.range 1).flatMap (newB l root m w.m fs 2) = (lay2 l root m w.m fs).2.1.map IoV.at0 := by
 have key : ∀ (lv n : Nat) (below fs2 : List Nat), 8 ^ (2 - lv) = n → (∀ j, isN l root m w.m fs lv j = (Ey lv below (Cu l root m w.m lv) 0 fs2).1.getD j 0) → (List.range n).flatMap (newB l root m w.m fs lv) = (Ey lv below (Cu l root m w.m lv) 0 fs2).2.1.map IoV.at0 := by
  intro lv n below fs2 hn hj
  rw [← gH, Hy, hn]
  refine Bk List.flatten (Av fun j hjm => ?_)
  have hjl := Bw.1 hjm
  unfold newB
  have e : (Cu l root m w.m lv).getD j (some 0) = Fq m w.m (wasL l root (2 - lv)) lv j := by
   rw [Ae, Aa (by rw [Hy, hn]; exact hjl), fQ (by rw [hn]; exact hjl)]; rfl
  rw [e, hj j]
 exact ⟨key 0 64 m fs rfl (fun _ => rfl), key 1 8 _ _ rfl (fun _ => rfl), key 2 1 _ _ rfl (fun _ => rfl)⟩
theorem Lay.ios_at (h : Lay l l' root w m fs) : (Gx l root m w.m fs).map IoV.at0 = fs.take (Ho l root m w.m) := by
 obtain ⟨r0, r1, r2⟩ := h.rooms
 have e1 : (lay0 l root m w.m fs).2.2 = fs.drop (Dn (Cu l root m w.m 0)) := Ja _ _ _
 have e2 : (lay1 l root m w.m fs).2.2 = (lay0 l root m w.m fs).2.2.drop (Dn (Cu l root m w.m 1)) := Ja _ _ _
 have a0 : (lay0 l root m w.m fs).2.1.map IoV.at0 = fs.take (Dn (Cu l root m w.m 0)) := Sl _ _ _ r0
 have a1 : (lay1 l root m w.m fs).2.1.map IoV.at0 = (lay0 l root m w.m fs).2.2.take (Dn (Cu l root m w.m 1)) := Sl _ _ _ r1
 have a2 : (lay2 l root m w.m fs).2.1.map IoV.at0 = (lay1 l root m w.m fs).2.2.take (Dn (Cu l root m w.m 2)) := Sl _ _ _ r2
 unfold Gx Ho
 rw [Br, Br, a0, a1, a2, e2, e1, Zx, Zx, Nn]
theorem Lay.new_perm (h : Lay l l' root w m fs) : ((nN l l' root m w.m fs 2 0).filter fun x => decide (x ∈ fs)).Perm (fs.take (Ho l root m w.m)) := by
 have e : (nN l l' root m w.m fs 2 0).filter (fun x => decide (x ∈ fs)) = (List.range 1).flatMap fun pl => (nN l l' root m w.m fs 2 pl).filter fun x => decide (x ∈ fs) := by simp
 have s0 : ((List.range 64).flatMap fun pl => (nN l l' root m w.m fs 0 pl).filter fun x => decide (x ∈ fs)) = (List.range 64).flatMap (newB l root m w.m fs 0) := Bk List.flatten (Av fun pl hpl => h.new0_filter (Bw.1 hpl))
 have s1 : ((List.range 8).flatMap fun pl => (nN l l' root m w.m fs 1 pl).filter fun x => decide (x ∈ fs)).Perm ((List.range 8).flatMap (newB l root m w.m fs 1) ++ (List.range 64).flatMap (newB l root m w.m fs 0)) := by
  have e1 : ((List.range 8).flatMap fun pl => (nN l l' root m w.m fs 1 pl).filter fun x => decide (x ∈ fs)) = (List.range 8).flatMap fun pl => newB l root m w.m fs 1 pl ++ (List.range 8).flatMap fun i => (nN l l' root m w.m fs 0 (8 * pl + i)).filter fun x => decide (x ∈ fs) := Bk List.flatten (Av fun pl hpl => h.newS_filter (lv := 0) (by decide) (Bw.1 hpl))
  rw [e1]
  refine (Yr _).trans ?_
  rw [kZ (f := fun q => (nN l l' root m w.m fs 0 q).filter fun x => decide (x ∈ fs)) 8]
  rw [show 8 * 8 = 64 from rfl, s0]
 have s2 : ((List.range 1).flatMap fun pl => (nN l l' root m w.m fs 2 pl).filter fun x => decide (x ∈ fs)).Perm ((List.range 1).flatMap (newB l root m w.m fs 2) ++ ((List.range 8).flatMap (newB l root m w.m fs 1) ++ (List.range 64).flatMap (newB l root m w.m fs 0))) := by
  have e1 : ((List.range 1).flatMap fun pl => (nN l l' root m w.m fs 2 pl).filter fun x => decide (x ∈ fs)) = (List.range 1).flatMap fun pl => newB l root m w.m fs 2 pl ++ (List.range 8).flatMap fun i => (nN l l' root m w.m fs 1 (8 * pl + i)).filter fun x => decide (x ∈ fs) := Bk List.flatten (Av fun pl hpl => h.newS_filter (lv := 1) (by decide) (Bw.1 hpl))
  rw [e1]
  refine (Yr _).trans ?_
  rw [kZ (f := fun q => (nN l l' root m w.m fs 1 q).filter fun x => decide (x ∈ fs)) 1]
  exact Xx _ s1
 rw [e]
 refine s2.trans ?_
 obtain ⟨n0, n1, n2⟩ := Auc h
 rw [n0, n1, n2]
 have hat := h.ios_at
 unfold Gx at hat
 rw [Br, Br] at hat
 rw [← hat]
 exact (List.perm_append_comm.trans (Xx _ List.perm_append_comm)).symm
theorem Lay.new_mem (h : Lay l l' root w m fs) {x : Nat} (hx : x ∈ (nN l l' root m w.m fs 2 0).filter fun x => decide (x ∈ fs)) : x ∈ fs.take (Ho l root m w.m) := h.new_perm.mem_iff.1 hx
theorem Avq {l : List UInt8} : ∀ (v a : Nat), tOk l v a → ∀ b ∈ tN l v a, 2 ≤ b ∧ b < nb l
 | 0, a, h, b, hb => by
  simp only [tN, Bo] at hb
  rw [hb]; exact lS h
 | v + 1, a, h, b, hb => by
  simp only [tN, Ar, Db] at hb
  rcases hb with rfl | ⟨p, hp, hb⟩
  ·exact lS h
  ·split at hb
   ·cases hb
   ·rename_i h0
    exact Avq v p ((h.2 p hp).2 h0) b hb
theorem Lay.nodes_nodup (h : Lay l l' root w m fs) : (nN l l' root m w.m fs 2 0).Nodup := by
 refine cA (p := fun x => decide (x ∈ fs)) (h.new_perm.nodup_iff.2 (h.nodup.sub (Wy _ _))) ?_
 have := h.old_sub 2 0 (by decide) (by decide)
 refine List.Nodup.sub ?_ this
 unfold oN
 split
 ·exact Ro
 ·rename_i h0
  exact ((goP_iff.1 h.old).2 h0).2.1
theorem Lay.tree (h : Lay l l' root w m fs) (hd : ∀ a ∈ m, a ≠ 0 → a ∉ w.nodes ∧ a ∉ fs) : ∃ w', goP l' (Jq l root m w.m fs) = some w' ∧ w'.m = m ∧ (∀ x ∈ w'.nodes, x ∈ w.nodes ∨ x ∈ fs.take (Ho l root m w.m)) := by
 have hN := h.all (lv := 2) (pl := 0) (by decide) (by decide)
 have hroot : Jq l root m w.m fs = isN l root m w.m fs 2 0 := by
  unfold Jq
  show _ = (lay2 l root m w.m fs).1.getD 0 0
  cases (lay2 l root m w.m fs).1 <;> rfl
 have hpt : part m 2 0 = m := by
  unfold part
  rw [Ol, Cd, Aj]
  rw [h.len]; exact Bc _
 have hnn := h.nodes_nodup
 rw [hroot]
 by_cases h0 : isN l root m w.m fs 2 0 = 0
 ·rw [h0]
  have hz := hN.zero h0
  rw [hpt] at hz
  refine ⟨ws0, by unfold goP; rw [if_pos rfl], ((dI h.len).1 hz).symm, fun x hx => by cases hx⟩
 ·obtain ⟨k1, k2⟩ := hN.ok h0
  have hnod := hN.nodes h0
  unfold nN at hnn
  rw [if_neg h0] at hnn
  rw [hpt] at k2
  have htr : iD l' (isN l root m w.m fs 2 0) = ⟨m, tN l' 2 (isN l root m w.m fs 2 0), false⟩ := by unfold iD; rw [if_neg h0, k2]
  refine ⟨_, goP_iff.2 ⟨rfl, fun _ => ⟨k1, hnn, fun b hb hbn => ?_⟩⟩, by rw [htr], fun x hx => ?_⟩
  ·rw [k2] at hb
   by_cases hb0 : b = 0
   ·have hlo := hnod b hbn
    have h20 : ∀ w2, goP l root = some w2 → ∀ a ∈ w2.nodes, a ≠ 0 := by
     intro w2 hg2 a ha
     obtain ⟨rfl, hok⟩ := goP_iff.1 hg2
     unfold iD at ha
     by_cases hr : root = 0
     ·rw [if_pos hr] at ha; cases ha
     ·rw [if_neg hr] at ha
      have := Avq 2 root (hok hr).1 a ha
      omega
    rcases hlo with hlo | hlo
    ·exact h20 w h.old b hlo hb0
    ·have := (h.free b hlo).1; omega
   ·rcases hnod b hbn with hx | hx
    ·exact (hd b hb hb0).1 hx
    ·exact (hd b hb hb0).2 hx
  ·rw [htr] at hx
   rcases hnod x hx with hx' | hx'
   ·exact .inl hx'
   ·right
    have hmem : x ∈ (nN l l' root m w.m fs 2 0).filter fun x => decide (x ∈ fs) := Eh.2 ⟨by unfold nN; rw [if_neg h0]; exact hx, An hx'⟩
    exact h.new_mem hmem
end
end Go.Proofs.YtkpndfkpdnknkaaGreat
set_option maxRecDepth 10000
namespace Go.Proofs.YtkpndfkpdnknkaaGreat
open Go.AI
theorem Uq {lv : Nat} {below : List Nat} {n : Nat} (hb : below.length = 8 * n) : ∀ (ks : List (Option Nat)) (i : Nat) (fs : List Nat), i + ks.length ≤ n → ∀ y ∈ (Ey lv below ks i fs).2.1, y.data.length = 64
 | [], _, _, _, y, hy => by simp [Ey] at hy
 | some a :: ks, i, fs, h, y, hy => Uq hb ks (i + 1) fs (by simp only [Ao] at h; omega) y hy
 | none :: ks, i, fs, h, y, hy => by
  simp only [Ao] at h
  simp only [Ey, Ar] at hy
  rcases hy with rfl | hy
  ·show (nodB ⟨lv, oct below i⟩).length = 64
   refine Arx ?_
   show (oct below i).length = 8
   unfold oct
   rw [Ay, Bl]; omega
  ·exact Uq hb ks (i + 1) (fs.drop 1) (by omega) y hy
theorem Wo {l : List UInt8} {root : Nat} {m m0 fs : List Nat} (hm : m.length = 512) : ∀ y ∈ Gx l root m m0 fs, y.data.length = 64 := by
 intro y hy
 have h0 : (lay0 l root m m0 fs).1.length = 64 := by unfold lay0; rw [Tx]; unfold Cu; simp
 have h1 : (lay1 l root m m0 fs).1.length = 8 := by unfold lay1; rw [Tx]; unfold Cu; simp
 unfold Gx at hy
 rcases Bq.1 hy with hy | hy
 ·rcases Bq.1 hy with hy | hy
  ·exact Uq (n := 64) (by omega) _ 0 _ (by unfold Cu; simp) y hy
  ·exact Uq (n := 8) (by omega) _ 0 _ (by unfold Cu; simp) y hy
 ·exact Uq (n := 1) (by omega) _ 0 _ (by unfold Cu; simp) y hy
theorem aO {l : List UInt8} {root : Nat} {m m0 fs : List Nat} (hr : Ho l root m m0 ≤ fs.length) : (Gx l root m m0 fs).map IoV.at0 = fs.take (Ho l root m m0) := by
 have e1 : (lay0 l root m m0 fs).2.2 = fs.drop (Dn (Cu l root m m0 0)) := Ja _ _ _
 have e2 : (lay1 l root m m0 fs).2.2 = (lay0 l root m m0 fs).2.2.drop (Dn (Cu l root m m0 1)) := Ja _ _ _
 unfold Ho at hr
 have a0 : (lay0 l root m m0 fs).2.1.map IoV.at0 = fs.take (Dn (Cu l root m m0 0)) := Sl _ _ _ (by omega)
 have a1 : (lay1 l root m m0 fs).2.1.map IoV.at0 = (lay0 l root m m0 fs).2.2.take (Dn (Cu l root m m0 1)) := Sl _ _ _ (by rw [e1, Bl]; omega)
 have a2 : (lay2 l root m m0 fs).2.1.map IoV.at0 = (lay1 l root m m0 fs).2.2.take (Dn (Cu l root m m0 2)) := Sl _ _ _ (by rw [e2, e1, Bl, Bl]; omega)
 unfold Gx Ho
 rw [Br, Br, a0, a1, a2, e2, e1, Zx, Zx, Nn]
theorem Aqd {l : List UInt8} {x : Img} {m : List Nat} {ios1 : List IoV} {fs : List Nat} {size : Nat} (hd : Dev l) (hI : IsImg l x) (hlen : m.length = 512) (hf1 : Frees l x ios1) (hfs : ∀ a ∈ fs, 2 ≤ a ∧ a < nb l ∧ ¬ reached l x a) (hnd : (ios1.map IoV.at0 ++ fs).Nodup)
  (hm : ∀ a ∈ m, a = 0 ∨ (∃ w ∈ x.trees, a ∈ w.m) ∨ a ∈ ios1.map IoV.at0) (hroom : Ho l x.sup.root m (x.trees.headD ws0).m ≤ fs.length) (hgen : x.sup.gen < 1099511627776) (hsz : size ≤ 512) (hby : Nb m size = false)
  {ios : List IoV} (hios : ios = Eu x.sup x.slot (ios1 ++ Gx l x.sup.root m (x.trees.headD ws0).m fs) (Jq l x.sup.root m (x.trees.headD ws0).m fs) size x.sup.first) :
  ∃ w', IsImg (Bs l ios) ⟨Vp x.sup (Jq l x.sup.root m (x.trees.headD ws0).m fs) size x.sup.first, 1 - x.slot, x.recs, x.blocks, w' :: x.trees.tail⟩ ∧ w'.m = m ∧ (∀ a, 2 ≤ a → reached l x a → blk (Bs l ios) a = blk l a) ∧ (∀ y ∈ ios1, blk (Bs l ios) y.at0 = y.data) ∧ (Bs l ios).length = l.length ∧
   Frees l x (ios1 ++ Gx l x.sup.root m (x.trees.headD ws0).m fs) ∧ ((ios1 ++ Gx l x.sup.root m (x.trees.headD ws0).m fs).map IoV.at0).Nodup ∧ ∀ a ∈ w'.nodes, a ∈ (x.trees.headD ws0).nodes ∨ a ∈ fs.take (Ho l x.sup.root m (x.trees.headD ws0).m) := by
 have hx := Sa hd hI
 have hn := hd.nb
 have hnb2 : 2 ≤ nb l := by omega
 obtain ⟨w, ws, he, h1, h2, h3⟩ := Gg hI
 have hw0 : x.trees.headD ws0 = w := by rw [he]; rfl
 have hws : x.trees.tail = ws := by rw [he]; rfl
 rw [hw0] at hroom hios ⊢
 rw [hws]
 have hwm : w ∈ x.trees := by rw [he]; simp
 have hwsm : ∀ v ∈ ws, v ∈ x.trees := fun v hv => by rw [he]; simp [hv]
 have hbat := aO (l := l) (root := x.sup.root) (m := m) (m0 := w.m) hroom
 have hF : Frees l x (ios1 ++ Gx l x.sup.root m w.m fs) := by
  refine hf1.append ⟨fun y hy => ?_, fun y hy => ?_⟩
  ·have : y.at0 ∈ fs := As (by rw [← hbat]; exact Bt.2 ⟨y, hy, rfl⟩)
   exact ⟨(hfs _ this).1, (hfs _ this).2.1, Wo hlen y hy⟩
  ·have : y.at0 ∈ fs := As (by rw [← hbat]; exact Bt.2 ⟨y, hy, rfl⟩)
   exact (hfs _ this).2.2
 have hat : ((ios1 ++ Gx l x.sup.root m w.m fs).map IoV.at0).Nodup := by
  rw [Br, hbat]
  exact hnd.sub (List.Sublist.append_left (Wy _ _) _)
 have hstay : ∀ a, 2 ≤ a → reached l x a → blk (Bs l ios) a = blk l a := fun a ha hr => by rw [hios]; exact gP hd hI hF.fit hF.free ha hr
 have hput : ∀ y ∈ ios1 ++ Gx l x.sup.root m w.m fs, blk (Bs l ios) y.at0 = y.data := fun y hy => by rw [hios]; exact xX hnb2 hF.fit hat hy
 have hl' : (Bs l ios).length = l.length := by rw [hios]; exact cU hnb2 hF.fit
 have hnb : nb (Bs l ios) = nb l := by unfold nb; rw [hl']
 have hlo := Us h1
 have hnr := Ig hI
 have hmr : ∀ a ∈ m, a = 0 ∨ 2 ≤ a ∧ a < nb l := by
  intro a ha
  rcases hm a ha with h | ⟨v, hv, h⟩ | h
  ·exact .inl h
  ·obtain ⟨p, hp, hg⟩ := Trees.mem hI.trees v hv
   exact (Us hg).2 a h
  ·obtain ⟨y, hy, rfl⟩ := Bt.1 h
   have := hf1.fit y hy
   exact .inr ⟨this.1, this.2.1⟩
 have hnod : ∀ v ∈ x.trees, ∀ a ∈ v.nodes, 2 ≤ a ∧ a < nb l ∧ reached l x a := fun v hv a ha => by
  have := (hx.tree v hv).1.1.2.2 a ha
  exact ⟨this.1, this.2, (hnr v hv).1 a ha⟩
 have hL : Lay l (Bs l ios) x.sup.root w m fs := by
  refine ⟨h1, hlen, hmr, ⟨hn.1, hn.2⟩, (Ej.1 hnd).2.1, fun a ha => ⟨(hfs a ha).1, (hfs a ha).2.1, fun hh => (hfs a ha).2.2 (hnod w hwm a hh).2.2⟩, hroom, hnb, fun a ha => hstay a (hnod w hwm a ha).1 (hnod w hwm a ha).2.2, fun y hy => hput y (Lv _ hy)⟩
 have hsec : ∀ a ∈ m, a ≠ 0 → (∃ v ∈ x.trees, a ∈ v.m) ∧ reached l x a ∨ a ∈ ios1.map IoV.at0 ∧ ¬ reached l x a ∧ a ∉ fs := by
  intro a ha h0
  rcases hm a ha with h | ⟨v, hv, h⟩ | h
  ·exact absurd h h0
  ·exact .inl ⟨⟨v, hv, h⟩, ((hnr v hv).2 a h).resolve_left h0⟩
  ·right
   obtain ⟨y, hy, rfl⟩ := Bt.1 h
   refine ⟨h, hf1.free y hy, fun hh => ?_⟩
   exact (Ej.1 hnd).2.2 _ h _ hh rfl
 have hdis : ∀ a ∈ m, a ≠ 0 → a ∉ w.nodes ∧ a ∉ fs := by
  intro a ha h0
  rcases hsec a ha h0 with ⟨⟨v, hv, h⟩, hr⟩ | ⟨h, hr, hf⟩
  ·exact ⟨fun hh => hI.clash a (.inl ⟨⟨⟨v, hv, h⟩, h0⟩, .inl ⟨w, hwm, hh⟩⟩), fun hh => (hfs a hh).2.2 hr⟩
  ·exact ⟨fun hh => hr (hnod w hwm a hh).2.2, hf⟩
 obtain ⟨w', g1, g2, g3⟩ := hL.tree hdis
 refine ⟨w', ?_, g2, hstay, fun y hy => hput y (Gs _ hy), hl', hF, hat, g3⟩
 have hg3 : ∀ a ∈ w'.nodes, a ∈ w.nodes ∨ a ∈ fs := fun a ha => (g3 a ha).imp id fun h => As h
 rw [hios] at g1 ⊢
 refine uH hd hI hx hF.fit ?_ hx.blocks ?_ hI.nodup hI.good ?_ ?_
 ·obtain ⟨k1, k2, k3, k4, k5⟩ := hx.sup
  refine ⟨⟨by show 1 ≤ x.sup.gen + 1; omega, by show x.sup.gen + 1 ≤ _; omega⟩, k2, hsz, ?_, k5⟩
  show Jq l x.sup.root m w.m fs = 0 ∨ 2 ≤ Jq l x.sup.root m w.m fs ∧ Jq l x.sup.root m w.m fs < x.sup.blocks
  by_cases h0 : Jq l x.sup.root m w.m fs = 0
  ·exact .inl h0
  ·have := lS ((goP_iff.1 g1).2 h0).1
   rw [hx.blocks, ← hnb, hios]
   exact .inr this
 ·rw [← hios]
  exact hI.chain.frame hnb fun a ha => hstay a (hx.blk a ha).1 (.inr (.inl ha))
 ·rw [← hios] at g1 ⊢
  refine ⟨g1, by rw [g2]; exact hby, Trees.frame hnb h3 fun v hv a ha => hstay a (hnod v (hwsm v hv) a ha).1 (hnod v (hwsm v hv) a ha).2.2⟩
 ·rintro a (⟨⟨⟨v, hv, hma⟩, h0⟩, hc⟩ | ⟨⟨v, hv, hna⟩, hb⟩)
  ·
   have hs : (∃ v ∈ x.trees, a ∈ v.m) ∧ reached l x a ∨ ¬ reached l x a ∧ a ∉ fs := by
    rcases Ar.1 hv with rfl | hv
    ·rw [g2] at hma
     exact (hsec a hma h0).imp id fun h => h.2
    ·exact .inl ⟨⟨v, hwsm v hv, hma⟩, ((hnr v (hwsm v hv)).2 a hma).resolve_left h0⟩
   rcases hc with ⟨u, hu, hna⟩ | hb
   ·rcases Ar.1 hu with rfl | hu
    ·rcases hg3 a hna with hna | hna
     ·rcases hs with ⟨⟨v, hv, hvm⟩, _⟩ | ⟨hr, _⟩
      ·exact hI.clash a (.inl ⟨⟨⟨v, hv, hvm⟩, h0⟩, .inl ⟨w, hwm, hna⟩⟩)
      ·exact hr (hnod w hwm a hna).2.2
     ·rcases hs with ⟨_, hr⟩ | ⟨_, hf⟩
      ·exact (hfs a hna).2.2 hr
      ·exact hf hna
    ·rcases hs with ⟨⟨v, hv, hvm⟩, _⟩ | ⟨hr, _⟩
     ·exact hI.clash a (.inl ⟨⟨⟨v, hv, hvm⟩, h0⟩, .inl ⟨u, hwsm u hu, hna⟩⟩)
     ·exact hr (hnod u (hwsm u hu) a hna).2.2
   ·rcases hs with ⟨⟨v, hv, hvm⟩, _⟩ | ⟨hr, _⟩
    ·exact hI.clash a (.inl ⟨⟨⟨v, hv, hvm⟩, h0⟩, .inr hb⟩)
    ·exact hr (.inr (.inl hb))
  ·rcases Ar.1 hv with rfl | hv
   ·rcases hg3 a hna with hna | hna
    ·exact hI.clash a (.inr ⟨⟨w, hwm, hna⟩, hb⟩)
    ·exact (hfs a hna).2.2 (.inr (.inl hb))
   ·exact hI.clash a (.inr ⟨⟨v, hwsm v hv, hna⟩, hb⟩)
end Go.Proofs.YtkpndfkpdnknkaaGreat
