import Derived.Test.YtkaiiopoilpjeaaGreatF19
import Derived.Test.YtkaiiopoilpjeaaGreatMFb
import Derived.Test.YtkaiiopoilpjeaaGreatMD2b
set_option linter.unusedSimpArgs false
set_option linter.unusedVariables false
set_option maxRecDepth 10000
namespace Go.Proofs.YtkaiiopoilpjeaaGreat
open Go.AI
theorem zV {f : Nat → List Nat} {c : Nat} (h : ∀ p, (f p).length ≤ c) : ∀ L : List Nat, (L.flatMap f).length ≤ c * L.length
 | [] => by simp
 | p :: L => by
  have := zV h L
  have := h p
  rw [Cj, An, Ao, Nat.mul_succ]; omega
theorem Amq {l : List UInt8} {root : Nat} {w : WS} (h : goP l root = some w) : w.nodes.length ≤ 73 := by
 obtain ⟨rfl, _⟩ := goP_iff.1 h
 unfold dD
 split
 ·exact Ep _
 ·have h0 : ∀ p, (if p = 0 then [] else tN l 0 p : List Nat).length ≤ 1 := fun p => by
   split
   ·exact Ep _
   ·exact Au _
  have h1 : ∀ p, (if p = 0 then [] else tN l 1 p : List Nat).length ≤ 9 := fun p => by
   split
   ·exact Ep _
   ·have := zV h0 (Ea l p)
    rw [Mc] at this
    exact Ry this
  have := zV h1 (Ea l root)
  rw [Mc] at this
  exact Ry this
section
variable {l : List UInt8} {x : Img} {n g : Nat}
theorem Bare.blocks (h : Bare l x n g) : x.blocks = [] := Eg.1 (by rw [h.fit.len, h.recs]; rfl)
theorem Bare.head (h : Bare l x n g) : goP l x.sup.root = some (Ee x) := by
 obtain ⟨w, ws, htr, hg, _, _⟩ := Hm h.img
 have hw : Ee x = w := by unfold Ee; rw [htr]; rfl
 rw [hw]; exact hg
theorem Bare.reach (h : Bare l x n g) {a : Nat} : reached l x a ↔ a < 2 ∨ a = x.sup.root ∨ ∃ nd ∈ (Ee x).nodes, a ∈ Ea l nd := by
 unfold reached
 rw [h.blocks, h.recs, h.trees]
 constructor
 ·rintro (h1 | h1 | h1 | ⟨w, hw, nd, hnd, hp⟩)
  ·exact .inl h1
  ·cases h1
  ·simp only [Jz, Bg] at h1; exact .inr (.inl h1)
  ·rw [Bg] at hw; subst hw; exact .inr (.inr ⟨nd, hnd, hp⟩)
 ·rintro (h1 | h1 | ⟨nd, hnd, hp⟩)
  ·exact .inl h1
  ·exact .inr (.inr (.inl (by simp [h1])))
  ·exact .inr (.inr (.inr ⟨_, by simp, nd, hnd, hp⟩))
theorem Bare.free_ge (h : Bare l x n g) {a m : Nat} (hz : ∀ j, ¬ (a ≤ j ∧ j < a + m) → (Dh x).m.getD j 0 = 0) : n ≤ (Cd (Ay l x)).length + 2 + (Ee x).nodes.length + m := by
 have hg := h.head
 have := Pt (List.range n) (Cd (Ay l x) ++ (0 :: 1 :: ((Ee x).nodes ++ (List.range m).map fun i => (Dh x).m.getD (a + i) 0))) List.nodup_range (fun b hb => by
  rw [Cc] at hb
  rw [Bi]
  by_cases h2 : b < 2
  ·right
   have : b = 0 ∨ b = 1 := by omega
   rcases this with rfl | rfl <;> simp
  by_cases hr : reached l x b
  ·right
   have hin : b ∈ (Ee x).nodes ∨ b ∈ (Ee x).m := by
    rcases h.reach.1 hr with h1 | h1 | ⟨nd, hnd, hp⟩
    ·omega
    ·rcases (kQ hg).1 with h3 | h3
     ·omega
     ·rw [h1]; exact .inl h3
    ·rcases (kQ hg).2 nd hnd b hp with h3 | h3 | h3
     ·omega
     ·exact .inl h3
     ·exact .inr h3
   simp only [Ap, Bi]
   rcases hin with h3 | h3
   ·exact .inr (.inr (.inl h3))
   ·right; right; right
    obtain ⟨j, hj, rfl⟩ := List.getElem_of_mem h3
    have he : (Dh x).m.getD j 0 = (Ee x).m[j] := by
     show (Ee x).m.getD j 0 = _
     rw [Af, Aa hj]; rfl
    have hja : a ≤ j ∧ j < a + m := He fun hh => by have := hz j hh; omega
    exact Bz.2 ⟨j - a, Cc.2 (by omega), by rw [show a + (j - a) = j by omega]; exact he⟩
  ·left
   rw [Jk h.dev h.fit]
   exact ⟨by omega, by rw [h.nb]; exact hb, hr⟩)
 rw [Gm, An] at this
 simp only [Ao, An, Ah, Gm] at this
 omega
theorem Bare.cheap (h : Bare l x n g) (hg : g + 1 < 1099511627776) {id : Nat} (h1 : 1 ≤ id) (h2 : id ≤ 4611686018427387903) (hf : 1 ≤ (Cd (Ay l x)).length) : ∃ (c d : List IoV) (x2 x3 : Img), Jy l id = .ok c ∧ Yt c ∧ Lc l c = 0 ∧ lookQ (Bt l c) = .ok x2 ∧ (Bt l c).length < 1000000 ∧
  (Cd (Ay l x)).length = (Cd (Ay (Bt l c) x2)).length + 1 ∧ Kv (Bt l c) id = .ok d ∧ Yt d ∧ Lc (Bt l c) d = 0 ∧ lookQ (Bt (Bt l c) d) = .ok x3 ∧ (Bt (Bt l c) d).length < 1000000 ∧ (Cd (Ay (Bt (Bt l c) d) x3)).length = (Cd (Ay l x)).length ∧
  Gq (Bt (Bt l c) d) x3 = Gq l x := by
 have hx := h.fit
 have hl := h.dev.1
 have hc0 : createE x.recs (id : Int) = 0 := by
  rw [h.recs]
  unfold createE
  rw [if_neg (fun hh => hh ⟨by omega, by omega⟩), if_neg (by simp [Yk]), if_neg (by simp), if_neg (by simp)]
 have hanew : (Fy x.recs 0 (Mf x (id : Int)) true).length = 1 := by unfold Fy; simp
 obtain ⟨c, hc⟩ : ∃ c, Jy l (id : Int) = .ok c := by
  unfold Jy
  rw [h.lk]
  simp only
  rw [if_neg (fun hh => hh hc0)]
  unfold Ls
  rw [if_neg (fun hh => hh (by rw [h.gen]; omega)), if_neg (by rw [hanew]; omega)]
  exact ⟨_, rfl⟩
 obtain ⟨y, x2, hd, hI, _, hmk, hm, hcore, hroot, hsize, hgen, htr, hv⟩ := Aga hl hc
 obtain rfl : y = x := by
  have a := (Mb hl).2 ⟨hd, hI⟩
  rw [h.lk] at a
  exact (Except.ok.inj a).symm
 have hok := rW hl hc
 have hst := Zg hd hx hmk
 generalize hl2 : Bt l c = l2 at *
 have hd2 := zD hd hm.len
 have hx2 := Sn hd2 hm.img
 have hq2 := (Mb hd2.1).2 ⟨hd2, hm.img⟩
 have hnb2 : Go.Proofs.YtkaiiopoilpjeaaGreat.nb l2 = Go.Proofs.YtkaiiopoilpjeaaGreat.nb l := by unfold Go.Proofs.YtkaiiopoilpjeaaGreat.nb; rw [hm.len]
 have hg1 := h.head
 have hnodes : ∀ nd ∈ (Ee y).nodes, 2 ≤ nd ∧ reached l y nd := fun nd hnd => by
  have hw : Ee y ∈ y.trees := by rw [h.trees]; simp
  exact ⟨((hx.tree _ hw).1.1.2.2 nd hnd).1, (Jp h.img _ hw).1 nd hnd⟩
 have hptr2 : ∀ nd ∈ (Ee y).nodes, Ea l2 nd = Ea l nd := fun nd hnd => by
  unfold Ea
  rw [hm.stay nd (hnodes nd hnd).1 (hnodes nd hnd).2]
 have hw2 : Ee x2 = Ee y ∧ Ee x2 ∈ x2.trees := by
  obtain ⟨w, ws, ht, _, _, _⟩ := Hm hm.img
  have e : Ee x2 = w := by unfold Ee; rw [ht]; rfl
  have hin : w ∈ y.trees := htr w (by rw [ht]; simp)
  rw [h.trees, Bg] at hin
  exact ⟨e.trans hin, by rw [e, ht]; simp⟩
 have hrecs2 : x2.recs.map core = [core (Mf y (id : Int))] := by rw [hcore, h.recs]; rfl
 have hlen2 : x2.recs.length = 1 := by have := Bo List.length hrecs2; simpa using this
 obtain ⟨r, hr⟩ : ∃ r, x2.recs = [r] := by
  match hx2r : x2.recs, hlen2 with
  | [r], _ => exact ⟨r, rfl⟩
 have hrc : core r = core (Mf y (id : Int)) := by rw [hr] at hrecs2; simpa using hrecs2
 have hrid : r.id = id := by have := Bo Rec.id hrc; simpa [core, Mf] using this
 have hrk : r.kind = 0 := by have := Bo Rec.kind hrc; simpa [core, Mf] using this
 have hrr : r.root = y.sup.root := by have := Bo Rec.root hrc; simpa [core, Mf] using this
 have hroots : ∀ a ∈ x2.sup.root :: x2.recs.map Rec.root, a ∈ y.sup.root :: y.recs.map Rec.root := by
  intro a ha
  rw [hr, hroot] at ha
  simp only [Aw, Jz, Ap, Lg, fF, hrr, or_self] at ha
  simp [ha]
 obtain ⟨b, hb⟩ : ∃ b, x2.blocks = [b] := by
  have := hx2.len
  rw [hlen2] at this
  match hb : x2.blocks, this with
  | [b], _ => exact ⟨b, rfl⟩
 have hbF : b ∈ (Cd (Ay l y)).take 1 := by
  rcases hm.blks b (by rw [hb]; simp) with h3 | h3
  ·exact h3
  ·rw [h.blocks] at h3; cases h3
 have hup : ∀ a, reached l y a → reached l2 x2 a := fun a ha => by
  rcases h.reach.1 ha with h3 | h3 | ⟨nd, hnd, hp⟩
  ·exact .inl h3
  ·exact .inr (.inr (.inl (by rw [h3, ← hroot]; simp)))
  ·exact .inr (.inr (.inr ⟨Ee x2, hw2.2, nd, by rw [hw2.1]; exact hnd, by rw [← hptr2 nd hnd] at hp; exact hp⟩))
 have hdown : ∀ a, reached l2 x2 a → a ∈ (Cd (Ay l y)).take 1 ∨ reached l y a := fun a ha => by
  rcases Aap h.img hx hm hroots htr ha with h3 | h3 | h3 | h3 | h3
  ·exact .inr (.inl h3)
  ·exact .inl h3
  ·rw [h.blocks] at h3; cases h3
  ·exact .inr (.inr (.inr (.inl h3)))
  ·exact .inr (.inr (.inr (.inr h3)))
 have hn1 := Oo (Ay l y)
 have hn2 := Oo (Ay l2 x2)
 have hcnt : (Cd (Ay l y)).length = (Cd (Ay l2 x2)).length + 1 := by
  have a1 := Pt ((Cd (Ay l y)).drop 1) (Cd (Ay l2 x2)) (hn1.sub (List.drop_sublist _ _)) fun a ha => by
   have hf1 := (Jk hd hx).1 (Cu ha)
   rw [Jk hd2 hx2, hnb2]
   refine ⟨hf1.1, hf1.2.1, fun hh => ?_⟩
   rcases hdown a hh with h3 | h3
   ·have := hn1
    rw [← Hv 1 (Cd (Ay l y)), Ei] at this
    exact this.2.2 a h3 a ha rfl
   ·exact hf1.2.2 h3
  have a2 := Pt (b :: Cd (Ay l2 x2)) (Cd (Ay l y)) (Gu.2 ⟨fun hh => ((Jk hd2 hx2).1 hh).2.2 (.inr (.inl (by rw [hb]; simp))), hn2⟩) fun a ha => by
   rcases Ap.1 ha with rfl | ha
   ·exact Bs hbF
   ·have hf2 := (Jk hd2 hx2).1 ha
    rw [hnb2] at hf2
    rw [Jk hd hx]
    exact ⟨hf2.1, hf2.2.1, fun hh => hf2.2.2 (hup a hh)⟩
  rw [Ba] at a1
  simp only [Ao] at a2
  omega
 have hfind : Jf x2.recs (id : Int) = 0 := by
  rw [hr]
  unfold Jf
  simp [idxL, hrid, hrk]
 obtain ⟨d, hdl⟩ : ∃ d, Kv l2 (id : Int) = .ok d := by
  unfold Kv
  rw [hq2]
  simp only
  rw [if_neg (fun hh => hh ⟨by omega, by omega⟩), hfind, if_neg (by omega)]
  have hp : Yk x2.recs = none := by rw [hr]; show (if r.kind = 1 then some r else none) = none; rw [if_neg (by omega)]
  rw [hp, if_neg (by simp)]
  unfold Ls
  rw [if_neg (fun hh => hh (by rw [hgen, h.gen]; omega)), if_neg (by rw [hr]; unfold Fy; simp)]
  exact ⟨_, rfl⟩
 have hokd := Agh hd2.1 hdl
 obtain ⟨y2, x3, j, hj, hd2', hI2, hid, hkd, hmk2, hm2, hk2, hcore2, hroot2, hsize2, hgen2, htr2, hv2⟩ := qH hd2.1 hdl
 obtain rfl : y2 = x2 := by
  have a := (Mb hd2.1).2 ⟨hd2', hI2⟩
  rw [hq2] at a
  exact (Except.ok.inj a).symm
 have hst2 := Zg hd2 hx2 hmk2
 generalize hl3 : Bt l2 d = l3 at *
 have hd3 := zD hd2 hm2.len
 have hx3 := Sn hd3 hm2.img
 have hj0 : j = 0 := by rw [hlen2] at hj; omega
 have hrecs3 : x3.recs = [] := by
  have := Bo List.length hcore2
  rw [Ah, Ah, List.length_eraseIdx, if_pos hj, hlen2] at this
  exact Eg.1 this
 have hnb3 : Go.Proofs.YtkaiiopoilpjeaaGreat.nb l3 = n := by unfold Go.Proofs.YtkaiiopoilpjeaaGreat.nb; rw [hm2.len, hm.len]; exact h.nb
 have hB3 : Bare l3 x3 n (g + 2) := ⟨hd3, hnb3, hm2.img, hrecs3, by rw [hgen2, hgen, h.gen]⟩
 have hw3 : Ee x3 = Ee y := by
  obtain ⟨w, ws, ht, _, _, _⟩ := Hm hm2.img
  have e : Ee x3 = w := by unfold Ee; rw [ht]; rfl
  have hin := htr w (htr2 w (by rw [ht]; simp))
  rw [h.trees, Bg] at hin
  exact e.trans hin
 have hptr3 : ∀ nd ∈ (Ee y).nodes, Ea l3 nd = Ea l nd := fun nd hnd => by
  rw [← hptr2 nd hnd]
  unfold Ea
  rw [hm2.stay nd (hnodes nd hnd).1 (hup nd (hnodes nd hnd).2)]
 have hsame : ∀ a, reached l3 x3 a ↔ reached l y a := fun a => by
  rw [hB3.reach, h.reach, hw3, hroot2, hroot]
  constructor
  ·rintro (h3 | h3 | ⟨nd, hnd, hp⟩)
   ·exact .inl h3
   ·exact .inr (.inl h3)
   ·exact .inr (.inr ⟨nd, hnd, by rw [← hptr3 nd hnd]; exact hp⟩)
  ·rintro (h3 | h3 | ⟨nd, hnd, hp⟩)
   ·exact .inl h3
   ·exact .inr (.inl h3)
   ·exact .inr (.inr ⟨nd, hnd, by rw [hptr3 nd hnd]; exact hp⟩)
 have hcnt3 : (Cd (Ay l3 x3)).length = (Cd (Ay l y)).length := by
  have hn3 := Oo (Ay l3 x3)
  have hmem : ∀ a, a ∈ Cd (Ay l3 x3) ↔ a ∈ Cd (Ay l y) := fun a => by
   rw [Jk hd3 hx3, Jk hd hx, hsame a, hnb3, h.nb]
  exact bK (Pt _ _ hn3 fun a ha => (hmem a).1 ha) (Pt _ _ hn1 fun a ha => (hmem a).2 ha)
 subst hl3
 subst hl2
 refine ⟨c, d, y2, x3, hc, hok, hst, hq2, hd2.1, hcnt, hdl, hokd, hst2, (Mb hd3.1).2 ⟨hd3, hm2.img⟩, hd3.1, hcnt3, ?_⟩
 have hv0 : (Gq l y).snaps = [] := by
  unfold Gq
  rw [h.recs]; rfl
 rw [hv2, hv]
 simp only
 rw [Eh, if_neg (by simp), hv0, List.filter_nil, ← hv0]
end
theorem Akz {m s : Nat} (hm : m ≤ 20) (hs : s < 100) {d : List UInt8} (hd : d.length = 64 * m) : ∃ (rs : List IoV), gR (newP 140) (m + s) = .ok rs ∧ Yt rs ∧ Lc (newP 140) rs = 0 ∧ (Bt (newP 140) rs).length < 1000000 ∧
    ((m = 0 ∧ ∃ x, Bare (Bt (newP 140) rs) x 140 2 ∧ 1 ≤ (Cd (Ay (Bt (newP 140) rs) x)).length) ∨
     (0 < m ∧ ∃ ws x, nU (Bt (newP 140) rs) s d = .ok ws ∧ Yt ws ∧ Lc (Bt (newP 140) rs) ws = 0 ∧ Bare (Bt (Bt (newP 140) rs) ws) x 140 3 ∧ 1 ≤ (Cd (Ay (Bt (Bt (newP 140) rs) ws) x)).length)) := by
  obtain ⟨x0, hB0, hw0, hv0⟩ := Adt (n := 140) (by decide) (by decide)
  have hf0 := hB0.free (by rw [hw0]; rfl)
  obtain ⟨rs, x1, hrs, hO, hok, hB1, hs1, hv1, hz1⟩ := hB0.resize (z := m + s) (by decide) (by omega) (.inl (by omega))
  have hw1 := hz1 fun i _ => by
    show (Ee x0).m.getD i 0 = 0
    rw [hw0]; exact Aul i
  have hf1 := hB1.free (by rw [hw1]; rfl)
  refine ⟨rs, by rw [show ((m : Int) + (s : Int)) = ((m + s : Nat) : Int) by omega]; exact hrs, hok, hO.right, hB1.dev.1, ?_⟩
  by_cases h0 : m = 0
  · exact .inl ⟨h0, x1, hB1, by omega⟩
  right
  refine ⟨by omega, ?_⟩
  obtain ⟨ws, hws⟩ := hB1.write (a := s) (m := m) (d := d) (by decide) hd (by omega) (by rw [hs1]; omega) (by omega)
  obtain ⟨hS, hsz, hIn, hlen⟩ := hB1.look
  have hdm : d.length / 64 = m := by omega
  have e : Sv (s : Int) d x1 = (Dh x1).write s d m := by unfold Sv; rw [hdm]; rfl
  have hc : Su (s : Int) d x1 = 0 := by
    unfold Su
    rw [if_neg (by omega), hdm]
    exact yA (least := 1) (by omega) (by rw [hs1]; omega)
  have hmk : Ky (Bt (newP 140) rs) x1 (Sv (s : Int) d x1) = .ok ws := by rw [← hws]; exact (yJ hB1 hc).symm
  obtain ⟨w1, w2, w3⟩ := kZ (Dh x1) s d m
  obtain ⟨w4, w5⟩ := w3 rfl
  obtain ⟨x2, hO2, hok2, hB2, _, _, t5, _⟩ := hB1.run (by rw [e]; exact hS.write s m (by omega) (by omega)) (by rw [e]; exact hIn.write s d m (by show s + m ≤ x1.sup.size; rw [hs1]; omega)) hmk
  have hz : ∀ j, ¬ (s ≤ j ∧ j < s + m) → (Dh x2).m.getD j 0 = 0 := fun j hj => by
    show (Ee x2).m.getD j 0 = 0
    rw [t5, e, fL (w1.trans hlen) _ fun p hp => (by have := w5 p hp; omega), w2 j hj]
    show (Ee x1).m.getD j 0 = 0
    rw [hw1]; exact Aul j
  have hge := hB2.free_ge hz
  have hn := Amq hB2.head
  exact ⟨ws, x2, hws, hok2, hO2.right, hB2, by omega⟩
end Go.Proofs.YtkaiiopoilpjeaaGreat

