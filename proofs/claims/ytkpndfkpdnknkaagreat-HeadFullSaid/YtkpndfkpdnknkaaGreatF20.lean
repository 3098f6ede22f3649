import Derived.Test.YtkpndfkpdnknkaaGreatF19
import Derived.Test.YtkpndfkpdnknkaaGreatE18
set_option linter.unusedSimpArgs false
set_option linter.unusedVariables false
set_option maxRecDepth 10000
namespace Go.Proofs.YtkpndfkpdnknkaaGreat
open Go.AI
structure Fill (l : List UInt8) (x : Img) (n i : Nat) (b : List UInt8) : Prop where
 bare : Bare l x n (2 + i)
 size : x.sup.size = 40
 len : (Ci l x).head.length = 40
 has : ∀ k, k < i → (Ci l x).head[k]? = some b
 map : ∀ k, k < i → (Bh x).m.getD k 0 ≠ 0
 apart : ∀ j k, j < k → k < i → (Bh x).m.getD j 0 ≠ (Bh x).m.getD k 0
 empty : i = 0 → Ez x = ws0
section
variable {l : List UInt8} {x : Img} {n i : Nat} {b : List UInt8}
theorem kC (hI : IsImg l x) : (Bh x).m = (Ez x).m := rfl
theorem Fill.few (h : Fill l x n i b) (hi : i ≤ 40) : i + 2 ≤ n ∨ i = 0 := by
 by_cases h0 : i = 0
 ·exact .inr h0
 left
 obtain ⟨hS, hsz, hIn, hlen⟩ := h.bare.look
 obtain ⟨w, ws, ht, hg, _, _⟩ := Gg h.bare.img
 have hw : Ez x = w := by unfold Ez; rw [ht]; rfl
 have hlo := Us hg
 have hmem : ∀ k, k < i → (Bh x).m.getD k 0 ∈ (Bh x).m := fun k hk => by
  rw [Ae, Aa (by omega)]
  exact Bx _
 have := bF (0 :: 1 :: (List.range i).map fun k => (Bh x).m.getD k 0) (List.range n) ?_ ?_
 ·simp only [Ao, Ah, Ek] at this; omega
 ·have hlow : ∀ k, k < i → 2 ≤ (Bh x).m.getD k 0 ∧ (Bh x).m.getD k 0 < nb l := fun k hk => by
   have hm := hmem k hk
   have hm2 : (Bh x).m.getD k 0 ∈ w.m := by rw [← hw]; exact hm
   exact (hlo.2 _ hm2).resolve_left (h.map k hk)
  rw [Gu, Gu]
  refine ⟨?_, ?_, ?_⟩
  ·intro hm
   rcases Ar.1 hm with hm | hm
   ·omega
   ·obtain ⟨k, hk, he⟩ := Bt.1 hm
    have := (hlow k (Bw.1 hk)).1
    omega
  ·intro hm
   obtain ⟨k, hk, he⟩ := Bt.1 hm
   have := (hlow k (Bw.1 hk)).1
   omega
  ·refine List.pairwise_iff_getElem.2 fun j k hj hk hjk => ?_
   rw [Ah, Ek] at hj hk
   simp only [Jz, Vl]
   exact h.apart j k hjk hk
 ·intro a ha
  rw [Bw]
  have h4 := h.bare.dev.nb
  have hn := h.bare.nb
  rcases Ar.1 ha with rfl | ha
  ·omega
  rcases Ar.1 ha with rfl | ha
  ·omega
  obtain ⟨k, hk, rfl⟩ := Bt.1 ha
  have hm := hmem k (Bw.1 hk)
  have hm2 : (Bh x).m.getD k 0 ∈ w.m := by rw [← hw]; exact hm
  have := ((hlo.2 _ hm2).resolve_left (h.map k (Bw.1 hk))).2
  omega
theorem Fill.next (h : Fill l x n i b) (hb : b.length = 64) (hi : i < 40) : (Kc l i b = .error 9 ∧ i ≠ 0) ∨ (Kc l i b = .error 9 ∧ (Cm (Bn l x)).length < 4) ∨ ∃ ios x', Kc l i b = .ok ios ∧ Sn ios ∧ Kw l ios = 0 ∧ Fill (Bs l ios) x' n (i + 1) b := by
 obtain ⟨hS, hsz, hIn, hlen⟩ := h.bare.look
 have hc : Ku (i : Int) b x = 0 := by
  unfold Ku
  rw [if_neg (by omega), show b.length / 64 = 1 by omega]
  exact cQ (n := 1) (least := 1) (by omega) (by rw [h.size]; omega)
 have hd := wB h.bare (chk := Ku (i : Int) b) (st := Ff (i : Int) b) hc
 have hd' : Kc l i b = Gz l x (Ff (i : Int) b x) := hd
 have e : Ff (i : Int) b x = (Bh x).write i b 1 := by unfold Ff; rw [show b.length / 64 = 1 by omega]; rfl
 obtain ⟨w1, w2, w3⟩ := dA (Bh x) i b 1
 obtain ⟨w4, w5⟩ := w3 rfl
 cases hmk : Gz l x (Ff (i : Int) b x) with
 | error er =>
  have h9 : er = 9 := by
   unfold Gz at hmk
   split at hmk
   ·rename_i hh; exact absurd (by rw [h.bare.gen]; omega) hh
   ·split at hmk
    ·cases hmk; rfl
    ·cases hmk
  subst h9
  right; left
  refine ⟨by rw [hd', hmk], ?_⟩
  have hfull := Rd hmk
  rw [e] at hfull
  have hn1 := Uh (l := l) (root := x.sup.root) (Pa (s := (Bh x).write i b 1) (w1.trans hlen) (Cm (Bn l x))) hlen (a := i) (n := 1) fun j hj => by
   rw [Nv (w1.trans hlen) _ fun p hp => (by have := w5 p hp; omega), w2 j hj]
  omega
 | ok ios =>
  right; right
  have hs : StOk (Ez x) (Ff (i : Int) b x) := by rw [e]; exact hS.write i 1 (by omega) (by omega)
  have hin : StIn (Ff (i : Int) b x) := by rw [e]; exact hIn.write i b 1 (by show i + 1 ≤ x.sup.size; rw [h.size]; omega)
  obtain ⟨x', hO, hok, hB, hv, t4, t5, _⟩ := h.bare.run hs hin hmk
  have hsz' : (Ff (i : Int) b x).size = 40 := by rw [e, Ul]; exact h.size
  have hview : (Ci (Bs l ios) x').head = Sj (Ci l x).head 40 (runF i 1 (blk b)) := by
   rw [hv]
   show Pu l (Ff (i : Int) b x) = _
   rw [e, Rk h.bare.img hS (size := 40) (f := runF i 1 (blk b)) (by rw [← e]; exact hsz') fun k hk => ?_]
   rw [bV hS i 1 k (by omega) (by omega)]
   unfold runF
   split <;> rfl
  have hbb : blk b 0 = b := by unfold blk; rw [Ol, Cd, Aj (by omega)]
  have hmm : ∀ k, k ≠ i → (Bh x').m.getD k 0 = (Bh x).m.getD k 0 := fun k hk => by
   rw [kC hO.img', t5, e, Nv (w1.trans hlen) _ fun p hp => (by have := w5 p hp; omega), w2 k (by omega)]
  have hnew : (Bh x').m.getD i 0 ∈ Cm (Bn l x) := by
   have hg : nGet i (Ff (i : Int) b x).nw = some (blk b 0) := by
    rw [e]
    show nGet i (nSet (i + 0) (blk b 0) _) = _
    rw [vH, if_pos (by omega)]
   rw [kC hO.img', t5]
   have hcnt : (lyS (Ff (i : Int) b x) ((Cm (Bn l x)).take (Ff (i : Int) b x).nw.length) 512).2.2 = (Ff (i : Int) b x).nw.length := cO hs.keys hs.klt
   have hlt : (Ff (i : Int) b x).nw.length ≤ (Cm (Bn l x)).length := by
    unfold Gz at hmk
    split at hmk
    ·cases hmk
    ·split at hmk
     ·cases hmk
     ·rename_i heq
      unfold layP at heq
      split at heq
      ·cases heq
      ·omega
   obtain ⟨y, hy, _, hya⟩ := qH (Ff (i : Int) b x) hs.len ((Cm (Bn l x)).take (Ff (i : Int) b x).nw.length) 512 i (blk b 0) (Bc _) (by omega) hg (by rw [hcnt, Ay]; omega)
   unfold layM
   rw [hya]
   exact As (rU hs.dat 512 (by rw [hcnt, Ay]; omega) y hy).2.1
  have hfr := (Qi h.bare.dev h.bare.fit).1 hnew
  have hold : ∀ k, k < i → (Bh x).m.getD k 0 ≠ (Bh x').m.getD i 0 := fun k hk he => by
   obtain ⟨w, ws, ht, hg, _, _⟩ := Gg h.bare.img
   have hw : Ez x = w := by unfold Ez; rw [ht]; rfl
   have hm : (Bh x).m.getD k 0 ∈ w.m := by
    rw [← hw]
    show (Bh x).m.getD k 0 ∈ (Bh x).m
    rw [Ae, Aa (by omega)]
    exact Bx _
   have := ((Ig h.bare.img w (by rw [ht]; simp)).2 _ hm).resolve_left (h.map k hk)
   rw [he] at this
   exact hfr.2.2 this
  refine ⟨ios, x', by rw [hd', hmk], hok, hO.right, ⟨?_, by rw [t4]; exact hsz', by rw [hview, Ir], fun k hk => ?_, fun k hk => ?_, fun j k hjk hk => ?_, fun h0 => by omega⟩⟩
  ·rw [show 2 + (i + 1) = 2 + i + 1 by omega]; exact hB
  ·rw [hview, cY (by omega)]
   by_cases hki : k = i
   ·subst hki
    unfold runF
    rw [if_pos (by omega), Mo, hbb]; rfl
   ·have := h.has k (by omega)
    unfold runF
    rw [if_neg (by omega)]
    show some ((Ci l x).head.getD k Iz) = _
    rw [Ae, this]; rfl
  ·by_cases hki : k = i
   ·subst hki; have := hfr.1; omega
   ·rw [hmm k hki]; exact h.map k (by omega)
  ·by_cases hki : k = i
   ·subst hki; rw [hmm j (by omega)]; exact hold j hjk
   ·rw [hmm k hki, hmm j (by omega)]; exact h.apart j k hjk (by omega)
theorem Fill.first (h : Fill l x n 0 b) (hn : 8 ≤ n) : 4 ≤ (Cm (Bn l x)).length := by
 have := h.bare.free (by rw [h.empty rfl]; rfl)
 omega
theorem Fill.read (h : Fill l x n i b) (hi : i ≤ 40) {k : Nat} (hk : k < i) : Nl l k 1 = .ok b := by
 have := Sc h.bare.dev.1 h.bare.lk (a := k) (n := 1) (by rw [h.len]; omega)
 rw [show ((1 : Nat) : Int) = 1 from rfl] at this
 rw [this]
 have he : ((Ci l x).head.drop k).take 1 = [b] := by
  refine List.ext_getElem? fun j => ?_
  rw [Fv, Fu]
  by_cases hj : j < 1
  ·rw [if_pos hj, show k + j = k by omega, h.has k hk, show j = 0 by omega]; rfl
  ·rw [if_neg hj, Dp (by simp; omega)]
 rw [he]
 simp
end
theorem App {n : Nat} (h8 : 8 ≤ n) (hn : n ≤ 4096) (b : List UInt8) : ∃ rs x, Jw (newP n) 40 = .ok rs ∧ Sn rs ∧ Kw (newP n) rs = 0 ∧ Fill (Bs (newP n) rs) x n 0 b := by
 obtain ⟨x0, hB0, hw0, hv0⟩ := vQ (n := n) (by omega) hn
 have hf0 := hB0.free (by rw [hw0]; rfl)
 obtain ⟨rs, x1, hrs, hO, hok, hB1, hs1, hv1, hz1⟩ := hB0.resize (z := 40) (by decide) (by omega) (.inl (by omega))
 have hm0 : (Bh x0).m = ws0.m := by
  rw [kC hB0.img, hw0]
 have hw1 := hz1 fun i _ => by rw [hm0]; exact Aqa i
 exact ⟨rs, x1, hrs, hok, hO.right, ⟨hB1, hs1, by rw [hv1]; exact Ir _ _ _, fun k hk => by omega, fun k hk => by omega, fun j k _ hk => by omega, fun _ => hw1⟩⟩
theorem Fill.again {l : List UInt8} {x : Img} {n i : Nat} {b : List UInt8} (h : Fill l x n i b) (hi : i ≤ 40) (h8 : 8 ≤ n) (hb : b.length = 64) : ∃ r1 r2 r3, Jw l 0 = .ok r1 ∧ Sn r1 ∧ Kw l r1 = 0 ∧ (Bs l r1).length < 1000000 ∧ Jw (Bs l r1) 40 = .ok r2 ∧ Sn r2 ∧ Kw (Bs l r1) r2 = 0 ∧ (Bs (Bs l r1) r2).length < 1000000 ∧ Kc (Bs (Bs l r1) r2) 0 b = .ok r3 := by
 obtain ⟨r1, x1, h1, hO1, ok1, hB1, _, _, hz1⟩ := h.bare.resize (z := 0) (by omega) (by omega) (.inr rfl)
 have hw1 := hz1 fun k hk => by omega
 have hf1 := hB1.free (by rw [hw1]; rfl)
 obtain ⟨r2, x2, h2, hO2, ok2, hB2, hs2, _, hz2⟩ := hB1.resize (z := 40) (by omega) (by omega) (.inl (by omega))
 have hw2 := hz2 fun k _ => by rw [kC hB1.img, hw1]; exact Aqa k
 have hf2 := hB2.free (by rw [hw2]; rfl)
 obtain ⟨r3, h3⟩ := hB2.write (a := 0) (m := 1) (d := b) (by omega) (by omega) (by omega) (by rw [hs2]; omega) (by omega)
 exact ⟨r1, r2, r3, h1, ok1, hO1.right, hB1.dev.1, h2, ok2, hO2.right, hB2.dev.1, h3⟩
end Go.Proofs.YtkpndfkpdnknkaaGreat

