import Derived.Test.YtkpndfkpdnknkaaGreatF18
import Derived.Test.YtkpndfkpdnknkaaGreatF3
set_option linter.unusedSimpArgs false
set_option linter.unusedVariables false
set_option maxRecDepth 10000
namespace Go.Proofs.YtkpndfkpdnknkaaGreat
open Go.AI
theorem Aoc {l : List UInt8} {root : Nat} {m m0 : List Nat} (hm : m.length = 512) (hm0 : m0.length = 512) (hz : Mr m) : Ho l root m m0 = 0 := by
 have key : ∀ lv, Dn (Cu l root m m0 lv) ≤ 0 := fun lv => Abn (l := l) (root := root) hm hm0 (lv := lv) (P := []) fun pl hnz _ => absurd (fun b hb => hz b (Cc (As hb))) hnz
 have h0 := key 0
 have h1 := key 1
 have h2 := key 2
 unfold Ho; omega
structure Bare (l : List UInt8) (x : Img) (n g : Nat) : Prop where
 dev : Dev l
 nb : nb l = n
 img : IsImg l x
 recs : x.recs = []
 gen : x.sup.gen = g
section
variable {l : List UInt8} {x : Img} {n g : Nat}
theorem Bare.lk (h : Bare l x n g) : lookQ l = .ok x := (Iy h.dev.1).2 ⟨h.dev, h.img⟩
theorem Bare.fit (h : Bare l x n g) : x.fit l := Sa h.dev h.img
theorem Bare.trees (h : Bare l x n g) : x.trees = [Ez x] := by
 have := h.fit.trees
 rw [h.recs] at this
 unfold Ez
 match hx : x.trees, this with
 | [w], _ => rfl
theorem Bare.free (h : Bare l x n g) (h0 : (Ez x).nodes = []) : n ≤ (Cm (Bn l x)).length + 2 := by
 have hx := h.fit
 have hb : x.blocks = [] := Ij.1 (by rw [hx.len, h.recs]; rfl)
 have ht := h.trees
 have hr : x.sup.root < 2 := by
  obtain ⟨w, ws, htr, hg, _, _⟩ := Gg h.img
  have hw : Ez x = w := by unfold Ez; rw [htr]; rfl
  rcases (Amd hg).1 with h1 | h1
  ·omega
  ·rw [hw] at h0; rw [h0] at h1; cases h1
 have := bF (List.range n) (Cm (Bn l x) ++ [0, 1]) List.nodup_range (fun a ha => by
  rw [Bw] at ha
  rw [Bq]
  by_cases h2 : a < 2
  ·right
   have : a = 0 ∨ a = 1 := by omega
   rcases this with rfl | rfl <;> simp
  left
  rw [Qi h.dev hx]
  refine ⟨by omega, by rw [h.nb]; exact ha, ?_⟩
  rintro (hr1 | hr1 | hr1 | ⟨w, hw, nd, hnd, _⟩)
  ·omega
  ·rw [hb] at hr1; cases hr1
  ·rw [h.recs] at hr1
   simp only [Lj, Bo] at hr1
   omega
  ·rw [ht, Bo] at hw
   rw [hw, h0] at hnd; cases hnd)
 rw [Ek, Am] at this
 simp only [Ao, Cq] at this
 omega
theorem Bare.run (h : Bare l x n g) {s : St} (hs : StOk (Ez x) s) (hin : StIn s) {ios : List IoV} (hmk : Gz l x s = .ok ios) : ∃ x', Opd l ios x x' ∧ Sn ios ∧ Bare (Bs l ios) x' n (g + 1) ∧ Ci (Bs l ios) x' = ⟨Pu l s, (Ci l x).snaps, (Ci l x).opens⟩ ∧
  x'.sup.size = s.size ∧ (Ez x').m = layM s (Cm (Bn l x)) ∧ (Mr (layM s (Cm (Bn l x))) → Ez x' = ws0) := by
 obtain ⟨x', hO, hv, _, w', t1, t2, t3, t4, t5, t6⟩ := Agu h.dev h.img hs hin hmk
 have hM := Avm h.dev ((Ot h.dev).2 h.img) hs
 have hok : Sn ios := by
  unfold Gz at hmk
  split at hmk
  ·cases hmk
  ·split at hmk
   ·cases hmk
   ·rename_i r ios0 rest heq
    cases hmk
    obtain ⟨o1, o2, _⟩ := hM.out r ios0 rest heq
    exact yC _ _ _ _ _ _ (by omega) fun y hy => (o2 y hy).1.2.2
 have hw : Ez x' = w' := by unfold Ez; rw [t1]; rfl
 refine ⟨x', hO, hok, ⟨uP h.dev hO.len, by unfold _root_.Go.Proofs.YtkpndfkpdnknkaaGreat.nb; rw [hO.len]; exact h.nb, hO.img', by rw [t2, h.recs], by rw [t3, h.gen]⟩, hv, t4, by rw [hw, t5], fun hz => ?_⟩
 obtain ⟨w, ws, htr, hg, _, _⟩ := Gg hO.img'
 have hw2 : Ez x' = w := by unfold Ez; rw [htr]; rfl
 rw [t6 hz] at hg
 unfold goP at hg
 rw [if_pos rfl] at hg
 rw [hw2, ← wG hg]
theorem Zc {s : St} (hg : x.sup.gen < 1099511627776) (hr : s.nw.length + Ho l x.sup.root (layM s (Cm (Bn l x))) (Bh x).m ≤ (Cm (Bn l x)).length) : ∃ ios, Gz l x s = .ok ios := by
 cases h : Gz l x s with
 | ok ios => exact ⟨ios, rfl⟩
 | error e =>
  have h9 : e = 9 := by
   unfold Gz at h
   split at h
   ·rename_i hh; exact absurd hg hh
   ·split at h
    ·cases h; rfl
    ·cases h
  rw [h9] at h
  have := Rd h
  omega
theorem Bare.look (h : Bare l x n g) : StOk (Ez x) (Bh x) ∧ x.sup.size ≤ 512 ∧ StIn (Bh x) ∧ (Bh x).m.length = 512 := by
 obtain ⟨_, _, hS, hsz, _⟩ := Ju h.dev.1 h.lk
 exact ⟨hS, hsz, Akd h.img hS, hS.len⟩
theorem wB (h : Bare l x n g) {chk : Img → Nat} {st : Img → St} (hc : chk x = 0) : hdoP l chk st = Gz l x (st x) := by
 unfold hdoP
 rw [h.lk]
 simp only
 rw [if_neg (fun hh => hh hc)]
theorem fW (h : Bare l x n g) {chk : Img → Nat} {st : Img → St} {e : Nat} (hc : chk x = e) (h0 : e ≠ 0) : hdoP l chk st = .error e := by
 unfold hdoP
 rw [h.lk]
 simp only
 rw [hc, if_pos h0]
theorem cQ {a n size least : Nat} (h1 : least ≤ n) (h2 : a + n ≤ size) : mayE a n least size = 0 := by
 unfold mayE Sy
 rw [if_neg (by omega), if_neg (fun hh => hh (by omega))]
theorem Ve {a n size least : Nat} (h1 : least ≤ n) (h2 : size < a + n) : mayE a n least size = 3 := by
 unfold mayE Sy
 rw [if_neg (by omega), if_pos (by omega)]
theorem Bare.resize (h : Bare l x n g) (hg : g < 1099511627776) {z : Nat} (hz : z ≤ 512) (hf : 3 ≤ (Cm (Bn l x)).length ∨ z = 0) : ∃ ios x', Jw l z = .ok ios ∧ Opd l ios x x' ∧ Sn ios ∧ Bare (Bs l ios) x' n (g + 1) ∧ x'.sup.size = z ∧
  Ci (Bs l ios) x' = ⟨Sj (Ci l x).head z (fun _ => none), (Ci l x).snaps, (Ci l x).opens⟩ ∧ ((∀ i, i < z → (Bh x).m.getD i 0 = 0) → Ez x' = ws0) := by
 obtain ⟨hS, hsz, hIn, hlen⟩ := h.look
 have e : Jk z x = { (Bh x).zero z (512 - z) with size := z } := rfl
 have hs : StOk (Ez x) (Jk z x) := by rw [e]; exact (hS.zero _ _).sized hz
 have hin : StIn (Jk z x) := by rw [e]; exact StIn.resize hS.len rfl hz
 have hnw := dJ (Bh x) rfl z (512 - z)
 have hzg := fun j => Xi (Bh x) hlen z (512 - z) j (by omega)
 have hML := Pa (s := Jk z x) (hzg 0).1 (Cm (Bn l x))
 have hgt : ∀ i, (layM (Jk z x) (Cm (Bn l x))).getD i 0 = ((Bh x).zero z (512 - z)).m.getD i 0 := fun i => Nv (s := Jk z x) (hzg 0).1 _ fun p hp => by
  have hp : p ∈ ((Bh x).zero z (512 - z)).nw := hp
  rw [hnw] at hp; cases hp
 have hzz : ∀ i, z ≤ i → (layM (Jk z x) (Cm (Bn l x))).getD i 0 = 0 := fun i hi => by
  by_cases h5 : i < 512
  ·rw [hgt, (hzg i).2, if_pos (by omega)]
  ·rw [Ae, Dp (by omega)]; rfl
 have hn1 := xU (l := l) (root := x.sup.root) hML hlen (z := z) hzz fun i hi => by rw [hgt, (hzg i).2, if_neg (by omega)]
 have hn2 : z = 0 → Ho l x.sup.root (layM (Jk z x) (Cm (Bn l x))) (Bh x).m = 0 := fun h0 => Aoc hML hlen fun b hb => by
  obtain ⟨i, hi, rfl⟩ := List.getElem_of_mem hb
  have := hzz i (by omega)
  rw [Ae, Aa hi] at this
  exact this
 have hn0 : (Jk z x).nw.length = 0 := by
  show ((Bh x).zero z (512 - z)).nw.length = 0
  rw [hnw]; rfl
 obtain ⟨ios, hmk⟩ := Zc (l := l) (x := x) (s := Jk z x) (by rw [h.gen]; exact hg) (by omega)
 obtain ⟨x', hO, hok, hB, hv, t4, t5, t6⟩ := h.run hs hin hmk
 refine ⟨ios, x', by rw [← hmk]; exact wB h (by unfold Km; rw [if_neg (by omega)]), hO, hok, hB, t4, ?_, fun h0 => t6 fun b hb => ?_⟩
 ·rw [hv, e, Rk h.img hS (size := z) (f := fun _ => none) rfl fun i hi => ?_]
  show Pt l ((Bh x).zero z (512 - z)) i = _
  rw [Yp hS z (512 - z) i (by omega), if_neg (by omega)]; rfl
 ·obtain ⟨i, hi, rfl⟩ := List.getElem_of_mem hb
  have : (layM (Jk z x) (Cm (Bn l x))).getD i 0 = 0 := by
   by_cases hiz : z ≤ i
   ·exact hzz i hiz
   ·rw [hgt, (hzg i).2, if_neg (by omega), h0 i (by omega)]
  rw [Ae, Aa hi] at this
  exact this
theorem Bare.write (h : Bare l x n g) (hg : g < 1099511627776) {a m : Nat} {d : List UInt8} (hd : d.length = 64 * m) (hm : 1 ≤ m) (ha : a + m ≤ x.sup.size) (hf : 4 * m ≤ (Cm (Bn l x)).length) : ∃ ios, Kc l a d = .ok ios := by
 obtain ⟨hS, hsz, hIn, hlen⟩ := h.look
 have hdm : d.length / 64 = m := by omega
 have hc : Ku a d x = 0 := by
  unfold Ku
  rw [if_neg (by omega), hdm]
  exact cQ (least := 1) hm ha
 have e : Ff a d x = (Bh x).write a d m := by unfold Ff; rw [hdm]; rfl
 obtain ⟨w1, w2, w3⟩ := dA (Bh x) a d m
 obtain ⟨w4, w5⟩ := w3 rfl
 have hn1 := Uh (l := l) (root := x.sup.root) (Pa (s := (Bh x).write a d m) (w1.trans hlen) (Cm (Bn l x))) hlen (a := a) (n := m) fun i hi => by
  rw [Nv (w1.trans hlen) _ fun p hp => (by have := w5 p hp; omega), w2 i hi]
 obtain ⟨ios, hmk⟩ := Zc (l := l) (x := x) (s := Ff a d x) (by rw [h.gen]; exact hg) (by rw [e]; omega)
 exact ⟨ios, by rw [← hmk]; exact wB h hc⟩
theorem Bare.zero (h : Bare l x n g) (hg : g < 1099511627776) {a m : Nat} (hm : 1 ≤ m) (ha : a + m ≤ x.sup.size) (hf : 3 * m ≤ (Cm (Bn l x)).length) : ∃ ios, Sv l a m = .ok ios := by
 obtain ⟨hS, hsz, hIn, hlen⟩ := h.look
 have e : fE a m x = (Bh x).zero a m := rfl
 have hnw := dJ (Bh x) rfl a m
 have hz := fun j => Xi (Bh x) hlen a m j (by omega)
 have hn1 := Uh (l := l) (root := x.sup.root) (Pa (s := (Bh x).zero a m) (hz 0).1 (Cm (Bn l x))) hlen (a := a) (n := m) fun i hi => by
  rw [Nv (hz 0).1 _ fun p hp => (by rw [hnw] at hp; cases hp), (hz i).2, if_neg hi]
 obtain ⟨ios, hmk⟩ := Zc (l := l) (x := x) (s := fE a m x) (by rw [h.gen]; exact hg) (by rw [e, hnw, Cq]; omega)
 exact ⟨ios, by rw [← hmk]; exact wB h (cQ (least := 1) hm ha)⟩
theorem Bare.clone (h : Bare l x n g) (hg : g < 1099511627776) {a m b : Nat} (hm : 1 ≤ m) (ha : a + m ≤ x.sup.size) (hb : b + m ≤ x.sup.size) (hf : 3 * m ≤ (Cm (Bn l x)).length) : ∃ ios, Rw l a m b = .ok ios := by
 obtain ⟨hS, hsz, hIn, hlen⟩ := h.look
 have e : Zl a m b x = (Bh x).clone a (((Bh x).m.drop b).take m) m := rfl
 obtain ⟨w1, w2, w3⟩ := lM (Bh x) a (((Bh x).m.drop b).take m) m
 have hnw := w3 rfl
 have hn1 := Uh (l := l) (root := x.sup.root) (Pa (s := (Bh x).clone a (((Bh x).m.drop b).take m) m) (w1.trans hlen) (Cm (Bn l x))) hlen (a := a) (n := m) fun i hi => by
  rw [Nv (w1.trans hlen) _ fun p hp => (by rw [hnw] at hp; cases hp), w2 i hi]
 obtain ⟨ios, hmk⟩ := Zc (l := l) (x := x) (s := Zl a m b x) (by rw [h.gen]; exact hg) (by rw [e, hnw, Cq]; omega)
 have hc : twoE a m b x.sup.size = 0 := by
  unfold twoE
  have hm1 : mayE (a : Int) (m : Int) 1 x.sup.size = 0 := cQ (least := 1) hm ha
  have hm2 : mayE (b : Int) (m : Int) 1 x.sup.size = 0 := cQ (least := 1) hm hb
  rw [if_neg (by omega), if_pos hm1]
  exact hm2
 exact ⟨ios, by rw [← hmk]; exact wB h hc⟩
end
theorem vQ {n : Nat} (h4 : 4 ≤ n) (hn : n ≤ 4096) : ∃ x, Bare (newP n) x n 1 ∧ Ez x = ws0 ∧ (Ci (newP n) x).head = [] := by
 have h := Ass h4 hn
 exact ⟨_, ⟨h.dev, h.nb, h.img, rfl, rfl⟩, rfl, rfl⟩
theorem Aig (z : Nat) : Sj [] z (fun _ => none) = List.replicate z Iz := by
 unfold Sj
 refine Zn (by simp) fun i h1 h2 => ?_
 simp
theorem Aqa (i : Nat) : ws0.m.getD i 0 = 0 := by
 show (List.replicate 512 0).getD i 0 = 0
 rw [Ae, Nr]
 split <;> rfl
end Go.Proofs.YtkpndfkpdnknkaaGreat

