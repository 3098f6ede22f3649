import Derived.Test.YtkaiiopoilpjeaaGreatF18
import Derived.Test.YtkaiiopoilpjeaaGreatF3
set_option linter.unusedSimpArgs false
set_option linter.unusedVariables false
set_option maxRecDepth 10000
namespace Go.Proofs.YtkaiiopoilpjeaaGreat
open Go.AI
theorem Ala {l : List UInt8} {root : Nat} {m m0 : List Nat} (hm : m.length = 512) (hm0 : m0.length = 512) (hz : Mp m) : Ht l root m m0 = 0 := by
 have key : ∀ lv, Dr (Cv l root m m0 lv) ≤ 0 := fun lv => zL (l := l) (root := root) hm hm0 (lv := lv) (P := []) fun pl hnz _ => absurd (fun b hb => hz b (Cu (Bs hb))) hnz
 have h0 := key 0
 have h1 := key 1
 have h2 := key 2
 unfold Ht; omega
structure Bare (l : List UInt8) (x : Img) (n g : Nat) : Prop where
 dev : Dev l
 nb : nb l = n
 img : IsImg l x
 recs : x.recs = []
 gen : x.sup.gen = g
section
variable {l : List UInt8} {x : Img} {n g : Nat}
theorem Bare.lk (h : Bare l x n g) : lookQ l = .ok x := (Mb h.dev.1).2 ⟨h.dev, h.img⟩
theorem Bare.fit (h : Bare l x n g) : x.fit l := Sn h.dev h.img
theorem Bare.trees (h : Bare l x n g) : x.trees = [Ee x] := by
 have := h.fit.trees
 rw [h.recs] at this
 unfold Ee
 match hx : x.trees, this with
 | [w], _ => rfl
theorem Bare.free (h : Bare l x n g) (h0 : (Ee x).nodes = []) : n ≤ (Cd (Ay l x)).length + 2 := by
 have hx := h.fit
 have hb : x.blocks = [] := Eg.1 (by rw [hx.len, h.recs]; rfl)
 have ht := h.trees
 have hr : x.sup.root < 2 := by
  obtain ⟨w, ws, htr, hg, _, _⟩ := Hm h.img
  have hw : Ee x = w := by unfold Ee; rw [htr]; rfl
  rcases (kQ hg).1 with h1 | h1
  ·omega
  ·rw [hw] at h0; rw [h0] at h1; cases h1
 have := Pt (List.range n) (Cd (Ay l x) ++ [0, 1]) List.nodup_range (fun a ha => by
  rw [Cc] at ha
  rw [Bi]
  by_cases h2 : a < 2
  ·right
   have : a = 0 ∨ a = 1 := by omega
   rcases this with rfl | rfl <;> simp
  left
  rw [Jk h.dev hx]
  refine ⟨by omega, by rw [h.nb]; exact ha, ?_⟩
  rintro (hr1 | hr1 | hr1 | ⟨w, hw, nd, hnd, _⟩)
  ·omega
  ·rw [hb] at hr1; cases hr1
  ·rw [h.recs] at hr1
   simp only [Jz, Bg] at hr1
   omega
  ·rw [ht, Bg] at hw
   rw [hw, h0] at hnd; cases hnd)
 rw [Gm, An] at this
 simp only [Ao, De] at this
 omega
theorem Bare.run (h : Bare l x n g) {s : St} (hs : StOk (Ee x) s) (hin : StIn s) {ios : List IoV} (hmk : Ky l x s = .ok ios) : ∃ x', Opd l ios x x' ∧ Yt ios ∧ Bare (Bt l ios) x' n (g + 1) ∧ Gq (Bt l ios) x' = ⟨Sc l s, (Gq l x).snaps, (Gq l x).opens⟩ ∧
  x'.sup.size = s.size ∧ (Ee x').m = layM s (Cd (Ay l x)) ∧ (Mp (layM s (Cd (Ay l x))) → Ee x' = ws0) := by
 obtain ⟨x', hO, hv, _, w', t1, t2, t3, t4, t5, t6⟩ := Apn h.dev h.img hs hin hmk
 have hM := Aus h.dev ((Ot h.dev).2 h.img) hs
 have hok : Yt ios := by
  unfold Ky at hmk
  split at hmk
  ·cases hmk
  ·split at hmk
   ·cases hmk
   ·rename_i r ios0 rest heq
    cases hmk
    obtain ⟨o1, o2, _⟩ := hM.out r ios0 rest heq
    exact kD _ _ _ _ _ _ (by omega) fun y hy => (o2 y hy).1.2.2
 have hw : Ee x' = w' := by unfold Ee; rw [t1]; rfl
 refine ⟨x', hO, hok, ⟨zD h.dev hO.len, by unfold _root_.Go.Proofs.YtkaiiopoilpjeaaGreat.nb; rw [hO.len]; exact h.nb, hO.img', by rw [t2, h.recs], by rw [t3, h.gen]⟩, hv, t4, by rw [hw, t5], fun hz => ?_⟩
 obtain ⟨w, ws, htr, hg, _, _⟩ := Hm hO.img'
 have hw2 : Ee x' = w := by unfold Ee; rw [htr]; rfl
 rw [t6 hz] at hg
 unfold goP at hg
 rw [if_pos rfl] at hg
 rw [hw2, ← tU hg]
theorem eS {s : St} (hg : x.sup.gen < 1099511627776) (hr : s.nw.length + Ht l x.sup.root (layM s (Cd (Ay l x))) (Dh x).m ≤ (Cd (Ay l x)).length) : ∃ ios, Ky l x s = .ok ios := by
 cases h : Ky l x s with
 | ok ios => exact ⟨ios, rfl⟩
 | error e =>
  have h9 : e = 9 := by
   unfold Ky at h
   split at h
   ·rename_i hh; exact absurd hg hh
   ·split at h
    ·cases h; rfl
    ·cases h
  rw [h9] at h
  have := Ahv h
  omega
theorem Bare.look (h : Bare l x n g) : StOk (Ee x) (Dh x) ∧ x.sup.size ≤ 512 ∧ StIn (Dh x) ∧ (Dh x).m.length = 512 := by
 obtain ⟨_, _, hS, hsz, _⟩ := dY h.dev.1 h.lk
 exact ⟨hS, hsz, Ajq h.img hS, hS.len⟩
theorem yJ (h : Bare l x n g) {chk : Img → Nat} {st : Img → St} (hc : chk x = 0) : hdoP l chk st = Ky l x (st x) := by
 unfold hdoP
 rw [h.lk]
 simp only
 rw [if_neg (fun hh => hh hc)]
theorem yA {a n size least : Nat} (h1 : least ≤ n) (h2 : a + n ≤ size) : mayE a n least size = 0 := by
 unfold mayE Ws
 rw [if_neg (by omega), if_neg (fun hh => hh (by omega))]
theorem Bare.resize (h : Bare l x n g) (hg : g < 1099511627776) {z : Nat} (hz : z ≤ 512) (hf : 3 ≤ (Cd (Ay l x)).length ∨ z = 0) : ∃ ios x', gR l z = .ok ios ∧ Opd l ios x x' ∧ Yt ios ∧ Bare (Bt l ios) x' n (g + 1) ∧ x'.sup.size = z ∧
  Gq (Bt l ios) x' = ⟨Aou (Gq l x).head z (fun _ => none), (Gq l x).snaps, (Gq l x).opens⟩ ∧ ((∀ i, i < z → (Dh x).m.getD i 0 = 0) → Ee x' = ws0) := by
 obtain ⟨hS, hsz, hIn, hlen⟩ := h.look
 have e : Ki z x = { (Dh x).zero z (512 - z) with size := z } := rfl
 have hs : StOk (Ee x) (Ki z x) := by rw [e]; exact (hS.zero _ _).sized hz
 have hin : StIn (Ki z x) := by rw [e]; exact StIn.resize hS.len rfl hz
 have hnw := oE (Dh x) rfl z (512 - z)
 have hzg := fun j => gW (Dh x) hlen z (512 - z) j (by omega)
 have hML := sQ (s := Ki z x) (hzg 0).1 (Cd (Ay l x))
 have hgt : ∀ i, (layM (Ki z x) (Cd (Ay l x))).getD i 0 = ((Dh x).zero z (512 - z)).m.getD i 0 := fun i => fL (s := Ki z x) (hzg 0).1 _ fun p hp => by
  have hp : p ∈ ((Dh x).zero z (512 - z)).nw := hp
  rw [hnw] at hp; cases hp
 have hzz : ∀ i, z ≤ i → (layM (Ki z x) (Cd (Ay l x))).getD i 0 = 0 := fun i hi => by
  by_cases h5 : i < 512
  ·rw [hgt, (hzg i).2, if_pos (by omega)]
  ·rw [Af, Dt (by omega)]; rfl
 have hn1 := Ale (l := l) (root := x.sup.root) hML hlen (z := z) hzz fun i hi => by rw [hgt, (hzg i).2, if_neg (by omega)]
 have hn2 : z = 0 → Ht l x.sup.root (layM (Ki z x) (Cd (Ay l x))) (Dh x).m = 0 := fun h0 => Ala hML hlen fun b hb => by
  obtain ⟨i, hi, rfl⟩ := List.getElem_of_mem hb
  have := hzz i (by omega)
  rw [Af, Aa hi] at this
  exact this
 have hn0 : (Ki z x).nw.length = 0 := by
  show ((Dh x).zero z (512 - z)).nw.length = 0
  rw [hnw]; rfl
 obtain ⟨ios, hmk⟩ := eS (l := l) (x := x) (s := Ki z x) (by rw [h.gen]; exact hg) (by omega)
 obtain ⟨x', hO, hok, hB, hv, t4, t5, t6⟩ := h.run hs hin hmk
 refine ⟨ios, x', by rw [← hmk]; exact yJ h (by unfold Rp; rw [if_neg (by omega)]), hO, hok, hB, t4, ?_, fun h0 => t6 fun b hb => ?_⟩
 ·rw [hv, e, Ahq h.img hS (size := z) (f := fun _ => none) rfl fun i hi => ?_]
  show Yl l ((Dh x).zero z (512 - z)) i = _
  rw [rC hS z (512 - z) i (by omega), if_neg (by omega)]; rfl
 ·obtain ⟨i, hi, rfl⟩ := List.getElem_of_mem hb
  have : (layM (Ki z x) (Cd (Ay l x))).getD i 0 = 0 := by
   by_cases hiz : z ≤ i
   ·exact hzz i hiz
   ·rw [hgt, (hzg i).2, if_neg (by omega), h0 i (by omega)]
  rw [Af, Aa hi] at this
  exact this
theorem Bare.write (h : Bare l x n g) (hg : g < 1099511627776) {a m : Nat} {d : List UInt8} (hd : d.length = 64 * m) (hm : 1 ≤ m) (ha : a + m ≤ x.sup.size) (hf : 4 * m ≤ (Cd (Ay l x)).length) : ∃ ios, nU l a d = .ok ios := by
 obtain ⟨hS, hsz, hIn, hlen⟩ := h.look
 have hdm : d.length / 64 = m := by omega
 have hc : Su a d x = 0 := by
  unfold Su
  rw [if_neg (by omega), hdm]
  exact yA (least := 1) hm ha
 have e : Sv a d x = (Dh x).write a d m := by unfold Sv; rw [hdm]; rfl
 obtain ⟨w1, w2, w3⟩ := kZ (Dh x) a d m
 obtain ⟨w4, w5⟩ := w3 rfl
 have hn1 := Acg (l := l) (root := x.sup.root) (sQ (s := (Dh x).write a d m) (w1.trans hlen) (Cd (Ay l x))) hlen (a := a) (n := m) fun i hi => by
  rw [fL (w1.trans hlen) _ fun p hp => (by have := w5 p hp; omega), w2 i hi]
 obtain ⟨ios, hmk⟩ := eS (l := l) (x := x) (s := Sv a d x) (by rw [h.gen]; exact hg) (by rw [e]; omega)
 exact ⟨ios, by rw [← hmk]; exact yJ h hc⟩
theorem Bare.zero (h : Bare l x n g) (hg : g < 1099511627776) {a m : Nat} (hm : 1 ≤ m) (ha : a + m ≤ x.sup.size) (hf : 3 * m ≤ (Cd (Ay l x)).length) : ∃ ios, Axb l a m = .ok ios := by
 obtain ⟨hS, hsz, hIn, hlen⟩ := h.look
 have e : Agr a m x = (Dh x).zero a m := rfl
 have hnw := oE (Dh x) rfl a m
 have hz := fun j => gW (Dh x) hlen a m j (by omega)
 have hn1 := Acg (l := l) (root := x.sup.root) (sQ (s := (Dh x).zero a m) (hz 0).1 (Cd (Ay l x))) hlen (a := a) (n := m) fun i hi => by
  rw [fL (hz 0).1 _ fun p hp => (by rw [hnw] at hp; cases hp), (hz i).2, if_neg hi]
 obtain ⟨ios, hmk⟩ := eS (l := l) (x := x) (s := Agr a m x) (by rw [h.gen]; exact hg) (by rw [e, hnw, De]; omega)
 exact ⟨ios, by rw [← hmk]; exact yJ h (yA (least := 1) hm ha)⟩
end
theorem Adt {n : Nat} (h4 : 4 ≤ n) (hn : n ≤ 4096) : ∃ x, Bare (newP n) x n 1 ∧ Ee x = ws0 ∧ (Gq (newP n) x).head = [] := by
 have h := Aqx h4 hn
 exact ⟨_, ⟨h.dev, h.nb, h.img, rfl, rfl⟩, rfl, rfl⟩
theorem Aul (i : Nat) : ws0.m.getD i 0 = 0 := by
 show (List.replicate 512 0).getD i 0 = 0
 rw [Af, Ub]
 split <;> rfl
end Go.Proofs.YtkaiiopoilpjeaaGreat

