import Derived.Test.YtkpndfkpdnknkaaGreatMNb
set_option linter.unusedSimpArgs false
set_option linter.unusedVariables false
set_option maxRecDepth 10000
namespace Go.Proofs.YtkpndfkpdnknkaaGreat
open Go.AI
structure Row0 (l : List UInt8) (x : Img) (n g : Nat) (ids : List Nat) : Prop where
 dev : Dev l
 nb : nb l = n
 img : IsImg l x
 root : x.sup.root = 0
 size : x.sup.size = 0
 gen : x.sup.gen = g
 ids : x.recs.map Rec.id = ids
 kinds : ∀ r ∈ x.recs, r.kind = 0
 roots : ∀ r ∈ x.recs, r.root = 0 ∧ r.size = 0
 trees : ∀ w ∈ x.trees, w = ws0
theorem Row0.free {l : List UInt8} {x : Img} {n g : Nat} {ids : List Nat} (h : Row0 l x n g ids) : n ≤ (Cm (Bn l x)).length + 2 + ids.length := by
 have hx := Sa h.dev h.img
 have hlen : x.blocks.length = ids.length := by rw [hx.len, ← h.ids, Ah]
 have := bF (List.range n) (Cm (Bn l x) ++ (0 :: 1 :: x.blocks)) List.nodup_range (fun a ha => by
  rw [Bw] at ha
  rw [Bq]
  by_cases h2 : a < 2
  ·right
   have : a = 0 ∨ a = 1 := by omega
   rcases this with rfl | rfl <;> simp
  by_cases hb : a ∈ x.blocks
  ·right; simp [hb]
  left
  rw [Qi h.dev hx]
  refine ⟨by omega, by rw [h.nb]; exact ha, ?_⟩
  rintro (hr | hr | hr | ⟨w, hw, nd, hnd, _⟩)
  ·omega
  ·exact hb hr
  ·rcases Ar.1 hr with hr | hr
   ·rw [h.root] at hr; omega
   ·obtain ⟨r, hr1, hr2⟩ := Bt.1 hr
    have := (h.roots r hr1).1
    omega
  ·rw [h.trees w hw] at hnd
   simp [ws0] at hnd)
 rw [Ek, Am] at this
 simp only [Ao] at this
 omega
theorem Row0.pend {l : List UInt8} {x : Img} {n g : Nat} {ids : List Nat} (h : Row0 l x n g ids) : Aqu x.recs = none := by
 cases hr : x.recs with
 | nil => rfl
 | cons r rs =>
  have := h.kinds r (by rw [hr]; simp)
  show (if r.kind = 1 then some r else none) = none
  rw [if_neg (by omega)]
theorem Row0.len {l : List UInt8} {x : Img} {n g : Nat} {ids : List Nat} (h : Row0 l x n g ids) : x.recs.length = ids.length := by rw [← h.ids, Ah]
theorem Row0.any {l : List UInt8} {x : Img} {n g : Nat} {ids : List Nat} (h : Row0 l x n g ids) (a : Nat) : ((x.recs.any fun r => decide ((r.id : Int) = (a : Int))) = true) ↔ a ∈ ids := by
 rw [Ge, ← h.ids, Bt]
 constructor
 ·rintro ⟨r, hr, he⟩; have := Ei he; exact ⟨r, hr, by omega⟩
 ·rintro ⟨r, hr, he⟩; exact ⟨r, hr, An (by omega)⟩
theorem Row0.lookQ {l : List UInt8} {x : Img} {n g : Nat} {ids : List Nat} (h : Row0 l x n g ids) : lookQ l = .ok x := (Iy h.dev.1).2 ⟨h.dev, h.img⟩
theorem Row0.delete {l : List UInt8} {x : Img} {n g : Nat} {a : Nat} {aa bs : List Nat} (h : Row0 l x n g (aa ++ a :: bs)) (h1 : 1 ≤ a) (h2 : a ≤ 4611686018427387903) (hn : 2 + (aa ++ a :: bs).length + aa.length ≤ n) (hg : g < 1099511627776) :
  ∃ ios x', kR l (a : Int) = .ok ios ∧ ios.length = aa.length + 3 ∧ Kw l ios = 0 ∧ (Bs l ios).length = l.length ∧ Row0 (Bs l ios) x' n (g + 1) (aa ++ bs) := by
 have hlen := h.len
 have hfr := h.free
 have hnd := h.img.good.1
 rw [h.ids] at hnd
 have hj : aa.length < x.recs.length := by rw [hlen]; simp
 have hidj : x.recs[aa.length].id = a := by
  have e : (x.recs.map Rec.id)[aa.length]'(by rw [Ah]; exact hj) = (aa ++ a :: bs)[aa.length]'(by simp) := by
   congr 1 <;> exact h.ids
  rw [Jz] at e
  rw [e]; simp
 have hf : oB x.recs (a : Int) = (aa.length : Int) := by
  have hnn : ¬ oB x.recs (a : Int) < 0 := by
   intro hh
   rcases dG (p := fun r : Rec => decide ((r.id : Int) = (a : Int) ∧ r.kind = 0)) x.recs 0 with ⟨_, k2⟩ | ⟨i, hi, k1, _⟩
   ·have := k2 _ (Bx hj)
    rw [An ⟨by omega, h.kinds _ (Bx hj)⟩] at this
    cases this
   ·have k1 : oB x.recs (a : Int) = ((0 + i : Nat) : Int) := k1
    omega
  obtain ⟨i, hi, k1, k2, k3⟩ := uT hnn
  have : i = aa.length := by
   refine cV (l := x.recs.map Rec.id) (by rw [h.ids]; exact hnd) (by rw [Ah]; exact hi) (by rw [Ah]; exact hj) ?_
   rw [Jz, Jz, hidj]; omega
  rw [k1, this]
 have hal : (Ss x.recs (aa.length + 1) rec0 false).length = aa.length := by unfold Ss; simp; omega
 have hfl : aa.length ≤ (Cm (Bn l x)).length := by omega
 have hmk : ∃ ios, Yl l x (aa.length + 1) rec0 false = .ok ios ∧ ios.length = aa.length + 3 := by
  unfold Yl
  rw [h.gen, if_neg (fun hh => hh hg), if_neg (by rw [hal]; omega)]
  refine ⟨_, rfl, ?_⟩
  unfold Eu
  rw [Am, iosW, Ah]
  have := Bk List.length (mM (Ss x.recs (aa.length + 1) rec0 false) (Cm (Bn l x)) (x.blocks.getD (aa.length + 1) default) (by rw [hal]; omega))
  rw [Ah, Ay, hal] at this
  rw [this, Kx (by omega)]; rfl
 obtain ⟨ios, hmk, h4⟩ := hmk
 have hde : kR l (a : Int) = .ok ios := by
  unfold kR
  rw [h.lookQ]
  simp only
  rw [if_neg (fun hh => hh ⟨by omega, by omega⟩), hf, if_neg (by omega), h.pend, if_neg (show ¬ (false = true) from gR), Ax]
  exact hmk
 obtain ⟨y, x', j, hj', hd, hI, hid, hkd, hmk', hm, hk, hcore, hr, hz, hgn, ht, _⟩ := Ajl h.dev.1 hde
 have hyx : y = x := by
  have := (Iy h.dev.1).2 ⟨hd, hI⟩
  rw [h.lookQ] at this
  cases this; rfl
 subst hyx
 have hjj : j = aa.length := by
  refine cV (l := y.recs.map Rec.id) (by rw [h.ids]; exact hnd) (by rw [Ah]; exact hj') (by rw [Ah]; exact hj) ?_
  rw [Jz, Jz, hidj]; omega
 subst hjj
 refine ⟨ios, x', hde, h4, Aej hd (Sa hd hI) hmk', hm.len, ?_⟩
 refine ⟨uP hd hm.len, by rw [← h.nb]; unfold Go.Proofs.YtkpndfkpdnknkaaGreat.nb; rw [hm.len], hm.img, by rw [hr]; exact h.root, by rw [hz]; exact h.size, by rw [hgn, h.gen], ?_, ?_, ?_, fun w hw => h.trees w (ht w hw)⟩
 ·rw [jO (f := Rec.id) (fun _ => rfl) hcore, mD, h.ids, bQ]; simp
 ·refine zA hcore.symm fun r hr => h.kinds r ((List.eraseIdx_sublist _ _).mem hr)
 ·intro r hr'
  have hmr : (r.root, r.size) ∈ x'.recs.map fun r => (r.root, r.size) := Bt.2 ⟨r, hr', rfl⟩
  rw [tD hcore] at hmr
  obtain ⟨q, hq, he⟩ := Bt.1 hmr
  have h3 := Bk Prod.fst he
  have h4 := Bk Prod.snd he
  have := h.roots q ((List.eraseIdx_sublist _ _).mem hq)
  simp only at h3 h4
  exact ⟨by omega, by omega⟩
theorem Ass {n : Nat} (h4 : 4 ≤ n) (hn : n ≤ 4096) : Row0 (newP n) ⟨⟨1, n, 0, 0, 0⟩, 0, [], [], [ws0]⟩ n 1 [] := by
 have hlen : (newP n).length = 64 * n := by
  unfold newP
  rw [Am, Mt, Ca]; omega
 have hnb : nb (newP n) = n := by unfold nb; rw [hlen]; omega
 have hd : Dev (newP n) := ⟨by rw [hlen]; omega, by unfold devB; rw [hlen]; omega⟩
 have hok : Sup.ok ⟨1, n, 0, 0, 0⟩ := ⟨⟨show 1 ≤ 1 by decide, show 1 ≤ 1099511627776 by decide⟩, ⟨h4, hn⟩, show 0 ≤ 512 by decide, .inl rfl, .inl rfl⟩
 have hb0 : blk (newP n) 0 = supB ⟨1, n, 0, 0, 0⟩ := by
  unfold blk newP
  rw [Ol, Cd, Cr (by rw [Mt]; omega), Aj (by rw [Mt]; omega)]
 have hb1 : blk (newP n) 1 = List.replicate 64 0 := by
  unfold blk newP
  rw [Nat.mul_one, Ii, Ck (by rw [Mt]; omega), Mt, Mo, Cd, Dc, List.take_replicate, Kx (by omega)]
 have hp1 : (Hg (List.replicate 64 0)).2 ≠ 0 := by decide +kernel
 have hpick : Uj (newP n) = some (⟨1, n, 0, 0, 0⟩, 0) := by
  unfold Uj Age
  rw [hb0, hb1, eD hok, hnb, if_pos ⟨rfl, rfl⟩, if_neg (fun h => hp1 h.1.1)]
 refine ⟨hd, hnb, ⟨hpick, .nil, Ro, ⟨Ro, (fun _ h => by cases h), show 0 ≤ 60 by decide⟩, ⟨?_, ?_, trivial⟩, ?_⟩, rfl, rfl, rfl, rfl, (fun r h => by cases h), (fun r h => by cases h), fun w hw => Bo.1 hw⟩
 ·unfold goP; rw [if_pos rfl]
 ·show Nb ws0.m 0 = false
  decide +kernel
 ·rintro a (⟨⟨⟨w, hw, hm⟩, h0⟩, _⟩ | ⟨_, hb⟩)
  ·rw [Bo.1 hw] at hm
   exact h0 (Ew (show a ∈ List.replicate 512 0 from hm))
  ·cases hb
end Go.Proofs.YtkpndfkpdnknkaaGreat

