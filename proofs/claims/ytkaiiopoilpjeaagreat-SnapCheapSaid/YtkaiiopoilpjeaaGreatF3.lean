import Derived.Test.YtkaiiopoilpjeaaGreatMNb
set_option linter.unusedSimpArgs false
set_option linter.unusedVariables false
set_option maxRecDepth 10000
namespace Go.Proofs.YtkaiiopoilpjeaaGreat
open Go.AI
structure Row0 (l : List UInt8) (x : Img) (n g : Nat) (ids : List Nat) : Prop where
 dev : Dev l
 nb : nb l = n
 img : IsImg l x
 root : x.sup.root = 0
 size : x.sup.size = 0
 gen : x.sup.gen = g
 ids : x.recs.map Rec.id = ids
 kinds : ∀ r ∈ x.recs, r.kind = 0
 roots : ∀ r ∈ x.recs, r.root = 0 ∧ r.size = 0
 trees : ∀ w ∈ x.trees, w = ws0
theorem Row0.free {l : List UInt8} {x : Img} {n g : Nat} {ids : List Nat} (h : Row0 l x n g ids) : n ≤ (Cd (Ay l x)).length + 2 + ids.length := by
 have hx := Sn h.dev h.img
 have hlen : x.blocks.length = ids.length := by rw [hx.len, ← h.ids, Ah]
 have := Pt (List.range n) (Cd (Ay l x) ++ (0 :: 1 :: x.blocks)) List.nodup_range (fun a ha => by
  rw [Cc] at ha
  rw [Bi]
  by_cases h2 : a < 2
  ·right
   have : a = 0 ∨ a = 1 := by omega
   rcases this with rfl | rfl <;> simp
  by_cases hb : a ∈ x.blocks
  ·right; simp [hb]
  left
  rw [Jk h.dev hx]
  refine ⟨by omega, by rw [h.nb]; exact ha, ?_⟩
  rintro (hr | hr | hr | ⟨w, hw, nd, hnd, _⟩)
  ·omega
  ·exact hb hr
  ·rcases Ap.1 hr with hr | hr
   ·rw [h.root] at hr; omega
   ·obtain ⟨r, hr1, hr2⟩ := Bz.1 hr
    have := (h.roots r hr1).1
    omega
  ·rw [h.trees w hw] at hnd
   simp [ws0] at hnd)
 rw [Gm, An] at this
 simp only [Ao] at this
 omega
theorem Row0.pend {l : List UInt8} {x : Img} {n g : Nat} {ids : List Nat} (h : Row0 l x n g ids) : Yk x.recs = none := by
 cases hr : x.recs with
 | nil => rfl
 | cons r rs =>
  have := h.kinds r (by rw [hr]; simp)
  show (if r.kind = 1 then some r else none) = none
  rw [if_neg (by omega)]
theorem Row0.len {l : List UInt8} {x : Img} {n g : Nat} {ids : List Nat} (h : Row0 l x n g ids) : x.recs.length = ids.length := by rw [← h.ids, Ah]
theorem Row0.any {l : List UInt8} {x : Img} {n g : Nat} {ids : List Nat} (h : Row0 l x n g ids) (a : Nat) : ((x.recs.any fun r => decide ((r.id : Int) = (a : Int))) = true) ↔ a ∈ ids := by
 rw [Fm, ← h.ids, Bz]
 constructor
 ·rintro ⟨r, hr, he⟩; have := Kq he; exact ⟨r, hr, by omega⟩
 ·rintro ⟨r, hr, he⟩; exact ⟨r, hr, As (by omega)⟩
theorem Row0.createE {l : List UInt8} {x : Img} {n g : Nat} {ids : List Nat} (h : Row0 l x n g ids) {a : Nat} (h1 : 1 ≤ a) (h2 : a ≤ 4611686018427387903) : createE x.recs (a : Int) = if a ∈ ids then 10 else if 60 ≤ ids.length then 2 else 0 := by
 unfold Go.Proofs.YtkaiiopoilpjeaaGreat.createE
 rw [if_neg (fun hh => hh ⟨by omega, by omega⟩), h.pend, if_neg (show ¬ ((none : Option Rec).isSome = true) from On), h.len]
 by_cases ha : a ∈ ids
 ·rw [if_pos ((h.any a).2 ha), if_pos ha]
 ·rw [if_neg (fun hh => ha ((h.any a).1 hh)), if_neg ha]
theorem Row0.lookQ {l : List UInt8} {x : Img} {n g : Nat} {ids : List Nat} (h : Row0 l x n g ids) : lookQ l = .ok x := (Mb h.dev.1).2 ⟨h.dev, h.img⟩
theorem Row0.delete {l : List UInt8} {x : Img} {n g : Nat} {a : Nat} {aa bs : List Nat} (h : Row0 l x n g (aa ++ a :: bs)) (h1 : 1 ≤ a) (h2 : a ≤ 4611686018427387903) (hn : 2 + (aa ++ a :: bs).length + aa.length ≤ n) (hg : g < 1099511627776) :
  ∃ ios x', Kv l (a : Int) = .ok ios ∧ ios.length = aa.length + 3 ∧ Lc l ios = 0 ∧ (Bt l ios).length = l.length ∧ Row0 (Bt l ios) x' n (g + 1) (aa ++ bs) := by
 have hlen := h.len
 have hfr := h.free
 have hnd := h.img.good.1
 rw [h.ids] at hnd
 have hj : aa.length < x.recs.length := by rw [hlen]; simp
 have hidj : x.recs[aa.length].id = a := by
  have e : (x.recs.map Rec.id)[aa.length]'(by rw [Ah]; exact hj) = (aa ++ a :: bs)[aa.length]'(by simp) := by
   congr 1 <;> exact h.ids
  rw [Li] at e
  rw [e]; simp
 have hf : Jf x.recs (a : Int) = (aa.length : Int) := by
  have hnn : ¬ Jf x.recs (a : Int) < 0 := by
   intro hh
   rcases cD (p := fun r : Rec => decide ((r.id : Int) = (a : Int) ∧ r.kind = 0)) x.recs 0 with ⟨_, k2⟩ | ⟨i, hi, k1, _⟩
   ·have := k2 _ (Bw hj)
    rw [As ⟨by omega, h.kinds _ (Bw hj)⟩] at this
    cases this
   ·have k1 : Jf x.recs (a : Int) = ((0 + i : Nat) : Int) := k1
    omega
  obtain ⟨i, hi, k1, k2, k3⟩ := qC hnn
  have : i = aa.length := by
   refine jV (l := x.recs.map Rec.id) (by rw [h.ids]; exact hnd) (by rw [Ah]; exact hi) (by rw [Ah]; exact hj) ?_
   rw [Li, Li, hidj]; omega
  rw [k1, this]
 have hal : (Fy x.recs (aa.length + 1) rec0 false).length = aa.length := by unfold Fy; simp; omega
 have hfl : aa.length ≤ (Cd (Ay l x)).length := by omega
 have hmk : ∃ ios, Ls l x (aa.length + 1) rec0 false = .ok ios ∧ ios.length = aa.length + 3 := by
  unfold Ls
  rw [h.gen, if_neg (fun hh => hh hg), if_neg (by rw [hal]; omega)]
  refine ⟨_, rfl, ?_⟩
  unfold Ft
  rw [An, iosW, Ah]
  have := Bo List.length (jM (Fy x.recs (aa.length + 1) rec0 false) (Cd (Ay l x)) (x.blocks.getD (aa.length + 1) default) (by rw [hal]; omega))
  rw [Ah, Bc, hal] at this
  rw [this, Ml (by omega)]; rfl
 obtain ⟨ios, hmk, h4⟩ := hmk
 have hde : Kv l (a : Int) = .ok ios := by
  unfold Kv
  rw [h.lookQ]
  simp only
  rw [if_neg (fun hh => hh ⟨by omega, by omega⟩), hf, if_neg (by omega), h.pend, if_neg (show ¬ (false = true) from On), Bd]
  exact hmk
 obtain ⟨y, x', j, hj', hd, hI, hid, hkd, hmk', hm, hk, hcore, hr, hz, hgn, ht, _⟩ := qH h.dev.1 hde
 have hyx : y = x := by
  have := (Mb h.dev.1).2 ⟨hd, hI⟩
  rw [h.lookQ] at this
  cases this; rfl
 subst hyx
 have hjj : j = aa.length := by
  refine jV (l := y.recs.map Rec.id) (by rw [h.ids]; exact hnd) (by rw [Ah]; exact hj') (by rw [Ah]; exact hj) ?_
  rw [Li, Li, hidj]; omega
 subst hjj
 refine ⟨ios, x', hde, h4, Zg hd (Sn hd hI) hmk', hm.len, ?_⟩
 refine ⟨zD hd hm.len, by rw [← h.nb]; unfold Go.Proofs.YtkaiiopoilpjeaaGreat.nb; rw [hm.len], hm.img, by rw [hr]; exact h.root, by rw [hz]; exact h.size, by rw [hgn, h.gen], ?_, ?_, ?_, fun w hw => h.trees w (ht w hw)⟩
 ·rw [gI (f := Rec.id) (fun _ => rfl) hcore, jK, h.ids, aK]; simp
 ·refine vC hcore.symm fun r hr => h.kinds r ((List.eraseIdx_sublist _ _).mem hr)
 ·intro r hr'
  have hmr : (r.root, r.size) ∈ x'.recs.map fun r => (r.root, r.size) := Bz.2 ⟨r, hr', rfl⟩
  rw [rI hcore] at hmr
  obtain ⟨q, hq, he⟩ := Bz.1 hmr
  have h3 := Bo Prod.fst he
  have h4 := Bo Prod.snd he
  have := h.roots q ((List.eraseIdx_sublist _ _).mem hq)
  simp only at h3 h4
  exact ⟨by omega, by omega⟩
theorem Aqx {n : Nat} (h4 : 4 ≤ n) (hn : n ≤ 4096) : Row0 (newP n) ⟨⟨1, n, 0, 0, 0⟩, 0, [], [], [ws0]⟩ n 1 [] := by
 have hlen : (newP n).length = 64 * n := by
  unfold newP
  rw [An, Nx, Gh]; omega
 have hnb : nb (newP n) = n := by unfold nb; rw [hlen]; omega
 have hd : Dev (newP n) := ⟨by rw [hlen]; omega, by unfold devB; rw [hlen]; omega⟩
 have hok : Sup.ok ⟨1, n, 0, 0, 0⟩ := ⟨⟨show 1 ≤ 1 by decide, show 1 ≤ 1099511627776 by decide⟩, ⟨h4, hn⟩, show 0 ≤ 512 by decide, .inl rfl, .inl rfl⟩
 have hb0 : blk (newP n) 0 = supB ⟨1, n, 0, 0, 0⟩ := by
  unfold blk newP
  rw [Vp, Cb, Cz (by rw [Nx]; omega), Ai (by rw [Nx]; omega)]
 have hb1 : blk (newP n) 1 = List.replicate 64 0 := by
  unfold blk newP
  rw [Nat.mul_one, Ju, Ce (by rw [Nx]; omega), Nx, Rx, Cb, Dd, List.take_replicate, Ml (by omega)]
 have hp1 : (Hg (List.replicate 64 0)).2 ≠ 0 := by decide +kernel
 have hpick : Uf (newP n) = some (⟨1, n, 0, 0, 0⟩, 0) := by
  unfold Uf Ade
  rw [hb0, hb1, cP hok, hnb, if_pos ⟨rfl, rfl⟩, if_neg (fun h => hp1 h.1.1)]
 refine ⟨hd, hnb, ⟨hpick, .nil, Rc, ⟨Rc, (fun _ h => by cases h), show 0 ≤ 60 by decide⟩, ⟨?_, ?_, trivial⟩, ?_⟩, rfl, rfl, rfl, rfl, (fun r h => by cases h), (fun r h => by cases h), fun w hw => Bg.1 hw⟩
 ·unfold goP; rw [if_pos rfl]
 ·show Mz ws0.m 0 = false
  decide +kernel
 ·rintro a (⟨⟨⟨w, hw, hm⟩, h0⟩, _⟩ | ⟨_, hb⟩)
  ·rw [Bg.1 hw] at hm
   exact h0 (Fa (show a ∈ List.replicate 512 0 from hm))
  ·cases hb
end Go.Proofs.YtkaiiopoilpjeaaGreat

