import Derived.Test.YtkaiiopoilpjeaaMNb
set_option linter.unusedSimpArgs false
set_option linter.unusedVariables false
set_option maxRecDepth 10000
namespace Go.Proofs.Ytkaiiopoilpjeaa
open Go.AI
structure Row0 (l : List UInt8) (x : Img) (n g : Nat) (ids : List Nat) : Prop where
 dev : Dev l
 nb : nb l = n
 img : IsImg l x
 root : x.sup.root = 0
 size : x.sup.size = 0
 gen : x.sup.gen = g
 ids : x.recs.map Rec.id = ids
 kinds : ∀ r ∈ x.recs, r.kind = 0
 roots : ∀ r ∈ x.recs, r.root = 0 ∧ r.size = 0
 trees : ∀ w ∈ x.trees, w = ws0
theorem Row0.free {l : List UInt8} {x : Img} {n g : Nat} {ids : List Nat} (h : Row0 l x n g ids) : n ≤ (Fm (Dn l x)).length + 2 + ids.length := by
 have hx := Yc h.dev h.img
 have hlen : x.blocks.length = ids.length := by rw [hx.len, ← h.ids, Ak]
 have := rV (List.range n) (Fm (Dn l x) ++ (0 :: 1 :: x.blocks)) List.nodup_range (fun a ha => by
  rw [Kg] at ha
  rw [Bg]
  by_cases h2 : a < 2
  ·right
   have : a = 0 ∨ a = 1 := by omega
   rcases this with rfl | rfl <;> simp
  by_cases hb : a ∈ x.blocks
  ·right; simp [hb]
  left
  rw [fD h.dev hx]
  refine ⟨by omega, by rw [h.nb]; exact ha, ?_⟩
  rintro (hr | hr | hr | ⟨w, hw, nd, hnd, _⟩)
  ·omega
  ·exact hb hr
  ·rcases Au.1 hr with hr | hr
   ·rw [h.root] at hr; omega
   ·obtain ⟨r, hr1, hr2⟩ := Ca.1 hr
    have := (h.roots r hr1).1
    omega
  ·rw [h.trees w hw] at hnd
   simp [ws0] at hnd)
 rw [List.length_range, Ar] at this
 simp only [As] at this
 omega
theorem Row0.pend {l : List UInt8} {x : Img} {n g : Nat} {ids : List Nat} (h : Row0 l x n g ids) : We x.recs = none := by
 cases hr : x.recs with
 | nil => rfl
 | cons r rs =>
  have := h.kinds r (by rw [hr]; simp)
  show (if r.kind = 1 then some r else none) = none
  rw [if_neg (by omega)]
theorem Row0.len {l : List UInt8} {x : Img} {n g : Nat} {ids : List Nat} (h : Row0 l x n g ids) : x.recs.length = ids.length := by rw [← h.ids, Ak]
theorem Row0.any {l : List UInt8} {x : Img} {n g : Nat} {ids : List Nat} (h : Row0 l x n g ids) (a : Nat) : ((x.recs.any fun r => decide ((r.id : Int) = (a : Int))) = true) ↔ a ∈ ids := by
 rw [Ec, ← h.ids, Ca]
 constructor
 ·rintro ⟨r, hr, he⟩; have := Jj he; exact ⟨r, hr, by omega⟩
 ·rintro ⟨r, hr, he⟩; exact ⟨r, hr, Az (by omega)⟩
theorem Row0.createE {l : List UInt8} {x : Img} {n g : Nat} {ids : List Nat} (h : Row0 l x n g ids) {a : Nat} (h1 : 1 ≤ a) (h2 : a ≤ 4611686018427387903) : createE x.recs (a : Int) = if a ∈ ids then 10 else if 60 ≤ ids.length then 2 else 0 := by
 unfold Go.Proofs.Ytkaiiopoilpjeaa.createE
 rw [if_neg (fun hh => hh ⟨by omega, by omega⟩), h.pend, if_neg (show ¬ ((none : Option Rec).isSome = true) from Kv), h.len]
 by_cases ha : a ∈ ids
 ·rw [if_pos ((h.any a).2 ha), if_pos ha]
 ·rw [if_neg (fun hh => ha ((h.any a).1 hh)), if_neg ha]
theorem Row0.lookQ {l : List UInt8} {x : Img} {n g : Nat} {ids : List Nat} (h : Row0 l x n g ids) : lookQ l = .ok x := (Mx h.dev.1).2 ⟨h.dev, h.img⟩
theorem Row0.create {l : List UInt8} {x : Img} {n g : Nat} {ids : List Nat} (h : Row0 l x n g ids) {a : Nat} (h1 : 1 ≤ a) (h2 : a ≤ 4611686018427387903) (ha : a ∉ ids) (hl : ids.length < 60) (hn : 3 + ids.length ≤ n) (hg : g < 1099511627776) :
  ∃ ios x', Gw l (a : Int) = .ok ios ∧ ios.length = 4 ∧ Kc l ios = 0 ∧ (Cn l ios).length = l.length ∧ Row0 (Cn l ios) x' n (g + 1) (a :: ids) := by
 have hE := h.createE h1 h2
 rw [if_neg ha, if_neg (by omega)] at hE
 have hfr := h.free
 have hal : (Em x.recs 0 (Kq x (a : Int)) true).length = 1 := by unfold Em; simp
 have hmk : ∃ ios, Iq l x 0 (Kq x (a : Int)) true = .ok ios ∧ ios.length = 4 := by
  unfold Iq
  rw [h.gen, if_neg (fun hh => hh hg), if_neg (by rw [hal]; omega)]
  refine ⟨_, rfl, ?_⟩
  unfold Ez
  rw [Ar, iosW, Ak]
  have := Ay List.length (Vf (Em x.recs 0 (Kq x (a : Int)) true) (Fm (Dn l x)) (x.blocks.getD 0 default) (by rw [hal]; omega))
  rw [Ak, Cf, hal] at this
  rw [this, Hx (by omega)]; rfl
 obtain ⟨ios, hmk, h4⟩ := hmk
 have hcr : Gw l (a : Int) = .ok ios := by
  unfold Gw
  rw [h.lookQ]
  simp only
  rw [hE, if_neg (by decide)]; exact hmk
 obtain ⟨y, x', hd, hI, hc, hmk', hm, hcore, hr, hz, hgn, ht, _⟩ := gL h.dev.1 hcr
 have hyx : y = x := by
  have := (Mx h.dev.1).2 ⟨hd, hI⟩
  rw [h.lookQ] at this
  cases this; rfl
 subst hyx
 refine ⟨ios, x', hcr, h4, cX hd (Yc hd hI) hmk', hm.len, ?_⟩
 refine ⟨Aae hd hm.len, by rw [← h.nb]; unfold Go.Proofs.Ytkaiiopoilpjeaa.nb; rw [hm.len], hm.img, by rw [hr]; exact h.root, by rw [hz]; exact h.size, by rw [hgn, h.gen], ?_, ?_, ?_, fun w hw => h.trees w (ht w hw)⟩
 ·rw [Um (f := Rec.id) (fun _ => rfl) hcore, Bc, h.ids]
  show (a : Int).toNat :: ids = _
  rw [Bd]
 ·refine aV hcore.symm fun r hr => ?_
  rcases Au.1 hr with rfl | hr
  ·rfl
  ·exact h.kinds r hr
 ·intro r hr'
  have hmr : (r.root, r.size) ∈ x'.recs.map fun r => (r.root, r.size) := Ca.2 ⟨r, hr', rfl⟩
  rw [Ww hcore, Bc] at hmr
  rcases Au.1 hmr with he | hmr
  ·have h3 := Ay Prod.fst he
   have h4 := Ay Prod.snd he
   exact ⟨by have : r.root = y.sup.root := h3; rw [this]; exact h.root, by have : r.size = y.sup.size := h4; rw [this]; exact h.size⟩
  ·obtain ⟨q, hq, he⟩ := Ca.1 hmr
   have h3 := Ay Prod.fst he
   have h4 := Ay Prod.snd he
   have := h.roots q hq
   simp only at h3 h4
   exact ⟨by omega, by omega⟩
theorem Row0.delete {l : List UInt8} {x : Img} {n g : Nat} {a : Nat} {aa bs : List Nat} (h : Row0 l x n g (aa ++ a :: bs)) (h1 : 1 ≤ a) (h2 : a ≤ 4611686018427387903) (hn : 2 + (aa ++ a :: bs).length + aa.length ≤ n) (hg : g < 1099511627776) :
  ∃ ios x', Jt l (a : Int) = .ok ios ∧ ios.length = aa.length + 3 ∧ Kc l ios = 0 ∧ (Cn l ios).length = l.length ∧ Row0 (Cn l ios) x' n (g + 1) (aa ++ bs) := by
 have hlen := h.len
 have hfr := h.free
 have hnd := h.img.good.1
 rw [h.ids] at hnd
 have hj : aa.length < x.recs.length := by rw [hlen]; simp
 have hidj : x.recs[aa.length].id = a := by
  have e : (x.recs.map Rec.id)[aa.length]'(by rw [Ak]; exact hj) = (aa ++ a :: bs)[aa.length]'(by simp) := by
   congr 1 <;> exact h.ids
  rw [Nt] at e
  rw [e]; simp
 have hf : He x.recs (a : Int) = (aa.length : Int) := by
  have hnn : ¬ He x.recs (a : Int) < 0 := by
   intro hh
   rcases Ve (p := fun r : Rec => decide ((r.id : Int) = (a : Int) ∧ r.kind = 0)) x.recs 0 with ⟨_, k2⟩ | ⟨i, hi, k1, _⟩
   ·have := k2 _ (Bz hj)
    rw [Az ⟨by omega, h.kinds _ (Bz hj)⟩] at this
    cases this
   ·have k1 : He x.recs (a : Int) = ((0 + i : Nat) : Int) := k1
    omega
  obtain ⟨i, hi, k1, k2, k3⟩ := fF hnn
  have : i = aa.length := by
   refine aC (l := x.recs.map Rec.id) (by rw [h.ids]; exact hnd) (by rw [Ak]; exact hi) (by rw [Ak]; exact hj) ?_
   rw [Nt, Nt, hidj]; omega
  rw [k1, this]
 have hal : (Em x.recs (aa.length + 1) rec0 false).length = aa.length := by unfold Em; simp; omega
 have hfl : aa.length ≤ (Fm (Dn l x)).length := by omega
 have hmk : ∃ ios, Iq l x (aa.length + 1) rec0 false = .ok ios ∧ ios.length = aa.length + 3 := by
  unfold Iq
  rw [h.gen, if_neg (fun hh => hh hg), if_neg (by rw [hal]; omega)]
  refine ⟨_, rfl, ?_⟩
  unfold Ez
  rw [Ar, iosW, Ak]
  have := Ay List.length (Vf (Em x.recs (aa.length + 1) rec0 false) (Fm (Dn l x)) (x.blocks.getD (aa.length + 1) default) (by rw [hal]; omega))
  rw [Ak, Cf, hal] at this
  rw [this, Hx (by omega)]; rfl
 obtain ⟨ios, hmk, h4⟩ := hmk
 have hde : Jt l (a : Int) = .ok ios := by
  unfold Jt
  rw [h.lookQ]
  simp only
  rw [if_neg (fun hh => hh ⟨by omega, by omega⟩), hf, if_neg (by omega), h.pend, if_neg (show ¬ (false = true) from Kv), Bd]
  exact hmk
 obtain ⟨y, x', j, hj', hd, hI, hid, hkd, hmk', hm, hk, hcore, hr, hz, hgn, ht, _⟩ := tZ h.dev.1 hde
 have hyx : y = x := by
  have := (Mx h.dev.1).2 ⟨hd, hI⟩
  rw [h.lookQ] at this
  cases this; rfl
 subst hyx
 have hjj : j = aa.length := by
  refine aC (l := y.recs.map Rec.id) (by rw [h.ids]; exact hnd) (by rw [Ak]; exact hj') (by rw [Ak]; exact hj) ?_
  rw [Nt, Nt, hidj]; omega
 subst hjj
 refine ⟨ios, x', hde, h4, cX hd (Yc hd hI) hmk', hm.len, ?_⟩
 refine ⟨Aae hd hm.len, by rw [← h.nb]; unfold Go.Proofs.Ytkaiiopoilpjeaa.nb; rw [hm.len], hm.img, by rw [hr]; exact h.root, by rw [hz]; exact h.size, by rw [hgn, h.gen], ?_, ?_, ?_, fun w hw => h.trees w (ht w hw)⟩
 ·rw [Um (f := Rec.id) (fun _ => rfl) hcore, aG, h.ids, Ta]; simp
 ·refine aV hcore.symm fun r hr => h.kinds r ((List.eraseIdx_sublist _ _).mem hr)
 ·intro r hr'
  have hmr : (r.root, r.size) ∈ x'.recs.map fun r => (r.root, r.size) := Ca.2 ⟨r, hr', rfl⟩
  rw [Ww hcore] at hmr
  obtain ⟨q, hq, he⟩ := Ca.1 hmr
  have h3 := Ay Prod.fst he
  have h4 := Ay Prod.snd he
  have := h.roots q ((List.eraseIdx_sublist _ _).mem hq)
  simp only at h3 h4
  exact ⟨by omega, by omega⟩
theorem Aai {n : Nat} (h4 : 4 ≤ n) (hn : n ≤ 4096) : Row0 (newP n) ⟨⟨1, n, 0, 0, 0⟩, 0, [], [], [ws0]⟩ n 1 [] := by
 have hlen : (newP n).length = 64 * n := by
  unfold newP
  rw [Ar, Ki, Ev]; omega
 have hnb : nb (newP n) = n := by unfold nb; rw [hlen]; omega
 have hd : Dev (newP n) := ⟨by rw [hlen]; omega, by unfold devB; rw [hlen]; omega⟩
 have hok : Sup.ok ⟨1, n, 0, 0, 0⟩ := ⟨⟨show 1 ≤ 1 by decide, show 1 ≤ 1099511627776 by decide⟩, ⟨h4, hn⟩, show 0 ≤ 512 by decide, .inl rfl, .inl rfl⟩
 have hb0 : blk (newP n) 0 = supB ⟨1, n, 0, 0, 0⟩ := by
  unfold blk newP
  rw [Nat.mul_zero, Cc, Cq (by rw [Ki]; omega), Aj (by rw [Ki]; omega)]
 have hb1 : blk (newP n) 1 = List.replicate 64 0 := by
  unfold blk newP
  rw [Nat.mul_one, Ii, Bm (by rw [Ki]; omega), Ki, zY, Cc, Dk, List.take_replicate, Hx (by omega)]
 have hp1 : (Fl (List.replicate 64 0)).2 ≠ 0 := by decide +kernel
 have hpick : Pw (newP n) = some (⟨1, n, 0, 0, 0⟩, 0) := by
  unfold Pw qZ
  rw [hb0, hb1, Wf hok, hnb, if_pos ⟨rfl, rfl⟩, if_neg (fun h => hp1 h.1.1)]
 refine ⟨hd, hnb, ⟨hpick, .nil, Xu, ⟨Xu, (fun _ h => by cases h), show 0 ≤ 60 by decide⟩, ⟨?_, ?_, trivial⟩, ?_⟩, rfl, rfl, rfl, rfl, (fun r h => by cases h), (fun r h => by cases h), fun w hw => Bw.1 hw⟩
 ·unfold goP; rw [if_pos rfl]
 ·show Oh ws0.m 0 = false
  decide +kernel
 ·rintro a (⟨⟨⟨w, hw, hm⟩, h0⟩, _⟩ | ⟨_, hb⟩)
  ·rw [Bw.1 hw] at hm
   exact h0 (Et (show a ∈ List.replicate 512 0 from hm))
  ·cases hb
end Go.Proofs.Ytkaiiopoilpjeaa

