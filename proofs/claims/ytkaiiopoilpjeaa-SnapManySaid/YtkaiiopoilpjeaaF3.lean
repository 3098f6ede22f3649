import Derived.Test.YtkaiiopoilpjeaaMN
set_option linter.unusedSimpArgs false
set_option linter.unusedVariables false
set_option maxRecDepth 10000
namespace Go.Proofs.Ytkaiiopoilpjeaa
open Go.AI
structure Row0 (l : List UInt8) (x : Img) (n g : Nat) (ids : List Nat) : Prop where
 dev : Dev l
 nb : nb l = n
 img : IsImg l x
 root : x.sup.root = 0
 size : x.sup.size = 0
 gen : x.sup.gen = g
 ids : x.recs.map Rec.id = ids
 kinds : ∀ r ∈ x.recs, r.kind = 0
 roots : ∀ r ∈ x.recs, r.root = 0 ∧ r.size = 0
 trees : ∀ w ∈ x.trees, w = ws0
theorem Row0.free {l : List UInt8} {x : Img} {n g : Nat} {ids : List Nat} (h : Row0 l x n g ids) : n ≤ (freeP (countsP l x)).length + 2 + ids.length := by
 have hx := img_fit h.dev h.img
 have hlen : x.blocks.length = ids.length := by rw [hx.len, ← h.ids, List.length_map]
 have := nodup_le (List.range n) (freeP (countsP l x) ++ (0 :: 1 :: x.blocks)) List.nodup_range (fun a ha => by
  rw [List.mem_range] at ha
  rw [List.mem_append]
  by_cases h2 : a < 2
  ·right
   have : a = 0 ∨ a = 1 := by omega
   rcases this with rfl | rfl <;> simp
  by_cases hb : a ∈ x.blocks
  ·right; simp [hb]
  left
  rw [mem_free h.dev hx]
  refine ⟨by omega, by rw [h.nb]; exact ha, ?_⟩
  rintro (hr | hr | hr | ⟨w, hw, nd, hnd, _⟩)
  ·omega
  ·exact hb hr
  ·rcases List.mem_cons.1 hr with hr | hr
   ·rw [h.root] at hr; omega
   ·obtain ⟨r, hr1, hr2⟩ := List.mem_map.1 hr
    have := (h.roots r hr1).1
    omega
  ·rw [h.trees w hw] at hnd
   simp [ws0] at hnd)
 rw [List.length_range, List.length_append] at this
 simp only [List.length_cons] at this
 omega
theorem Row0.pend {l : List UInt8} {x : Img} {n g : Nat} {ids : List Nat} (h : Row0 l x n g ids) : pendP x.recs = none := by
 cases hr : x.recs with
 | nil => rfl
 | cons r rs =>
  have := h.kinds r (by rw [hr]; simp)
  show (if r.kind = 1 then some r else none) = none
  rw [if_neg (by omega)]
theorem Row0.len {l : List UInt8} {x : Img} {n g : Nat} {ids : List Nat} (h : Row0 l x n g ids) : x.recs.length = ids.length := by rw [← h.ids, List.length_map]
theorem Row0.any {l : List UInt8} {x : Img} {n g : Nat} {ids : List Nat} (h : Row0 l x n g ids) (a : Nat) : ((x.recs.any fun r => decide ((r.id : Int) = (a : Int))) = true) ↔ a ∈ ids := by
 rw [List.any_eq_true, ← h.ids, List.mem_map]
 constructor
 ·rintro ⟨r, hr, he⟩; have := of_decide_eq_true he; exact ⟨r, hr, by omega⟩
 ·rintro ⟨r, hr, he⟩; exact ⟨r, hr, decide_eq_true (by omega)⟩
theorem Row0.createE {l : List UInt8} {x : Img} {n g : Nat} {ids : List Nat} (h : Row0 l x n g ids) {a : Nat} (h1 : 1 ≤ a) (h2 : a ≤ 4611686018427387903) : createE x.recs (a : Int) = if a ∈ ids then 10 else if 60 ≤ ids.length then 2 else 0 := by
 unfold Go.Proofs.Ytkaiiopoilpjeaa.createE
 rw [if_neg (fun hh => hh ⟨by omega, by omega⟩), h.pend, if_neg (show ¬ ((none : Option Rec).isSome = true) from Bool.false_ne_true), h.len]
 by_cases ha : a ∈ ids
 ·rw [if_pos ((h.any a).2 ha), if_pos ha]
 ·rw [if_neg (fun hh => ha ((h.any a).1 hh)), if_neg ha]
theorem Row0.lookQ {l : List UInt8} {x : Img} {n g : Nat} {ids : List Nat} (h : Row0 l x n g ids) : lookQ l = .ok x := (lookQ_iff h.dev.1).2 ⟨h.dev, h.img⟩
theorem Row0.create {l : List UInt8} {x : Img} {n g : Nat} {ids : List Nat} (h : Row0 l x n g ids) {a : Nat} (h1 : 1 ≤ a) (h2 : a ≤ 4611686018427387903) (ha : a ∉ ids) (hl : ids.length < 60) (hn : 3 + ids.length ≤ n) (hg : g < 1099511627776) :
  ∃ ios x', createP l (a : Int) = .ok ios ∧ ios.length = 4 ∧ stepsE l ios = 0 ∧ (applyP l ios).length = l.length ∧ Row0 (applyP l ios) x' n (g + 1) (a :: ids) := by
 have hE := h.createE h1 h2
 rw [if_neg ha, if_neg (by omega)] at hE
 have hfr := h.free
 have hal : (anewP x.recs 0 (newRec x (a : Int)) true).length = 1 := by unfold anewP; simp
 have hmk : ∃ ios, makesP l x 0 (newRec x (a : Int)) true = .ok ios ∧ ios.length = 4 := by
  unfold makesP
  rw [h.gen, if_neg (fun hh => hh hg), if_neg (by rw [hal]; omega)]
  refine ⟨_, rfl, ?_⟩
  unfold stepsL
  rw [List.length_append, iosW, List.length_map]
  have := congrArg List.length (chainL_at (anewP x.recs 0 (newRec x (a : Int)) true) (freeP (countsP l x)) (x.blocks.getD 0 default) (by rw [hal]; omega))
  rw [List.length_map, List.length_take, hal] at this
  rw [this, Nat.min_eq_left (by omega)]; rfl
 obtain ⟨ios, hmk, h4⟩ := hmk
 have hcr : createP l (a : Int) = .ok ios := by
  unfold createP
  rw [h.lookQ]
  simp only
  rw [hE, if_neg (by decide)]; exact hmk
 obtain ⟨y, x', hd, hI, hc, hmk', hm, hcore, hr, hz, hgn, ht, _⟩ := create_img h.dev.1 hcr
 have hyx : y = x := by
  have := (lookQ_iff h.dev.1).2 ⟨hd, hI⟩
  rw [h.lookQ] at this
  cases this; rfl
 subst hyx
 refine ⟨ios, x', hcr, h4, makes_right hd (img_fit hd hI) hmk', hm.len, ?_⟩
 refine ⟨dev_of hd hm.len, by rw [← h.nb]; unfold Go.Proofs.Ytkaiiopoilpjeaa.nb; rw [hm.len], hm.img, by rw [hr]; exact h.root, by rw [hz]; exact h.size, by rw [hgn, h.gen], ?_, ?_, ?_, fun w hw => h.trees w (ht w hw)⟩
 ·rw [core_map (f := Rec.id) (fun _ => rfl) hcore, List.map_cons, h.ids]
  show (a : Int).toNat :: ids = _
  rw [Int.toNat_natCast]
 ·refine core_kind hcore.symm fun r hr => ?_
  rcases List.mem_cons.1 hr with rfl | hr
  ·rfl
  ·exact h.kinds r hr
 ·intro r hr'
  have hmr : (r.root, r.size) ∈ x'.recs.map fun r => (r.root, r.size) := List.mem_map.2 ⟨r, hr', rfl⟩
  rw [core_roots hcore, List.map_cons] at hmr
  rcases List.mem_cons.1 hmr with he | hmr
  ·have h3 := congrArg Prod.fst he
   have h4 := congrArg Prod.snd he
   exact ⟨by have : r.root = y.sup.root := h3; rw [this]; exact h.root, by have : r.size = y.sup.size := h4; rw [this]; exact h.size⟩
  ·obtain ⟨q, hq, he⟩ := List.mem_map.1 hmr
   have h3 := congrArg Prod.fst he
   have h4 := congrArg Prod.snd he
   have := h.roots q hq
   simp only at h3 h4
   exact ⟨by omega, by omega⟩
theorem Row0.create_no {l : List UInt8} {x : Img} {n g : Nat} {ids : List Nat} (h : Row0 l x n g ids) {a : Nat} (h1 : 1 ≤ a) (h2 : a ≤ 4611686018427387903) {e : Nat} (he : (if a ∈ ids then 10 else if 60 ≤ ids.length then 2 else 0) = e) (h0 : e ≠ 0) : createP l (a : Int) = .error e := by
 unfold createP
 rw [h.lookQ]
 simp only
 rw [h.createE h1 h2, he, if_pos h0]
theorem Row0.delete {l : List UInt8} {x : Img} {n g : Nat} {a : Nat} {aa bs : List Nat} (h : Row0 l x n g (aa ++ a :: bs)) (h1 : 1 ≤ a) (h2 : a ≤ 4611686018427387903) (hn : 2 + (aa ++ a :: bs).length + aa.length ≤ n) (hg : g < 1099511627776) :
  ∃ ios x', deleteP l (a : Int) = .ok ios ∧ ios.length = aa.length + 3 ∧ stepsE l ios = 0 ∧ (applyP l ios).length = l.length ∧ Row0 (applyP l ios) x' n (g + 1) (aa ++ bs) := by
 have hlen := h.len
 have hfr := h.free
 have hnd := h.img.good.1
 rw [h.ids] at hnd
 have hj : aa.length < x.recs.length := by rw [hlen]; simp
 have hidj : x.recs[aa.length].id = a := by
  have e : (x.recs.map Rec.id)[aa.length]'(by rw [List.length_map]; exact hj) = (aa ++ a :: bs)[aa.length]'(by simp) := by
   congr 1 <;> exact h.ids
  rw [List.getElem_map] at e
  rw [e]; simp
 have hf : findP x.recs (a : Int) = (aa.length : Int) := by
  have hnn : ¬ findP x.recs (a : Int) < 0 := by
   intro hh
   rcases idxL_spec (p := fun r : Rec => decide ((r.id : Int) = (a : Int) ∧ r.kind = 0)) x.recs 0 with ⟨_, k2⟩ | ⟨i, hi, k1, _⟩
   ·have := k2 _ (List.getElem_mem hj)
    rw [decide_eq_true ⟨by omega, h.kinds _ (List.getElem_mem hj)⟩] at this
    cases this
   ·have k1 : findP x.recs (a : Int) = ((0 + i : Nat) : Int) := k1
    omega
  obtain ⟨i, hi, k1, k2, k3⟩ := findP_spec hnn
  have : i = aa.length := by
   refine nodup_inj (l := x.recs.map Rec.id) (by rw [h.ids]; exact hnd) (by rw [List.length_map]; exact hi) (by rw [List.length_map]; exact hj) ?_
   rw [List.getElem_map, List.getElem_map, hidj]; omega
  rw [k1, this]
 have hal : (anewP x.recs (aa.length + 1) rec0 false).length = aa.length := by unfold anewP; simp; omega
 have hfl : aa.length ≤ (freeP (countsP l x)).length := by omega
 have hmk : ∃ ios, makesP l x (aa.length + 1) rec0 false = .ok ios ∧ ios.length = aa.length + 3 := by
  unfold makesP
  rw [h.gen, if_neg (fun hh => hh hg), if_neg (by rw [hal]; omega)]
  refine ⟨_, rfl, ?_⟩
  unfold stepsL
  rw [List.length_append, iosW, List.length_map]
  have := congrArg List.length (chainL_at (anewP x.recs (aa.length + 1) rec0 false) (freeP (countsP l x)) (x.blocks.getD (aa.length + 1) default) (by rw [hal]; omega))
  rw [List.length_map, List.length_take, hal] at this
  rw [this, Nat.min_eq_left (by omega)]; rfl
 obtain ⟨ios, hmk, h4⟩ := hmk
 have hde : deleteP l (a : Int) = .ok ios := by
  unfold deleteP
  rw [h.lookQ]
  simp only
  rw [if_neg (fun hh => hh ⟨by omega, by omega⟩), hf, if_neg (by omega), h.pend, if_neg (show ¬ (false = true) from Bool.false_ne_true), Int.toNat_natCast]
  exact hmk
 obtain ⟨y, x', j, hj', hd, hI, hid, hkd, hmk', hm, hk, hcore, hr, hz, hgn, ht, _⟩ := delete_img h.dev.1 hde
 have hyx : y = x := by
  have := (lookQ_iff h.dev.1).2 ⟨hd, hI⟩
  rw [h.lookQ] at this
  cases this; rfl
 subst hyx
 have hjj : j = aa.length := by
  refine nodup_inj (l := y.recs.map Rec.id) (by rw [h.ids]; exact hnd) (by rw [List.length_map]; exact hj') (by rw [List.length_map]; exact hj) ?_
  rw [List.getElem_map, List.getElem_map, hidj]; omega
 subst hjj
 refine ⟨ios, x', hde, h4, makes_right hd (img_fit hd hI) hmk', hm.len, ?_⟩
 refine ⟨dev_of hd hm.len, by rw [← h.nb]; unfold Go.Proofs.Ytkaiiopoilpjeaa.nb; rw [hm.len], hm.img, by rw [hr]; exact h.root, by rw [hz]; exact h.size, by rw [hgn, h.gen], ?_, ?_, ?_, fun w hw => h.trees w (ht w hw)⟩
 ·rw [core_map (f := Rec.id) (fun _ => rfl) hcore, map_erase, h.ids, eraseIdx_eq]; simp
 ·refine core_kind hcore.symm fun r hr => h.kinds r ((List.eraseIdx_sublist _ _).mem hr)
 ·intro r hr'
  have hmr : (r.root, r.size) ∈ x'.recs.map fun r => (r.root, r.size) := List.mem_map.2 ⟨r, hr', rfl⟩
  rw [core_roots hcore] at hmr
  obtain ⟨q, hq, he⟩ := List.mem_map.1 hmr
  have h3 := congrArg Prod.fst he
  have h4 := congrArg Prod.snd he
  have := h.roots q ((List.eraseIdx_sublist _ _).mem hq)
  simp only at h3 h4
  exact ⟨by omega, by omega⟩
theorem newP_row {n : Nat} (h4 : 4 ≤ n) (hn : n ≤ 4096) : Row0 (newP n) ⟨⟨1, n, 0, 0, 0⟩, 0, [], [], [ws0]⟩ n 1 [] := by
 have hlen : (newP n).length = 64 * n := by
  unfold newP
  rw [List.length_append, supB_len, List.length_replicate]; omega
 have hnb : nb (newP n) = n := by unfold nb; rw [hlen]; omega
 have hd : Dev (newP n) := ⟨by rw [hlen]; omega, by unfold devB; rw [hlen]; omega⟩
 have hok : Sup.ok ⟨1, n, 0, 0, 0⟩ := ⟨⟨show 1 ≤ 1 by decide, show 1 ≤ 1099511627776 by decide⟩, ⟨h4, hn⟩, show 0 ≤ 512 by decide, .inl rfl, .inl rfl⟩
 have hb0 : blk (newP n) 0 = supB ⟨1, n, 0, 0, 0⟩ := by
  unfold blk newP
  rw [Nat.mul_zero, List.drop_zero, List.take_append_of_le_length (by rw [supB_len]; omega), List.take_of_length_le (by rw [supB_len]; omega)]
 have hb1 : blk (newP n) 1 = List.replicate 64 0 := by
  unfold blk newP
  rw [Nat.mul_one, List.drop_append, List.drop_of_length_le (by rw [supB_len]; omega), supB_len, Nat.sub_self, List.drop_zero, List.nil_append, List.take_replicate, Nat.min_eq_left (by omega)]
 have hp1 : (parseSup (List.replicate 64 0)).2 ≠ 0 := by decide +kernel
 have hpick : pickP (newP n) = some (⟨1, n, 0, 0, 0⟩, 0) := by
  unfold pickP pick2
  rw [hb0, hb1, parseSup_supB hok, hnb, if_pos ⟨rfl, rfl⟩, if_neg (fun h => hp1 h.1.1)]
 refine ⟨hd, hnb, ⟨hpick, .nil, List.nodup_nil, ⟨List.nodup_nil, (fun _ h => by cases h), show 0 ≤ 60 by decide⟩, ⟨?_, ?_, trivial⟩, ?_⟩, rfl, rfl, rfl, rfl, (fun r h => by cases h), (fun r h => by cases h), fun w hw => List.mem_singleton.1 hw⟩
 ·unfold goP; rw [if_pos rfl]
 ·show beyondP ws0.m 0 = false
  decide +kernel
 ·rintro a (⟨⟨⟨w, hw, hm⟩, h0⟩, _⟩ | ⟨_, hb⟩)
  ·rw [List.mem_singleton.1 hw] at hm
   exact h0 (List.eq_of_mem_replicate (show a ∈ List.replicate 512 0 from hm))
  ·cases hb
end Go.Proofs.Ytkaiiopoilpjeaa

