/- Lemmas. -/
import Derived.Test.YtkaiiopoilpjeaaJ2
set_option linter.unusedSimpArgs false
set_option linter.unusedVariables false
set_option maxRecDepth 10000
set_option maxHeartbeats 16000000
namespace Go.AI
theorem Kz {T : Tmps} {x : SArg} {k : IntKind} {n m : Nat} (hx : x.ev T = .int k (n : Nat)) : (Ei T (some x)).map (·.getD m) = some n := by simpa using optN (m := m) hx (Xs n)
end Go.AI
namespace Go.Proofs.Ytkaiiopoilpjeaa
open Go.AI
def WS.fit (n : Nat) (w : WS) : Prop := w.m.length = 512 ∧ (∀ b ∈ w.m, b < n) ∧ ∀ a ∈ w.nodes, 2 ≤ a ∧ a < n
theorem mF {n level frm : Nat} {rec : Nat → Nat → WS → WS} (hr : ∀ p f w, w.fit n → (rec p f w).fit n) : ∀ (ps : List Nat) (i : Nat) (w : WS), w.fit n → (Gh n level frm rec ps i w).fit n
 | [], _, _, h => h
 | p :: r, i, w, h => by
  simp only [Gh]
  refine mF hr r (i + 1) _ ?_
  unfold Hj
  split
  ·exact h
  split
  ·exact h
  split
  ·exact h
  split
  ·refine ⟨by simp [h.1], fun b hb => ?_, h.2.2⟩
   rcases Eh hb with hb | rfl
   ·exact h.2.1 b hb
   ·omega
  ·exact hr _ _ _ h
theorem mD {l : List UInt8} {n level at0 frm : Nat} {rec : Nat → Nat → WS → WS} (hr : ∀ p f w, w.fit n → (rec p f w).fit n) (w : WS) (h : w.fit n) : (Hz l n level at0 frm rec w).fit n := by
 unfold Hz
 split
 ·exact h
 ·rename_i hc
  refine mF hr _ _ _ ⟨h.1, h.2.1, fun a ha => ?_⟩
  rcases Bg.1 ha with ha | ha
  ·exact h.2.2 a ha
  ·simp only [Bw] at ha
   subst ha
   have h2 : (atP l n a level).2 = true := by
    cases hx : (atP l n a level).2 with
    | true => rfl
    | false => exact absurd (.inl hx) hc
   unfold atP at h2
   split at h2
   ·cases h2
   ·omega
theorem lT (l : List UInt8) (n : Nat) : ∀ (level at0 frm : Nat) (w : WS), w.fit n → (Dz l n level at0 frm w).fit n
 | 0, at0, frm, w, h => mD (fun _ _ _ h => h) w h
 | v + 1, at0, frm, w, h => mD (lT l n v) w h
theorem oW {l : List UInt8} {root : Nat} {w : WS} (hd : Dev l) (h : goP l root = some w) : w.fit (nb l) ∧ w.bad = false := by
 have hn := hd.nb
 have h0 : ws0.fit (nb l) := ⟨by simp [ws0], fun b hb => by
  have := Et hb
  omega, fun a ha => by cases ha⟩
 unfold goP at h
 split at h
 ·cases h; exact ⟨h0, rfl⟩
 ·split at h
  ·cases h
  ·rename_i hc
   cases h
   refine ⟨lT _ _ _ _ _ _ h0, ?_⟩
   cases hb : (Dz l (nb l) 2 root 0 ws0).bad with
   | false => rfl
   | true => exact absurd (.inl hb) hc
def CS.fit (n : Nat) (c : CS) : Prop := c.blocks.length = c.l.length ∧ (∀ a ∈ c.blocks, 2 ≤ a ∧ a < n) ∧ (∀ r ∈ c.l, r.ok) ∧ c.l.length ≤ c.whole + 1 ∧ c.whole ≤ 60
theorem dD {l : List UInt8} : ∀ (k a : Nat) (c : CS), c.fit (nb l) → (Db l k a c).fit (nb l)
 | 0, _, _, h => h
 | k + 1, a, c, h => by
  simp only [Db]
  split
  ·exact h
  split
  ·exact h
  rename_i h2
  split
  ·exact h
  rename_i h3
  obtain ⟨x, hx⟩ : ∃ x, x = Dt (blk l a) := ⟨_, rfl⟩
  have hok := Pk (b := blk l a)
  rw [← hx] at h3 hok ⊢
  have he : x.2 = 0 := Classical.byContradiction fun hh => h3 (.inl hh)
  have hm : mayP c x.1 = true := by
   cases hh : mayP c x.1 with
   | true => rfl
   | false => exact absurd (.inr hh) h3
  have hok := hok he
  refine dD k _ _ ⟨by simp [CS.put, h.1], fun b hb => ?_, fun r hr => ?_, ?_⟩
  ·rcases Bg.1 hb with hb | hb
   ·exact h.2.1 b hb
   ·simp only [Bw] at hb
    omega
  ·rcases Bg.1 hr with hr | hr
   ·exact h.2.2.1 r hr
   ·simp only [Bw] at hr
    rw [hr]; exact hok
  ·have h4 := h.2.2.2
   unfold mayP at hm
   simp only [CS.put, Ar, As, Dl]
   by_cases hk : x.1.kind = 1
   ·rw [if_pos hk] at hm
    rw [if_neg (by omega)]
    have : c.l = [] := by simpa using hm
    rw [this]; simp; omega
   ·rw [if_neg hk] at hm
    have hk0 : x.1.kind = 0 := by
     have := hok.2.2.2.2; omega
    rw [if_pos hk0]
    simp at hm
    omega
theorem iL (l : List UInt8) (first : Nat) : (Db l 64 first cs0).fit (nb l) := dD _ _ _ ⟨rfl, fun _ h => by simp [cs0] at h, fun _ h => by simp [cs0] at h, by decide, by decide⟩
attribute [local irreducible] aops Bb Cj Dm aop W WO
def Oh (m : List Nat) (size : Nat) : Bool := (m.drop size).any fun b => decide (b ≠ 0)
theorem uZ (k : Nat) (hk : 1 ≤ k) (b : Nat) : FnV (CF k) Nw [nav b] (.bool (decide (b ≠ 0))) := by
 unfold nav
 refine fnk (by omega) dN rfl ?_
 unfold Qd
 repeat' (first | refine qQb ?_ | refine Ab (fun _ => ?_) (fun _ => ?_))
 all_goals
  refine ⟨Or.inr rfl, _, rfl, ?_⟩
  rename_i h
  simp only [cmpP] at h
  show AV.bool _ = AV.bool _
  congr 1
  first
   | exact (Az (by omega)).symm
   | exact (Bo (by omega)).symm
theorem Acy (k : Nat) (hk : 1000020 ≤ k) (t f : Bool) (m : List Nat) (size : Nat) (hm : m.length < 1000000) (hs : size ≤ m.length) : FnV (CF k) Vv [.islc t f 1 (NL m), .int .i64 size] (.bool (Oh m size)) := by
 have hc := Kl (k - 1) (by omega) t f (m.drop size) Nw [] (fun b => decide (b ≠ 0)) (by rw [Ea]; omega) (fun _ => rfl) (fun _ _ => rfl) (fun i hi => uZ (k - 3) (by omega) _)
 refine fnk (by omega) kB rfl ?_
 unfold Tn
 repeat' (first
  | refine qS ?_ | refine Ff (n := m.length) (a := size) (b := m.length) rfl (.inl rfl) (Be m) (Kz rfl) rfl hs (Ao _) rfl rfl ?_
  | refine Ad hc ?_ rfl (by show [fz false 6 _ (AV.islc t (f && decide (m.length = m.length)) 1 (((NL m).drop size).take (m.length - size))), _] = _; rw [Aj (by rw [Ea, Be]; omega), Az rfl, Sn]; simp only [NL, ← Ih]; rfl)
  | refine qQb ?_ | fail)
 exact ⟨Or.inr rfl, _, rfl, rfl⟩
def He (l : List Rec) (id : Int) : Int := idxL (fun r => decide ((r.id : Int) = id ∧ r.kind = 0)) l 0
theorem Adf (k : Nat) (hk : 1 ≤ k) (x : Rec) (id : Int) : FnV (CF k) Nj [x.av, .iptr true [.int .i64 id]] (.bool (decide ((x.id : Int) = id ∧ x.kind = 0))) := by
 obtain ⟨a1, a2, a3, a4, a5, a6, a7, a8⟩ := x
 refine fnk (by omega) jH rfl ?_
 unfold Ud Rec.av
 simp only
 repeat' (first | refine qS ?_ | refine qN ?_ | refine qQb ?_ | refine Ab (fun _ => ?_) (fun _ => ?_))
 all_goals
  refine ⟨Or.inr rfl, _, rfl, ?_⟩
  simp only [cmpP] at *
  show AV.bool _ = AV.bool _
  congr 1
  first
   | exact (Az (by omega)).symm
   | exact (Bo (by omega)).symm
end Go.Proofs.Ytkaiiopoilpjeaa
set_option maxRecDepth 10000
set_option maxHeartbeats 16000000
namespace Go.Proofs.Ytkaiiopoilpjeaa
open Go.AI
attribute [local irreducible] aops Bb Cj Dm aop W WO
def mark (bs : List Bool) (a : Nat) : List Bool := bs.set a true
def Tp (bs : List Bool) (a : Nat) : List Bool := bs.set a (bs.getD a default || decide (a ≠ 0))
theorem Jn {α β : Type} [Inhabited α] (g : β → α → β) (b : β) {l : List α} {i : Nat} (h : i < l.length) : (l.take (i + 1)).foldl g b = g ((l.take i).foldl g b) (l.getD i default) := by
 rw [Bh h, Aaa]; simp [h]
theorem Qt : ∀ (l : List Nat) (bs : List Bool), (l.foldl mark bs).length = bs.length
 | [], _ => rfl
 | a :: l, bs => by simp only [Cz]; rw [Qt l]; simp [mark]
theorem mO : ∀ (l : List Nat) (bs : List Bool), (l.foldl Tp bs).length = bs.length
 | [], _ => rfl
 | a :: l, bs => by simp only [Cz]; rw [mO l]; simp [Tp]
def CAt (H : Heap) (n : Nat) (nd rc sc : List Bool) : Prop :=
 H 3 = ⟨1, false, .row 3 [.agg [.slc 0 1 n 1 0 n none, .slc 1 1 n 1 0 n none, .slc 2 1 n 1 0 n none]]⟩ ∧ H 0 = ⟨1, false, .row 1 (nd.map AV.bool)⟩ ∧ H 1 = ⟨1, false, .row 1 (rc.map AV.bool)⟩ ∧ H 2 = ⟨1, false, .row 1 (sc.map AV.bool)⟩ ∧
  nd.length = n ∧ rc.length = n ∧ sc.length = n
theorem xP {k n : Nat} {bl : List Nat} {nd rc sc : List Bool} {t f : Bool} {s : Nat} {xv : AV} {T : Tmps} {H : Heap} (hk : 1000000 ≤ k) (hs : s = 1 ∨ bl = []) (hb : ∀ a ∈ bl, a < n) (hl : bl.length < 100000) (hn : n < 100000) (hC : CAt H n nd rc sc)
  (hT : Has T [(0, xv), (1, .int .i64 n), (5, .ptr 3 1 1 3 0 0), (25, .islc t f s (NL bl)), (26, .int .i64 bl.length), (27, .int .i64 0)]) :
  W (Bb (CF k) noX 0 k (.loop Lg) T H) (fun ex T' H' => ex = .exit 0 ∧ CAt H' n nd (bl.foldl mark rc) sc ∧ Has T' [(0, xv), (1, .int .i64 n), (5, .ptr 3 1 1 3 0 0)]) := by
 refine Fx bl.length (fun i T' H' => CAt H' n nd ((bl.take i).foldl mark rc) sc ∧ Has T' [(0, xv), (1, .int .i64 n), (5, .ptr 3 1 1 3 0 0), (25, .islc t f s (NL bl)), (26, .int .i64 bl.length), (27, .int .i64 (i : Nat))]) ⟨hC, hT⟩ (by omega) ?_
 rintro i T H hi ⟨⟨g3, g0, g1, g2, l0, l1, l2⟩, hT⟩
 rw [hT.eq]
 simp only [over]
 unfold Lg
 by_cases hil : i < bl.length
 ·obtain rfl : s = 1 := hs.resolve_right (fun h => by rw [h] at hil; simp at hil)
  obtain ⟨a, ha⟩ : ∃ a, a = bl.getD i default := ⟨_, rfl⟩
  have han : a < n := hb a (by rw [ha]; simp [hil])
  rw [show (bl.take i).foldl mark rc = (bl.take i).foldl mark rc from rfl] at g1
  obtain ⟨q, hq⟩ : ∃ q, q = (bl.take i).foldl mark rc := ⟨_, rfl⟩
  rw [← hq] at g1 l1
  have hix : 0 + (a : Int).toNat = a := by omega
  repeat' (first
   | refine qS ?_ | refine Iu (enc := nav) a rfl rfl (by omega) (by omega) ha.symm rfl rfl ?_ | refine Bj ?_ (hr := by exact g3)
   | refine Ep rfl rfl (by exact g1) (by rw [Ak]; exact l1) (by omega) (by omega) (by omega) rfl rfl ?_
   | refine Ho (enc := AV.bool) (l := q) (a := true) ?_ (hr := by exact g1) (hv0 := by exact l1) | refine qQb ?_ | refine Ab (fun _ => ?_) (fun _ => ?_))
  refine ⟨hil, ⟨g3, g0, ?_, g2, l0, by rw [Qt, ← Qt (bl.take i) rc, ← hq]; exact l1, l2⟩, rfl, rfl, rfl, rfl, rfl, by show AV.int _ _ = AV.int _ _; congr 1, trivial⟩
  rw [Jn mark rc hil, ← hq, ← ha]
  show (⟨1, false, .row 1 ((q.set (0 + (a : Int).toNat) true).map AV.bool)⟩ : Blk) = _
  rw [hix]; rfl
 ·have hin : i = bl.length := by omega
  repeat' (first | refine qQb ?_ | refine Ab (fun _ => ?_) (fun _ => ?_))
  rw [hin, Bp] at g1 l1
  exact ⟨rfl, ⟨g3, g0, g1, g2, l0, l1, l2⟩, rfl, rfl, rfl, trivial⟩
theorem yL {k n : Nat} {bl : List Nat} {nd rc sc : List Bool} {t f : Bool} {s : Nat} {xv wv v39 v40 v41 : AV} {T : Tmps} {H : Heap} (hk : 1000000 ≤ k) (hs : s = 1 ∨ bl = []) (hb : ∀ a ∈ bl, a < n) (hl : bl.length < 100000) (hn : n < 100000) (hC : CAt H n nd rc sc)
  (hT : Has T [(0, xv), (1, .int .i64 n), (5, .ptr 3 1 1 3 0 0), (9, wv), (39, v39), (40, v40), (41, v41), (48, .islc t f s (NL bl)), (49, .int .i64 bl.length), (50, .int .i64 0)]) :
  W (Bb (CF k) noX 0 k (.loop Lo) T H) (fun ex T' H' => ex = .exit 4 ∧ CAt H' n (bl.foldl mark nd) rc sc ∧ Has T' [(0, xv), (1, .int .i64 n), (5, .ptr 3 1 1 3 0 0), (9, wv), (39, v39), (40, v40), (41, v41)]) := by
 refine Fx bl.length (fun i T' H' => CAt H' n ((bl.take i).foldl mark nd) rc sc ∧ Has T' [(0, xv), (1, .int .i64 n), (5, .ptr 3 1 1 3 0 0), (9, wv), (39, v39), (40, v40), (41, v41), (48, .islc t f s (NL bl)), (49, .int .i64 bl.length), (50, .int .i64 (i : Nat))]) ⟨hC, hT⟩ (by omega) ?_
 rintro i T H hi ⟨⟨g3, g0, g1, g2, l0, l1, l2⟩, hT⟩
 rw [hT.eq]
 simp only [over]
 unfold Lo
 by_cases hil : i < bl.length
 ·obtain rfl : s = 1 := hs.resolve_right (fun h => by rw [h] at hil; simp at hil)
  obtain ⟨a, ha⟩ : ∃ a, a = bl.getD i default := ⟨_, rfl⟩
  have han : a < n := hb a (by rw [ha]; simp [hil])
  obtain ⟨q, hq⟩ : ∃ q, q = (bl.take i).foldl mark nd := ⟨_, rfl⟩
  rw [← hq] at g0 l0
  have hix : 0 + (a : Int).toNat = a := by omega
  repeat' (first
   | refine qS ?_ | refine Iu (enc := nav) a rfl rfl (by omega) (by omega) ha.symm rfl rfl ?_ | refine Bj ?_ (hr := by exact g3)
   | refine Ep rfl rfl (by exact g0) (by rw [Ak]; exact l0) (by omega) (by omega) (by omega) rfl rfl ?_
   | refine Ho (enc := AV.bool) (l := q) (a := true) ?_ (hr := by exact g0) (hv0 := by exact l0) | refine qQb ?_ | refine Ab (fun _ => ?_) (fun _ => ?_))
  refine ⟨hil, ⟨g3, ?_, g1, g2, by rw [Qt, ← Qt (bl.take i) nd, ← hq]; exact l0, l1, l2⟩, rfl, rfl, rfl, rfl, rfl, rfl, rfl, rfl, rfl, by show AV.int _ _ = AV.int _ _; congr 1, trivial⟩
  rw [Jn mark nd hil, ← hq, ← ha]
  show (⟨1, false, .row 1 ((q.set (0 + (a : Int).toNat) true).map AV.bool)⟩ : Blk) = _
  rw [hix]; rfl
 ·have hin : i = bl.length := by omega
  repeat' (first | refine qQb ?_ | refine Ab (fun _ => ?_) (fun _ => ?_))
  rw [hin, Bp] at g0 l0
  exact ⟨rfl, ⟨g3, g0, g1, g2, l0, l1, l2⟩, rfl, rfl, rfl, rfl, rfl, rfl, rfl, trivial⟩
theorem zP {k n : Nat} {bl : List Nat} {nd rc sc : List Bool} {t f : Bool} {xv wv v39 v40 v41 : AV} {T : Tmps} {H : Heap} (hk : 1000000 ≤ k) (hb : ∀ a ∈ bl, a < n) (hl : bl.length < 100000) (hn : n < 100000) (hC : CAt H n nd rc sc)
  (hT : Has T [(0, xv), (1, .int .i64 n), (5, .ptr 3 1 1 3 0 0), (9, wv), (39, v39), (40, v40), (41, v41), (62, .islc t f 1 (NL bl)), (63, .int .i64 bl.length), (64, .int .i64 0)]) :
  W (Bb (CF k) noX 0 k (.loop Mi) T H) (fun ex T' H' => ex = .exit 6 ∧ CAt H' n nd rc (bl.foldl Tp sc) ∧ Has T' [(0, xv), (1, .int .i64 n), (5, .ptr 3 1 1 3 0 0), (9, wv), (39, v39), (40, v40), (41, v41)]) := by
 refine Fx bl.length (fun i T' H' => CAt H' n nd rc ((bl.take i).foldl Tp sc) ∧ Has T' [(0, xv), (1, .int .i64 n), (5, .ptr 3 1 1 3 0 0), (9, wv), (39, v39), (40, v40), (41, v41), (62, .islc t f 1 (NL bl)), (63, .int .i64 bl.length), (64, .int .i64 (i : Nat))]) ⟨hC, hT⟩ (by omega) ?_
 rintro i T H hi ⟨⟨g3, g0, g1, g2, l0, l1, l2⟩, hT⟩
 rw [hT.eq]
 simp only [over]
 unfold Mi
 by_cases hil : i < bl.length
 ·obtain ⟨a, ha⟩ : ∃ a, a = bl.getD i default := ⟨_, rfl⟩
  have han : a < n := hb a (by rw [ha]; simp [hil])
  obtain ⟨q, hq⟩ : ∃ q, q = (bl.take i).foldl Tp sc := ⟨_, rfl⟩
  rw [← hq] at g2 l2
  have hix : 0 + (a : Int).toNat = a := by omega
  have hst : (bl.take (i + 1)).foldl Tp sc = q.set a (q.getD a default || decide (a ≠ 0)) := by rw [Jn Tp sc hil, ← hq, ← ha]; rfl
  have hbv : ∀ b : Bool, q.getD a default = b → q.getD (0 + (a : Int).toNat) default = b := fun b h => by rw [hix]; exact h
  have hbl : ∀ b : Bool, (q.getD a default || decide (a ≠ 0)) = b → CAt (H.upd 2 ⟨1, false, .row 1 ((q.set (0 + (a : Int).toNat) b).map AV.bool)⟩) n nd rc ((bl.take (i + 1)).foldl Tp sc) := fun b h => by
   refine ⟨g3, g0, g1, ?_, l0, l1, by rw [hst]; simpa using l2⟩
   rw [hst, h, hix]; rfl
  cases hv : q.getD a default with
  | true =>
   have hv2 := hbv true hv
   repeat' (first
    | refine qS ?_ | refine qN ?_ | refine Iu (enc := nav) a rfl rfl (by omega) (by omega) ha.symm rfl rfl ?_ | refine Bj ?_ (hr := by exact g3)
    | refine Ep rfl rfl (by exact g2) (by rw [Ak]; exact l2) (by omega) (by omega) (by omega) rfl rfl ?_
    | refine Gx (enc := AV.bool) (l := q) (v := .bool true) ?_ (hr := by exact g2) (hv0 := by exact l2) (hv := by exact Ay AV.bool hv2)
    | refine Ho (enc := AV.bool) (l := q) (a := true) ?_ (hr := by exact g2) (hv0 := by exact l2) | refine qQb ?_ | refine Ab (fun _ => ?_) (fun _ => ?_))
   exact ⟨hil, hbl true (by rw [hv]; rfl), rfl, rfl, rfl, rfl, rfl, rfl, rfl, rfl, rfl, by show AV.int _ _ = AV.int _ _; congr 1, trivial⟩
  | false =>
   have hv2 := hbv false hv
   by_cases ha0 : a = 0
   ·skip
    repeat' (first
     | refine qS ?_ | refine qN ?_ | refine Iu (enc := nav) a rfl rfl (by omega) (by omega) ha.symm rfl rfl ?_ | refine Bj ?_ (hr := by exact g3)
     | refine Ep rfl rfl (by exact g2) (by rw [Ak]; exact l2) (by omega) (by omega) (by omega) rfl rfl ?_
     | refine Gx (enc := AV.bool) (l := q) (v := .bool false) ?_ (hr := by exact g2) (hv0 := by exact l2) (hv := by exact Ay AV.bool hv2)
     | refine Ho (enc := AV.bool) (l := q) (a := false) ?_ (hr := by exact g2) (hv0 := by exact l2) | refine qQb ?_ | refine Ab (fun _ => ?_) (fun _ => ?_))
    exact ⟨hil, hbl false (by rw [hv]; simp [ha0]), rfl, rfl, rfl, rfl, rfl, rfl, rfl, rfl, rfl, by show AV.int _ _ = AV.int _ _; congr 1, trivial⟩
   ·skip
    repeat' (first
     | refine qS ?_ | refine qN ?_ | refine Iu (enc := nav) a rfl rfl (by omega) (by omega) ha.symm rfl rfl ?_ | refine Bj ?_ (hr := by exact g3)
     | refine Ep rfl rfl (by exact g2) (by rw [Ak]; exact l2) (by omega) (by omega) (by omega) rfl rfl ?_
     | refine Gx (enc := AV.bool) (l := q) (v := .bool false) ?_ (hr := by exact g2) (hv0 := by exact l2) (hv := by exact Ay AV.bool hv2)
     | refine Ho (enc := AV.bool) (l := q) (a := true) ?_ (hr := by exact g2) (hv0 := by exact l2) | refine qQb ?_ | refine Ab (fun _ => ?_) (fun _ => ?_))
    exact ⟨hil, hbl true (by rw [hv]; simp [ha0]), rfl, rfl, rfl, rfl, rfl, rfl, rfl, rfl, rfl, by show AV.int _ _ = AV.int _ _; congr 1, trivial⟩
 ·have hin : i = bl.length := by omega
  repeat' (first | refine qS ?_ | refine qN ?_ | refine qQb ?_ | refine Ab (fun _ => ?_) (fun _ => ?_))
  rw [hin, Bp] at g2 l2
  exact ⟨rfl, ⟨g3, g0, g1, g2, l0, l1, l2⟩, rfl, rfl, rfl, rfl, rfl, rfl, rfl, trivial⟩
instance : Inhabited WS := ⟨ws0⟩
def WS.iv (f : Bool) (l : List UInt8) (w : WS) : AV := .iptr false (Mt false f l w)
theorem Zo (t : Bool) (l : List Nat) : ∃ t' f' s', Hi t l = .islc t' f' s' (NL l) ∧ (s' = 1 ∨ l = []) := by
 unfold Hi
 by_cases h : l = []
 ·rw [if_pos h, h]; exact ⟨_, _, _, rfl, .inr rfl⟩
 ·rw [if_neg h]; exact ⟨_, _, _, rfl, .inl rfl⟩
theorem gS {α β : Type} [Inhabited α] (g : β → α → β) (b : β) {l : List α} {i : Nat} (h : i < l.length) : (l.take (i + 1)).foldl g b = g ((l.take i).foldl g b) (l.getD i default) := Jn g b h
def mkN (b : List Bool) (w : WS) : List Bool := w.nodes.foldl mark b
def mkS (b : List Bool) (w : WS) : List Bool := w.m.foldl Tp b
def WS.fits (n : Nat) (w : WS) : Prop := w.fit n ∧ w.nodes.length < 1000
theorem pO {k n : Nat} {trees : List WS} {nd rc sc : List Bool} {t f : Bool} {l : List UInt8} {xv : AV} {T : Tmps} {H : Heap} (hk : 1000000 ≤ k) (ht : ∀ w ∈ trees, w.fits n) (hl : trees.length < 1000) (hn : n < 100000) (hC : CAt H n nd rc sc)
  (hT : Has T [(0, xv), (1, .int .i64 n), (5, .ptr 3 1 1 3 0 0), (39, .islc t false 1 (trees.map (WS.iv f l))), (40, .int .i64 trees.length), (41, .int .i64 0)]) :
  W (Bb (CF k) noX 0 k (.loop Lx) T H) (fun ex T' H' => ex = .exit 2 ∧ CAt H' n (trees.foldl mkN nd) rc (trees.foldl mkS sc) ∧ Has T' [(1, .int .i64 n), (5, .ptr 3 1 1 3 0 0)]) := by
 refine Fx trees.length (fun i T' H' => CAt H' n ((trees.take i).foldl mkN nd) rc ((trees.take i).foldl mkS sc) ∧ Has T' [(0, xv), (1, .int .i64 n), (5, .ptr 3 1 1 3 0 0), (39, .islc t false 1 (trees.map (WS.iv f l))), (40, .int .i64 trees.length), (41, .int .i64 (i : Nat))]) ⟨hC, hT⟩ (by omega) ?_
 rintro i T H hi ⟨hC, hT⟩
 rw [hT.eq]
 simp only [over]
 unfold Lx
 by_cases hil : i < trees.length
 ·obtain ⟨w, hw⟩ : ∃ w, w = trees.getD i default := ⟨_, rfl⟩
  obtain ⟨⟨hm, hmb, hnb⟩, hnl⟩ : w.fits n := ht w (by rw [hw]; simp [hil])
  obtain ⟨t', f', s', hni, hs'⟩ := Zo false w.nodes
  have he2 : (trees.map (WS.iv f l))[(i : Int).toNat]? = some (.iptr false [.islc false f 1 (BL l), .int .i64 (nb l : Nat), .islc false false 1 (NL w.m), .islc t' f' s' (NL w.nodes), .bool w.bad]) := by
   rw [Bd, Cd, Ai hil, ← hni, hw]
   simp [hil, WS.iv, Mt]
  obtain ⟨nd2, hnd⟩ : ∃ q, q = (trees.take i).foldl mkN nd := ⟨_, rfl⟩
  obtain ⟨sc2, hsc⟩ : ∃ q, q = (trees.take i).foldl mkS sc := ⟨_, rfl⟩
  rw [← hnd, ← hsc] at hC
  repeat' (first | refine qS ?_ | refine Dv rfl rfl (by omega) he2 rfl rfl ?_ | refine Dh ?_ | refine Ba (n := w.nodes.length) rfl (Be _) rfl rfl ?_ | refine qQb ?_ | refine Ab (fun _ => ?_) (fun _ => ?_))
  refine W.mono (yL (bl := w.nodes) (nd := nd2) (rc := rc) (sc := sc2) (t := t') (f := f') (s := s') (xv := xv) (wv := .iptr false [.islc false f 1 (BL l), .int .i64 (nb l : Nat), .islc false false 1 (NL w.m), .islc t' f' s' (NL w.nodes), .bool w.bad]) (v39 := .islc t false 1 (trees.map (WS.iv f l))) (v40 := .int .i64 trees.length) (v41 := .int .i64 (i : Nat)) hk hs' (fun a ha => (hnb a ha).2) (by omega) hn hC ?_) ?_
  ·exact ⟨rfl, rfl, rfl, rfl, rfl, rfl, rfl, rfl, rfl, rfl, trivial⟩
  rintro ex T2 H2 ⟨rfl, hC2, hT2⟩
  rw [hT2.eq]
  simp only [over]
  show W _ _
  repeat' (first | refine qS ?_ | refine Dh ?_ | refine Ba (n := w.m.length) rfl (Be _) rfl rfl ?_ | refine qQb ?_ | refine Ab (fun _ => ?_) (fun _ => ?_))
  refine W.mono (zP (bl := w.m) (nd := w.nodes.foldl mark nd2) (rc := rc) (sc := sc2) (t := false) (f := false) (xv := xv) (wv := .iptr false [.islc false f 1 (BL l), .int .i64 (nb l : Nat), .islc false false 1 (NL w.m), .islc t' f' s' (NL w.nodes), .bool w.bad]) (v39 := .islc t false 1 (trees.map (WS.iv f l))) (v40 := .int .i64 trees.length) (v41 := .int .i64 (i : Nat)) hk hmb (by omega) hn hC2 ?_) ?_
  ·exact ⟨rfl, rfl, rfl, rfl, rfl, rfl, rfl, rfl, rfl, rfl, trivial⟩
  rintro ex T3 H3 ⟨rfl, hC3, hT3⟩
  rw [hT3.eq]
  simp only [over]
  show W _ _
  repeat' (first | refine qQb ?_ | refine Ab (fun _ => ?_) (fun _ => ?_))
  refine ⟨hil, ?_, rfl, rfl, rfl, rfl, rfl, by show AV.int _ _ = AV.int _ _; congr 1, trivial⟩
  rw [gS mkN nd hil, gS mkS sc hil, ← hnd, ← hsc, ← hw]
  exact hC3
 ·have hin : i = trees.length := by omega
  repeat' (first | refine qQb ?_ | refine Ab (fun _ => ?_) (fun _ => ?_))
  rw [hin, Bp] at hC
  exact ⟨rfl, hC, rfl, rfl, trivial⟩
def clAt (nd rc sc : List Bool) (a : Nat) : Bool := sc.getD a default && (nd.getD a default || rc.getD a default) || nd.getD a default && rc.getD a default
theorem sA {k n : Nat} {nd rc sc : List Bool} {T : Tmps} {H : Heap} (hk : 1000000 ≤ k) (hn : n < 100000) (hC : CAt H n nd rc sc)
    (hT : Has T [(5, .ptr 3 1 1 3 0 0), (83, .int .i64 n), (84, .int .i64 0)]) :
    W (Bb (CF k) noX 0 k (.loop Mg) T H) (fun ex T' H' => (ex = .exit 8 ∧ idxL (clAt nd rc sc) (List.range n) 0 = -1) ∨ (ex = .ret ∧ 0 ≤ idxL (clAt nd rc sc) (List.range n) 0 ∧ T' 4 = .int .i64 (idxL (clAt nd rc sc) (List.range n) 0))) := by
  obtain ⟨g3, g0, g1, g2, l0, l1, l2⟩ := hC
  refine Fx n (fun i T' H' => H' = H ∧ idxL (clAt nd rc sc) (List.range n) 0 = idxL (clAt nd rc sc) ((List.range n).drop i) i ∧ Has T' [(5, .ptr 3 1 1 3 0 0), (83, .int .i64 n), (84, .int .i64 (i : Nat))]) ⟨rfl, rfl, hT⟩ (by omega) ?_
  rintro i T H' hi ⟨rfl, hgo, hT⟩
  rw [hT.eq]
  simp only [over]
  unfold Mg
  by_cases hil : i < n
  · rw [Cg (by simpa using hil), List.getElem_range] at hgo
    have hix : 0 + (i : Int).toNat = i := by omega
    have hc : clAt nd rc sc i = (sc.getD (0 + (i : Int).toNat) default && (nd.getD (0 + (i : Int).toNat) default || rc.getD (0 + (i : Int).toNat) default) || nd.getD (0 + (i : Int).toNat) default && rc.getD (0 + (i : Int).toNat) default) := by rw [hix]; rfl
    simp only [idxL, hc] at hgo
    cases hs : sc.getD (0 + (i : Int).toNat) default <;> cases hd : nd.getD (0 + (i : Int).toNat) default <;> cases hr : rc.getD (0 + (i : Int).toNat) default
    all_goals
      rw [hs, hd, hr] at hgo
      repeat' (first
        | refine qS ?_ | refine qN ?_ | refine Bj ?_ (hr := by exact g3)
        | refine Ep rfl rfl (by exact g2) (by rw [Ak]; exact l2) (by omega) (by omega) (by omega) rfl rfl ?_
        | refine Ep rfl rfl (by exact g0) (by rw [Ak]; exact l0) (by omega) (by omega) (by omega) rfl rfl ?_
        | refine Ep rfl rfl (by exact g1) (by rw [Ak]; exact l1) (by omega) (by omega) (by omega) rfl rfl ?_
        | refine Gx (enc := AV.bool) (l := sc) ?_ (hr := by exact g2) (hv0 := by exact l2) (hv := by exact Ay AV.bool hs)
        | refine Gx (enc := AV.bool) (l := nd) ?_ (hr := by exact g0) (hv0 := by exact l0) (hv := by exact Ay AV.bool hd)
        | refine Gx (enc := AV.bool) (l := rc) ?_ (hr := by exact g1) (hv0 := by exact l1) (hv := by exact Ay AV.bool hr) | refine qQb ?_ | refine Ab (fun _ => ?_) (fun _ => ?_))
      first
        | exact ⟨hil, rfl, hgo, rfl, rfl, by show AV.int _ _ = AV.int _ _; congr 1, trivial⟩
        | (refine .inr ⟨rfl, ?_, ?_⟩
           · rw [hgo]; exact Xs i
           · rw [hgo]; rfl)
  · have hin : i = n := by omega
    repeat' (first | refine qS ?_ | refine qN ?_ | refine qQb ?_ | refine Ab (fun _ => ?_) (fun _ => ?_))
    refine .inl ⟨rfl, ?_⟩
    rw [hgo, hin, Bm (by simp)]
    rfl
def Li (n : Nat) (bl : List Nat) (ts : List WS) : Nat := (idxL (clAt (ts.foldl mkN (List.replicate n false)) (bl.foldl mark (List.replicate n false)) (ts.foldl mkS (List.replicate n false))) (List.range n) 0).toNat
theorem Aes (k : Nat) (hk : 1000050 ≤ k) (t f : Bool) (l : List UInt8) (n : Nat) (bl : List Nat) (ts : List WS) (a0 a1 a2 a3 a4 a5 a6 : AV) (hn : n < 100000) (hb : ∀ a ∈ bl, a < n) (hbl : bl.length < 1000) (ht : ∀ w ∈ ts, w.fits n) (htl : ts.length < 1000) :
  FnV (CF k) Mn [.iptr t [a0, a1, a2, a3, a4, a5, a6, Hi false bl, .islc t false 1 (ts.map (WS.iv f l))], .int .i64 n] (.int .i64 (Li n bl ts)) := by
 obtain ⟨t', f', s', hni, hs'⟩ := Zo false bl
 rw [hni]
 have hlm : (ts.map (WS.iv f l)).length = ts.length := Ak _
 have e : (List.replicate n false).map AV.bool = List.replicate n (.bool false) := Hg
 have hlr : (List.replicate n false).length = n := Ev
 refine fnk (by omega) Sp rfl ?_
 unfold __open_Image__clash
 repeat' (first
  | refine qS ?_ | refine qN ?_ | refine Dh ?_ | refine Ba (n := bl.length) rfl (Be _) rfl rfl ?_ | refine Pr n rfl rfl rfl (by omega) rfl rfl (by kernel_rfl) ?_
  | refine Ic (cs := [.slc 0 1 n 1 0 n none, .slc 1 1 n 1 0 n none, .slc 2 1 n 1 0 n none]) ?_ (hc := by kernel_rfl) (hl := by kernel_rfl) | refine Iz ?_ (hl := by kernel_rfl)
  | refine qQb ?_ | refine Ab (fun _ => ?_) (fun _ => ?_))
 refine W.mono (xP (k := k - 1) (n := n) (bl := bl) (nd := List.replicate n false) (rc := List.replicate n false) (sc := List.replicate n false) (t := t') (f := f') (s := s') (xv := .iptr t [a0, a1, a2, a3, a4, a5, a6, .islc t' f' s' (NL bl), .islc t false 1 (ts.map (WS.iv f l))]) (by omega) hs' hb (by omega) hn ?_ ?_) ?_
 ·exact ⟨rfl, by rw [e]; rfl, by rw [e]; rfl, by rw [e]; rfl, hlr, hlr, hlr⟩
 ·exact ⟨rfl, rfl, rfl, rfl, rfl, rfl, trivial⟩
 rintro ex T2 H2 ⟨rfl, hC2, hT2⟩
 rw [hT2.eq]
 simp only [over]
 show W _ _
 repeat' (first | refine qS ?_ | refine qN ?_ | refine Dh ?_ | refine Ba (n := ts.length) rfl hlm rfl rfl ?_ | refine qQb ?_ | refine Ab (fun _ => ?_) (fun _ => ?_))
 refine W.mono (pO (k := k - 1) (n := n) (trees := ts) (nd := List.replicate n false) (rc := bl.foldl mark (List.replicate n false)) (sc := List.replicate n false) (t := t) (f := f) (l := l) (xv := .iptr t [a0, a1, a2, a3, a4, a5, a6, .islc t' f' s' (NL bl), .islc t false 1 (ts.map (WS.iv f l))]) (by omega) ht htl hn hC2 ?_) ?_
 ·exact ⟨rfl, rfl, rfl, rfl, rfl, rfl, trivial⟩
 rintro ex T3 H3 ⟨rfl, hC3, hT3⟩
 rw [hT3.eq]
 simp only [over]
 show W _ _
 repeat' (first | refine qS ?_ | refine qN ?_ | refine qQb ?_ | refine Ab (fun _ => ?_) (fun _ => ?_))
 refine W.mono (sA (k := k - 1) (n := n) (by omega) hn hC3 ?_) ?_
 ·exact ⟨rfl, rfl, rfl, trivial⟩
 rintro ex T4 H4 (⟨rfl, hi⟩ | ⟨rfl, hi, h4⟩)
 ·unfold Li
  rw [hi]
  show W _ _
  repeat' (first | refine qS ?_ | refine qN ?_ | refine qQb ?_ | refine Ab (fun _ => ?_) (fun _ => ?_))
  exact ⟨Or.inr rfl, _, rfl, rfl⟩
 ·refine ⟨Or.inr rfl, T4 4, rfl, ?_⟩
  rw [h4]
  unfold Li
  rw [Int.toNat_of_nonneg hi]
  rfl
end Go.Proofs.Ytkaiiopoilpjeaa
