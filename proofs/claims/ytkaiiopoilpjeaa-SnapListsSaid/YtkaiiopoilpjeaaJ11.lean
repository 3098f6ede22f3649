import Derived.Test.YtkaiiopoilpjeaaJ10
set_option linter.unusedSimpArgs false
set_option linter.unusedVariables false
set_option maxRecDepth 10000
set_option maxHeartbeats 16000000
namespace Go.Proofs.Ytkaiiopoilpjeaa
open Go.AI
attribute [local irreducible] aops Bb Cj Dm aop W WO
theorem xK {k n : Nat} {z : List Nat} {v0 v1 v5 : AV} {T : Tmps} {H : Heap} (hk : 1000 ≤ k) (hn : 4 ≤ n ∧ n < 100000) (hz : z.length = n) (h1 : H 1 = ⟨1, false, .row 1 (NL z)⟩)
  (hT : Has T [(0, v0), (1, v1), (5, v5), (7, .slc 1 1 n 1 0 n none), (30, .int .i64 0)]) :
  W (Bb (CF k) noX 0 k (.loop gY) T H) (fun ex T' H' => ex = .exit 0 ∧ H' 1 = ⟨1, false, .row 1 (NL ((z.set 0 1).set 1 1))⟩ ∧ H' 2 = H 2 ∧ H' 6 = H 6 ∧ Has T' [(0, v0), (1, v1), (5, v5), (7, .slc 1 1 n 1 0 n none)]) := by
 refine Fx 2 (fun i T' H' => H' 1 = ⟨1, false, .row 1 (NL ((List.range i).foldl one z))⟩ ∧ H' 2 = H 2 ∧ H' 6 = H 6 ∧ Has T' [(0, v0), (1, v1), (5, v5), (7, .slc 1 1 n 1 0 n none), (30, .int .i64 (i : Nat))]) ⟨h1, rfl, rfl, hT⟩ (by omega) ?_
 rintro i T H' hi ⟨g1, g2, g6, hT⟩
 rw [hT.eq]
 simp only [over]
 unfold gY
 by_cases hil : i < 2
 ·have hst : (List.range (i + 1)).foldl one z = one ((List.range i).foldl one z) i := by rw [jE, Aaa]; rfl
  obtain ⟨c, hc⟩ : ∃ q, q = (List.range i).foldl one z := ⟨_, rfl⟩
  have hl : c.length = n := by rw [hc, Qx]; exact hz
  rw [← hc] at g1 hst
  have hix : 0 + (i : Int).toNat = i := by omega
  repeat' (first
   | refine qS ?_ | refine Ep rfl rfl (by exact g1) (by rw [Be]; exact hl) (by omega) (by omega) (by omega) rfl rfl ?_
   | refine Ho (enc := nav) (l := c) (a := 1) ?_ (hr := by exact g1) (hv0 := by exact hl) | refine qQb ?_ | refine Ab (fun _ => ?_) (fun _ => ?_))
  refine ⟨hil, ?_, g2, g6, rfl, rfl, rfl, rfl, by show AV.int _ _ = AV.int _ _; congr 1, trivial⟩
  rw [hst]
  show (⟨1, false, .row 1 ((c.set (0 + (i : Int).toNat) 1).map nav)⟩ : Blk) = _
  rw [hix]; rfl
 ·obtain rfl : i = 2 := by omega
  repeat' (first | refine qQb ?_ | refine Ab (fun _ => ?_) (fun _ => ?_))
  exact ⟨rfl, g1, g2, g6, rfl, rfl, rfl, rfl, trivial⟩
theorem tG {k n : Nat} {z bl : List Nat} {t f : Bool} {s : Nat} {v0 v1 v5 : AV} {T : Tmps} {H : Heap} (hk : 1000000 ≤ k) (hn : n < 100000) (hs : s = 1 ∨ bl = []) (hb : ∀ a ∈ bl, a < n) (hbl : bl.length < 1000) (hz : z.length = n) (h1 : H 1 = ⟨1, false, .row 1 (NL z)⟩)
  (hT : Has T [(0, v0), (1, v1), (5, v5), (7, .slc 1 1 n 1 0 n none), (40, .islc t f s (NL bl)), (41, .int .i64 bl.length), (42, .int .i64 0)]) :
  W (Bb (CF k) noX 0 k (.loop fT) T H) (fun ex T' H' => ex = .exit 2 ∧ H' 1 = ⟨1, false, .row 1 (NL (bl.foldl one z))⟩ ∧ H' 2 = H 2 ∧ H' 6 = H 6 ∧ Has T' [(0, v0), (1, v1), (5, v5), (7, .slc 1 1 n 1 0 n none)]) := by
 refine Fx bl.length (fun i T' H' => H' 1 = ⟨1, false, .row 1 (NL ((bl.take i).foldl one z))⟩ ∧ H' 2 = H 2 ∧ H' 6 = H 6 ∧ Has T' [(0, v0), (1, v1), (5, v5), (7, .slc 1 1 n 1 0 n none), (40, .islc t f s (NL bl)), (41, .int .i64 bl.length), (42, .int .i64 (i : Nat))]) ⟨h1, rfl, rfl, hT⟩ (by omega) ?_
 rintro i T H' hi ⟨g1, g2, g6, hT⟩
 rw [hT.eq]
 simp only [over]
 unfold fT
 by_cases hil : i < bl.length
 ·obtain rfl : s = 1 := hs.resolve_right (fun h => by rw [h] at hil; simp at hil)
  obtain ⟨a, ha⟩ : ∃ a, a = bl.getD i default := ⟨_, rfl⟩
  have han : a < n := hb a (by rw [ha]; simp [hil])
  have hst := Jn one z hil
  obtain ⟨c, hc⟩ : ∃ q, q = (bl.take i).foldl one z := ⟨_, rfl⟩
  have hl : c.length = n := by rw [hc, Qx]; exact hz
  rw [← hc] at g1
  rw [← hc, ← ha] at hst
  have hix : 0 + (a : Int).toNat = a := by omega
  repeat' (first
   | refine qS ?_ | refine Iu (enc := nav) a rfl rfl (by omega) (by omega) ha.symm rfl rfl ?_
   | refine Ep rfl rfl (by exact g1) (by rw [Be]; exact hl) (by omega) (by omega) (by omega) rfl rfl ?_
   | refine Ho (enc := nav) (l := c) (a := 1) ?_ (hr := by exact g1) (hv0 := by exact hl) | refine qQb ?_ | refine Ab (fun _ => ?_) (fun _ => ?_))
  refine ⟨hil, ?_, g2, g6, rfl, rfl, rfl, rfl, rfl, rfl, by show AV.int _ _ = AV.int _ _; congr 1, trivial⟩
  rw [hst]
  show (⟨1, false, .row 1 ((c.set (0 + (a : Int).toNat) 1).map nav)⟩ : Blk) = _
  rw [hix]; rfl
 ·have hin : i = bl.length := by omega
  repeat' (first | refine qQb ?_ | refine Ab (fun _ => ?_) (fun _ => ?_))
  rw [hin, Bp] at g1
  exact ⟨rfl, g1, g2, g6, rfl, rfl, rfl, rfl, trivial⟩
theorem yW {k : Nat} {recs : List Rec} {t f' : Bool} {s' : Nat} {root0 : Nat} {v0 v1 v5 v7 : AV} {T : Tmps} {H : Heap} (hk : 1000000 ≤ k) (hs : s' = 8 ∨ recs = []) (hl : recs.length < 1000)
  (h2 : H 2 = ⟨1, false, .row 1 (NL [root0])⟩)
  (hT : Has T [(0, v0), (1, v1), (5, v5), (7, v7), (11, .slc 2 1 1 1 0 1 none), (61, .islc t f' s' (recs.map Rec.av)), (62, .int .i64 recs.length), (63, .int .i64 0)]) :
  W (Bb (CF k) noX 0 k (.loop eX) T H) (fun ex T' H' => ex = .exit 4 ∧ H' 1 = H 1 ∧ H' 6 = H 6 ∧ H' 2 = ⟨1, false, .row 1 (NL (root0 :: recs.map Rec.root))⟩ ∧
   Has T' [(0, v0), (1, v1), (5, v5), (7, v7), (11, .slc 2 1 (recs.length + 1) 1 0 (recs.length + 1) none)]) := by
 refine Fx recs.length (fun i T' H' => H' 1 = H 1 ∧ H' 6 = H 6 ∧ H' 2 = ⟨1, false, .row 1 (NL (root0 :: (recs.take i).map Rec.root))⟩ ∧
   Has T' [(0, v0), (1, v1), (5, v5), (7, v7), (11, .slc 2 1 (i + 1) 1 0 (i + 1) none), (61, .islc t f' s' (recs.map Rec.av)), (62, .int .i64 recs.length), (63, .int .i64 (i : Nat))]) ⟨rfl, rfl, h2, hT⟩ (by omega) ?_
 rintro i T H' hi ⟨g1, g6, g2, hT⟩
 rw [hT.eq]
 simp only [over]
 unfold eX
 by_cases hil : i < recs.length
 ·obtain rfl : s' = 8 := hs.resolve_right (fun h => by rw [h] at hil; simp at hil)
  obtain ⟨⟨b1, b2, b3, b4, b5, b6, b7, b8⟩, hr⟩ : ∃ r, r = recs.getD i default := ⟨_, rfl⟩
  have hri : recs[i] = ⟨b1, b2, b3, b4, b5, b6, b7, b8⟩ := by rw [hr]; simp [hil]
  have he2 : (recs.map Rec.av)[(i : Int).toNat]? = some (.agg [.int .i64 b1, .int .i64 b2, .int .i64 b3, .int .i64 b4, .int .i64 b5, .int .i64 b6, .int .i64 b7, .int .i64 b8]) := by
   rw [Bd, Cd, Ai hil, hri]; rfl
  have hn1 : (NL (root0 :: (recs.take i).map Rec.root)).length = i + 1 := by rw [Be]; simp; omega
  have e1 : NL (root0 :: (recs.take (i + 1)).map Rec.root) = NL (root0 :: (recs.take i).map Rec.root) ++ [.int .i64 b4] := by
   rw [Bh hil, hri, Br, ← Hf]; exact Zt _ _
  repeat' (first
   | refine qS ?_ | refine Dv rfl rfl (by omega) he2 rfl rfl ?_ | refine It rfl rfl rfl (by exact g2) hn1 rfl (by omega) rfl rfl (fun _ => ?_) | refine qQb ?_
   | refine Ab (fun _ => ?_) (fun _ => ?_) | refine Ax fun _ => ?_)
  exact ⟨hil, g1, g6, by rw [e1]; rfl, rfl, rfl, rfl, rfl, rfl, rfl, rfl, by show AV.int _ _ = AV.int _ _; congr 1, trivial⟩
 ·have hin : i = recs.length := by omega
  repeat' (first | refine qQb ?_ | refine Ab (fun _ => ?_) (fun _ => ?_) | refine Ax fun _ => ?_)
  subst hin
  rw [Bp] at g2
  exact ⟨rfl, g1, g6, g2, rfl, rfl, rfl, rfl, rfl, trivial⟩
theorem zJ {k m : Nat} {l : List UInt8} {f : Bool} {ps : List (Nat × WS)} {s : List Nat × List Bool} {a0 a1 a2 a3 a4 a5 a6 a7 : AV} {T : Tmps} {H : Heap} (hk : 1000060 ≤ k) (hd : Dev l) (hl : ps.length < 100) (hg : ∀ p ∈ ps, p.2.good l) (hr : ∀ p ∈ ps, p.1 < nb l) (hm : m < 1000)
  (h1 : H 1 = ⟨1, false, .row 1 (NL s.1)⟩) (h6 : H 6 = ⟨1, false, .row 1 (s.2.map AV.bool)⟩) (h2 : H 2 = ⟨1, false, .row 1 (NL (ps.map Prod.fst))⟩) (hc : CB (nb l) m s)
  (hT : Has T [(0, .islc false f 1 (BL l)), (1, .iptr false [a0, a1, a2, a3, a4, a5, a6, a7, .islc false false 1 ((ps.map Prod.snd).map (WS.iv f l))]), (7, .slc 1 1 (nb l) 1 0 (nb l) none), (11, .slc 2 1 ps.length 1 0 ps.length none), (14, .slc 6 1 (nb l) 1 0 (nb l) none), (75, .slc 2 1 ps.length 1 0 ps.length none), (76, .int .i64 ps.length), (77, .int .i64 0)]) :
  W (Bb (CF k) noX 0 k (.loop fR) T H) (fun ex T' H' => ex = .exit 6 ∧ H' 1 = ⟨1, false, .row 1 (NL (ps.foldl (Fj l) s).1)⟩ ∧ Has T' [(7, .slc 1 1 (nb l) 1 0 (nb l) none)]) := by
 have hn := hd.nb
 refine Fx ps.length (fun i T' H' => H' 1 = ⟨1, false, .row 1 (NL ((ps.take i).foldl (Fj l) s).1)⟩ ∧ H' 6 = ⟨1, false, .row 1 (((ps.take i).foldl (Fj l) s).2.map AV.bool)⟩ ∧ H' 2 = ⟨1, false, .row 1 (NL (ps.map Prod.fst))⟩ ∧ CB (nb l) (m + 8001 * i) ((ps.take i).foldl (Fj l) s) ∧
   Has T' [(0, .islc false f 1 (BL l)), (1, .iptr false [a0, a1, a2, a3, a4, a5, a6, a7, .islc false false 1 ((ps.map Prod.snd).map (WS.iv f l))]), (7, .slc 1 1 (nb l) 1 0 (nb l) none), (11, .slc 2 1 ps.length 1 0 ps.length none), (14, .slc 6 1 (nb l) 1 0 (nb l) none), (75, .slc 2 1 ps.length 1 0 ps.length none), (76, .int .i64 ps.length), (77, .int .i64 (i : Nat))]) ⟨h1, h6, h2, hc, hT⟩ (by omega) ?_
 rintro i T H' hi ⟨g1, g6, g2, hcb, hT⟩
 rw [hT.eq]
 simp only [over]
 unfold fR
 have hln : (NL (ps.map Prod.fst)).length = ps.length := by rw [Be]; simp
 by_cases hil : i < ps.length
 ·obtain ⟨⟨root, w⟩, hrw⟩ : ∃ p, p = ps.getD i default := ⟨_, rfl⟩
  have hpi : ps[i] = (root, w) := by rw [hrw]; simp [hil]
  have hgw : w.good l := by have := hg ps[i] (Bz hil); rw [hpi] at this; exact this
  have hrn : root < nb l := by have := hr ps[i] (Bz hil); rw [hpi] at this; exact this
  obtain ⟨⟨⟨hwm, hwb, hwn⟩, hwl⟩, hpt⟩ := hgw
  obtain ⟨f2, s2', hni, hs2⟩ := Jk w.nodes
  have hr1 : (NL (ps.map Prod.fst))[0 + (i : Int).toNat]? = some (.int .i64 root) := by
   simp only [NL, Da, Bd, Fh, Cd, Ai hil, hpi, Le]; rfl
  have he2 : ((ps.map Prod.snd).map (WS.iv f l))[(i : Int).toNat]? = some (.iptr false [.islc false f 1 (BL l), .int .i64 (nb l : Nat), .islc false false 1 (NL w.m), .islc false f2 s2' (NL w.nodes), .bool w.bad]) := by
   rw [← hni]
   simp only [Bd, Fh, Cd, Ai hil, hpi, Le]; rfl
  have hst := Jn (Fj l) s hil
  obtain ⟨st, hs⟩ : ∃ q, q = (ps.take i).foldl (Fj l) s := ⟨_, rfl⟩
  rw [← hs, ← hrw] at hst
  rw [← hs] at g1 g6 hcb
  have hcb2 := gA (l := l) hcb (root, w) hwl
  obtain ⟨c, met⟩ := st
  have hcb3 : CB (nb l) (m + 8001 * i + 1) (bump c root, met) := ⟨by rw [Tv]; exact hcb.1, hcb.2.1, nE hcb.2.2⟩
  obtain ⟨hc1, hc2, hc3⟩ := hcb
  simp only at g1 g6 hc1 hc2 hc3
  have hlast : CB (nb l) (m + 8001 * (i + 1)) ((ps.take (i + 1)).foldl (Fj l) s) := by rw [hst]; exact hcb2.mono (by omega)
  have hix : 0 + (root : Int).toNat = root := by omega
  by_cases hr0 : root = 0
  ·have hr0' : (root : Int) = 0 := by omega
   have hb0 : bump c root = c := if_pos hr0
   rw [hb0] at hcb3
   repeat' (first
    | refine qS ?_ | refine Ep rfl rfl (by exact g2) hln (by omega) (by omega) (by omega) rfl rfl ?_ | refine Lu rfl (by exact g2) hln hr1 rfl rfl rfl ?_ | refine Dh ?_
    | refine Dv rfl rfl (by omega) he2 rfl rfl ?_ | refine Ba (n := w.nodes.length) rfl (Be _) rfl rfl ?_ | refine qQb ?_ | refine Ab (fun _ => ?_) (fun _ => ?_))
   refine W.mono (mG (k := k) (m := m + 8001 * i + 1) (l := l) (f := f) (s := (c, met)) (nodes := w.nodes) (t' := false) (f' := f2) (s' := s2') (v1 := .iptr false [a0, a1, a2, a3, a4, a5, a6, a7, .islc false false 1 ((ps.map Prod.snd).map (WS.iv f l))]) (v11 := .slc 2 1 ps.length 1 0 ps.length none) (v75 := .slc 2 1 ps.length 1 0 ps.length none) (v76 := .int .i64 ps.length) (v77 := .int .i64 (i : Nat)) (by omega) hd hs2 hwl hwn hpt (by omega) (by exact g1) (by exact g6) hcb3 ?_) ?_
   ·exact ⟨rfl, rfl, rfl, rfl, rfl, rfl, rfl, rfl, rfl, rfl, rfl, trivial⟩
   rintro ex T2 H2 ⟨rfl, q1, q6, q2, hT2⟩
   rw [hT2.eq]
   simp only [over]
   show W _ _
   repeat' (first | refine qQb ?_ | refine Ab (fun _ => ?_) (fun _ => ?_))
   refine ⟨hil, ?_, ?_, q2.trans g2, hlast, rfl, rfl, rfl, rfl, rfl, rfl, rfl, by show AV.int _ _ = AV.int _ _; congr 1, trivial⟩
   ·rw [hst]; unfold Fj; simp only; rw [hb0]; exact q1
   ·rw [hst]; unfold Fj; simp only; rw [hb0]; exact q6
  ·obtain ⟨q, hq⟩ : ∃ q, q = c.getD root default := ⟨_, rfl⟩
   have hqm : q ≤ m + 8001 * i := hc3 q (by rw [hq]; simp [show root < c.length by omega])
   have hqv : c.getD (0 + (root : Int).toNat) default = q := by rw [hix]; exact hq.symm
   have hb1 : bump c root = c.set (0 + (root : Int).toNat) (q + 1) := by rw [vX hr0, hix, hq]
   rw [hb1] at hcb3
   repeat' (first
    | refine qS ?_ | refine Ep rfl rfl (by exact g2) hln (by omega) (by omega) (by omega) rfl rfl ?_ | refine Lu rfl (by exact g2) hln hr1 rfl rfl rfl ?_ | refine Dh ?_
    | refine Dv rfl rfl (by omega) he2 rfl rfl ?_ | refine Ba (n := w.nodes.length) rfl (Be _) rfl rfl ?_
    | refine Ep rfl rfl (by exact g1) (by rw [Be]; exact hc1) (by omega) (by omega) (by omega) rfl rfl ?_
    | refine Gx (enc := nav) (l := c) (v := .int .i64 q) ?_ (hr := by exact g1) (hv0 := by exact hc1) (hv := by exact Ay nav hqv)
    | refine Ho (enc := nav) (l := c) (a := q + 1) ?_ (hr := by exact g1) (hv0 := by exact hc1) | refine qQb ?_ | refine Ab (fun _ => ?_) (fun _ => ?_))
   refine W.mono (mG (k := k) (m := m + 8001 * i + 1) (l := l) (f := f) (s := (c.set (0 + (root : Int).toNat) (q + 1), met)) (nodes := w.nodes) (t' := false) (f' := f2) (s' := s2') (v1 := .iptr false [a0, a1, a2, a3, a4, a5, a6, a7, .islc false false 1 ((ps.map Prod.snd).map (WS.iv f l))]) (v11 := .slc 2 1 ps.length 1 0 ps.length none) (v75 := .slc 2 1 ps.length 1 0 ps.length none) (v76 := .int .i64 ps.length) (v77 := .int .i64 (i : Nat)) (by omega) hd hs2 hwl hwn hpt (by omega) (by rfl) (by exact g6) hcb3 ?_) ?_
   ·exact ⟨rfl, rfl, rfl, rfl, rfl, rfl, rfl, rfl, rfl, rfl, rfl, trivial⟩
   rintro ex T2 H2 ⟨rfl, q1, q6, q2, hT2⟩
   rw [hT2.eq]
   simp only [over]
   show W _ _
   repeat' (first | refine qQb ?_ | refine Ab (fun _ => ?_) (fun _ => ?_))
   refine ⟨hil, ?_, ?_, q2.trans g2, hlast, rfl, rfl, rfl, rfl, rfl, rfl, rfl, by show AV.int _ _ = AV.int _ _; congr 1, trivial⟩
   ·rw [hst]; unfold Fj; simp only; rw [hb1]; exact q1
   ·rw [hst]; unfold Fj; simp only; rw [hb1]; exact q6
 ·have hin : i = ps.length := by omega
  repeat' (first | refine qQb ?_ | refine Ab (fun _ => ?_) (fun _ => ?_))
  rw [hin, Bp] at g1
  exact ⟨rfl, g1, rfl, trivial⟩
theorem yB (k : Nat) (hk : 1000070 ≤ k) (f : Bool) (l : List UInt8) (hd : Dev l) (x : Img) (hx : x.fit l) : FnV (CF k) kV [.islc false f 1 (BL l), .iptr false (x.cs false f l)] (.islc false false 1 (NL (Dn l x))) := by
 have hn := hd.nb
 have hck := Mj (k - 1) (by omega) false f l hd
 obtain ⟨f1, s1, hr, hs1⟩ := rIvF x.recs
 obtain ⟨f2, s2, hb, hs2⟩ := Jk x.blocks
 have hfew := hx.few
 have hlen := hx.len
 have htl := hx.trees
 have hblk := hx.blk
 have htree := hx.tree
 have hroots := hx.roots
 unfold Img.cs
 rw [hr, hb]
 obtain ⟨⟨g, b, r, z, fi⟩, slot, recs, blocks, trees⟩ := x
 simp only at hr hb hs1 hs2 hfew hlen htl hblk htree hroots ⊢
 have hlr : (recs.map Rec.av).length = recs.length := Ak _
 have e : NL (List.replicate (nb l) 0) = List.replicate (nb l) (.int .i64 (0 : Nat)) := by simp only [NL, Hg]
 have eb : (List.replicate (nb l) false).map AV.bool = List.replicate (nb l) (.bool false) := Hg
 refine fnk (by omega) xX rfl ?_
 unfold walk_Of
 repeat' (first
  | refine qS ?_ | refine Pr (nb l) rfl rfl rfl (by omega) rfl rfl rfl ?_ | refine Ag (hck) (fun _ => ?_) (fun _ => ?_) | refine Ad (hck) ?_ | refine qQb ?_
  | refine Ab (fun _ => ?_) (fun _ => ?_) | refine Ax fun _ => ?_)
 refine W.mono (xK (k := k - 1) (n := nb l) (z := List.replicate (nb l) 0) (v0 := .islc false f 1 (BL l)) (v1 := .iptr false [.int .i64 g, .int .i64 b, .int .i64 r, .int .i64 z, .int .i64 fi, .int .i64 slot, .islc false f1 s1 (recs.map Rec.av), .islc false f2 s2 (NL blocks), .islc false false 1 (trees.map (WS.iv f l))]) (v5 := .int .i64 (nb l : Nat)) (by omega) (by omega) (by simp) ?_ ?_) ?_
 ·rw [e]; rfl
 ·exact ⟨rfl, rfl, rfl, rfl, rfl, trivial⟩
 rintro ex T2 H2 ⟨rfl, g1, g2, g6, hT2⟩
 rw [hT2.eq]
 simp only [over]
 show W _ _
 repeat' (first | refine qS ?_ | refine Dh ?_ | refine Ba (n := blocks.length) rfl (Be _) rfl rfl ?_ | refine qQb ?_ | refine Ab (fun _ => ?_) (fun _ => ?_) | refine Ax fun _ => ?_)
 refine W.mono (tG (k := k - 1) (n := nb l) (z := ((List.replicate (nb l) 0).set 0 1).set 1 1) (bl := blocks) (t := false) (f := f2) (s := s2) (v0 := .islc false f 1 (BL l)) (v1 := .iptr false [.int .i64 g, .int .i64 b, .int .i64 r, .int .i64 z, .int .i64 fi, .int .i64 slot, .islc false f1 s1 (recs.map Rec.av), .islc false f2 s2 (NL blocks), .islc false false 1 (trees.map (WS.iv f l))]) (v5 := .int .i64 (nb l : Nat)) (by omega) (by omega) hs2 (fun a ha => (hblk a ha).2) (by omega) (by simp) (by exact g1) ?_) ?_
 ·exact ⟨rfl, rfl, rfl, rfl, rfl, rfl, rfl, trivial⟩
 rintro ex T3 H3 ⟨rfl, i1, i2, i6, hT3⟩
 rw [hT3.eq]
 simp only [over]
 show W _ _
 have hg2 : (H3 2).gen = 0 := by rw [i2, g2]; rfl
 have hg6 : (H3 6).gen = 0 := by rw [i6, g6]; rfl
 repeat' (first | refine qS ?_ | refine Dh ?_ | refine Ba (n := recs.length) rfl hlr rfl rfl ?_ | refine qQb ?_ | refine Ab (fun _ => ?_) (fun _ => ?_) | refine Ax fun _ => ?_)
 refine W.mono (yW (k := k - 1) (recs := recs) (t := false) (f' := f1) (s' := s1) (root0 := r) (v0 := .islc false f 1 (BL l)) (v1 := .iptr false [.int .i64 g, .int .i64 b, .int .i64 r, .int .i64 z, .int .i64 fi, .int .i64 slot, .islc false f1 s1 (recs.map Rec.av), .islc false f2 s2 (NL blocks), .islc false false 1 (trees.map (WS.iv f l))]) (v5 := .int .i64 (nb l : Nat)) (v7 := .slc 1 1 (nb l) 1 0 (nb l) none) (by omega) hs1 (by omega) ?_ ?_) ?_
 ·show (⟨(H3 2).gen + 1, false, _⟩ : Blk) = _
  rw [hg2]; rfl
 ·refine ⟨rfl, rfl, rfl, rfl, ?_, rfl, rfl, rfl, trivial⟩
  show AV.slc 2 ((H3 2).gen + 1) 1 1 0 1 none = _
  rw [hg2]
 rintro ex T4 H4 ⟨rfl, j1, j6, j2, hT4⟩
 rw [hT4.eq]
 simp only [over]
 show W _ _
 have k1 : H4 1 = ⟨1, false, .row 1 (NL (blocks.foldl one (((List.replicate (nb l) 0).set 0 1).set 1 1)))⟩ := j1.trans i1
 have hg62 : (H4 6).gen = 0 := by rw [j6]; exact hg6
 repeat' (first | refine qS ?_ | refine Pr (nb l) rfl rfl rfl (by omega) rfl rfl rfl ?_ | refine qQb ?_ | refine Ab (fun _ => ?_) (fun _ => ?_) | refine Ax fun _ => ?_)
 have hzl : (r :: recs.map Rec.root).length = trees.length := by simp [htl]
 have hpl : ((r :: recs.map Rec.root).zip trees).length = recs.length + 1 := by rw [Ut, hzl, Nat.min_self, htl]
 have hp1 : ((r :: recs.map Rec.root).zip trees).map Prod.fst = r :: recs.map Rec.root := List.map_fst_zip (by omega)
 have hp2 : ((r :: recs.map Rec.root).zip trees).map Prod.snd = trees := List.map_snd_zip (by omega)
 refine W.mono (zJ (k := k - 1) (m := 1) (l := l) (f := f) (ps := (r :: recs.map Rec.root).zip trees) (s := (blocks.foldl one (((List.replicate (nb l) 0).set 0 1).set 1 1), List.replicate (nb l) false)) (a0 := .int .i64 g) (a1 := .int .i64 b) (a2 := .int .i64 r) (a3 := .int .i64 z) (a4 := .int .i64 fi) (a5 := .int .i64 slot) (a6 := .islc false f1 s1 (recs.map Rec.av)) (a7 := .islc false f2 s2 (NL blocks)) (by omega) hd (by omega) (fun p hp => htree _ (Lf hp).2) (fun p hp => hroots _ (Lf hp).1) (by omega) ?_ ?_ ?_ ?_ ?_) ?_
 ·exact k1
 ·show (⟨(H4 6).gen + 1, false, _⟩ : Blk) = _
  rw [hg62, eb]
 ·rw [hp1]; exact j2
 ·refine ⟨by rw [Qx]; simp, by simp, nZ _ fun v hv => ?_⟩
  rcases Eh hv with hv | rfl
  ·rcases Eh hv with hv | rfl
   ·rw [Et hv]; omega
   ·omega
  ·omega
 ·rw [hpl, hp2]
  refine ⟨rfl, rfl, rfl, rfl, ?_, rfl, rfl, rfl, trivial⟩
  show AV.slc 6 ((H4 6).gen + 1) _ 1 0 _ none = _
  rw [hg62]
 rintro ex T5 H5 ⟨rfl, m1, hT5⟩
 rw [hT5.eq]
 simp only [over]
 show W _ _
 repeat' (first | refine qQb ?_ | refine Ab (fun _ => ?_) (fun _ => ?_) | refine Ax fun _ => ?_)
 refine ⟨Or.inr rfl, .slc 1 1 (nb l) 1 0 (nb l) none, rfl, ?_⟩
 have hcl : (Dn l ⟨⟨g, b, r, z, fi⟩, slot, recs, blocks, trees⟩).length = nb l := (Rv hx).1
 exact Ge (out := true) m1 hcl 4
end Go.Proofs.Ytkaiiopoilpjeaa

