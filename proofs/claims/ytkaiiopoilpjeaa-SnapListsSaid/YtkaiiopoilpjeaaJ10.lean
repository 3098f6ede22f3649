import Derived.Test.YtkaiiopoilpjeaaJ9
set_option linter.unusedSimpArgs false
set_option linter.unusedVariables false
set_option maxRecDepth 10000
set_option maxHeartbeats 16000000
namespace Go.Proofs.Ytkaiiopoilpjeaa
open Go.AI
attribute [local irreducible] aops Bb Cj Dm aop W WO
theorem vX {c : List Nat} {p : Nat} (h : p ≠ 0) : bump c p = c.set p (c.getD p default + 1) := if_neg h
theorem Ael {k n m : Nat} {c ps : List Nat} {v0 v1 v11 v14 v75 v76 v77 v99 v100 v101 : AV} {T : Tmps} {H : Heap} (hk : 1000000 ≤ k) (h8 : ps.length = 8) (hp : ∀ p ∈ ps, p < n) (hn : n < 100000) (hm : m < 1000000000) (h1 : H 1 = ⟨1, false, .row 1 (NL c)⟩) (hc : c.length = n) (hcm : ∀ v ∈ c, v ≤ m)
  (hT : Has T [(0, v0), (1, v1), (7, .slc 1 1 n 1 0 n none), (11, v11), (14, v14), (75, v75), (76, v76), (77, v77), (99, v99), (100, v100), (101, v101), (120, .agg (NL ps)), (121, .int .i64 0)]) :
  W (Bb (CF k) noX 0 k (.loop fW) T H) (fun ex T' H' => ex = .exit 10 ∧ H' 1 = ⟨1, false, .row 1 (NL (ps.foldl bump c))⟩ ∧ H' 2 = H 2 ∧ H' 6 = H 6 ∧
   Has T' [(0, v0), (1, v1), (7, .slc 1 1 n 1 0 n none), (11, v11), (14, v14), (75, v75), (76, v76), (77, v77), (99, v99), (100, v100), (101, v101)]) := by
 refine Fx 8 (fun i T' H' => H' 1 = ⟨1, false, .row 1 (NL ((ps.take i).foldl bump c))⟩ ∧ H' 2 = H 2 ∧ H' 6 = H 6 ∧
   Has T' [(0, v0), (1, v1), (7, .slc 1 1 n 1 0 n none), (11, v11), (14, v14), (75, v75), (76, v76), (77, v77), (99, v99), (100, v100), (101, v101), (120, .agg (NL ps)), (121, .int .i64 (i : Nat))]) ⟨h1, rfl, rfl, hT⟩ (by omega) ?_
 rintro i T H' hi ⟨g1, g2, g6, hT⟩
 rw [hT.eq]
 simp only [over]
 unfold fW
 by_cases hil : i < 8
 ·have hil2 : i < ps.length := by omega
  obtain ⟨p, hpd⟩ : ∃ p, p = ps.getD i default := ⟨_, rfl⟩
  have hpn : p < n := hp p (by rw [hpd]; simp [hil2])
  have hst := Jn bump c hil2
  obtain ⟨c2, hc2⟩ : ∃ q, q = (ps.take i).foldl bump c := ⟨_, rfl⟩
  rw [← hc2, ← hpd] at hst
  rw [← hc2] at g1
  have hl2 : c2.length = n := by rw [hc2, Uw]; exact hc
  have hle : ∀ v ∈ c2, v ≤ m + 8 := fun v hv => by
   have := fY (ps.take i) hcm v (by rw [← hc2]; exact hv)
   rw [Cf] at this
   omega
  by_cases hp0 : p = 0
  ·have hp0' : (p : Int) = 0 := by omega
   repeat' (first | refine qS ?_ | refine Jh (enc := nav) p rfl rfl h8 (by omega) (by omega) hpd.symm rfl rfl ?_ | refine qQb ?_ | refine Ab (fun _ => ?_) (fun _ => ?_))
   refine ⟨hil, ?_, g2, g6, rfl, rfl, rfl, rfl, rfl, rfl, rfl, rfl, rfl, rfl, rfl, rfl, by show AV.int _ _ = AV.int _ _; congr 1, trivial⟩
   rw [hst, hp0]
   exact g1
  ·obtain ⟨q, hq⟩ : ∃ q, q = c2.getD p default := ⟨_, rfl⟩
   have hqm : q ≤ m + 8 := hle q (by rw [hq]; simp [show p < c2.length by omega])
   have hix : 0 + (p : Int).toNat = p := by omega
   have hqv : c2.getD (0 + (p : Int).toNat) default = q := by rw [hix]; exact hq.symm
   repeat' (first
    | refine qS ?_ | refine Jh (enc := nav) p rfl rfl h8 (by omega) (by omega) hpd.symm rfl rfl ?_
    | refine Ep rfl rfl (by exact g1) (by rw [Be]; exact hl2) (by omega) (by omega) (by omega) rfl rfl ?_
    | refine Gx (enc := nav) (l := c2) (v := .int .i64 q) ?_ (hr := by exact g1) (hv0 := by exact hl2) (hv := by exact Ay nav hqv)
    | refine Ho (enc := nav) (l := c2) (a := q + 1) ?_ (hr := by exact g1) (hv0 := by exact hl2) | refine qQb ?_ | refine Ab (fun _ => ?_) (fun _ => ?_))
   refine ⟨hil, ?_, g2, g6, rfl, rfl, rfl, rfl, rfl, rfl, rfl, rfl, rfl, rfl, rfl, rfl, by show AV.int _ _ = AV.int _ _; congr 1, trivial⟩
   rw [hst, vX hp0, ← hq]
   show (⟨1, false, .row 1 ((c2.set (0 + (p : Int).toNat) (q + 1)).map nav)⟩ : Blk) = _
   rw [hix]; rfl
 ·have hin : i = 8 := by omega
  repeat' (first | refine qQb ?_ | refine Ab (fun _ => ?_) (fun _ => ?_))
  rw [hin, ← h8, Bp] at g1
  exact ⟨rfl, g1, g2, g6, rfl, rfl, rfl, rfl, rfl, rfl, rfl, rfl, rfl, rfl, rfl, trivial⟩
theorem mG {k m : Nat} {l : List UInt8} {f : Bool} {s : List Nat × List Bool} {nodes : List Nat} {t' f' : Bool} {s' : Nat} {v1 v11 v75 v76 v77 : AV} {T : Tmps} {H : Heap} (hk : 1000050 ≤ k) (hd : Dev l) (hs' : s' = 1 ∨ nodes = []) (hnl : nodes.length < 1000) (hnb : ∀ a ∈ nodes, 2 ≤ a ∧ a < nb l) (hpt : ∀ a ∈ nodes, iX l a) (hm : m < 100000000)
  (h1 : H 1 = ⟨1, false, .row 1 (NL s.1)⟩) (h6 : H 6 = ⟨1, false, .row 1 (s.2.map AV.bool)⟩) (hc : CB (nb l) m s)
  (hT : Has T [(0, .islc false f 1 (BL l)), (1, v1), (7, .slc 1 1 (nb l) 1 0 (nb l) none), (11, v11), (14, .slc 6 1 (nb l) 1 0 (nb l) none), (75, v75), (76, v76), (77, v77), (99, .islc t' f' s' (NL nodes)), (100, .int .i64 nodes.length), (101, .int .i64 0)]) :
  W (Bb (CF k) noX 0 k (.loop hM) T H) (fun ex T' H' => ex = .exit 8 ∧ H' 1 = ⟨1, false, .row 1 (NL (nodes.foldl (Ey l) s).1)⟩ ∧ H' 6 = ⟨1, false, .row 1 ((nodes.foldl (Ey l) s).2.map AV.bool)⟩ ∧ H' 2 = H 2 ∧
   Has T' [(0, .islc false f 1 (BL l)), (1, v1), (7, .slc 1 1 (nb l) 1 0 (nb l) none), (11, v11), (14, .slc 6 1 (nb l) 1 0 (nb l) none), (75, v75), (76, v76), (77, v77)]) := by
 have hn := hd.nb
 refine Fx nodes.length (fun i T' H' => H' 1 = ⟨1, false, .row 1 (NL ((nodes.take i).foldl (Ey l) s).1)⟩ ∧ H' 6 = ⟨1, false, .row 1 (((nodes.take i).foldl (Ey l) s).2.map AV.bool)⟩ ∧ H' 2 = H 2 ∧
   Has T' [(0, .islc false f 1 (BL l)), (1, v1), (7, .slc 1 1 (nb l) 1 0 (nb l) none), (11, v11), (14, .slc 6 1 (nb l) 1 0 (nb l) none), (75, v75), (76, v76), (77, v77), (99, .islc t' f' s' (NL nodes)), (100, .int .i64 nodes.length), (101, .int .i64 (i : Nat))]) ⟨h1, h6, rfl, hT⟩ (by omega) ?_
 rintro i T H' hi ⟨g1, g6, g2, hT⟩
 rw [hT.eq]
 simp only [over]
 unfold hM
 by_cases hil : i < nodes.length
 ·obtain rfl : s' = 1 := hs'.resolve_right (fun h => by rw [h] at hil; simp at hil)
  obtain ⟨a, ha⟩ : ∃ a, a = nodes.getD i default := ⟨_, rfl⟩
  have ham : a ∈ nodes := by rw [ha]; simp [hil]
  have hab := hnb a ham
  have hap := hpt a ham
  have hst := Jn (Ey l) s hil
  have hcb := Ul (l := l) (nodes.take i) hc
  obtain ⟨s2, hs2⟩ : ∃ q, q = (nodes.take i).foldl (Ey l) s := ⟨_, rfl⟩
  rw [← hs2, ← ha] at hst
  rw [← hs2] at g1 g6 hcb
  obtain ⟨c2, met⟩ := s2
  obtain ⟨hc1, hc2, hc3⟩ := hcb
  simp only at g1 g6 hc1 hc2 hc3
  have hlt : (nodes.take i).length ≤ 1000 := by rw [Cf]; omega
  have hix : 0 + (a : Int).toNat = a := by omega
  cases hv : met.getD a default with
  | true =>
   have hv2 : met.getD (0 + (a : Int).toNat) default = true := by rw [hix]; exact hv
   have hst2 : (nodes.take (i + 1)).foldl (Ey l) s = (c2, met) := by rw [hst]; unfold Ey; simp only [hv, if_true]
   repeat' (first
    | refine qS ?_ | refine Iu (enc := nav) a rfl rfl (by omega) (by omega) ha.symm rfl rfl ?_
    | refine Ep rfl rfl (by exact g6) (by rw [Ak]; exact hc2) (by omega) (by omega) (by omega) rfl rfl ?_
    | refine Gx (enc := AV.bool) (l := met) (v := .bool true) ?_ (hr := by exact g6) (hv0 := by exact hc2) (hv := by exact Ay AV.bool hv2) | refine qQb ?_
    | refine Ab (fun _ => ?_) (fun _ => ?_))
   exact ⟨hil, by rw [hst2]; exact g1, by rw [hst2]; exact g6, g2, rfl, rfl, rfl, rfl, rfl, rfl, rfl, rfl, rfl, rfl, by show AV.int _ _ = AV.int _ _; congr 1, trivial⟩
  | false =>
   have hv2 : met.getD (0 + (a : Int).toNat) default = false := by rw [hix]; exact hv
   have hst2 : (nodes.take (i + 1)).foldl (Ey l) s = ((Er (blk l a)).1.ptr.foldl bump c2, met.set a true) := by rw [hst]; unfold Ey; simp only [hv, Ap, Bx]
   have hof := Qn k (by omega) false f l a hd.1 (hd.le hab.2)
   have hp := Yn k (by omega) false (f && decide (64 * (a + 1) = l.length)) (blk l a) (by rw [Yf (hd.le hab.2)]; omega)
   have hpl := Ma (blk l a)
   unfold iX at hap
   obtain ⟨⟨⟨v, ps⟩, e⟩, hx⟩ : ∃ x, x = Er (blk l a) := ⟨_, rfl⟩
   rw [← hx] at hp hpl hst2 hap
   simp only at hpl hst2 hap
   match ps, hpl with
   | [a1, a2, a3, a4, a5, a6, a7, a8], _ =>
    unfold Nod.av at hp
    simp only at hp
    repeat' (first
     | refine qS ?_ | refine Iu (enc := nav) a rfl rfl (by omega) (by omega) ha.symm rfl rfl ?_
     | refine Ep rfl rfl (by exact g6) (by rw [Ak]; exact hc2) (by omega) (by omega) (by omega) rfl rfl ?_
     | refine Gx (enc := AV.bool) (l := met) (v := .bool false) ?_ (hr := by exact g6) (hv0 := by exact hc2) (hv := by exact Ay AV.bool hv2)
     | refine Ho (enc := AV.bool) (l := met) (a := true) ?_ (hr := by exact g6) (hv0 := by exact hc2) | refine Gr (hof _ _) rfl rfl rfl ?_
     | refine Ag (hp) (fun _ => ?_) (fun _ => ?_) | refine Ad (hp) ?_ | refine qQb ?_ | refine Ab (fun _ => ?_) (fun _ => ?_))
    refine W.mono (Ael (k := k) (n := nb l) (m := m + 8 * (nodes.take i).length) (c := c2) (ps := [a1, a2, a3, a4, a5, a6, a7, a8]) (v0 := .islc false f 1 (BL l)) (v1 := v1) (v11 := v11) (v14 := .slc 6 1 (nb l) 1 0 (nb l) none) (v75 := v75) (v76 := v76) (v77 := v77) (v99 := .islc t' f' 1 (NL nodes)) (v100 := .int .i64 nodes.length) (v101 := .int .i64 (i : Nat)) (by omega) rfl hap (by omega) (by omega) (by exact g1) hc1 hc3 ?_) ?_
    ·exact ⟨rfl, rfl, rfl, rfl, rfl, rfl, rfl, rfl, rfl, rfl, rfl, rfl, rfl, trivial⟩
    rintro ex T2 H2 ⟨rfl, q1, q2, q6, hT2⟩
    rw [hT2.eq]
    simp only [over]
    show W _ _
    repeat' (first | refine qQb ?_ | refine Ab (fun _ => ?_) (fun _ => ?_))
    refine ⟨hil, by rw [hst2]; exact q1, ?_, q2.trans g2, rfl, rfl, rfl, rfl, rfl, rfl, rfl, rfl, rfl, rfl, by show AV.int _ _ = AV.int _ _; congr 1, trivial⟩
    rw [hst2]
    refine q6.trans ?_
    show (⟨1, false, .row 1 ((met.set (0 + (a : Int).toNat) true).map AV.bool)⟩ : Blk) = _
    rw [hix]
 ·have hin : i = nodes.length := by omega
  repeat' (first | refine qQb ?_ | refine Ab (fun _ => ?_) (fun _ => ?_))
  rw [hin, Bp] at g1 g6
  exact ⟨rfl, g1, g6, g2, rfl, rfl, rfl, rfl, rfl, rfl, rfl, rfl, trivial⟩
end Go.Proofs.Ytkaiiopoilpjeaa

