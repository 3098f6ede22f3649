/- Lemmas. -/
import Derived.Test.YtkaiiopoilpjeaaGreatMK2
set_option linter.unusedSimpArgs false
set_option linter.unusedVariables false
set_option maxRecDepth 10000
set_option maxHeartbeats 16000000
namespace Go.Proofs.YtkaiiopoilpjeaaGreat
open Go.AI
def mIv (w : WS) : AV := .islc false false 1 (NL w.m)
def nIv (w : WS) : AV := Jn false w.nodes
def rowA (j n : Nat) : AV := if n = 0 then .islc false true 0 [] else .slc j 1 n 1 0 n none
def Bej (H : Heap) (j : Nat) (es : List AV) : Prop := if es = [] then (H j).gen = 0 else H j = ⟨1, false, .row 1 es⟩
def Azc : AV := .agg [.int .i64 0, .int .i64 0, .int .i64 0, .int .i64 0, .int .i64 0, .int .i64 0, .islc false true 0 [], .islc false true 0 [], .islc false true 0 [], .islc false true 0 []]
def Bfq (H : Heap) (s : Sup) (slot : Nat) (rv bv mv nv : AV) : Prop := H 2 = ⟨1, false, .row 10 [.agg [.int .i64 s.gen, .int .i64 s.blocks, .int .i64 s.root, .int .i64 s.size, .int .i64 s.first, .int .i64 slot, rv, bv, mv, nv]]⟩
attribute [local irreducible] aops Br Cp Dp aop W WO
theorem Bkm {k n : Nat} {ts : List WS} {is : List Nat} {nd rc sc : List Bool} {v0 v2 v3 c0 c1 c2 c3 c4 c5 c6 c7 : AV} {T : Tmps} {H : Heap} (hk : 1000000 ≤ k) (hl : ts.length < 1000) (hn : n < 100000) (ht : ∀ w ∈ ts, w.fits n)
  (h2 : H 2 = ⟨1, false, .row 10 [.agg [c0, c1, c2, c3, c4, c5, c6, c7, .slc 5 1 ts.length 1 0 ts.length none, .slc 7 1 ts.length 1 0 ts.length none]]⟩) (h5 : H 5 = ⟨1, false, .row 1 (ts.map mIv)⟩) (h7 : H 7 = ⟨1, false, .row 1 (ts.map nIv)⟩) (h8 : H 8 = ⟨1, false, .row 1 (NL is)⟩) (hok : IsOk n is nd rc sc)
  (hT : Has T [(0, v0), (2, v2), (3, v3), (4, .ptr 2 1 1 10 0 0), (5, .int .i64 (n : Nat)), (11, .int .i64 (bad3 nd rc sc n : Nat)), (19, .slc 8 1 n 1 0 n none), (21, .int .i64 0)]) :
  W (Br (CF k) noX 0 k (.loop Bcm) T H) (fun ex T' H' => ex = .exit 6 ∧ (∀ j, j ≠ 8 → H' j = H j) ∧ Has T' [(2, v2), (3, v3), (4, .ptr 2 1 1 10 0 0), (5, .int .i64 (n : Nat)), (11, .int .i64 (bad3 (ts.foldl mkN nd) rc (ts.foldl mkS sc) n : Nat))]) := by
 have e5 : (ts.map mIv).length = ts.length := Ah _
 have e7 : (ts.map nIv).length = ts.length := Ah _
 refine Fj ts.length (fun i T' H' => (∀ j, j ≠ 8 → H' j = H j) ∧ (∃ is', H' 8 = ⟨1, false, .row 1 (NL is')⟩ ∧ IsOk n is' ((ts.take i).foldl mkN nd) rc ((ts.take i).foldl mkS sc)) ∧ Has T' [(0, v0), (2, v2), (3, v3), (4, .ptr 2 1 1 10 0 0), (5, .int .i64 (n : Nat)), (11, .int .i64 (bad3 ((ts.take i).foldl mkN nd) rc ((ts.take i).foldl mkS sc) n : Nat)), (19, .slc 8 1 n 1 0 n none), (21, .int .i64 (i : Nat))]) ⟨fun _ _ => rfl, ⟨is, h8, hok⟩, hT⟩ (by omega) ?_
 rintro i T H2 hi ⟨hfr, ⟨is', g8, gok⟩, hT⟩
 have g2 := hfr 2 (by omega)
 rw [h2] at g2
 rw [hT.eq]
 simp only [over]
 unfold Bcm
 by_cases hil : i < ts.length
 ·obtain ⟨w, hw⟩ : ∃ w, w = ts[i] := ⟨_, rfl⟩
  have hwf := ht w (by rw [hw]; exact Bw hil)
  have hst : ∀ (g : List Bool → WS → List Bool) (b : List Bool), (ts.take (i + 1)).foldl g b = g ((ts.take i).foldl g b) w := fun g b => by
   rw [Av hil, Anl, ← hw]; rfl
  rw [hst, hst]
  generalize (ts.take i).foldl mkN nd = nd' at *
  generalize (ts.take i).foldl mkS sc = sc' at *
  obtain ⟨t', f', s', hni, hs'⟩ := gE false w.nodes
  have he7 : (ts.map nIv)[i]? = some (.islc t' f' s' (NL w.nodes)) := by rw [Bp, Aa hil, ← hw]; exact Bo some hni
  have he5 : (ts.map mIv)[i]? = some (.islc false false 1 (NL w.m)) := by rw [Bp, Aa hil, ← hw]; rfl
  repeat' (first | refine qS ?_ | refine Be ?_ (hr := by exact g2) | refine qQb ?_ | refine Ac (fun _ => ?_) (fun _ => ?_))
  refine W.mono (Bkk (k := k) (n := n) (ix := i) (nl := w.nodes) (is := is') (nd := nd') (rc := rc) (sc := sc') (v0 := v0) (v2 := v2) (v3 := v3) (by omega) hwf.2 hn (by omega) (fun a ha => (hwf.1.2.2 a ha).2) hs' he7 (by rw [e7]; exact g2) ((hfr 7 (by omega)).trans h7) g8 gok ⟨rfl, rfl, rfl, rfl, rfl, rfl, rfl, rfl, rfl, trivial⟩) ?_
  rintro ex T3 H3 ⟨rfl, hfr3, ⟨is3, g83, gok3⟩, hT3⟩
  rw [hT3.eq]
  simp only [over]
  show W _ _
  repeat' (first | refine qQb ?_ | refine Ac (fun _ => ?_) (fun _ => ?_))
  refine W.mono (Bkp (k := k) (n := n) (ix := i) (m := w.m) (is := is3) (nd := w.nodes.foldl mark nd') (rc := rc) (sc := sc') (v0 := v0) (v2 := v2) (v3 := v3) (by omega) hwf.1.1 hn (by omega) hwf.1.2.1 he5 (by rw [e5]; exact (hfr3 2 (by omega)).trans g2) (((hfr3 5 (by omega)).trans (hfr 5 (by omega))).trans h5) g83 gok3 ⟨rfl, rfl, rfl, rfl, rfl, rfl, rfl, rfl, rfl, trivial⟩) ?_
  rintro ex T4 H4 ⟨rfl, hfr4, ⟨is4, g84, gok4⟩, hT4⟩
  rw [hT4.eq]
  simp only [over]
  show W _ _
  repeat' (first | refine qQb ?_ | refine Ac (fun _ => ?_) (fun _ => ?_))
  exact ⟨hil, (fun j hj => by rw [hfr4 j hj, hfr3 j hj]; exact hfr j hj), ⟨is4, g84, gok4⟩, rfl, rfl, rfl, rfl, rfl, rfl, rfl, by show AV.int _ _ = AV.int _ _; congr 1, trivial⟩
 ·have hin : i = ts.length := by omega
  subst hin
  rw [Ch] at *
  repeat' (first | refine qS ?_ | refine Be ?_ (hr := by exact g2) | refine qQb ?_ | refine Ac (fun _ => ?_) (fun _ => ?_))
  exact ⟨rfl, hfr, rfl, rfl, rfl, rfl, rfl, trivial⟩
theorem Bks {k : Nat} {l : List UInt8} {f : Bool} {recs : List Rec} {s : Sup} {slot : Nat} {rv bv v8 v10 : AV} {T : Tmps} {H : Heap} (hk : 1000200 ≤ k) (hd : Dev l) (hl : recs.length < 900) (hs : s.size ≤ 512) (hr : ∀ r ∈ recs, r.size ≤ 512)
  (h0 : H 0 = ⟨1, false, .row 10 [Azc]⟩) (h1 : H 1 = ⟨1, false, .row 2 [.agg [.int .i64 0, .int .i64 0]]⟩) (h2 : Bfq H s slot rv bv (.islc false true 0 []) (.islc false true 0 [])) (h3 : H 3 = ⟨1, false, .row 5 [s.av]⟩) (h5 : (H 5).gen = 0) (h7 : (H 7).gen = 0)
  (hT : Has T [(0, .islc false f 1 (BL l)), (2, .ptr 0 1 1 10 0 0), (3, .ptr 1 1 1 2 0 0), (4, .ptr 2 1 1 10 0 0), (5, .int .i64 (nb l : Nat)), (7, .ptr 3 1 1 5 0 0), (8, v8), (9, .islc false false 8 (recs.map Rec.av)), (10, v10), (12, .int .i64 (-1))]) :
  W (Br (CF k) noX 0 k (.loop Bcf) T H) (fun ex T' H' => (ex = .exit 0 ∧ ∃ ws, (Ig l ((s.root, s.size) :: recs.map fun r => (r.root, r.size)) []).2 = none ∧ (Ig l ((s.root, s.size) :: recs.map fun r => (r.root, r.size)) []).1 = ws ∧ ws.length = recs.length + 1 ∧ H' 0 = ⟨1, false, .row 10 [Azc]⟩ ∧ H' 1 = ⟨1, false, .row 2 [.agg [.int .i64 0, .int .i64 0]]⟩ ∧ Bfq H' s slot rv bv (.slc 5 1 ws.length 1 0 ws.length none) (.slc 7 1 ws.length 1 0 ws.length none) ∧ H' 5 = ⟨1, false, .row 1 (ws.map mIv)⟩ ∧ H' 7 = ⟨1, false, .row 1 (ws.map nIv)⟩ ∧ (H' 8).gen = (H 8).gen ∧ Has T' [(0, .islc false f 1 (BL l)), (2, .ptr 0 1 1 10 0 0), (3, .ptr 1 1 1 2 0 0), (4, .ptr 2 1 1 10 0 0), (5, .int .i64 (nb l : Nat)), (10, v10)]) ∨
   (ex = .ret ∧ ∃ r : Nat, (Ig l ((s.root, s.size) :: recs.map fun r => (r.root, r.size)) []).2 = some r ∧ H' 0 = ⟨1, false, .row 10 [Azc]⟩ ∧ H' 1 = ⟨1, false, .row 2 [.agg [.int .i64 r, .int .i64 6]]⟩ ∧ T' 2 = .ptr 0 1 1 10 0 0 ∧ T' 3 = .ptr 1 1 1 2 0 0)) := by
 obtain ⟨ps, hps⟩ : ∃ ps, ps = (s.root, s.size) :: recs.map fun r => (r.root, r.size) := ⟨_, rfl⟩
 rw [← hps]
 have hpl : ps.length = recs.length + 1 := by rw [hps]; simp
 refine Fj (recs.length + 1) (fun i T' H' => ∃ ws, ws.length = i ∧ Ig l ps [] = Ig l (ps.drop i) ws ∧ H' 0 = ⟨1, false, .row 10 [Azc]⟩ ∧ H' 1 = ⟨1, false, .row 2 [.agg [.int .i64 0, .int .i64 0]]⟩ ∧ Bfq H' s slot rv bv (rowA 5 i) (rowA 7 i) ∧ H' 3 = ⟨1, false, .row 5 [s.av]⟩ ∧ Bej H' 5 (ws.map mIv) ∧ Bej H' 7 (ws.map nIv) ∧ (H' 8).gen = (H 8).gen ∧
   Has T' [(0, .islc false f 1 (BL l)), (2, .ptr 0 1 1 10 0 0), (3, .ptr 1 1 1 2 0 0), (4, .ptr 2 1 1 10 0 0), (5, .int .i64 (nb l : Nat)), (7, .ptr 3 1 1 5 0 0), (8, v8), (9, .islc false false 8 (recs.map Rec.av)), (10, v10), (12, .int .i64 ((i : Int) - 1))]) ⟨[], rfl, by simp, h0, h1, h2, h3, h5, h7, rfl, by rw [show ((0 : Nat) : Int) - 1 = -1 from rfl]; exact hT⟩ (by omega) ?_
 clear h0 h1 h2 h3 h5 h7 hT T
 rintro i T H2 hi ⟨ws, hwl, hgo, h0, h1, h2, h3, h5, h7, h8, hT⟩
 obtain ⟨sg, sb, sr, sz, sf⟩ := s
 unfold Sup.av at h3
 unfold Bfq at h2
 simp only at h3 h2 hs
 rw [hT.eq]
 simp only [over]
 unfold Bcf
 have hrl : (recs.map Rec.av).length = recs.length := Ah _
 by_cases hil : i < recs.length + 1
 ·by_cases hi0 : i = 0
  ·subst hi0
   obtain rfl : ws = [] := Hp hwl
   have hd0 : ps.drop 0 = (sr, sz) :: ps.drop 1 := by rw [hps]; rfl
   have h5' : (H2 5).gen = 0 := h5
   have h7' : (H2 7).gen = 0 := h7
   have hap5 : rowA 5 0 = .islc false true 0 [] := rfl
   have hap7 : rowA 7 0 = .islc false true 0 [] := rfl
   rw [hap5, hap7] at h2
   repeat' (first | refine qS ?_ | refine Bh (n := recs.length) rfl hrl rfl rfl ?_ | refine Be ?_ (hr := by exact h3) | refine qQb ?_ | refine Ac (fun _ => ?_) (fun _ => ?_) | refine Bl fun _ => ?_)
   refine Beq [(0, .islc false f 1 (BL l)), (2, .ptr 0 1 1 10 0 0), (3, .ptr 1 1 1 2 0 0), (4, .ptr 2 1 1 10 0 0), (5, .int .i64 (nb l : Nat)), (7, .ptr 3 1 1 5 0 0), (8, v8), (9, .islc false false 8 (recs.map Rec.av)), (10, v10), (12, .int .i64 (((0 : Nat) : Int) - 1)), (13, .int .i64 (sr : Nat)), (14, .int .i64 (sz : Nat)), (89, .islc false f 1 (BL l)), (90, .int .i64 (sr : Nat))] ⟨by kernel_rfl, by kernel_rfl, by kernel_rfl, by kernel_rfl, by kernel_rfl, by kernel_rfl, by kernel_rfl, by kernel_rfl, by kernel_rfl, by kernel_rfl, by kernel_rfl, by kernel_rfl, by kernel_rfl, by kernel_rfl, trivial⟩ (fun T hT => ?_)
   simp only [over]
   clear hT
   have htr := Bkt k (by omega) f l hd sr
   rw [hd0] at hgo
   simp only [Ig] at hgo
   cases hg : goP l sr with
   | none =>
    rw [hg] at htr hgo
    unfold Bag at htr
    repeat' (first | refine Al (htr) (fun _ => ?_) (fun _ => ?_) | refine Ae (htr) ?_ | refine qQb ?_ | refine Ac (fun _ => ?_) (fun _ => ?_) | refine Bl fun _ => ?_)
    refine W.mono (Ber (k := k) (m := []) (size := sz) (okb := false) (mv := .islc false true 0 []) (v16 := .islc false true 0 []) (v0 := .islc false f 1 (BL l)) (v2 := .ptr 0 1 1 10 0 0) (v3 := .ptr 1 1 1 2 0 0) (v4 := .ptr 2 1 1 10 0 0) (v5 := .int .i64 (nb l : Nat)) (v7 := .ptr 3 1 1 5 0 0) (v8 := v8) (v9 := .islc false false 8 (recs.map Rec.av)) (v10 := v10) (v12 := .int .i64 (((0 : Nat) : Int) - 1)) (v13 := .int .i64 (sr : Nat)) (v14 := .int .i64 (sz : Nat)) (by omega) (by omega) (fun h => by cases h) ⟨rfl, rfl, rfl, rfl, rfl, rfl, rfl, rfl, rfl, rfl, rfl, rfl, rfl, rfl, rfl, rfl, trivial⟩) ?_
    rintro ex T3 H3 ⟨rfl, rfl, hT3⟩
    rw [hT3.eq]
    simp only [over]
    show W _ _
    repeat' (first | refine qS ?_ | refine Co ?_ (hr := by exact h0) | refine Co ?_ (hr := by exact h1) | refine qQb ?_ | refine Ac (fun _ => ?_) (fun _ => ?_) | refine Bl fun _ => ?_)
    exact .inr ⟨rfl, sr, by rw [hgo], rfl, rfl, rfl, rfl⟩
   | some w =>
    rw [hg] at htr hgo
    unfold Bag at htr
    simp only at htr hgo
    obtain ⟨t', f', s', hni, hs'⟩ := gE false w.nodes
    rw [hni] at htr
    have hwm : w.m.length = 512 := (Aaj hd hg).1.1
    repeat' (first | refine Al (htr) (fun _ => ?_) (fun _ => ?_) | refine Ae (htr) ?_ | refine qQb ?_ | refine Ac (fun _ => ?_) (fun _ => ?_) | refine Bl fun _ => ?_)
    refine W.mono (Ber (k := k) (m := w.m) (size := sz) (okb := true) (mv := .islc false false 1 (NL w.m)) (v16 := .islc t' f' s' (NL w.nodes)) (v0 := .islc false f 1 (BL l)) (v2 := .ptr 0 1 1 10 0 0) (v3 := .ptr 1 1 1 2 0 0) (v4 := .ptr 2 1 1 10 0 0) (v5 := .int .i64 (nb l : Nat)) (v7 := .ptr 3 1 1 5 0 0) (v8 := v8) (v9 := .islc false false 8 (recs.map Rec.av)) (v10 := v10) (v12 := .int .i64 (((0 : Nat) : Int) - 1)) (v13 := .int .i64 (sr : Nat)) (v14 := .int .i64 (sz : Nat)) (by omega) (by omega) (fun _ => ⟨rfl, hwm⟩) ⟨rfl, rfl, rfl, rfl, rfl, rfl, rfl, rfl, rfl, rfl, rfl, rfl, rfl, rfl, rfl, rfl, trivial⟩) ?_
    rintro ex T3 H3 ⟨rfl, rfl, hT3⟩
    cases hby : Mz w.m sz with
    | true =>
     rw [hby] at hT3
     rw [if_pos hby] at hgo
     rw [hT3.eq]
     simp only [over]
     show W _ _
     repeat' (first | refine qS ?_ | refine Co ?_ (hr := by exact h0) | refine Co ?_ (hr := by exact h1) | refine qQb ?_ | refine Ac (fun _ => ?_) (fun _ => ?_) | refine Bl fun _ => ?_)
     exact .inr ⟨rfl, sr, by rw [hgo], rfl, rfl, rfl, rfl⟩
    | false =>
     rw [hby] at hT3
     rw [if_neg (by rw [hby]; decide)] at hgo
     rw [hT3.eq]
     simp only [over]
     show W _ _
     repeat' (first
      | refine qS ?_ | refine Gx (hl := by kernel_rfl) ?_ | refine bM rfl rfl rfl (by rfl) rfl rfl ?_ | refine Be ?_ (hr := by exact h2) (hl := by kernel_rfl)
      | refine Co ?_ (hr := by exact h2) | refine Co ?_ (hr := by rfl) | refine qQb ?_ | refine Ac (fun _ => ?_) (fun _ => ?_) | refine Bl fun _ => ?_)
     refine ⟨hil, [w], rfl, by rw [hgo]; rfl, h0, h1, ?_, h3, ?_, ?_, h8, rfl, rfl, rfl, rfl, rfl, rfl, rfl, rfl, rfl, rfl, trivial⟩
     ·show (⟨1, false, .row 10 [.agg [.int .i64 sg, .int .i64 sb, .int .i64 sr, .int .i64 sz, .int .i64 sf, .int .i64 slot, rv, bv, .slc 5 ((H3 5).gen + 1) 1 1 0 1 none, .slc 7 ((H3 7).gen + 1) 1 1 0 1 none]]⟩ : Blk) = _
      rw [h5', h7']; rfl
     ·show (⟨(H3 5).gen + 1, false, .row 1 [mIv w]⟩ : Blk) = _
      rw [h5']; rfl
     ·show (⟨(H3 7).gen + 1, false, .row 1 [.islc t' f' s' (NL w.nodes)]⟩ : Blk) = _
      rw [h7', ← hni]; rfl
  ·obtain ⟨i, rfl⟩ : ∃ j, i = j + 1 := ⟨i - 1, by omega⟩
   have hil2 : i < recs.length := by omega
   obtain ⟨⟨b1, b2, b3, sr', sz', b6, b7, b8⟩, hrr⟩ : ∃ r, r = recs[i] := ⟨_, rfl⟩
   have he2 : (recs.map Rec.av)[(((i + 1 : Nat) : Int) - 1).toNat]? = some (.agg [.int .i64 b1, .int .i64 b2, .int .i64 b3, .int .i64 sr', .int .i64 sz', .int .i64 b6, .int .i64 b7, .int .i64 b8]) := by
    rw [show (((i + 1 : Nat) : Int) - 1).toNat = i by omega, Bp, Aa hil2, ← hrr]; rfl
   have hd0 : ps.drop (i + 1) = (sr', sz') :: ps.drop (i + 2) := by
    rw [hps, Afb, Afb, Cm (by simpa using hil2), Li, ← hrr]
   have hsz' : sz' ≤ 512 := by have := hr recs[i] (Bw hil2); rw [← hrr] at this; exact this
   have hne : ws ≠ [] := fun h => by rw [h] at hwl; simp at hwl
   have h5' : H2 5 = ⟨1, false, .row 1 (ws.map mIv)⟩ := by unfold Bej at h5; rw [if_neg (by simpa using hne)] at h5; exact h5
   have h7' : H2 7 = ⟨1, false, .row 1 (ws.map nIv)⟩ := by unfold Bej at h7; rw [if_neg (by simpa using hne)] at h7; exact h7
   have hap5 : rowA 5 (i + 1) = .slc 5 1 (i + 1) 1 0 (i + 1) none := rfl
   have hap7 : rowA 7 (i + 1) = .slc 7 1 (i + 1) 1 0 (i + 1) none := rfl
   rw [hap5, hap7] at h2
   repeat' (first
    | refine qS ?_ | refine Bh (n := recs.length) rfl hrl rfl rfl ?_ | refine Be ?_ (hr := by exact h3) | refine Da rfl rfl (by omega) he2 rfl rfl ?_ | refine Vx ?_
    | refine qQb ?_ | refine Ac (fun _ => ?_) (fun _ => ?_) | refine Bl fun _ => ?_)
   refine Beq [(0, .islc false f 1 (BL l)), (2, .ptr 0 1 1 10 0 0), (3, .ptr 1 1 1 2 0 0), (4, .ptr 2 1 1 10 0 0), (5, .int .i64 (nb l : Nat)), (7, .ptr 3 1 1 5 0 0), (8, v8), (9, .islc false false 8 (recs.map Rec.av)), (10, v10), (12, .int .i64 (((i + 1 : Nat) : Int) - 1)), (13, .int .i64 (sr' : Nat)), (14, .int .i64 (sz' : Nat)), (89, .islc false f 1 (BL l)), (90, .int .i64 (sr' : Nat))] ⟨by kernel_rfl, by kernel_rfl, by kernel_rfl, by kernel_rfl, by kernel_rfl, by kernel_rfl, by kernel_rfl, by kernel_rfl, by kernel_rfl, by kernel_rfl, by kernel_rfl, by kernel_rfl, by kernel_rfl, by kernel_rfl, trivial⟩ (fun T hT => ?_)
   simp only [over]
   clear hT
   have htr := Bkt k (by omega) f l hd sr'
   rw [hd0] at hgo
   simp only [Ig] at hgo
   cases hg : goP l sr' with
   | none =>
    rw [hg] at htr hgo
    unfold Bag at htr
    repeat' (first | refine Al (htr) (fun _ => ?_) (fun _ => ?_) | refine Ae (htr) ?_ | refine qQb ?_ | refine Ac (fun _ => ?_) (fun _ => ?_) | refine Bl fun _ => ?_)
    refine W.mono (Ber (k := k) (m := []) (size := sz') (okb := false) (mv := .islc false true 0 []) (v16 := .islc false true 0 []) (v0 := .islc false f 1 (BL l)) (v2 := .ptr 0 1 1 10 0 0) (v3 := .ptr 1 1 1 2 0 0) (v4 := .ptr 2 1 1 10 0 0) (v5 := .int .i64 (nb l : Nat)) (v7 := .ptr 3 1 1 5 0 0) (v8 := v8) (v9 := .islc false false 8 (recs.map Rec.av)) (v10 := v10) (v12 := .int .i64 (((i + 1 : Nat) : Int) - 1)) (v13 := .int .i64 (sr' : Nat)) (v14 := .int .i64 (sz' : Nat)) (by omega) (by omega) (fun h => by cases h) ⟨rfl, rfl, rfl, rfl, rfl, rfl, rfl, rfl, rfl, rfl, rfl, rfl, rfl, rfl, rfl, rfl, trivial⟩) ?_
    rintro ex T3 H3 ⟨rfl, rfl, hT3⟩
    rw [hT3.eq]
    simp only [over]
    show W _ _
    repeat' (first | refine qS ?_ | refine Co ?_ (hr := by exact h0) | refine Co ?_ (hr := by exact h1) | refine qQb ?_ | refine Ac (fun _ => ?_) (fun _ => ?_) | refine Bl fun _ => ?_)
    exact .inr ⟨rfl, sr', by rw [hgo], rfl, rfl, rfl, rfl⟩
   | some w =>
    rw [hg] at htr hgo
    unfold Bag at htr
    simp only at htr hgo
    obtain ⟨t', f', s', hni, hs'⟩ := gE false w.nodes
    rw [hni] at htr
    have hwm : w.m.length = 512 := (Aaj hd hg).1.1
    repeat' (first | refine Al (htr) (fun _ => ?_) (fun _ => ?_) | refine Ae (htr) ?_ | refine qQb ?_ | refine Ac (fun _ => ?_) (fun _ => ?_) | refine Bl fun _ => ?_)
    refine W.mono (Ber (k := k) (m := w.m) (size := sz') (okb := true) (mv := .islc false false 1 (NL w.m)) (v16 := .islc t' f' s' (NL w.nodes)) (v0 := .islc false f 1 (BL l)) (v2 := .ptr 0 1 1 10 0 0) (v3 := .ptr 1 1 1 2 0 0) (v4 := .ptr 2 1 1 10 0 0) (v5 := .int .i64 (nb l : Nat)) (v7 := .ptr 3 1 1 5 0 0) (v8 := v8) (v9 := .islc false false 8 (recs.map Rec.av)) (v10 := v10) (v12 := .int .i64 (((i + 1 : Nat) : Int) - 1)) (v13 := .int .i64 (sr' : Nat)) (v14 := .int .i64 (sz' : Nat)) (by omega) (by omega) (fun _ => ⟨rfl, hwm⟩) ⟨rfl, rfl, rfl, rfl, rfl, rfl, rfl, rfl, rfl, rfl, rfl, rfl, rfl, rfl, rfl, rfl, trivial⟩) ?_
    rintro ex T3 H3 ⟨rfl, rfl, hT3⟩
    cases hby : Mz w.m sz' with
    | true =>
     rw [hby] at hT3
     rw [if_pos hby] at hgo
     rw [hT3.eq]
     simp only [over]
     show W _ _
     repeat' (first | refine qS ?_ | refine Co ?_ (hr := by exact h0) | refine Co ?_ (hr := by exact h1) | refine qQb ?_ | refine Ac (fun _ => ?_) (fun _ => ?_) | refine Bl fun _ => ?_)
     exact .inr ⟨rfl, sr', by rw [hgo], rfl, rfl, rfl, rfl⟩
    | false =>
     rw [hby] at hT3
     rw [if_neg (by rw [hby]; decide)] at hgo
     rw [hT3.eq]
     simp only [over]
     show W _ _
     repeat' (first
      | refine qS ?_ | refine Gx (hl := by kernel_rfl) ?_
      | refine Ro (es := ws.map mIv) rfl rfl rfl (by exact h5') (by rw [Ah]; exact hwl) (by rfl) (by omega) rfl rfl ?_
      | refine Ro (es := ws.map nIv) rfl rfl rfl (by exact h7') (by rw [Ah]; exact hwl) (by rfl) (by omega) rfl rfl ?_
      | refine Be ?_ (hr := by exact h2) (hl := by kernel_rfl) | refine Co ?_ (hr := by exact h2) | refine Co ?_ (hr := by rfl) | refine qQb ?_
      | refine Ac (fun _ => ?_) (fun _ => ?_) | refine Bl fun _ => ?_)
     refine ⟨hil, ws ++ [w], by simp [hwl], by rw [hgo], h0, h1, rfl, h3, ?_, ?_, h8, rfl, rfl, rfl, rfl, rfl, rfl, rfl, rfl, rfl, ?_, trivial⟩
     ·unfold Bej
      rw [if_neg (by simp), Bq]; rfl
     ·unfold Bej
      rw [if_neg (by simp), Bq]
      show (⟨1, false, .row 1 (ws.map nIv ++ [.islc t' f' s' (NL w.nodes)])⟩ : Blk) = _
      rw [← hni]; rfl
     ·show AV.int _ _ = AV.int _ _
      congr 1
      omega
 ·have hin : i = recs.length + 1 := by omega
  subst hin
  repeat' (first | refine qS ?_ | refine Bh (n := recs.length) rfl hrl rfl rfl ?_ | refine qQb ?_ | refine Ac (fun _ => ?_) (fun _ => ?_) | refine Bl fun _ => ?_)
  refine .inl ⟨rfl, ws, ?_, ?_, hwl, h0, h1, by rw [hwl]; exact h2, ?_, ?_, h8, rfl, rfl, rfl, rfl, rfl, rfl, trivial⟩
  ·rw [hgo, Ce (by omega)]; rfl
  ·rw [hgo, Ce (by omega)]; rfl
  ·unfold Bej at h5; rw [if_neg (by intro h; have := Bo List.length h; simp at this; rw [this] at hwl; simp at hwl)] at h5; exact h5
  ·unfold Bej at h7; rw [if_neg (by intro h; have := Bo List.length h; simp at this; rw [this] at hwl; simp at hwl)] at h7; exact h7
def Img.rcs (x : Img) : List AV := [.int .i64 x.sup.gen, .int .i64 x.sup.blocks, .int .i64 x.sup.root, .int .i64 x.sup.size, .int .i64 x.sup.first, .int .i64 x.slot, .islc false false 8 (x.recs.map Rec.av), .islc false false 1 (NL x.blocks), .islc false false 1 (x.trees.map mIv), .islc false false 1 (x.trees.map nIv)]
def Bgy : Except (Nat × Nat) Img → AV
 | .ok x => .tup [.agg x.rcs, .agg [.int .i64 0, .int .i64 0]]
 | .error (a, e) => .tup [Azc, .agg [.int .i64 a, .int .i64 e]]
theorem Bgm {T : Tmps} {H : Heap} {t n j g : Nat} {ro : Bool} {cs : List AV} (hT : T t = .ptr j g 1 n 0 0) (hH : H j = ⟨g, ro, .row n [.agg cs]⟩) (hl : cs.length = n) : ares T H (.cell t n true) = some (.agg cs) := by
 simp only [ares, hT, Fv (ver := 1) hH rfl, List.getElem?_cons_zero, AV.cells]
 simp [hl]
 exact Ai (by omega)
theorem Bjt {T : Tmps} {H : Heap} {a b : SRes} {v w : AV} (h1 : ares T H a = some v) (h2 : ares T H b = some w) : Ia T H [a, b] = some (.tup [v, w]) := by
 unfold Ia
 simp [h1, h2]
theorem Bmg (k : Nat) (hk : 1000300 ≤ k) (f : Bool) (l : List UInt8) (hl : l.length < 1000000) : FnV (CF k) Bdc [.islc false f 1 (BL l)] (Bgy (pB l)) := by
 have hbk := Bff (k - 1) (by omega) false f l hl
 refine fnk (by omega) Bhn rfl ?_
 unfold ref10_Open pB
 by_cases hdv : devB l.length
 rotate_left 1
 ·rw [Bb hdv] at hbk
  rw [if_neg hdv]
  repeat' (first | refine qS ?_ | refine qN ?_ | refine Al (hbk) (fun _ => ?_) (fun _ => ?_) | refine Ae (hbk) ?_ | refine qQ ?_ | refine Ac (fun _ => ?_) (fun _ => ?_) | refine Bl fun _ => ?_)
  exact ⟨Or.inr rfl, .tup [Azc, .agg [.int .i64 0, .int .i64 2]], by kernel_rfl, by kernel_rfl⟩
 have hd : Dev l := ⟨hl, hdv⟩
 have hn := hd.nb
 rw [As hdv] at hbk
 rw [if_pos hdv]
 have hbk : FnV (CF (k - 1)) Ayf [.islc false f 1 (BL l)] (.tup [.int .i64 (nb l : Nat), .bool true]) := hbk
 have hpk := Bmd (k - 1) (by omega) false f l hd
 unfold Yp
 unfold Bhp at hpk
 cases hp : Uf l with
 | none =>
  rw [hp] at hpk
  repeat' (first
   | refine qS ?_ | refine qN ?_ | refine Al (hbk) (fun _ => ?_) (fun _ => ?_) | refine Ae (hbk) ?_ | refine Al (hpk) (fun _ => ?_) (fun _ => ?_) | refine Ae (hpk) ?_
   | refine qQ ?_ | refine Ac (fun _ => ?_) (fun _ => ?_) | refine Bl fun _ => ?_)
  exact ⟨Or.inr rfl, .tup [Azc, .agg [.int .i64 0, .int .i64 8]], by kernel_rfl, by kernel_rfl⟩
 | some si =>
  obtain ⟨s, slot⟩ := si
  obtain ⟨p1, p2, p3⟩ := qD hp
  rw [hp] at hpk
  have hrc := Bjy (k - 1) (by omega) f l hd s.first
  simp only
  unfold wH
  obtain ⟨f1, f2, f3, f4, f5⟩ := oX l s.first
  obtain ⟨c, hc⟩ : ∃ c, c = Eb l 64 s.first cs0 := ⟨_, rfl⟩
  rw [← hc] at hrc f1 f2 f3 f4 f5 ⊢
  unfold Bes at hrc
  obtain ⟨sg, sb, sr, sz, sf⟩ := s
  unfold Sup.av at hpk
  simp only at hpk hrc p2
  by_cases hbad : c.bad = 0
  rotate_left 1
  ·rw [if_neg hbad] at hrc
   rw [if_pos hbad]
   repeat' (first
    | refine qS ?_ | refine qN ?_ | refine Al (hbk) (fun _ => ?_) (fun _ => ?_) | refine Ae (hbk) ?_ | refine Al (hpk) (fun _ => ?_) (fun _ => ?_) | refine Ae (hpk) ?_
    | refine Al (hrc) (fun _ => ?_) (fun _ => ?_) | refine Ae (hrc) ?_ | refine qQ ?_ | refine Ac (fun _ => ?_) (fun _ => ?_) | refine Bl fun _ => ?_)
   exact ⟨Or.inr rfl, .tup [Azc, .agg [.int .i64 c.bad, .int .i64 7]], by kernel_rfl, by kernel_rfl⟩
  rw [if_pos hbad] at hrc
  rw [if_neg (fun h => h hbad)]
  repeat' (first
   | refine qS ?_ | refine qN ?_ | refine Al (hbk) (fun _ => ?_) (fun _ => ?_) | refine Ae (hbk) ?_ | refine Al (hpk) (fun _ => ?_) (fun _ => ?_) | refine Ae (hpk) ?_
   | refine Al (hrc) (fun _ => ?_) (fun _ => ?_) | refine Ae (hrc) ?_ | refine qQ ?_ | refine Ac (fun _ => ?_) (fun _ => ?_) | refine Bl fun _ => ?_)
  refine Bgh [(0, .islc false f 1 (BL l)), (2, .ptr 0 1 1 10 0 0), (3, .ptr 1 1 1 2 0 0), (4, .ptr 2 1 1 10 0 0), (5, .int .i64 (nb l : Nat)), (7, .ptr 3 1 1 5 0 0), (8, .int .i64 (slot : Nat)), (9, .islc false false 8 (c.l.map Rec.av)), (10, .islc false false 1 (NL c.blocks)), (12, .int .i64 (-1))] [(0, ⟨1, false, .row 10 [Azc]⟩), (1, ⟨1, false, .row 2 [.agg [.int .i64 0, .int .i64 0]]⟩), (2, ⟨1, false, .row 10 [.agg [.int .i64 sg, .int .i64 sb, .int .i64 sr, .int .i64 sz, .int .i64 sf, .int .i64 (slot : Nat), .islc false false 8 (c.l.map Rec.av), .islc false false 1 (NL c.blocks), .islc false true 0 [], .islc false true 0 []]]⟩), (3, ⟨1, false, .row 5 [Sup.av ⟨sg, sb, sr, sz, sf⟩]⟩), (5, ⟨0, false, .dead⟩), (7, ⟨0, false, .dead⟩), (8, ⟨0, false, .dead⟩)] ⟨by kernel_rfl, by kernel_rfl, by kernel_rfl, by kernel_rfl, by kernel_rfl, by kernel_rfl, by kernel_rfl, by kernel_rfl, by kernel_rfl, by kernel_rfl, trivial⟩ ⟨by kernel_rfl, by kernel_rfl, by kernel_rfl, by kernel_rfl, by kernel_rfl, by kernel_rfl, by kernel_rfl, trivial⟩ (fun T H hT hH => ?_)
  obtain ⟨h0, h1, h2, h3, h5, h7, h8, -⟩ := hH
  simp only [over]
  clear hT
  have hc900 : c.l.length < 900 := by omega
  refine W.mono (Bks (k := k - 1) (l := l) (f := f) (recs := c.l) (s := ⟨sg, sb, sr, sz, sf⟩) (slot := slot) (rv := .islc false false 8 (c.l.map Rec.av)) (bv := .islc false false 1 (NL c.blocks)) (v8 := .int .i64 (slot : Nat)) (v10 := .islc false false 1 (NL c.blocks)) (by omega) hd hc900 p1.2.2.1 (fun r hr => (f3 r hr).2.2.2.1) h0 h1 h2 h3 (by rw [h5]) (by rw [h7]) ⟨rfl, rfl, rfl, rfl, rfl, rfl, rfl, rfl, rfl, rfl, trivial⟩) ?_
  have hrp : Lf ⟨sg, sb, sr, sz, sf⟩ c = ((sr, sz) :: c.l.map fun r => (r.root, r.size)) := rfl
  clear h0 h1 h2 h3 h5 h7 hbk hpk hrc
  rintro ex T2 H2 (⟨rfl, ws, ht2, ht1, hwl, g0, g1, g2, g5, g7, g8, hT2⟩ | ⟨rfl, r, ht2, g0, g1, e2, e3⟩)
  rotate_left 1
  ·rw [hrp, ht2]
   simp only
   refine ⟨Or.inr rfl, .tup [Azc, .agg [.int .i64 r, .int .i64 6]], Bjt (Bgm e2 g0 rfl) (Bgm e3 g1 rfl), by kernel_rfl⟩
  ·rw [hrp, ht2, ht1]
   simp only
   have hfit : ∀ w ∈ ws, w.fits (nb l) := by
    rw [← ht1]
    exact lY hd _ _ (fun w hw => by cases hw)
   have hwlt : ws.length < 1000 := by omega
   have hbl : c.blocks.length < 1000 := by omega
   have g8' : (H2 8).gen = 0 := by rw [g8, h8]
   have er : NL (List.replicate (nb l) 0) = List.replicate (nb l) (.int .i64 (0 : Nat)) := by simp only [NL, Ij]
   unfold Bfq at g2
   simp only at g2
   obtain ⟨gg, hgg⟩ : ∃ g, g = (H2 8).gen + 1 := ⟨_, rfl⟩
   rw [hT2.eq]
   simp only [over]
   show W _ _
   repeat' (first | refine qS ?_ | refine qN ?_ | refine Un (nb l) rfl rfl rfl (by omega) rfl rfl rfl ?_ | refine qQ ?_ | refine Ac (fun _ => ?_) (fun _ => ?_) | refine Bl fun _ => ?_)
   refine Bgh [(0, .islc false f 1 (BL l)), (2, .ptr 0 1 1 10 0 0), (3, .ptr 1 1 1 2 0 0), (4, .ptr 2 1 1 10 0 0), (5, .int .i64 (nb l : Nat)), (10, .islc false false 1 (NL c.blocks)), (19, .slc 8 ((H2 8).gen + 1) (nb l) 1 0 (nb l) none), (20, .int .i64 0)] [(0, H2 0), (1, H2 1), (2, H2 2), (5, H2 5), (7, H2 7), (8, ⟨(H2 8).gen + 1, false, .row 1 (List.replicate (nb l) (.int .i64 (0 : Nat)))⟩)] ⟨rfl, rfl, rfl, rfl, rfl, rfl, rfl, rfl, trivial⟩ (by exact ⟨rfl, rfl, rfl, rfl, rfl, rfl, trivial⟩) (fun T H hT hH => ?_)
   obtain ⟨k0, k1, k2, k5, k7, k8, -⟩ := hH
   rw [g8', ← er] at k8
   rw [g8'] at hT ⊢
   rw [g0] at k0
   rw [g1] at k1
   rw [g2] at k2
   rw [g5] at k5
   rw [g7] at k7
   clear g0 g1 g2 g5 g7 g8 g8' hT2 hgg gg h8
   have hrf : ∀ b, (List.replicate (nb l) false).getD b default = false := fun b => by rw [jA]; exact fun h => (kJ (nb l) b).1 h
   refine W.mono (Bkv (k := k - 1) (n := nb l) (bl := c.blocks) (is := List.replicate (nb l) 0) (v0 := .islc false f 1 (BL l)) (v2 := .ptr 0 1 1 10 0 0) (v3 := .ptr 1 1 1 2 0 0) (v4 := .ptr 2 1 1 10 0 0) (by omega) hbl (by omega) (fun a ha => (f2 a ha).2) k8 ⟨by simp, by simp, by simp, by simp, (fun a ha => by
    rw [hrf]
    simp only [Af, Ub, if_pos ha, Ns]; rfl)⟩ ⟨rfl, rfl, rfl, rfl, rfl, rfl, rfl, rfl, trivial⟩) ?_
   clear hT
   rintro ex T4 H4 ⟨rfl, hfr4, ⟨is4, q8, iok4⟩, hT4⟩
   have hb0 : bad3 (List.replicate (nb l) false) (c.blocks.foldl mark (List.replicate (nb l) false)) (List.replicate (nb l) false) (nb l) = nb l := by
    refine Bbq (Au _) (fun b hb => ?_) (fun h => absurd h (Nat.lt_irrefl _))
    unfold clAt
    rw [hrf]; rfl
   rw [hT4.eq]
   simp only [over]
   show W _ _
   repeat' (first | refine qS ?_ | refine qN ?_ | refine qQ ?_ | refine Ac (fun _ => ?_) (fun _ => ?_) | refine Bl fun _ => ?_)
   refine W.mono (Bkm (k := k - 1) (n := nb l) (ts := ws) (is := is4) (nd := List.replicate (nb l) false) (rc := c.blocks.foldl mark (List.replicate (nb l) false)) (sc := List.replicate (nb l) false) (v0 := .islc false f 1 (BL l)) (v2 := .ptr 0 1 1 10 0 0) (v3 := .ptr 1 1 1 2 0 0) (by omega) hwlt (by omega) hfit ((hfr4 2 (by omega)).trans k2) ((hfr4 5 (by omega)).trans k5) ((hfr4 7 (by omega)).trans k7) q8 iok4 ⟨rfl, rfl, rfl, rfl, rfl, by rw [hb0]; rfl, rfl, rfl, trivial⟩) ?_
   rintro ex T5 H5 ⟨rfl, hfr5, hT5⟩
   have j0 := ((hfr5 0 (by omega)).trans (hfr4 0 (by omega))).trans k0
   have j1 := ((hfr5 1 (by omega)).trans (hfr4 1 (by omega))).trans k1
   have j2 := ((hfr5 2 (by omega)).trans (hfr4 2 (by omega))).trans k2
   have j5 := ((hfr5 5 (by omega)).trans (hfr4 5 (by omega))).trans k5
   have j7 := ((hfr5 7 (by omega)).trans (hfr4 7 (by omega))).trans k7
   have hcl := Bhv (n := nb l) (bl := c.blocks) (ts := ws) f2 (fun w hw => (hfit w hw).1)
   obtain ⟨bd, hbd⟩ : ∃ b, b = bad3 (ws.foldl mkN (List.replicate (nb l) false)) (c.blocks.foldl mark (List.replicate (nb l) false)) (ws.foldl mkS (List.replicate (nb l) false)) (nb l) := ⟨_, rfl⟩
   rw [← hbd] at hcl hT5
   unfold xI
   rw [hT5.eq]
   simp only [over]
   show W _ _
   rcases hcl with ⟨c1, c2⟩ | ⟨c1, c2, c3⟩
   ·rw [c2, if_neg (by decide)]
    have c1' : ¬ ((bd : Int) < nb l) := by omega
    repeat' (first
     | refine qS ?_ | refine qN ?_ | refine Be ?_ (hr := by exact j2) | refine Co ?_ (hr := by exact j0) | refine Co ?_ (hr := by exact j1) | refine qQ ?_
     | refine Ac (fun _ => ?_) (fun _ => ?_) | refine Bl fun _ => ?_)
    refine ⟨Or.inr rfl, .tup [.agg [.int .i64 sg, .int .i64 sb, .int .i64 sr, .int .i64 sz, .int .i64 sf, .int .i64 (slot : Nat), .islc false false 8 (c.l.map Rec.av), .islc false false 1 (NL c.blocks), .slc 5 1 ws.length 1 0 ws.length none, .slc 7 1 ws.length 1 0 ws.length none], .agg [.int .i64 0, .int .i64 0]], by kernel_rfl, ?_⟩
    generalize hH : Heap.upd _ _ _ = H6
    have m5 : H6 5 = ⟨1, false, .row 1 (ws.map mIv)⟩ := by rw [← hH]; exact j5
    have m7 : H6 7 = ⟨1, false, .row 1 (ws.map nIv)⟩ := by rw [← hH]; exact j7
    have e5 : fz true 4 H6 (.slc 5 1 ws.length 1 0 ws.length none) = .islc false false 1 (ws.map mIv) := by
     rw [Tf (Fv m5 (by simp)) (by omega), Cb, Ai (by simp), Ha]
     rfl
    have e7 : fz true 4 H6 (.slc 7 1 ws.length 1 0 ws.length none) = .islc false false 1 (ws.map nIv) := by
     rw [Tf (Fv m7 (by simp)) (by omega), Cb, Ai (by simp), Ha]
     congr 1
     apply Bk
     intro w _
     show fz true 3 H6 (Jn false w.nodes) = Jn false w.nodes
     unfold Jn
     split <;> rfl
    show AV.tup [AV.agg [_, _, _, _, _, _, _, _, fz true 4 H6 (.slc 5 1 ws.length 1 0 ws.length none), fz true 4 H6 (.slc 7 1 ws.length 1 0 ws.length none)], _] = _
    rw [e5, e7]
    rfl
   ·rw [c2, if_pos (by omega)]
    have c1' : (bd : Int) < nb l := by omega
    repeat' (first
     | refine qS ?_ | refine qN ?_ | refine Be ?_ (hr := by exact j2) | refine Co ?_ (hr := by exact j0) | refine Co ?_ (hr := by exact j1) | refine qQ ?_
     | refine Ac (fun _ => ?_) (fun _ => ?_) | refine Bl fun _ => ?_)
    exact ⟨Or.inr rfl, .tup [Azc, .agg [.int .i64 (bd : Nat), .int .i64 6]], by kernel_rfl, by kernel_rfl⟩
end Go.Proofs.YtkaiiopoilpjeaaGreat
