import Derived.Test.YtkaiiopoilpjeaaGreatMK2
set_option linter.unusedSimpArgs false
set_option linter.unusedVariables false
set_option maxRecDepth 10000
set_option maxHeartbeats 16000000
namespace Go.Proofs.YtkaiiopoilpjeaaGreat
open Go.AI
def mIv (w : WS) : AV := .islc false false 1 (NL w.m)
def nIv (w : WS) : AV := nodesIv false w.nodes
def rowA (j n : Nat) : AV := if n = 0 then .islc false true 0 [] else .slc j 1 n 1 0 n none
def RowAt (H : Heap) (j : Nat) (es : List AV) : Prop := if es = [] then (H j).gen = 0 else H j = ⟨1, false, .row 1 es⟩
def zero10 : AV := .agg [.int .i64 0, .int .i64 0, .int .i64 0, .int .i64 0, .int .i64 0, .int .i64 0, .islc false true 0 [], .islc false true 0 [], .islc false true 0 [], .islc false true 0 []]
def RImgAt (H : Heap) (s : Sup) (slot : Nat) (rv bv mv nv : AV) : Prop := H 2 = ⟨1, false, .row 10 [.agg [.int .i64 s.gen, .int .i64 s.blocks, .int .i64 s.root, .int .i64 s.size, .int .i64 s.first, .int .i64 slot, rv, bv, mv, nv]]⟩
attribute [local irreducible] aops aexec acall aiter aop W WO
theorem ropen_l5 {k n : Nat} {ts : List WS} {is : List Nat} {nd rc sc : List Bool} {v0 v2 v3 c0 c1 c2 c3 c4 c5 c6 c7 : AV} {T : Tmps} {H : Heap} (hk : 1000000 ≤ k) (hl : ts.length < 1000) (hn : n < 100000) (ht : ∀ w ∈ ts, w.fits n)
  (h2 : H 2 = ⟨1, false, .row 10 [.agg [c0, c1, c2, c3, c4, c5, c6, c7, .slc 5 1 ts.length 1 0 ts.length none, .slc 7 1 ts.length 1 0 ts.length none]]⟩) (h5 : H 5 = ⟨1, false, .row 1 (ts.map mIv)⟩) (h7 : H 7 = ⟨1, false, .row 1 (ts.map nIv)⟩) (h8 : H 8 = ⟨1, false, .row 1 (NL is)⟩) (hok : IsOk n is nd rc sc)
  (hT : Has T [(0, v0), (2, v2), (3, v3), (4, .ptr 2 1 1 10 0 0), (5, .int .i64 (n : Nat)), (11, .int .i64 (bad3 nd rc sc n : Nat)), (19, .slc 8 1 n 1 0 n none), (21, .int .i64 0)]) :
  W (aexec (CF k) noX 0 k (.loop ref10_Open_l5) T H) (fun ex T' H' => ex = .exit 6 ∧ (∀ j, j ≠ 8 → H' j = H j) ∧ Has T' [(2, v2), (3, v3), (4, .ptr 2 1 1 10 0 0), (5, .int .i64 (n : Nat)), (11, .int .i64 (bad3 (ts.foldl mkN nd) rc (ts.foldl mkS sc) n : Nat))]) := by
 have e5 : (ts.map mIv).length = ts.length := List.length_map _
 have e7 : (ts.map nIv).length = ts.length := List.length_map _
 refine w_for ts.length (fun i T' H' => (∀ j, j ≠ 8 → H' j = H j) ∧ (∃ is', H' 8 = ⟨1, false, .row 1 (NL is')⟩ ∧ IsOk n is' ((ts.take i).foldl mkN nd) rc ((ts.take i).foldl mkS sc)) ∧ Has T' [(0, v0), (2, v2), (3, v3), (4, .ptr 2 1 1 10 0 0), (5, .int .i64 (n : Nat)), (11, .int .i64 (bad3 ((ts.take i).foldl mkN nd) rc ((ts.take i).foldl mkS sc) n : Nat)), (19, .slc 8 1 n 1 0 n none), (21, .int .i64 (i : Nat))]) ⟨fun _ _ => rfl, ⟨is, h8, hok⟩, hT⟩ (by omega) ?_
 rintro i T H2 hi ⟨hfr, ⟨is', g8, gok⟩, hT⟩
 have g2 := hfr 2 (by omega)
 rw [h2] at g2
 rw [hT.eq]
 simp only [over]
 unfold ref10_Open_l5
 by_cases hil : i < ts.length
 ·obtain ⟨w, hw⟩ : ∃ w, w = ts[i] := ⟨_, rfl⟩
  have hwf := ht w (by rw [hw]; exact List.getElem_mem hil)
  have hst : ∀ (g : List Bool → WS → List Bool) (b : List Bool), (ts.take (i + 1)).foldl g b = g ((ts.take i).foldl g b) w := fun g b => by
   rw [List.take_succ_eq_append_getElem hil, List.foldl_append, ← hw]; rfl
  rw [hst, hst]
  generalize (ts.take i).foldl mkN nd = nd' at *
  generalize (ts.take i).foldl mkS sc = sc' at *
  obtain ⟨t', f', s', hni, hs'⟩ := nodesIv_islc false w.nodes
  have he7 : (ts.map nIv)[i]? = some (.islc t' f' s' (NL w.nodes)) := by rw [List.getElem?_map, List.getElem?_eq_getElem hil, ← hw]; exact congrArg some hni
  have he5 : (ts.map mIv)[i]? = some (.islc false false 1 (NL w.m)) := by rw [List.getElem?_map, List.getElem?_eq_getElem hil, ← hw]; rfl
  repeat' (first | refine qS ?_ | refine q_loadR ?_ (hr := by exact g2) | refine qQb ?_ | refine q_cmp2 (fun _ => ?_) (fun _ => ?_))
  refine W.mono (ropen_l3 (k := k) (n := n) (ix := i) (nl := w.nodes) (is := is') (nd := nd') (rc := rc) (sc := sc') (v0 := v0) (v2 := v2) (v3 := v3) (by omega) hwf.2 hn (by omega) (fun a ha => (hwf.1.2.2 a ha).2) hs' he7 (by rw [e7]; exact g2) ((hfr 7 (by omega)).trans h7) g8 gok ⟨rfl, rfl, rfl, rfl, rfl, rfl, rfl, rfl, rfl, trivial⟩) ?_
  rintro ex T3 H3 ⟨rfl, hfr3, ⟨is3, g83, gok3⟩, hT3⟩
  rw [hT3.eq]
  simp only [over]
  show W _ _
  repeat' (first | refine qQb ?_ | refine q_cmp2 (fun _ => ?_) (fun _ => ?_))
  refine W.mono (ropen_l4 (k := k) (n := n) (ix := i) (m := w.m) (is := is3) (nd := w.nodes.foldl mark nd') (rc := rc) (sc := sc') (v0 := v0) (v2 := v2) (v3 := v3) (by omega) hwf.1.1 hn (by omega) hwf.1.2.1 he5 (by rw [e5]; exact (hfr3 2 (by omega)).trans g2) (((hfr3 5 (by omega)).trans (hfr 5 (by omega))).trans h5) g83 gok3 ⟨rfl, rfl, rfl, rfl, rfl, rfl, rfl, rfl, rfl, trivial⟩) ?_
  rintro ex T4 H4 ⟨rfl, hfr4, ⟨is4, g84, gok4⟩, hT4⟩
  rw [hT4.eq]
  simp only [over]
  show W _ _
  repeat' (first | refine qQb ?_ | refine q_cmp2 (fun _ => ?_) (fun _ => ?_))
  exact ⟨hil, (fun j hj => by rw [hfr4 j hj, hfr3 j hj]; exact hfr j hj), ⟨is4, g84, gok4⟩, rfl, rfl, rfl, rfl, rfl, rfl, rfl, by show AV.int _ _ = AV.int _ _; congr 1, trivial⟩
 ·have hin : i = ts.length := by omega
  subst hin
  rw [List.take_length] at *
  repeat' (first | refine qS ?_ | refine q_loadR ?_ (hr := by exact g2) | refine qQb ?_ | refine q_cmp2 (fun _ => ?_) (fun _ => ?_))
  exact ⟨rfl, hfr, rfl, rfl, rfl, rfl, rfl, trivial⟩
theorem ropen_l1 {k : Nat} {l : List UInt8} {f : Bool} {recs : List Rec} {s : Sup} {slot : Nat} {rv bv v8 v10 : AV} {T : Tmps} {H : Heap} (hk : 1000200 ≤ k) (hd : Dev l) (hl : recs.length < 900) (hs : s.size ≤ 512) (hr : ∀ r ∈ recs, r.size ≤ 512)
  (h0 : H 0 = ⟨1, false, .row 10 [zero10]⟩) (h1 : H 1 = ⟨1, false, .row 2 [.agg [.int .i64 0, .int .i64 0]]⟩) (h2 : RImgAt H s slot rv bv (.islc false true 0 []) (.islc false true 0 [])) (h3 : H 3 = ⟨1, false, .row 5 [s.av]⟩) (h5 : (H 5).gen = 0) (h7 : (H 7).gen = 0)
  (hT : Has T [(0, .islc false f 1 (BL l)), (2, .ptr 0 1 1 10 0 0), (3, .ptr 1 1 1 2 0 0), (4, .ptr 2 1 1 10 0 0), (5, .int .i64 (nb l : Nat)), (7, .ptr 3 1 1 5 0 0), (8, v8), (9, .islc false false 8 (recs.map Rec.av)), (10, v10), (12, .int .i64 (-1))]) :
  W (aexec (CF k) noX 0 k (.loop ref10_Open_l1) T H) (fun ex T' H' => (ex = .exit 0 ∧ ∃ ws, (treesA l ((s.root, s.size) :: recs.map fun r => (r.root, r.size)) []).2 = none ∧ (treesA l ((s.root, s.size) :: recs.map fun r => (r.root, r.size)) []).1 = ws ∧ ws.length = recs.length + 1 ∧ H' 0 = ⟨1, false, .row 10 [zero10]⟩ ∧ H' 1 = ⟨1, false, .row 2 [.agg [.int .i64 0, .int .i64 0]]⟩ ∧ RImgAt H' s slot rv bv (.slc 5 1 ws.length 1 0 ws.length none) (.slc 7 1 ws.length 1 0 ws.length none) ∧ H' 5 = ⟨1, false, .row 1 (ws.map mIv)⟩ ∧ H' 7 = ⟨1, false, .row 1 (ws.map nIv)⟩ ∧ (H' 8).gen = (H 8).gen ∧ Has T' [(0, .islc false f 1 (BL l)), (2, .ptr 0 1 1 10 0 0), (3, .ptr 1 1 1 2 0 0), (4, .ptr 2 1 1 10 0 0), (5, .int .i64 (nb l : Nat)), (10, v10)]) ∨
   (ex = .ret ∧ ∃ r : Nat, (treesA l ((s.root, s.size) :: recs.map fun r => (r.root, r.size)) []).2 = some r ∧ H' 0 = ⟨1, false, .row 10 [zero10]⟩ ∧ H' 1 = ⟨1, false, .row 2 [.agg [.int .i64 r, .int .i64 6]]⟩ ∧ T' 2 = .ptr 0 1 1 10 0 0 ∧ T' 3 = .ptr 1 1 1 2 0 0)) := by
 obtain ⟨ps, hps⟩ : ∃ ps, ps = (s.root, s.size) :: recs.map fun r => (r.root, r.size) := ⟨_, rfl⟩
 rw [← hps]
 have hpl : ps.length = recs.length + 1 := by rw [hps]; simp
 refine w_for (recs.length + 1) (fun i T' H' => ∃ ws, ws.length = i ∧ treesA l ps [] = treesA l (ps.drop i) ws ∧ H' 0 = ⟨1, false, .row 10 [zero10]⟩ ∧ H' 1 = ⟨1, false, .row 2 [.agg [.int .i64 0, .int .i64 0]]⟩ ∧ RImgAt H' s slot rv bv (rowA 5 i) (rowA 7 i) ∧ H' 3 = ⟨1, false, .row 5 [s.av]⟩ ∧ RowAt H' 5 (ws.map mIv) ∧ RowAt H' 7 (ws.map nIv) ∧ (H' 8).gen = (H 8).gen ∧
   Has T' [(0, .islc false f 1 (BL l)), (2, .ptr 0 1 1 10 0 0), (3, .ptr 1 1 1 2 0 0), (4, .ptr 2 1 1 10 0 0), (5, .int .i64 (nb l : Nat)), (7, .ptr 3 1 1 5 0 0), (8, v8), (9, .islc false false 8 (recs.map Rec.av)), (10, v10), (12, .int .i64 ((i : Int) - 1))]) ⟨[], rfl, by simp, h0, h1, h2, h3, h5, h7, rfl, by rw [show ((0 : Nat) : Int) - 1 = -1 from rfl]; exact hT⟩ (by omega) ?_
 clear h0 h1 h2 h3 h5 h7 hT T
 rintro i T H2 hi ⟨ws, hwl, hgo, h0, h1, h2, h3, h5, h7, h8, hT⟩
 obtain ⟨sg, sb, sr, sz, sf⟩ := s
 unfold Sup.av at h3
 unfold RImgAt at h2
 simp only at h3 h2 hs
 rw [hT.eq]
 simp only [over]
 unfold ref10_Open_l1
 have hrl : (recs.map Rec.av).length = recs.length := List.length_map _
 by_cases hil : i < recs.length + 1
 ·by_cases hi0 : i = 0
  ·subst hi0
   obtain rfl : ws = [] := List.eq_nil_of_length_eq_zero hwl
   have hd0 : ps.drop 0 = (sr, sz) :: ps.drop 1 := by rw [hps]; rfl
   have h5' : (H2 5).gen = 0 := h5
   have h7' : (H2 7).gen = 0 := h7
   have hap5 : rowA 5 0 = .islc false true 0 [] := rfl
   have hap7 : rowA 7 0 = .islc false true 0 [] := rfl
   rw [hap5, hap7] at h2
   repeat' (first | refine qS ?_ | refine wo_lenG (n := recs.length) rfl hrl rfl rfl ?_ | refine q_loadR ?_ (hr := by exact h3) | refine qQb ?_ | refine q_cmp2 (fun _ => ?_) (fun _ => ?_) | refine q_app fun _ => ?_)
   refine wo_cutT [(0, .islc false f 1 (BL l)), (2, .ptr 0 1 1 10 0 0), (3, .ptr 1 1 1 2 0 0), (4, .ptr 2 1 1 10 0 0), (5, .int .i64 (nb l : Nat)), (7, .ptr 3 1 1 5 0 0), (8, v8), (9, .islc false false 8 (recs.map Rec.av)), (10, v10), (12, .int .i64 (((0 : Nat) : Int) - 1)), (13, .int .i64 (sr : Nat)), (14, .int .i64 (sz : Nat)), (89, .islc false f 1 (BL l)), (90, .int .i64 (sr : Nat))] ⟨by kernel_rfl, by kernel_rfl, by kernel_rfl, by kernel_rfl, by kernel_rfl, by kernel_rfl, by kernel_rfl, by kernel_rfl, by kernel_rfl, by kernel_rfl, by kernel_rfl, by kernel_rfl, by kernel_rfl, by kernel_rfl, trivial⟩ (fun T hT => ?_)
   simp only [over]
   clear hT
   have htr := r_Tree k (by omega) f l hd sr
   rw [hd0] at hgo
   simp only [treesA] at hgo
   cases hg : goP l sr with
   | none =>
    rw [hg] at htr hgo
    unfold rtreeAv at htr
    repeat' (first | refine q_callB (htr) (fun _ => ?_) (fun _ => ?_) | refine q_call (htr) ?_ | refine qQb ?_ | refine q_cmp2 (fun _ => ?_) (fun _ => ?_) | refine q_app fun _ => ?_)
    refine W.mono (rbeyond (k := k) (m := []) (size := sz) (okb := false) (mv := .islc false true 0 []) (v16 := .islc false true 0 []) (v0 := .islc false f 1 (BL l)) (v2 := .ptr 0 1 1 10 0 0) (v3 := .ptr 1 1 1 2 0 0) (v4 := .ptr 2 1 1 10 0 0) (v5 := .int .i64 (nb l : Nat)) (v7 := .ptr 3 1 1 5 0 0) (v8 := v8) (v9 := .islc false false 8 (recs.map Rec.av)) (v10 := v10) (v12 := .int .i64 (((0 : Nat) : Int) - 1)) (v13 := .int .i64 (sr : Nat)) (v14 := .int .i64 (sz : Nat)) (by omega) (by omega) (fun h => by cases h) ⟨rfl, rfl, rfl, rfl, rfl, rfl, rfl, rfl, rfl, rfl, rfl, rfl, rfl, rfl, rfl, rfl, trivial⟩) ?_
    rintro ex T3 H3 ⟨rfl, rfl, hT3⟩
    rw [hT3.eq]
    simp only [over]
    show W _ _
    repeat' (first | refine qS ?_ | refine q_storeR ?_ (hr := by exact h0) | refine q_storeR ?_ (hr := by exact h1) | refine qQb ?_ | refine q_cmp2 (fun _ => ?_) (fun _ => ?_) | refine q_app fun _ => ?_)
    exact .inr ⟨rfl, sr, by rw [hgo], rfl, rfl, rfl, rfl⟩
   | some w =>
    rw [hg] at htr hgo
    unfold rtreeAv at htr
    simp only at htr hgo
    obtain ⟨t', f', s', hni, hs'⟩ := nodesIv_islc false w.nodes
    rw [hni] at htr
    have hwm : w.m.length = 512 := (goP_fit hd hg).1.1
    repeat' (first | refine q_callB (htr) (fun _ => ?_) (fun _ => ?_) | refine q_call (htr) ?_ | refine qQb ?_ | refine q_cmp2 (fun _ => ?_) (fun _ => ?_) | refine q_app fun _ => ?_)
    refine W.mono (rbeyond (k := k) (m := w.m) (size := sz) (okb := true) (mv := .islc false false 1 (NL w.m)) (v16 := .islc t' f' s' (NL w.nodes)) (v0 := .islc false f 1 (BL l)) (v2 := .ptr 0 1 1 10 0 0) (v3 := .ptr 1 1 1 2 0 0) (v4 := .ptr 2 1 1 10 0 0) (v5 := .int .i64 (nb l : Nat)) (v7 := .ptr 3 1 1 5 0 0) (v8 := v8) (v9 := .islc false false 8 (recs.map Rec.av)) (v10 := v10) (v12 := .int .i64 (((0 : Nat) : Int) - 1)) (v13 := .int .i64 (sr : Nat)) (v14 := .int .i64 (sz : Nat)) (by omega) (by omega) (fun _ => ⟨rfl, hwm⟩) ⟨rfl, rfl, rfl, rfl, rfl, rfl, rfl, rfl, rfl, rfl, rfl, rfl, rfl, rfl, rfl, rfl, trivial⟩) ?_
    rintro ex T3 H3 ⟨rfl, rfl, hT3⟩
    cases hby : beyondP w.m sz with
    | true =>
     rw [hby] at hT3
     rw [if_pos hby] at hgo
     rw [hT3.eq]
     simp only [over]
     show W _ _
     repeat' (first | refine qS ?_ | refine q_storeR ?_ (hr := by exact h0) | refine q_storeR ?_ (hr := by exact h1) | refine qQb ?_ | refine q_cmp2 (fun _ => ?_) (fun _ => ?_) | refine q_app fun _ => ?_)
     exact .inr ⟨rfl, sr, by rw [hgo], rfl, rfl, rfl, rfl⟩
    | false =>
     rw [hby] at hT3
     rw [if_neg (by rw [hby]; decide)] at hgo
     rw [hT3.eq]
     simp only [over]
     show W _ _
     repeat' (first
      | refine qS ?_ | refine q_buildS (hl := by kernel_rfl) ?_ | refine wo_app1NK rfl rfl rfl (by rfl) rfl rfl ?_ | refine q_loadR ?_ (hr := by exact h2) (hl := by kernel_rfl)
      | refine q_storeR ?_ (hr := by exact h2) | refine q_storeR ?_ (hr := by rfl) | refine qQb ?_ | refine q_cmp2 (fun _ => ?_) (fun _ => ?_) | refine q_app fun _ => ?_)
     refine ⟨hil, [w], rfl, by rw [hgo]; rfl, h0, h1, ?_, h3, ?_, ?_, h8, rfl, rfl, rfl, rfl, rfl, rfl, rfl, rfl, rfl, rfl, trivial⟩
     ·show (⟨1, false, .row 10 [.agg [.int .i64 sg, .int .i64 sb, .int .i64 sr, .int .i64 sz, .int .i64 sf, .int .i64 slot, rv, bv, .slc 5 ((H3 5).gen + 1) 1 1 0 1 none, .slc 7 ((H3 7).gen + 1) 1 1 0 1 none]]⟩ : Blk) = _
      rw [h5', h7']; rfl
     ·show (⟨(H3 5).gen + 1, false, .row 1 [mIv w]⟩ : Blk) = _
      rw [h5']; rfl
     ·show (⟨(H3 7).gen + 1, false, .row 1 [.islc t' f' s' (NL w.nodes)]⟩ : Blk) = _
      rw [h7', ← hni]; rfl
  ·obtain ⟨i, rfl⟩ : ∃ j, i = j + 1 := ⟨i - 1, by omega⟩
   have hil2 : i < recs.length := by omega
   obtain ⟨⟨b1, b2, b3, sr', sz', b6, b7, b8⟩, hrr⟩ : ∃ r, r = recs[i] := ⟨_, rfl⟩
   have he2 : (recs.map Rec.av)[(((i + 1 : Nat) : Int) - 1).toNat]? = some (.agg [.int .i64 b1, .int .i64 b2, .int .i64 b3, .int .i64 sr', .int .i64 sz', .int .i64 b6, .int .i64 b7, .int .i64 b8]) := by
    rw [show (((i + 1 : Nat) : Int) - 1).toNat = i by omega, List.getElem?_map, List.getElem?_eq_getElem hil2, ← hrr]; rfl
   have hd0 : ps.drop (i + 1) = (sr', sz') :: ps.drop (i + 2) := by
    rw [hps, List.drop_succ_cons, List.drop_succ_cons, List.drop_eq_getElem_cons (by simpa using hil2), List.getElem_map, ← hrr]
   have hsz' : sz' ≤ 512 := by have := hr recs[i] (List.getElem_mem hil2); rw [← hrr] at this; exact this
   have hne : ws ≠ [] := fun h => by rw [h] at hwl; simp at hwl
   have h5' : H2 5 = ⟨1, false, .row 1 (ws.map mIv)⟩ := by unfold RowAt at h5; rw [if_neg (by simpa using hne)] at h5; exact h5
   have h7' : H2 7 = ⟨1, false, .row 1 (ws.map nIv)⟩ := by unfold RowAt at h7; rw [if_neg (by simpa using hne)] at h7; exact h7
   have hap5 : rowA 5 (i + 1) = .slc 5 1 (i + 1) 1 0 (i + 1) none := rfl
   have hap7 : rowA 7 (i + 1) = .slc 7 1 (i + 1) 1 0 (i + 1) none := rfl
   rw [hap5, hap7] at h2
   repeat' (first
    | refine qS ?_ | refine wo_lenG (n := recs.length) rfl hrl rfl rfl ?_ | refine q_loadR ?_ (hr := by exact h3) | refine wo_atG rfl rfl (by omega) he2 rfl rfl ?_ | refine q_faddrI ?_
    | refine qQb ?_ | refine q_cmp2 (fun _ => ?_) (fun _ => ?_) | refine q_app fun _ => ?_)
   refine wo_cutT [(0, .islc false f 1 (BL l)), (2, .ptr 0 1 1 10 0 0), (3, .ptr 1 1 1 2 0 0), (4, .ptr 2 1 1 10 0 0), (5, .int .i64 (nb l : Nat)), (7, .ptr 3 1 1 5 0 0), (8, v8), (9, .islc false false 8 (recs.map Rec.av)), (10, v10), (12, .int .i64 (((i + 1 : Nat) : Int) - 1)), (13, .int .i64 (sr' : Nat)), (14, .int .i64 (sz' : Nat)), (89, .islc false f 1 (BL l)), (90, .int .i64 (sr' : Nat))] ⟨by kernel_rfl, by kernel_rfl, by kernel_rfl, by kernel_rfl, by kernel_rfl, by kernel_rfl, by kernel_rfl, by kernel_rfl, by kernel_rfl, by kernel_rfl, by kernel_rfl, by kernel_rfl, by kernel_rfl, by kernel_rfl, trivial⟩ (fun T hT => ?_)
   simp only [over]
   clear hT
   have htr := r_Tree k (by omega) f l hd sr'
   rw [hd0] at hgo
   simp only [treesA] at hgo
   cases hg : goP l sr' with
   | none =>
    rw [hg] at htr hgo
    unfold rtreeAv at htr
    repeat' (first | refine q_callB (htr) (fun _ => ?_) (fun _ => ?_) | refine q_call (htr) ?_ | refine qQb ?_ | refine q_cmp2 (fun _ => ?_) (fun _ => ?_) | refine q_app fun _ => ?_)
    refine W.mono (rbeyond (k := k) (m := []) (size := sz') (okb := false) (mv := .islc false true 0 []) (v16 := .islc false true 0 []) (v0 := .islc false f 1 (BL l)) (v2 := .ptr 0 1 1 10 0 0) (v3 := .ptr 1 1 1 2 0 0) (v4 := .ptr 2 1 1 10 0 0) (v5 := .int .i64 (nb l : Nat)) (v7 := .ptr 3 1 1 5 0 0) (v8 := v8) (v9 := .islc false false 8 (recs.map Rec.av)) (v10 := v10) (v12 := .int .i64 (((i + 1 : Nat) : Int) - 1)) (v13 := .int .i64 (sr' : Nat)) (v14 := .int .i64 (sz' : Nat)) (by omega) (by omega) (fun h => by cases h) ⟨rfl, rfl, rfl, rfl, rfl, rfl, rfl, rfl, rfl, rfl, rfl, rfl, rfl, rfl, rfl, rfl, trivial⟩) ?_
    rintro ex T3 H3 ⟨rfl, rfl, hT3⟩
    rw [hT3.eq]
    simp only [over]
    show W _ _
    repeat' (first | refine qS ?_ | refine q_storeR ?_ (hr := by exact h0) | refine q_storeR ?_ (hr := by exact h1) | refine qQb ?_ | refine q_cmp2 (fun _ => ?_) (fun _ => ?_) | refine q_app fun _ => ?_)
    exact .inr ⟨rfl, sr', by rw [hgo], rfl, rfl, rfl, rfl⟩
   | some w =>
    rw [hg] at htr hgo
    unfold rtreeAv at htr
    simp only at htr hgo
    obtain ⟨t', f', s', hni, hs'⟩ := nodesIv_islc false w.nodes
    rw [hni] at htr
    have hwm : w.m.length = 512 := (goP_fit hd hg).1.1
    repeat' (first | refine q_callB (htr) (fun _ => ?_) (fun _ => ?_) | refine q_call (htr) ?_ | refine qQb ?_ | refine q_cmp2 (fun _ => ?_) (fun _ => ?_) | refine q_app fun _ => ?_)
    refine W.mono (rbeyond (k := k) (m := w.m) (size := sz') (okb := true) (mv := .islc false false 1 (NL w.m)) (v16 := .islc t' f' s' (NL w.nodes)) (v0 := .islc false f 1 (BL l)) (v2 := .ptr 0 1 1 10 0 0) (v3 := .ptr 1 1 1 2 0 0) (v4 := .ptr 2 1 1 10 0 0) (v5 := .int .i64 (nb l : Nat)) (v7 := .ptr 3 1 1 5 0 0) (v8 := v8) (v9 := .islc false false 8 (recs.map Rec.av)) (v10 := v10) (v12 := .int .i64 (((i + 1 : Nat) : Int) - 1)) (v13 := .int .i64 (sr' : Nat)) (v14 := .int .i64 (sz' : Nat)) (by omega) (by omega) (fun _ => ⟨rfl, hwm⟩) ⟨rfl, rfl, rfl, rfl, rfl, rfl, rfl, rfl, rfl, rfl, rfl, rfl, rfl, rfl, rfl, rfl, trivial⟩) ?_
    rintro ex T3 H3 ⟨rfl, rfl, hT3⟩
    cases hby : beyondP w.m sz' with
    | true =>
     rw [hby] at hT3
     rw [if_pos hby] at hgo
     rw [hT3.eq]
     simp only [over]
     show W _ _
     repeat' (first | refine qS ?_ | refine q_storeR ?_ (hr := by exact h0) | refine q_storeR ?_ (hr := by exact h1) | refine qQb ?_ | refine q_cmp2 (fun _ => ?_) (fun _ => ?_) | refine q_app fun _ => ?_)
     exact .inr ⟨rfl, sr', by rw [hgo], rfl, rfl, rfl, rfl⟩
    | false =>
     rw [hby] at hT3
     rw [if_neg (by rw [hby]; decide)] at hgo
     rw [hT3.eq]
     simp only [over]
     show W _ _
     repeat' (first
      | refine qS ?_ | refine q_buildS (hl := by kernel_rfl) ?_
      | refine wo_app1K (es := ws.map mIv) rfl rfl rfl (by exact h5') (by rw [List.length_map]; exact hwl) (by rfl) (by omega) rfl rfl ?_
      | refine wo_app1K (es := ws.map nIv) rfl rfl rfl (by exact h7') (by rw [List.length_map]; exact hwl) (by rfl) (by omega) rfl rfl ?_
      | refine q_loadR ?_ (hr := by exact h2) (hl := by kernel_rfl) | refine q_storeR ?_ (hr := by exact h2) | refine q_storeR ?_ (hr := by rfl) | refine qQb ?_
      | refine q_cmp2 (fun _ => ?_) (fun _ => ?_) | refine q_app fun _ => ?_)
     refine ⟨hil, ws ++ [w], by simp [hwl], by rw [hgo], h0, h1, rfl, h3, ?_, ?_, h8, rfl, rfl, rfl, rfl, rfl, rfl, rfl, rfl, rfl, ?_, trivial⟩
     ·unfold RowAt
      rw [if_neg (by simp), List.map_append]; rfl
     ·unfold RowAt
      rw [if_neg (by simp), List.map_append]
      show (⟨1, false, .row 1 (ws.map nIv ++ [.islc t' f' s' (NL w.nodes)])⟩ : Blk) = _
      rw [← hni]; rfl
     ·show AV.int _ _ = AV.int _ _
      congr 1
      omega
 ·have hin : i = recs.length + 1 := by omega
  subst hin
  repeat' (first | refine qS ?_ | refine wo_lenG (n := recs.length) rfl hrl rfl rfl ?_ | refine qQb ?_ | refine q_cmp2 (fun _ => ?_) (fun _ => ?_) | refine q_app fun _ => ?_)
  refine .inl ⟨rfl, ws, ?_, ?_, hwl, h0, h1, by rw [hwl]; exact h2, ?_, ?_, h8, rfl, rfl, rfl, rfl, rfl, rfl, trivial⟩
  ·rw [hgo, List.drop_of_length_le (by omega)]; rfl
  ·rw [hgo, List.drop_of_length_le (by omega)]; rfl
  ·unfold RowAt at h5; rw [if_neg (by intro h; have := congrArg List.length h; simp at this; rw [this] at hwl; simp at hwl)] at h5; exact h5
  ·unfold RowAt at h7; rw [if_neg (by intro h; have := congrArg List.length h; simp at this; rw [this] at hwl; simp at hwl)] at h7; exact h7
end Go.Proofs.YtkaiiopoilpjeaaGreat

