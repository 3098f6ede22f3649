import Derived.Test.YtkaiiopoilpjeaaGreatK13
set_option linter.unusedSimpArgs false
set_option linter.unusedVariables false
set_option maxRecDepth 10000
set_option maxHeartbeats 16000000
namespace Go.Proofs.YtkaiiopoilpjeaaGreat
open Go.AI
attribute [local irreducible] aops aexec acall aiter aop W WO
def Img.rcs (x : Img) : List AV := [.int .i64 x.sup.gen, .int .i64 x.sup.blocks, .int .i64 x.sup.root, .int .i64 x.sup.size, .int .i64 x.sup.first, .int .i64 x.slot, .islc false false 8 (x.recs.map Rec.av), .islc false false 1 (NL x.blocks), .islc false false 1 (x.trees.map mIv), .islc false false 1 (x.trees.map nIv)]
def ropenAv : Except (Nat × Nat) Img → AV
 | .ok x => .tup [.agg x.rcs, .agg [.int .i64 0, .int .i64 0]]
 | .error (a, e) => .tup [zero10, .agg [.int .i64 a, .int .i64 e]]
theorem ares_cell {T : Tmps} {H : Heap} {t n j g : Nat} {ro : Bool} {cs : List AV} (hT : T t = .ptr j g 1 n 0 0) (hH : H j = ⟨g, ro, .row n [.agg cs]⟩) (hl : cs.length = n) : ares T H (.cell t n true) = some (.agg cs) := by
 simp only [ares, hT, row_of (ver := 1) hH rfl, List.getElem?_cons_zero, AV.cells]
 simp [hl]
 exact List.take_of_length_le (by omega)
theorem aresults2 {T : Tmps} {H : Heap} {a b : SRes} {v w : AV} (h1 : ares T H a = some v) (h2 : ares T H b = some w) : aresults T H [a, b] = some (.tup [v, w]) := by
 unfold aresults
 simp [h1, h2]
theorem r_Open (k : Nat) (hk : 1000300 ≤ k) (f : Bool) (l : List UInt8) (hl : l.length < 1000000) : FnV (CF k) n_ref10_Open [.islc false f 1 (BL l)] (ropenAv (lookQ l)) := by
 have hbk := r_Blocks (k - 1) (by omega) false f l hl
 refine fnk (by omega) B_ref10_Open rfl ?_
 unfold ref10_Open lookQ
 by_cases hdv : devB l.length
 rotate_left 1
 ·rw [decide_eq_false hdv] at hbk
  rw [if_neg hdv]
  repeat' (first | refine qS ?_ | refine qN ?_ | refine q_callB (hbk) (fun _ => ?_) (fun _ => ?_) | refine q_call (hbk) ?_ | refine qQ ?_ | refine q_cmp2 (fun _ => ?_) (fun _ => ?_) | refine q_app fun _ => ?_)
  exact ⟨Or.inr rfl, .tup [zero10, .agg [.int .i64 0, .int .i64 2]], by kernel_rfl, by kernel_rfl⟩
 have hd : Dev l := ⟨hl, hdv⟩
 have hn := hd.nb
 rw [decide_eq_true hdv] at hbk
 rw [if_pos hdv]
 have hbk : FnV (CF (k - 1)) n_ref01_Blocks [.islc false f 1 (BL l)] (.tup [.int .i64 (nb l : Nat), .bool true]) := hbk
 have hpk := r_Pick (k - 1) (by omega) false f l hd
 unfold lookP
 unfold rpickAv at hpk
 cases hp : pickP l with
 | none =>
  rw [hp] at hpk
  repeat' (first
   | refine qS ?_ | refine qN ?_ | refine q_callB (hbk) (fun _ => ?_) (fun _ => ?_) | refine q_call (hbk) ?_ | refine q_callB (hpk) (fun _ => ?_) (fun _ => ?_) | refine q_call (hpk) ?_
   | refine qQ ?_ | refine q_cmp2 (fun _ => ?_) (fun _ => ?_) | refine q_app fun _ => ?_)
  exact ⟨Or.inr rfl, .tup [zero10, .agg [.int .i64 0, .int .i64 8]], by kernel_rfl, by kernel_rfl⟩
 | some si =>
  obtain ⟨s, slot⟩ := si
  obtain ⟨p1, p2, p3⟩ := pickP_ok hp
  rw [hp] at hpk
  have hrc := r_Records (k - 1) (by omega) f l hd s.first
  simp only
  unfold lookC
  obtain ⟨f1, f2, f3, f4, f5⟩ := follow_fit l s.first
  obtain ⟨c, hc⟩ : ∃ c, c = followP l 64 s.first cs0 := ⟨_, rfl⟩
  rw [← hc] at hrc f1 f2 f3 f4 f5 ⊢
  unfold rrecsAv at hrc
  obtain ⟨sg, sb, sr, sz, sf⟩ := s
  unfold Sup.av at hpk
  simp only at hpk hrc p2
  by_cases hbad : c.bad = 0
  rotate_left 1
  ·rw [if_neg hbad] at hrc
   rw [if_pos hbad]
   repeat' (first
    | refine qS ?_ | refine qN ?_ | refine q_callB (hbk) (fun _ => ?_) (fun _ => ?_) | refine q_call (hbk) ?_ | refine q_callB (hpk) (fun _ => ?_) (fun _ => ?_) | refine q_call (hpk) ?_
    | refine q_callB (hrc) (fun _ => ?_) (fun _ => ?_) | refine q_call (hrc) ?_ | refine qQ ?_ | refine q_cmp2 (fun _ => ?_) (fun _ => ?_) | refine q_app fun _ => ?_)
   exact ⟨Or.inr rfl, .tup [zero10, .agg [.int .i64 c.bad, .int .i64 7]], by kernel_rfl, by kernel_rfl⟩
  rw [if_pos hbad] at hrc
  rw [if_neg (fun h => h hbad)]
  repeat' (first
   | refine qS ?_ | refine qN ?_ | refine q_callB (hbk) (fun _ => ?_) (fun _ => ?_) | refine q_call (hbk) ?_ | refine q_callB (hpk) (fun _ => ?_) (fun _ => ?_) | refine q_call (hpk) ?_
   | refine q_callB (hrc) (fun _ => ?_) (fun _ => ?_) | refine q_call (hrc) ?_ | refine qQ ?_ | refine q_cmp2 (fun _ => ?_) (fun _ => ?_) | refine q_app fun _ => ?_)
  refine w_cut [(0, .islc false f 1 (BL l)), (2, .ptr 0 1 1 10 0 0), (3, .ptr 1 1 1 2 0 0), (4, .ptr 2 1 1 10 0 0), (5, .int .i64 (nb l : Nat)), (7, .ptr 3 1 1 5 0 0), (8, .int .i64 (slot : Nat)), (9, .islc false false 8 (c.l.map Rec.av)), (10, .islc false false 1 (NL c.blocks)), (12, .int .i64 (-1))] [(0, ⟨1, false, .row 10 [zero10]⟩), (1, ⟨1, false, .row 2 [.agg [.int .i64 0, .int .i64 0]]⟩), (2, ⟨1, false, .row 10 [.agg [.int .i64 sg, .int .i64 sb, .int .i64 sr, .int .i64 sz, .int .i64 sf, .int .i64 (slot : Nat), .islc false false 8 (c.l.map Rec.av), .islc false false 1 (NL c.blocks), .islc false true 0 [], .islc false true 0 []]]⟩), (3, ⟨1, false, .row 5 [Sup.av ⟨sg, sb, sr, sz, sf⟩]⟩), (5, ⟨0, false, .dead⟩), (7, ⟨0, false, .dead⟩), (8, ⟨0, false, .dead⟩)] ⟨by kernel_rfl, by kernel_rfl, by kernel_rfl, by kernel_rfl, by kernel_rfl, by kernel_rfl, by kernel_rfl, by kernel_rfl, by kernel_rfl, by kernel_rfl, trivial⟩ ⟨by kernel_rfl, by kernel_rfl, by kernel_rfl, by kernel_rfl, by kernel_rfl, by kernel_rfl, by kernel_rfl, trivial⟩ (fun T H hT hH => ?_)
  obtain ⟨h0, h1, h2, h3, h5, h7, h8, -⟩ := hH
  simp only [over]
  clear hT
  have hc900 : c.l.length < 900 := by omega
  refine W.mono (ropen_l1 (k := k - 1) (l := l) (f := f) (recs := c.l) (s := ⟨sg, sb, sr, sz, sf⟩) (slot := slot) (rv := .islc false false 8 (c.l.map Rec.av)) (bv := .islc false false 1 (NL c.blocks)) (v8 := .int .i64 (slot : Nat)) (v10 := .islc false false 1 (NL c.blocks)) (by omega) hd hc900 p1.2.2.1 (fun r hr => (f3 r hr).2.2.2.1) h0 h1 h2 h3 (by rw [h5]) (by rw [h7]) ⟨rfl, rfl, rfl, rfl, rfl, rfl, rfl, rfl, rfl, rfl, trivial⟩) ?_
  have hrp : rootsP ⟨sg, sb, sr, sz, sf⟩ c = ((sr, sz) :: c.l.map fun r => (r.root, r.size)) := rfl
  clear h0 h1 h2 h3 h5 h7 hbk hpk hrc
  rintro ex T2 H2 (⟨rfl, ws, ht2, ht1, hwl, g0, g1, g2, g5, g7, g8, hT2⟩ | ⟨rfl, r, ht2, g0, g1, e2, e3⟩)
  rotate_left 1
  ·rw [hrp, ht2]
   simp only
   refine ⟨Or.inr rfl, .tup [zero10, .agg [.int .i64 r, .int .i64 6]], aresults2 (ares_cell e2 g0 rfl) (ares_cell e3 g1 rfl), by kernel_rfl⟩
  ·rw [hrp, ht2, ht1]
   simp only
   have hfit : ∀ w ∈ ws, w.fits (nb l) := by
    rw [← ht1]
    exact treesA_fits hd _ _ (fun w hw => by cases hw)
   have hwlt : ws.length < 1000 := by omega
   have hbl : c.blocks.length < 1000 := by omega
   have g8' : (H2 8).gen = 0 := by rw [g8, h8]
   have er : NL (List.replicate (nb l) 0) = List.replicate (nb l) (.int .i64 (0 : Nat)) := by simp only [NL, List.map_replicate]
   unfold RImgAt at g2
   simp only at g2
   obtain ⟨gg, hgg⟩ : ∃ g, g = (H2 8).gen + 1 := ⟨_, rfl⟩
   rw [hT2.eq]
   simp only [over]
   show W _ _
   repeat' (first | refine qS ?_ | refine qN ?_ | refine wo_mksG (nb l) rfl rfl rfl (by omega) rfl rfl rfl ?_ | refine qQ ?_ | refine q_cmp2 (fun _ => ?_) (fun _ => ?_) | refine q_app fun _ => ?_)
   refine w_cut [(0, .islc false f 1 (BL l)), (2, .ptr 0 1 1 10 0 0), (3, .ptr 1 1 1 2 0 0), (4, .ptr 2 1 1 10 0 0), (5, .int .i64 (nb l : Nat)), (10, .islc false false 1 (NL c.blocks)), (19, .slc 8 ((H2 8).gen + 1) (nb l) 1 0 (nb l) none), (20, .int .i64 0)] [(0, H2 0), (1, H2 1), (2, H2 2), (5, H2 5), (7, H2 7), (8, ⟨(H2 8).gen + 1, false, .row 1 (List.replicate (nb l) (.int .i64 (0 : Nat)))⟩)] ⟨rfl, rfl, rfl, rfl, rfl, rfl, rfl, rfl, trivial⟩ (by exact ⟨rfl, rfl, rfl, rfl, rfl, rfl, trivial⟩) (fun T H hT hH => ?_)
   obtain ⟨k0, k1, k2, k5, k7, k8, -⟩ := hH
   rw [g8', ← er] at k8
   rw [g8'] at hT ⊢
   rw [g0] at k0
   rw [g1] at k1
   rw [g2] at k2
   rw [g5] at k5
   rw [g7] at k7
   clear g0 g1 g2 g5 g7 g8 g8' hT2 hgg gg h8
   have hrf : ∀ b, (List.replicate (nb l) false).getD b default = false := fun b => by rw [Bool.eq_false_iff]; exact fun h => (repF_getD (nb l) b).1 h
   refine W.mono (ropen_l2 (k := k - 1) (n := nb l) (bl := c.blocks) (is := List.replicate (nb l) 0) (v0 := .islc false f 1 (BL l)) (v2 := .ptr 0 1 1 10 0 0) (v3 := .ptr 1 1 1 2 0 0) (v4 := .ptr 2 1 1 10 0 0) (by omega) hbl (by omega) (fun a ha => (f2 a ha).2) k8 ⟨by simp, by simp, by simp, by simp, (fun a ha => by
    rw [hrf]
    simp only [List.getD_eq_getElem?_getD, List.getElem?_replicate, if_pos ha, Option.getD_some]; rfl)⟩ ⟨rfl, rfl, rfl, rfl, rfl, rfl, rfl, rfl, trivial⟩) ?_
   clear hT
   rintro ex T4 H4 ⟨rfl, hfr4, ⟨is4, q8, iok4⟩, hT4⟩
   have hb0 : bad3 (List.replicate (nb l) false) (c.blocks.foldl mark (List.replicate (nb l) false)) (List.replicate (nb l) false) (nb l) = nb l := by
    refine least_eq (Nat.le_refl _) (fun b hb => ?_) (fun h => absurd h (Nat.lt_irrefl _))
    unfold clAt
    rw [hrf]; rfl
   rw [hT4.eq]
   simp only [over]
   show W _ _
   repeat' (first | refine qS ?_ | refine qN ?_ | refine qQ ?_ | refine q_cmp2 (fun _ => ?_) (fun _ => ?_) | refine q_app fun _ => ?_)
   refine W.mono (ropen_l5 (k := k - 1) (n := nb l) (ts := ws) (is := is4) (nd := List.replicate (nb l) false) (rc := c.blocks.foldl mark (List.replicate (nb l) false)) (sc := List.replicate (nb l) false) (v0 := .islc false f 1 (BL l)) (v2 := .ptr 0 1 1 10 0 0) (v3 := .ptr 1 1 1 2 0 0) (by omega) hwlt (by omega) hfit ((hfr4 2 (by omega)).trans k2) ((hfr4 5 (by omega)).trans k5) ((hfr4 7 (by omega)).trans k7) q8 iok4 ⟨rfl, rfl, rfl, rfl, rfl, by rw [hb0]; rfl, rfl, rfl, trivial⟩) ?_
   rintro ex T5 H5 ⟨rfl, hfr5, hT5⟩
   have j0 := ((hfr5 0 (by omega)).trans (hfr4 0 (by omega))).trans k0
   have j1 := ((hfr5 1 (by omega)).trans (hfr4 1 (by omega))).trans k1
   have j2 := ((hfr5 2 (by omega)).trans (hfr4 2 (by omega))).trans k2
   have j5 := ((hfr5 5 (by omega)).trans (hfr4 5 (by omega))).trans k5
   have j7 := ((hfr5 7 (by omega)).trans (hfr4 7 (by omega))).trans k7
   have hcl := clash_least (n := nb l) (bl := c.blocks) (ts := ws) f2 (fun w hw => (hfit w hw).1)
   obtain ⟨bd, hbd⟩ : ∃ b, b = bad3 (ws.foldl mkN (List.replicate (nb l) false)) (c.blocks.foldl mark (List.replicate (nb l) false)) (ws.foldl mkS (List.replicate (nb l) false)) (nb l) := ⟨_, rfl⟩
   rw [← hbd] at hcl hT5
   unfold lookT
   rw [hT5.eq]
   simp only [over]
   show W _ _
   rcases hcl with ⟨c1, c2⟩ | ⟨c1, c2, c3⟩
   ·rw [c2, if_neg (by decide)]
    have c1' : ¬ ((bd : Int) < nb l) := by omega
    repeat' (first
     | refine qS ?_ | refine qN ?_ | refine q_loadR ?_ (hr := by exact j2) | refine q_storeR ?_ (hr := by exact j0) | refine q_storeR ?_ (hr := by exact j1) | refine qQ ?_
     | refine q_cmp2 (fun _ => ?_) (fun _ => ?_) | refine q_app fun _ => ?_)
    refine ⟨Or.inr rfl, .tup [.agg [.int .i64 sg, .int .i64 sb, .int .i64 sr, .int .i64 sz, .int .i64 sf, .int .i64 (slot : Nat), .islc false false 8 (c.l.map Rec.av), .islc false false 1 (NL c.blocks), .slc 5 1 ws.length 1 0 ws.length none, .slc 7 1 ws.length 1 0 ws.length none], .agg [.int .i64 0, .int .i64 0]], by kernel_rfl, ?_⟩
    generalize hH : Heap.upd _ _ _ = H6
    have m5 : H6 5 = ⟨1, false, .row 1 (ws.map mIv)⟩ := by rw [← hH]; exact j5
    have m7 : H6 7 = ⟨1, false, .row 1 (ws.map nIv)⟩ := by rw [← hH]; exact j7
    have e5 : fz true 4 H6 (.slc 5 1 ws.length 1 0 ws.length none) = .islc false false 1 (ws.map mIv) := by
     rw [fz_slc (row_of m5 (by simp)) (by omega), List.drop_zero, List.take_of_length_le (by simp), List.map_map]
     rfl
    have e7 : fz true 4 H6 (.slc 7 1 ws.length 1 0 ws.length none) = .islc false false 1 (ws.map nIv) := by
     rw [fz_slc (row_of m7 (by simp)) (by omega), List.drop_zero, List.take_of_length_le (by simp), List.map_map]
     congr 1
     apply List.map_congr_left
     intro w _
     show fz true 3 H6 (nodesIv false w.nodes) = nodesIv false w.nodes
     unfold nodesIv
     split <;> rfl
    show AV.tup [AV.agg [_, _, _, _, _, _, _, _, fz true 4 H6 (.slc 5 1 ws.length 1 0 ws.length none), fz true 4 H6 (.slc 7 1 ws.length 1 0 ws.length none)], _] = _
    rw [e5, e7]
    rfl
   ·rw [c2, if_pos (by omega)]
    have c1' : (bd : Int) < nb l := by omega
    repeat' (first
     | refine qS ?_ | refine qN ?_ | refine q_loadR ?_ (hr := by exact j2) | refine q_storeR ?_ (hr := by exact j0) | refine q_storeR ?_ (hr := by exact j1) | refine qQ ?_
     | refine q_cmp2 (fun _ => ?_) (fun _ => ?_) | refine q_app fun _ => ?_)
    exact ⟨Or.inr rfl, .tup [zero10, .agg [.int .i64 (bd : Nat), .int .i64 6]], by kernel_rfl, by kernel_rfl⟩
end Go.Proofs.YtkaiiopoilpjeaaGreat

