import Derived.Test.YtkaiiopoilpjeaaGreatK18
set_option linter.unusedSimpArgs false
set_option linter.unusedVariables false
set_option maxRecDepth 10000
set_option maxHeartbeats 16000000
namespace Go.Proofs.YtkaiiopoilpjeaaGreat
open Go.AI
theorem ok_lt {r : Rec} (h : r.ok) : r.lt := by
 obtain ⟨h1, h2, ⟨h3, h4, h5⟩, h6, h7⟩ := h
 unfold ptrOk at h1 h2
 unfold Rec.lt
 omega
theorem revT_get {recs : List Rec} {m i : Nat} (hm : m ≤ recs.length) (hi : i < m) (h1 : m - 1 - i < recs.length) : ((recs.take m).reverse.take (i + 1)) = ((recs.take m).reverse.take i) ++ [recs[m - 1 - i]] := by
 have hl : i < (recs.take m).reverse.length := by simp; omega
 rw [List.take_succ_eq_append_getElem hl]
 congr 1
 simp only [List.getElem_reverse, List.getElem_take, List.length_take]
 congr 2
 omega
theorem norefsL_NL : ∀ l : List Nat, norefsL (NL l) = true
 | [] => rfl
 | x :: l => by
  show (true && norefsL (NL l)) = true
  rw [norefsL_NL l]; rfl
attribute [local irreducible] aops aexec acall aiter aop W WO
def rchAv (anew : List Rec) (free : List Nat) (p : Nat) : AV :=
 if free.length < anew.length then .tup [.islc false false 3 [], .int .i64 0, .islc false false 1 [], .bool false]
 else .tup [.islc false false 3 ((chainL anew free p).map IoV.av), .int .i64 (chainE anew free p), .islc false false 1 (NL (free.drop anew.length)), .bool true]
theorem rchain_l0 {k n : Nat} {recs : List Rec} {v2 v4 v5 v9 v12 v13 v14 : AV} {T : Tmps} {H : Heap} (hk : 1000 ≤ k) (hrl : recs.length < 900) (hn : n ≤ recs.length) (h3 : H 3 = ⟨1, false, .row 8 []⟩)
  (hT : Has T [(0, .islc false false 8 (recs.map Rec.av)), (2, v2), (4, v4), (5, v5), (9, v9), (12, v12), (13, v13), (14, v14), (16, .slc 3 1 0 8 0 0 none), (17, .int .i64 ((n : Int) - 2))]) :
  W (aexec (CF k) noX 0 k (.loop ref10_Chain_l0) T H) (fun ex T' H' => ex = .exit 0 ∧ (H' 0 = H 0 ∧ H' 1 = H 1 ∧ H' 2 = H 2) ∧ H' 3 = ⟨1, false, .row 8 ((recs.take (n - 1)).reverse.map Rec.av)⟩ ∧ Has T' [(4, v4), (5, v5), (9, v9), (12, v12), (13, v13), (14, v14), (16, .slc 3 1 (n - 1) 8 0 (n - 1) none)]) := by
 have hrl2 : (recs.take (n - 1)).reverse.length = n - 1 := by simp; omega
 refine w_for (n - 1) (fun i T' H' => (H' 0 = H 0 ∧ H' 1 = H 1 ∧ H' 2 = H 2) ∧ H' 3 = ⟨1, false, .row 8 (((recs.take (n - 1)).reverse.take i).map Rec.av)⟩ ∧ Has T' [(0, .islc false false 8 (recs.map Rec.av)), (2, v2), (4, v4), (5, v5), (9, v9), (12, v12), (13, v13), (14, v14), (16, .slc 3 1 i 8 0 i none), (17, .int .i64 ((n : Int) - 2 - i))]) ⟨⟨rfl, rfl, rfl⟩, h3, by rw [show (n : Int) - 2 - ((0 : Nat) : Int) = (n : Int) - 2 by omega]; exact hT⟩ (by omega) ?_
 rintro i T H2 hi ⟨⟨q0, q1, q2⟩, g3, hT⟩
 rw [hT.eq]
 simp only [over]
 unfold ref10_Chain_l0
 by_cases hil : i < n - 1
 ·have hix : n - 1 - 1 - i < recs.length := by omega
  rw [revT_get (by omega) hil hix]
  obtain ⟨⟨b1, b2, b3, b4, b5, b6, b7, b8⟩, hr⟩ : ∃ r, r = recs[n - 1 - 1 - i] := ⟨_, rfl⟩
  have he2 : (recs.map Rec.av)[((n : Int) - 2 - i).toNat]? = some (.agg [.int .i64 b1, .int .i64 b2, .int .i64 b3, .int .i64 b4, .int .i64 b5, .int .i64 b6, .int .i64 b7, .int .i64 b8]) := by
   rw [show ((n : Int) - 2 - i).toNat = n - 1 - 1 - i by omega, List.getElem?_map, List.getElem?_eq_getElem hix, ← hr]; rfl
  rw [← hr]
  have hml : (((recs.take (n - 1)).reverse.take i).map Rec.av).length = i := by rw [List.length_map, List.length_take, hrl2]; omega
  repeat' (first
   | refine qS ?_ | refine wo_atG rfl rfl (by omega) he2 rfl rfl ?_ | refine wo_app1 rfl rfl rfl (by exact g3) hml rfl (by omega) rfl rfl (fun _ => ?_) | refine qQb ?_
   | refine q_cmp2 (fun _ => ?_) (fun _ => ?_) | refine q_app fun _ => ?_)
  refine ⟨hil, ⟨q0, q1, q2⟩, by rw [List.map_append]; rfl, rfl, rfl, rfl, rfl, rfl, rfl, rfl, rfl, rfl, by show AV.int _ _ = AV.int _ _; congr 1; omega, trivial⟩
 ·have hin : i = n - 1 := by omega
  subst hin
  rw [List.take_of_length_le (by omega)] at g3
  repeat' (first | refine qQb ?_ | refine q_cmp2 (fun _ => ?_) (fun _ => ?_) | refine q_app fun _ => ?_)
  exact ⟨rfl, ⟨q0, q1, q2⟩, g3, rfl, rfl, rfl, rfl, rfl, rfl, rfl, trivial⟩
theorem rchain_l1 {k : Nat} {anew : List Rec} {free : List Nat} {p0 : Nat} {v14 : AV} {T : Tmps} {H : Heap} (hk : 1000200 ≤ k) (hm : anew.length < 1000) (hfl : anew.length ≤ free.length) (hro : ∀ r ∈ anew, ({ r with next := 0 } : Rec).ok) (hf : ∀ a ∈ free, a < 4096) (hp : p0 < 4096)
  (h3 : H 3 = ⟨1, false, .row 8 (anew.map Rec.av)⟩) (h1 : H 1 = ⟨1, false, .row 3 []⟩)
  (hT : Has T [(5, .islc false false 1 (NL free)), (12, .slc 1 1 0 3 0 0 none), (13, .int .i64 p0), (14, v14), (16, .slc 3 1 anew.length 8 0 anew.length none), (18, .int .i64 0)]) :
  W (aexec (CF k) noX 0 k (.loop ref10_Chain_l1) T H) (fun ex T' H' => ex = .exit 2 ∧ (chainL anew free p0).length = anew.length ∧ H' 1 = ⟨1, false, .row 3 ((chainL anew free p0).map IoV.av)⟩ ∧ H' 2 = H 2 ∧
   Has T' [(5, .islc false false 1 (NL free)), (12, .slc 1 1 anew.length 3 0 anew.length none), (13, .int .i64 (chainE anew free p0)), (14, v14), (16, .slc 3 1 anew.length 8 0 anew.length none)]) := by
 refine w_for anew.length (fun i T' H' => ∃ (out : List IoV) (p : Nat), out.length = i ∧ p < 4096 ∧ chainL anew free p0 = out ++ chainL (anew.drop i) (free.drop i) p ∧ chainE anew free p0 = chainE (anew.drop i) (free.drop i) p ∧ H' 3 = ⟨1, false, .row 8 (anew.map Rec.av)⟩ ∧ H' 1 = ⟨1, false, .row 3 (out.map IoV.av)⟩ ∧ H' 2 = H 2 ∧
   Has T' [(5, .islc false false 1 (NL free)), (12, .slc 1 1 i 3 0 i none), (13, .int .i64 p), (14, v14), (16, .slc 3 1 anew.length 8 0 anew.length none), (18, .int .i64 (i : Nat))])
  ⟨[], p0, rfl, hp, rfl, rfl, h3, h1, rfl, hT⟩ (by omega) ?_
 rintro i T H2 hi ⟨out, p, hol, hpp, hgo, hge, gj, g1, g2, hT⟩
 rw [hT.eq]
 simp only [over]
 unfold ref10_Chain_l1
 by_cases hil : i < anew.length
 ·have hif : i < free.length := by omega
  rw [List.drop_eq_getElem_cons hil, List.drop_eq_getElem_cons hif] at hgo hge
  obtain ⟨a, ha⟩ : ∃ a, a = free[i] := ⟨_, rfl⟩
  obtain ⟨⟨b1, b2, b3, b4, b5, b6, b7, b8⟩, hr⟩ : ∃ r, r = anew[i] := ⟨_, rfl⟩
  have hab := hf free[i] (List.getElem_mem hif)
  have hrk := hro anew[i] (List.getElem_mem hil)
  rw [← ha, ← hr] at hgo hge
  rw [← ha] at hab
  rw [← hr] at hrk
  simp only [chainL, chainE] at hgo hge
  have hlt0 := ok_lt hrk
  unfold Rec.lt at hlt0
  simp only at hlt0
  have hb := r_RecordBytes k (by omega) ⟨p, b2, b3, b4, b5, b6, b7, b8⟩ (by unfold Rec.lt; simp only; omega)
  have hb' : FnV (CF k) n_ref01_RecordBytes [.agg [.int .i64 p, .int .i64 b2, .int .i64 b3, .int .i64 b4, .int .i64 b5, .int .i64 b6, .int .i64 b7, .int .i64 b8]] (.islc false false 1 (BL (recB ⟨p, b2, b3, b4, b5, b6, b7, b8⟩))) := hb
  have hml : (anew.map Rec.av).length = anew.length := List.length_map _
  have he : (anew.map Rec.av)[0 + (i : Int).toNat]? = some (.agg [.int .i64 b1, .int .i64 b2, .int .i64 b3, .int .i64 b4, .int .i64 b5, .int .i64 b6, .int .i64 b7, .int .i64 b8]) := by
   rw [show 0 + (i : Int).toNat = i by omega, List.getElem?_map, List.getElem?_eq_getElem hil, ← hr]; rfl
  have ha2 : free.getD (i : Int).toNat default = a := by rw [Int.toNat_natCast, ha]; simp [hif]
  have hol2 : (out.map IoV.av).length = i := by rw [List.length_map]; exact hol
  repeat' (first
   | refine qS ?_ | refine wo_atR rfl rfl (by exact gj) hml (by omega) (by omega) (by omega) rfl rfl ?_
   | refine wo_loadR (.agg [.int .i64 b1, .int .i64 b2, .int .i64 b3, .int .i64 b4, .int .i64 b5, .int .i64 b6, .int .i64 b7, .int .i64 b8]) rfl (by exact gj) hml he (Nat.le_of_ble_eq_true rfl) rfl rfl rfl ?_
   | refine wo_atV (enc := nav) a rfl rfl (by omega) (by omega) ha2 rfl rfl ?_ | refine wo_app1 rfl rfl rfl (by exact g1) hol2 rfl (by omega) rfl rfl (fun _ => ?_)
   | refine q_callB (hb') (fun _ => ?_) (fun _ => ?_) | refine q_call (hb') ?_ | refine qQb ?_ | refine q_cmp2 (fun _ => ?_) (fun _ => ?_) | refine q_app fun _ => ?_)
  refine ⟨hil, out ++ [wIo a (recB ⟨p, b2, b3, b4, b5, b6, b7, b8⟩)], a, by simp [hol], hab, by rw [hgo, List.append_assoc]; rfl, hge, gj, by rw [List.map_append]; rfl, g2, rfl, rfl, rfl, rfl, rfl, by show AV.int _ _ = AV.int _ _; congr 1, trivial⟩
 ·have hin : i = anew.length := by omega
  repeat' (first | refine qQb ?_ | refine q_cmp2 (fun _ => ?_) (fun _ => ?_) | refine q_app fun _ => ?_)
  subst hin
  rw [List.drop_length] at hgo hge
  simp only [chainL, chainE, List.append_nil] at hgo hge
  rw [hgo, hge]
  exact ⟨rfl, hol, g1, g2, rfl, rfl, rfl, rfl, rfl, trivial⟩
theorem r_Chain (k : Nat) (hk : 1000300 ≤ k) (recs : List Rec) (bl : List Nat) (n : Nat) (first : Rec) (wth : Bool) (free : List Nat) (hrl : recs.length < 900) (hbl : bl.length = recs.length) (hn : n ≤ recs.length) (hro : ∀ r ∈ recs, r.ok) (hfo : wth = true → ({ first with next := 0 } : Rec).ok)
  (hb : ∀ a ∈ bl, a < 4096) (hf : ∀ a ∈ free, a < 4096) (hfl : free.length ≤ 4096) :
  FnV (CF k) n_ref10_Chain [.islc false false 8 (recs.map Rec.av), .islc false false 1 (NL bl), .int .i64 n, first.av, .bool wth, .islc false false 1 (NL free)] (rchAv (anewP recs n first wth) free (bl.getD n default)) := by
 obtain ⟨f1, f2, f3, f4, f5, f6, f7, f8⟩ := first
 have hrl8 : (recs.map Rec.av).length = recs.length := List.length_map _
 have hal : (anewP recs n ⟨f1, f2, f3, f4, f5, f6, f7, f8⟩ wth).length = n - 1 + (if wth = true then 1 else 0) := by
  unfold anewP
  rw [List.length_append, List.length_reverse, List.length_take]
  cases wth <;> simp <;> omega
 have hao : ∀ r ∈ anewP recs n ⟨f1, f2, f3, f4, f5, f6, f7, f8⟩ wth, ({ r with next := 0 } : Rec).ok := by
  intro r hr
  unfold anewP at hr
  rcases List.mem_append.1 hr with hr | hr
  ·have := hro r (List.mem_of_mem_take (List.mem_reverse.1 hr))
   exact ⟨.inl rfl, this.2⟩
  ·cases wth with
   | false => cases hr
   | true => rw [if_pos rfl] at hr; rw [List.mem_singleton.1 hr]; exact hfo rfl
 refine fnk (by omega) B_ref10_Chain rfl ?_
 unfold ref10_Chain Rec.av
 simp only
 obtain ⟨p0, hp0⟩ : ∃ p, p = bl.getD n default := ⟨_, rfl⟩
 have hpl : p0 < 4096 := by
  rw [hp0]
  by_cases h : n < bl.length
  ·rw [List.getD_eq_getElem?_getD, List.getElem?_eq_getElem h]
   exact hb _ (List.getElem_mem h)
  ·rw [List.getD_eq_getElem?_getD, List.getElem?_eq_none (by omega)]; decide
 rw [← hp0]
 have hnn : ((n : Int)).toNat = n := Int.toNat_natCast n
 by_cases hnl : n < recs.length
 ·have hp2 : bl.getD ((n : Int)).toNat default = p0 := by rw [hnn]; exact hp0.symm
  repeat' (first
   | refine qS ?_ | refine wo_lenG (n := recs.length) rfl hrl8 rfl rfl ?_ | refine wo_atV (enc := nav) (l := bl) p0 rfl rfl (by omega) (by omega) hp2 rfl rfl ?_ | refine qQb ?_
   | refine q_cmp2 (fun _ => ?_) (fun _ => ?_) | refine q_app fun _ => ?_)
  refine w_cut [(0, .islc false false 8 (recs.map Rec.av)), (2, .int .i64 (n : Nat)), (4, .bool wth), (5, .islc false false 1 (NL free)), (9, .ptr 0 1 1 8 0 0), (12, .slc 1 1 0 3 0 0 none), (13, .int .i64 (p0 : Nat)), (14, .slc 2 1 0 1 0 0 none), (16, .slc 3 1 0 8 0 0 none), (17, .int .i64 ((n : Int) - 2))] [(0, ⟨1, false, .row 8 [.agg [.int .i64 f1, .int .i64 f2, .int .i64 f3, .int .i64 f4, .int .i64 f5, .int .i64 f6, .int .i64 f7, .int .i64 f8]]⟩), (1, ⟨1, false, .row 3 []⟩), (2, ⟨1, false, .row 1 []⟩), (3, ⟨1, false, .row 8 []⟩)] ⟨by kernel_rfl, by kernel_rfl, by kernel_rfl, by kernel_rfl, by kernel_rfl, by kernel_rfl, by kernel_rfl, by kernel_rfl, by kernel_rfl, by kernel_rfl, trivial⟩ ⟨by kernel_rfl, by kernel_rfl, by kernel_rfl, by kernel_rfl, trivial⟩ (fun T H hT hH => ?_)
  obtain ⟨h0, h1, h2, h3, -⟩ := hH
  simp only [over]
  clear hT
  refine W.mono (rchain_l0 (k := k - 1) (n := n) (recs := recs) (v2 := .int .i64 (n : Nat)) (v4 := .bool wth) (v5 := .islc false false 1 (NL free)) (v9 := .ptr 0 1 1 8 0 0) (v12 := .slc 1 1 0 3 0 0 none) (v13 := .int .i64 (p0 : Nat)) (v14 := .slc 2 1 0 1 0 0 none) (by omega) hrl hn h3 ⟨rfl, rfl, rfl, rfl, rfl, rfl, rfl, rfl, rfl, rfl, trivial⟩) ?_
  rintro ex T2 H2 ⟨rfl, ⟨k0, k1, k2⟩, k3, hT2⟩
  rw [h0] at k0
  rw [h1] at k1
  rw [h2] at k2
  clear h0 h1 h2 h3
  have hrv : ((recs.take (n - 1)).reverse.map Rec.av).length = n - 1 := by simp; omega
  rw [hT2.eq]
  simp only [over]
  show W _ _
  obtain ⟨an, han⟩ : ∃ an, an = anewP recs n ⟨f1, f2, f3, f4, f5, f6, f7, f8⟩ wth := ⟨_, rfl⟩
  have key : ∀ (T : Tmps) (H : Heap), H 1 = ⟨1, false, .row 3 []⟩ → H 2 = ⟨1, false, .row 1 []⟩ → H 3 = ⟨1, false, .row 8 (an.map Rec.av)⟩ → Has T [(5, .islc false false 1 (NL free)), (12, .slc 1 1 0 3 0 0 none), (13, .int .i64 (p0 : Nat)), (14, .slc 2 1 0 1 0 0 none), (16, .slc 3 1 an.length 8 0 an.length none)] →
    True := fun _ _ _ _ _ _ => trivial
  cases wth with
  | true =>
   repeat' (first
    | refine qS ?_ | refine q_loadR ?_ (hr := by exact k0) | refine wo_app1 (es := (recs.take (n - 1)).reverse.map Rec.av) rfl rfl rfl (by exact k3) hrv rfl (by omega) rfl rfl (fun _ => ?_)
    | refine qQb ?_ | refine q_app fun _ => ?_)
   refine wo_cut [(5, .islc false false 1 (NL free)), (12, .slc 1 1 0 3 0 0 none), (13, .int .i64 (p0 : Nat)), (14, .slc 2 1 0 1 0 0 none), (16, .slc 3 1 (n - 1 + 1) 8 0 (n - 1 + 1) none), (47, .int .i64 (n - 1 + 1 : Nat)), (49, .int .i64 (free.length : Nat))] [(1, H2 1), (2, H2 2), (3, ⟨1, false, .row 8 ((recs.take (n - 1)).reverse.map Rec.av ++ [.agg [.int .i64 f1, .int .i64 f2, .int .i64 f3, .int .i64 f4, .int .i64 f5, .int .i64 f6, .int .i64 f7, .int .i64 f8]])⟩)] ⟨by kernel_rfl, by kernel_rfl, by kernel_rfl, by kernel_rfl, by kernel_rfl, by kernel_rfl, by kernel_rfl, trivial⟩ ⟨by kernel_rfl, by kernel_rfl, by kernel_rfl, trivial⟩ (fun T H hT hH => ?_)
   obtain ⟨m1, m2, m3, -⟩ := hH
   simp only [over]
   clear hT
   have m3' : (recs.take (n - 1)).reverse.map Rec.av ++ [.agg [.int .i64 f1, .int .i64 f2, .int .i64 f3, .int .i64 f4, .int .i64 f5, .int .i64 f6, .int .i64 f7, .int .i64 f8]] = an.map Rec.av := by rw [han]; unfold anewP; rw [if_pos rfl, List.map_append]; rfl
   rw [m3'] at m3
   rw [k1] at m1
   rw [k2] at m2
   rw [if_pos rfl] at hal
   rw [← han] at hal hao
   rw [← hal]
   by_cases hsp : free.length < an.length
   ·rw [← han]
    unfold rchAv
    rw [if_pos hsp]
    repeat' (first | refine qS ?_ | refine wo_lenG (n := free.length) rfl (NL_len _) rfl rfl ?_ | refine qQb ?_ | refine q_cmp2 (fun _ => ?_) (fun _ => ?_) | refine q_app fun _ => ?_)
    refine ⟨Or.inr rfl, .tup [.slc 8 ((H 8).gen + 1) 0 3 0 0 none, .int .i64 0, .slc 9 ((H 9).gen + 1) 0 1 0 0 none, .bool false], rfl, ?_⟩
    show AV.tup [fz true 5 _ (.slc 8 ((H 8).gen + 1) 0 3 0 0 none), _, fz true 5 _ (.slc 9 ((H 9).gen + 1) 0 1 0 0 none), _] = _
    rw [fz_slc0 (by rfl) 3, fz_slc0 (by rfl) 3]; rfl
   ·rw [← han]
    unfold rchAv
    rw [if_neg hsp]
    repeat' (first | refine qS ?_ | refine wo_lenG (n := free.length) rfl (NL_len _) rfl rfl ?_ | refine qQb ?_ | refine q_cmp2 (fun _ => ?_) (fun _ => ?_) | refine q_app fun _ => ?_)
    refine W.mono (rchain_l1 (k := k - 1) (anew := an) (free := free) (p0 := p0) (v14 := .slc 2 1 0 1 0 0 none) (by omega) (by omega) (by omega) hao hf (by omega) m3 m1 ⟨rfl, rfl, rfl, rfl, rfl, rfl, trivial⟩) ?_
    rintro ex T5 H5 ⟨rfl, hcl, j1, j2, hT5⟩
    rw [m2] at j2
    have hdl : (NL (free.drop an.length)).length = free.length - an.length := by rw [NL_len, List.length_drop]
    rw [hT5.eq]
    simp only [over]
    show W _ _
    repeat' (first
     | refine qS ?_ | refine wo_sliceG (n := free.length) (a := an.length) (b := free.length) rfl (.inl rfl) (NL_len _) (optNn rfl) rfl (by omega) (by omega) rfl rfl ?_
     | refine wo_appG (es := []) (m := NL (free.drop an.length)) rfl (by show AV.islc _ _ _ (((NL free).drop an.length).take (free.length - an.length)) = _; rw [show (NL free).drop an.length = NL (free.drop an.length) by simp [NL], List.take_of_length_le (by omega)]) (.inl rfl) (by exact j2) rfl (norefsL_NL _) (by omega) rfl rfl (fun _ => ?_)
     | refine qQb ?_ | refine q_cmp2 (fun _ => ?_) (fun _ => ?_) | refine q_app fun _ => ?_)
    refine ⟨Or.inr rfl, .tup [.slc 1 1 an.length 3 0 an.length none, .int .i64 (chainE an free p0 : Nat), .slc 2 1 (0 + (NL (free.drop an.length)).length) 1 0 (0 + (NL (free.drop an.length)).length) none, .bool true], rfl, ?_⟩
    generalize hH : Heap.upd _ _ _ = H6
    have r1 : H6 1 = ⟨1, false, .row 3 ((chainL an free p0).map IoV.av)⟩ := by rw [← hH]; exact j1
    have r2 : H6 2 = ⟨1, false, .row 1 (NL (free.drop an.length))⟩ := by rw [← hH]; rfl
    show AV.tup [fz true 5 H6 (.slc 1 1 an.length 3 0 an.length none), _, fz true 5 H6 (.slc 2 1 (0 + (NL (free.drop an.length)).length) 1 0 (0 + (NL (free.drop an.length)).length) none), _] = _
    rw [fz_ownO r1 hcl (chainL_t _ _ _) 2, fz_ownN r2 (by rw [NL_len, Nat.zero_add]) 3]; rfl
  | false =>
   refine w_cut [(4, .bool false), (5, .islc false false 1 (NL free)), (12, .slc 1 1 0 3 0 0 none), (13, .int .i64 (p0 : Nat)), (14, .slc 2 1 0 1 0 0 none), (16, .slc 3 1 (n - 1) 8 0 (n - 1) none)] [(1, H2 1), (2, H2 2), (3, H2 3)] ⟨by kernel_rfl, by kernel_rfl, by kernel_rfl, by kernel_rfl, by kernel_rfl, by kernel_rfl, trivial⟩ ⟨by kernel_rfl, by kernel_rfl, by kernel_rfl, trivial⟩ (fun T H hT hH => ?_)
   obtain ⟨m1, m2, m3, -⟩ := hH
   simp only [over]
   clear hT
   have m3' : (recs.take (n - 1)).reverse.map Rec.av = an.map Rec.av := by rw [han]; unfold anewP; rw [if_neg (by decide), List.append_nil]
   rw [k3, m3'] at m3
   rw [k1] at m1
   rw [k2] at m2
   rw [if_neg (by decide), Nat.add_zero] at hal
   rw [← han] at hal hao
   rw [← hal]
   by_cases hsp : free.length < an.length
   ·rw [← han]
    unfold rchAv
    rw [if_pos hsp]
    repeat' (first | refine qS ?_ | refine wo_lenG (n := free.length) rfl (NL_len _) rfl rfl ?_ | refine qQb ?_ | refine q_cmp2 (fun _ => ?_) (fun _ => ?_) | refine q_app fun _ => ?_)
    refine ⟨Or.inr rfl, .tup [.slc 8 ((H 8).gen + 1) 0 3 0 0 none, .int .i64 0, .slc 9 ((H 9).gen + 1) 0 1 0 0 none, .bool false], rfl, ?_⟩
    show AV.tup [fz true 5 _ (.slc 8 ((H 8).gen + 1) 0 3 0 0 none), _, fz true 5 _ (.slc 9 ((H 9).gen + 1) 0 1 0 0 none), _] = _
    rw [fz_slc0 (by rfl) 3, fz_slc0 (by rfl) 3]; rfl
   ·rw [← han]
    unfold rchAv
    rw [if_neg hsp]
    repeat' (first | refine qS ?_ | refine wo_lenG (n := free.length) rfl (NL_len _) rfl rfl ?_ | refine qQb ?_ | refine q_cmp2 (fun _ => ?_) (fun _ => ?_) | refine q_app fun _ => ?_)
    refine W.mono (rchain_l1 (k := k - 1) (anew := an) (free := free) (p0 := p0) (v14 := .slc 2 1 0 1 0 0 none) (by omega) (by omega) (by omega) hao hf (by omega) m3 m1 ⟨rfl, rfl, rfl, rfl, rfl, rfl, trivial⟩) ?_
    rintro ex T5 H5 ⟨rfl, hcl, j1, j2, hT5⟩
    rw [m2] at j2
    have hdl : (NL (free.drop an.length)).length = free.length - an.length := by rw [NL_len, List.length_drop]
    rw [hT5.eq]
    simp only [over]
    show W _ _
    repeat' (first
     | refine qS ?_ | refine wo_sliceG (n := free.length) (a := an.length) (b := free.length) rfl (.inl rfl) (NL_len _) (optNn rfl) rfl (by omega) (by omega) rfl rfl ?_
     | refine wo_appG (es := []) (m := NL (free.drop an.length)) rfl (by show AV.islc _ _ _ (((NL free).drop an.length).take (free.length - an.length)) = _; rw [show (NL free).drop an.length = NL (free.drop an.length) by simp [NL], List.take_of_length_le (by omega)]) (.inl rfl) (by exact j2) rfl (norefsL_NL _) (by omega) rfl rfl (fun _ => ?_)
     | refine qQb ?_ | refine q_cmp2 (fun _ => ?_) (fun _ => ?_) | refine q_app fun _ => ?_)
    refine ⟨Or.inr rfl, .tup [.slc 1 1 an.length 3 0 an.length none, .int .i64 (chainE an free p0 : Nat), .slc 2 1 (0 + (NL (free.drop an.length)).length) 1 0 (0 + (NL (free.drop an.length)).length) none, .bool true], rfl, ?_⟩
    generalize hH : Heap.upd _ _ _ = H6
    have r1 : H6 1 = ⟨1, false, .row 3 ((chainL an free p0).map IoV.av)⟩ := by rw [← hH]; exact j1
    have r2 : H6 2 = ⟨1, false, .row 1 (NL (free.drop an.length))⟩ := by rw [← hH]; rfl
    show AV.tup [fz true 5 H6 (.slc 1 1 an.length 3 0 an.length none), _, fz true 5 H6 (.slc 2 1 (0 + (NL (free.drop an.length)).length) 1 0 (0 + (NL (free.drop an.length)).length) none), _] = _
    rw [fz_ownO r1 hcl (chainL_t _ _ _) 2, fz_ownN r2 (by rw [NL_len, Nat.zero_add]) 3]; rfl
 ·have hp00 : p0 = 0 := by rw [hp0, List.getD_eq_getElem?_getD, List.getElem?_eq_none (by omega)]; rfl
  subst hp00
  repeat' (first | refine qS ?_ | refine wo_lenG (n := recs.length) rfl hrl8 rfl rfl ?_ | refine qQb ?_ | refine q_cmp2 (fun _ => ?_) (fun _ => ?_) | refine q_app fun _ => ?_)
  refine w_cut [(0, .islc false false 8 (recs.map Rec.av)), (2, .int .i64 (n : Nat)), (4, .bool wth), (5, .islc false false 1 (NL free)), (9, .ptr 0 1 1 8 0 0), (12, .slc 1 1 0 3 0 0 none), (13, .int .i64 (0 : Nat)), (14, .slc 2 1 0 1 0 0 none), (16, .slc 3 1 0 8 0 0 none), (17, .int .i64 ((n : Int) - 2))] [(0, ⟨1, false, .row 8 [.agg [.int .i64 f1, .int .i64 f2, .int .i64 f3, .int .i64 f4, .int .i64 f5, .int .i64 f6, .int .i64 f7, .int .i64 f8]]⟩), (1, ⟨1, false, .row 3 []⟩), (2, ⟨1, false, .row 1 []⟩), (3, ⟨1, false, .row 8 []⟩)] ⟨by kernel_rfl, by kernel_rfl, by kernel_rfl, by kernel_rfl, by kernel_rfl, by kernel_rfl, by kernel_rfl, by kernel_rfl, by kernel_rfl, by kernel_rfl, trivial⟩ ⟨by kernel_rfl, by kernel_rfl, by kernel_rfl, by kernel_rfl, trivial⟩ (fun T H hT hH => ?_)
  obtain ⟨h0, h1, h2, h3, -⟩ := hH
  simp only [over]
  clear hT
  refine W.mono (rchain_l0 (k := k - 1) (n := n) (recs := recs) (v2 := .int .i64 (n : Nat)) (v4 := .bool wth) (v5 := .islc false false 1 (NL free)) (v9 := .ptr 0 1 1 8 0 0) (v12 := .slc 1 1 0 3 0 0 none) (v13 := .int .i64 (0 : Nat)) (v14 := .slc 2 1 0 1 0 0 none) (by omega) hrl hn h3 ⟨rfl, rfl, rfl, rfl, rfl, rfl, rfl, rfl, rfl, rfl, trivial⟩) ?_
  rintro ex T2 H2 ⟨rfl, ⟨k0, k1, k2⟩, k3, hT2⟩
  rw [h0] at k0
  rw [h1] at k1
  rw [h2] at k2
  clear h0 h1 h2 h3
  have hrv : ((recs.take (n - 1)).reverse.map Rec.av).length = n - 1 := by simp; omega
  rw [hT2.eq]
  simp only [over]
  show W _ _
  obtain ⟨an, han⟩ : ∃ an, an = anewP recs n ⟨f1, f2, f3, f4, f5, f6, f7, f8⟩ wth := ⟨_, rfl⟩
  have key : ∀ (T : Tmps) (H : Heap), H 1 = ⟨1, false, .row 3 []⟩ → H 2 = ⟨1, false, .row 1 []⟩ → H 3 = ⟨1, false, .row 8 (an.map Rec.av)⟩ → Has T [(5, .islc false false 1 (NL free)), (12, .slc 1 1 0 3 0 0 none), (13, .int .i64 (0 : Nat)), (14, .slc 2 1 0 1 0 0 none), (16, .slc 3 1 an.length 8 0 an.length none)] →
    True := fun _ _ _ _ _ _ => trivial
  cases wth with
  | true =>
   repeat' (first
    | refine qS ?_ | refine q_loadR ?_ (hr := by exact k0) | refine wo_app1 (es := (recs.take (n - 1)).reverse.map Rec.av) rfl rfl rfl (by exact k3) hrv rfl (by omega) rfl rfl (fun _ => ?_)
    | refine qQb ?_ | refine q_app fun _ => ?_)
   refine wo_cut [(5, .islc false false 1 (NL free)), (12, .slc 1 1 0 3 0 0 none), (13, .int .i64 (0 : Nat)), (14, .slc 2 1 0 1 0 0 none), (16, .slc 3 1 (n - 1 + 1) 8 0 (n - 1 + 1) none), (47, .int .i64 (n - 1 + 1 : Nat)), (49, .int .i64 (free.length : Nat))] [(1, H2 1), (2, H2 2), (3, ⟨1, false, .row 8 ((recs.take (n - 1)).reverse.map Rec.av ++ [.agg [.int .i64 f1, .int .i64 f2, .int .i64 f3, .int .i64 f4, .int .i64 f5, .int .i64 f6, .int .i64 f7, .int .i64 f8]])⟩)] ⟨by kernel_rfl, by kernel_rfl, by kernel_rfl, by kernel_rfl, by kernel_rfl, by kernel_rfl, by kernel_rfl, trivial⟩ ⟨by kernel_rfl, by kernel_rfl, by kernel_rfl, trivial⟩ (fun T H hT hH => ?_)
   obtain ⟨m1, m2, m3, -⟩ := hH
   simp only [over]
   clear hT
   have m3' : (recs.take (n - 1)).reverse.map Rec.av ++ [.agg [.int .i64 f1, .int .i64 f2, .int .i64 f3, .int .i64 f4, .int .i64 f5, .int .i64 f6, .int .i64 f7, .int .i64 f8]] = an.map Rec.av := by rw [han]; unfold anewP; rw [if_pos rfl, List.map_append]; rfl
   rw [m3'] at m3
   rw [k1] at m1
   rw [k2] at m2
   rw [if_pos rfl] at hal
   rw [← han] at hal hao
   rw [← hal]
   by_cases hsp : free.length < an.length
   ·rw [← han]
    unfold rchAv
    rw [if_pos hsp]
    repeat' (first | refine qS ?_ | refine wo_lenG (n := free.length) rfl (NL_len _) rfl rfl ?_ | refine qQb ?_ | refine q_cmp2 (fun _ => ?_) (fun _ => ?_) | refine q_app fun _ => ?_)
    refine ⟨Or.inr rfl, .tup [.slc 8 ((H 8).gen + 1) 0 3 0 0 none, .int .i64 0, .slc 9 ((H 9).gen + 1) 0 1 0 0 none, .bool false], rfl, ?_⟩
    show AV.tup [fz true 5 _ (.slc 8 ((H 8).gen + 1) 0 3 0 0 none), _, fz true 5 _ (.slc 9 ((H 9).gen + 1) 0 1 0 0 none), _] = _
    rw [fz_slc0 (by rfl) 3, fz_slc0 (by rfl) 3]; rfl
   ·rw [← han]
    unfold rchAv
    rw [if_neg hsp]
    repeat' (first | refine qS ?_ | refine wo_lenG (n := free.length) rfl (NL_len _) rfl rfl ?_ | refine qQb ?_ | refine q_cmp2 (fun _ => ?_) (fun _ => ?_) | refine q_app fun _ => ?_)
    refine W.mono (rchain_l1 (k := k - 1) (anew := an) (free := free) (p0 := 0) (v14 := .slc 2 1 0 1 0 0 none) (by omega) (by omega) (by omega) hao hf (by omega) m3 m1 ⟨rfl, rfl, rfl, rfl, rfl, rfl, trivial⟩) ?_
    rintro ex T5 H5 ⟨rfl, hcl, j1, j2, hT5⟩
    rw [m2] at j2
    have hdl : (NL (free.drop an.length)).length = free.length - an.length := by rw [NL_len, List.length_drop]
    rw [hT5.eq]
    simp only [over]
    show W _ _
    repeat' (first
     | refine qS ?_ | refine wo_sliceG (n := free.length) (a := an.length) (b := free.length) rfl (.inl rfl) (NL_len _) (optNn rfl) rfl (by omega) (by omega) rfl rfl ?_
     | refine wo_appG (es := []) (m := NL (free.drop an.length)) rfl (by show AV.islc _ _ _ (((NL free).drop an.length).take (free.length - an.length)) = _; rw [show (NL free).drop an.length = NL (free.drop an.length) by simp [NL], List.take_of_length_le (by omega)]) (.inl rfl) (by exact j2) rfl (norefsL_NL _) (by omega) rfl rfl (fun _ => ?_)
     | refine qQb ?_ | refine q_cmp2 (fun _ => ?_) (fun _ => ?_) | refine q_app fun _ => ?_)
    refine ⟨Or.inr rfl, .tup [.slc 1 1 an.length 3 0 an.length none, .int .i64 (chainE an free 0 : Nat), .slc 2 1 (0 + (NL (free.drop an.length)).length) 1 0 (0 + (NL (free.drop an.length)).length) none, .bool true], rfl, ?_⟩
    generalize hH : Heap.upd _ _ _ = H6
    have r1 : H6 1 = ⟨1, false, .row 3 ((chainL an free 0).map IoV.av)⟩ := by rw [← hH]; exact j1
    have r2 : H6 2 = ⟨1, false, .row 1 (NL (free.drop an.length))⟩ := by rw [← hH]; rfl
    show AV.tup [fz true 5 H6 (.slc 1 1 an.length 3 0 an.length none), _, fz true 5 H6 (.slc 2 1 (0 + (NL (free.drop an.length)).length) 1 0 (0 + (NL (free.drop an.length)).length) none), _] = _
    rw [fz_ownO r1 hcl (chainL_t _ _ _) 2, fz_ownN r2 (by rw [NL_len, Nat.zero_add]) 3]; rfl
  | false =>
   refine w_cut [(4, .bool false), (5, .islc false false 1 (NL free)), (12, .slc 1 1 0 3 0 0 none), (13, .int .i64 (0 : Nat)), (14, .slc 2 1 0 1 0 0 none), (16, .slc 3 1 (n - 1) 8 0 (n - 1) none)] [(1, H2 1), (2, H2 2), (3, H2 3)] ⟨by kernel_rfl, by kernel_rfl, by kernel_rfl, by kernel_rfl, by kernel_rfl, by kernel_rfl, trivial⟩ ⟨by kernel_rfl, by kernel_rfl, by kernel_rfl, trivial⟩ (fun T H hT hH => ?_)
   obtain ⟨m1, m2, m3, -⟩ := hH
   simp only [over]
   clear hT
   have m3' : (recs.take (n - 1)).reverse.map Rec.av = an.map Rec.av := by rw [han]; unfold anewP; rw [if_neg (by decide), List.append_nil]
   rw [k3, m3'] at m3
   rw [k1] at m1
   rw [k2] at m2
   rw [if_neg (by decide), Nat.add_zero] at hal
   rw [← han] at hal hao
   rw [← hal]
   by_cases hsp : free.length < an.length
   ·rw [← han]
    unfold rchAv
    rw [if_pos hsp]
    repeat' (first | refine qS ?_ | refine wo_lenG (n := free.length) rfl (NL_len _) rfl rfl ?_ | refine qQb ?_ | refine q_cmp2 (fun _ => ?_) (fun _ => ?_) | refine q_app fun _ => ?_)
    refine ⟨Or.inr rfl, .tup [.slc 8 ((H 8).gen + 1) 0 3 0 0 none, .int .i64 0, .slc 9 ((H 9).gen + 1) 0 1 0 0 none, .bool false], rfl, ?_⟩
    show AV.tup [fz true 5 _ (.slc 8 ((H 8).gen + 1) 0 3 0 0 none), _, fz true 5 _ (.slc 9 ((H 9).gen + 1) 0 1 0 0 none), _] = _
    rw [fz_slc0 (by rfl) 3, fz_slc0 (by rfl) 3]; rfl
   ·rw [← han]
    unfold rchAv
    rw [if_neg hsp]
    repeat' (first | refine qS ?_ | refine wo_lenG (n := free.length) rfl (NL_len _) rfl rfl ?_ | refine qQb ?_ | refine q_cmp2 (fun _ => ?_) (fun _ => ?_) | refine q_app fun _ => ?_)
    refine W.mono (rchain_l1 (k := k - 1) (anew := an) (free := free) (p0 := 0) (v14 := .slc 2 1 0 1 0 0 none) (by omega) (by omega) (by omega) hao hf (by omega) m3 m1 ⟨rfl, rfl, rfl, rfl, rfl, rfl, trivial⟩) ?_
    rintro ex T5 H5 ⟨rfl, hcl, j1, j2, hT5⟩
    rw [m2] at j2
    have hdl : (NL (free.drop an.length)).length = free.length - an.length := by rw [NL_len, List.length_drop]
    rw [hT5.eq]
    simp only [over]
    show W _ _
    repeat' (first
     | refine qS ?_ | refine wo_sliceG (n := free.length) (a := an.length) (b := free.length) rfl (.inl rfl) (NL_len _) (optNn rfl) rfl (by omega) (by omega) rfl rfl ?_
     | refine wo_appG (es := []) (m := NL (free.drop an.length)) rfl (by show AV.islc _ _ _ (((NL free).drop an.length).take (free.length - an.length)) = _; rw [show (NL free).drop an.length = NL (free.drop an.length) by simp [NL], List.take_of_length_le (by omega)]) (.inl rfl) (by exact j2) rfl (norefsL_NL _) (by omega) rfl rfl (fun _ => ?_)
     | refine qQb ?_ | refine q_cmp2 (fun _ => ?_) (fun _ => ?_) | refine q_app fun _ => ?_)
    refine ⟨Or.inr rfl, .tup [.slc 1 1 an.length 3 0 an.length none, .int .i64 (chainE an free 0 : Nat), .slc 2 1 (0 + (NL (free.drop an.length)).length) 1 0 (0 + (NL (free.drop an.length)).length) none, .bool true], rfl, ?_⟩
    generalize hH : Heap.upd _ _ _ = H6
    have r1 : H6 1 = ⟨1, false, .row 3 ((chainL an free 0).map IoV.av)⟩ := by rw [← hH]; exact j1
    have r2 : H6 2 = ⟨1, false, .row 1 (NL (free.drop an.length))⟩ := by rw [← hH]; rfl
    show AV.tup [fz true 5 H6 (.slc 1 1 an.length 3 0 an.length none), _, fz true 5 H6 (.slc 2 1 (0 + (NL (free.drop an.length)).length) 1 0 (0 + (NL (free.drop an.length)).length) none), _] = _
    rw [fz_ownO r1 hcl (chainL_t _ _ _) 2, fz_ownN r2 (by rw [NL_len, Nat.zero_add]) 3]; rfl
end Go.Proofs.YtkaiiopoilpjeaaGreat

