import Derived.Test.YtkaiiopoilpjeaaGreatK7
import Derived.Test.YtkaiiopoilpjeaaGreatMM
set_option linter.unusedSimpArgs false
set_option linter.unusedVariables false
set_option maxRecDepth 10000
set_option maxHeartbeats 16000000
namespace Go.Proofs.YtkaiiopoilpjeaaGreat
open Go.AI
def RecsAt (H : Heap) (c : CS) : Prop := H 0 = ⟨1, false, .row 8 (c.l.map Rec.av)⟩ ∧ H 1 = ⟨1, false, .row 1 (NL c.blocks)⟩ ∧ c.blocks.length = c.l.length ∧ c.bad = 0
def RecsNo (c : CS) (T : Tmps) (H : Heap) : Prop := c.bad ≠ 0 ∧ ∃ j g i g', H j = ⟨g, false, .row 8 []⟩ ∧ H i = ⟨g', false, .row 1 []⟩ ∧ T 4 = .slc j g 0 8 0 0 none ∧ T 5 = .slc i g' 0 1 0 0 none ∧ T 6 = .int .i64 (c.bad : Nat) ∧ T 7 = .bool false
attribute [local irreducible] aops aexec acall aiter aop W WO
theorem recs_loop (k : Nat) (hk : 1000060 ≤ k) {f : Bool} {l : List UInt8} (hd : Dev l) {first : Nat} {T : Tmps} {H : Heap} (hch : RecsAt H cs0)
  (hT : Has T [(0, .islc false f 1 (BL l)), (4, .slc 0 1 0 8 0 0 none), (5, .slc 1 1 0 1 0 0 none), (8, .int .i64 (nb l : Nat)), (10, .int .i64 0), (11, .int .i64 (first : Nat))]) :
  W (aexec (CF k) noX 0 k (.loop ref10_Records_l1) T H) (fun ex T' H' => (ex = .exit 0 ∧ RecsAt H' (followP l 64 first cs0) ∧ (followP l 64 first cs0).l.length ≤ 100 ∧ Has T' [(4, .slc 0 1 (followP l 64 first cs0).l.length 8 0 (followP l 64 first cs0).l.length none), (5, .slc 1 1 (followP l 64 first cs0).l.length 1 0 (followP l 64 first cs0).l.length none)]) ∨ (ex = .ret ∧ RecsNo (followP l 64 first cs0) T' H')) := by
 refine w_loop (fun m T H => ∃ c a, followP l 64 first cs0 = followP l (m + 1) a c ∧ RecsAt H c ∧ c.l.length + m = 63 ∧ c.l.length ≤ c.whole + 1 ∧ c.whole ≤ 60 ∧ Has T [(0, .islc false f 1 (BL l)), (4, .slc 0 1 c.l.length 8 0 c.l.length none), (5, .slc 1 1 c.l.length 1 0 c.l.length none), (8, .int .i64 (nb l : Nat)), (10, .int .i64 (c.whole : Nat)), (11, .int .i64 (a : Nat))])
  63 ⟨cs0, first, rfl, hch, rfl, by decide, by decide, hT⟩ (by omega) ?_
 rintro m T H hm ⟨c, a, hgo, ⟨g0, g1, hbl, hbad⟩, hlm, hl1, hw60, hT⟩
 have hn := hd.nb
 rw [hT.eq]
 simp only [over]
 unfold ref10_Records_l1
 by_cases ha0 : a = 0
 ·have hgo : followP l 64 first cs0 = c := by rw [hgo, followP, if_pos ha0]
  repeat' (first | refine qS ?_ | refine qN ?_ | refine qQb ?_ | refine q_cmp2 (fun _ => ?_) (fun _ => ?_) | refine q_app fun _ => ?_)
  rw [hgo]
  exact .inl ⟨rfl, ⟨g0, g1, hbl, hbad⟩, by omega, rfl, rfl, trivial⟩
 have hgo : followP l 64 first cs0 = if a < 2 ∨ nb l ≤ a ∨ c.blocks.any (a == ·) = true then { c with bad := a } else if (parseRec (blk l a)).2 ≠ 0 ∨ mayP c (parseRec (blk l a)).1 = false then { c with bad := a } else followP l m (parseRec (blk l a)).1.next (c.put a (parseRec (blk l a)).1) := by
  rw [hgo, followP, if_neg ha0]
 have hin := r_in k (by omega) (a : Int) 2 ((nb l : Int) - 1)
 have hhas : FnV (CF k) n_ref10_has [fz false (4 + 2) H (.slc 1 1 c.l.length 1 0 c.l.length none), .int .i64 (a : Nat)] (.bool (c.blocks.any (a == ·))) := by
  rw [fz_ownN g1 hbl 4]
  exact r_has k (by omega) true false 1 c.blocks a (by omega) (.inl rfl)
 by_cases h2 : a < 2 ∨ nb l ≤ a
 ·rw [if_pos (by rcases h2 with h | h; exact .inl h; exact .inr (.inl h))] at hgo
  rw [hgo]
  rw [inR_f.2 (by omega)] at hin
  repeat' (first | refine qS ?_ | refine qN ?_ | refine q_call hin ?_ | refine qQb ?_ | refine q_cmp2 (fun _ => ?_) (fun _ => ?_) | refine q_app fun _ => ?_)
  exact .inr ⟨rfl, ha0, 2, (H 2).gen + 1, 3, (H 3).gen + 1, rfl, rfl, rfl, rfl, rfl, rfl⟩
 rw [inR_iff.2 (by omega)] at hin
 cases hc : c.blocks.any (a == ·) with
 | true =>
  rw [hc] at hgo hhas
  rw [if_pos (.inr (.inr rfl))] at hgo
  rw [hgo]
  repeat' (first | refine qS ?_ | refine qN ?_ | refine q_call hin ?_ | refine q_call hhas ?_ rfl (by rfl) | refine qQb ?_ | refine q_cmp2 (fun _ => ?_) (fun _ => ?_) | refine q_app fun _ => ?_)
  exact .inr ⟨rfl, ha0, 2, (H 2).gen + 1, 3, (H 3).gen + 1, rfl, rfl, rfl, rfl, rfl, rfl⟩
 | false =>
  rw [hc] at hgo hhas
  rw [if_neg (by simp; omega)] at hgo
  have hof := r_Block k (by omega) false f l a hd.1 (hd.le (by omega))
  have hp := r_ParseRecord k (by omega) false (f && decide (64 * (a + 1) = l.length)) (blk l a) (by rw [blk_len (hd.le (by omega))]; omega)
  have hpok := parseRec_ok (b := blk l a)
  obtain ⟨x, hx⟩ : ∃ x, x = parseRec (blk l a) := ⟨_, rfl⟩
  rw [← hx] at hp hpok hgo
  obtain ⟨⟨r1, r2, r3, r4, r5, r6, r7, r8⟩, e⟩ := x
  unfold Rec.av at hp
  simp only at hp hpok hgo
  obtain ⟨g4, hg4⟩ : ∃ g, g = (H 4).gen + 1 := ⟨_, rfl⟩
  by_cases he : e ≠ 0
  ·rw [if_pos (.inl he)] at hgo
   rw [hgo]
   repeat' (first
    | refine qS ?_ | refine qN ?_ | refine q_call hin ?_ | refine q_call hhas ?_ rfl (by rfl) | refine wo_inl (hof _ _) rfl rfl rfl ?_ | refine q_store ?_ (hl := by kernel_rfl)
    | refine q_callB (hp) (fun _ => ?_) (fun _ => ?_) | refine q_call (hp) ?_ | refine qQb ?_ | refine q_cmp2 (fun _ => ?_) (fun _ => ?_) | refine q_app fun _ => ?_)
   exact .inr ⟨rfl, ha0, 5, (H 5).gen + 1, 6, (H 6).gen + 1, rfl, rfl, rfl, rfl, rfl, rfl⟩
  have he := Classical.not_not.1 he
  have hok := hpok he
  by_cases hk1 : r6 = 1 ∧ 0 < c.l.length
  ·have hmm : mayP c ⟨r1, r2, r3, r4, r5, r6, r7, r8⟩ = false := by
    unfold mayP
    rw [if_pos hk1.1]
    exact decide_eq_false (fun h => by rw [h] at hk1; simp at hk1)
   rw [if_pos (.inr hmm)] at hgo
   rw [hgo]
   have hk1' : (r6 : Int) = 1 := by omega
   repeat' (first
    | refine qS ?_ | refine qN ?_ | refine q_call hin ?_ | refine q_call hhas ?_ rfl (by rfl) | refine wo_inl (hof _ _) rfl rfl rfl ?_ | refine q_store ?_ (hl := by kernel_rfl)
    | refine q_callB (hp) (fun _ => ?_) (fun _ => ?_) | refine q_call (hp) ?_ | refine qQb ?_ | refine q_cmp2 (fun _ => ?_) (fun _ => ?_) | refine q_app fun _ => ?_)
   exact .inr ⟨rfl, ha0, 5, (H 5).gen + 1, 6, (H 6).gen + 1, rfl, rfl, rfl, rfl, rfl, rfl⟩
  have hkd : r6 = 0 ∨ r6 = 1 := Rec.ok_kind hok
  by_cases hk0 : r6 = 0
  ·have hk0' : (r6 : Int) = 0 := by omega
   repeat' (first
    | refine qS ?_ | refine qN ?_ | refine q_call hin ?_ | refine q_call hhas ?_ rfl (by rfl) | refine wo_inl (hof _ _) rfl rfl rfl ?_ | refine q_store ?_ (hl := by kernel_rfl)
    | refine q_callB (hp) (fun _ => ?_) (fun _ => ?_) | refine q_call (hp) ?_ | refine qQb ?_ | refine q_cmp2 (fun _ => ?_) (fun _ => ?_) | refine q_app fun _ => ?_)
   refine w_cut [(0, .islc false f 1 (BL l)), (4, .slc 0 1 c.l.length 8 0 c.l.length none), (5, .slc 1 1 c.l.length 1 0 c.l.length none), (8, .int .i64 (nb l : Nat)), (10, .int .i64 (c.whole + 1 : Nat)), (11, .int .i64 (a : Nat)), (12, .ptr 4 ((H 4).gen + 1) 1 8 0 0), (14, .int .i64 0)] [(1, H 1), (0, H 0), (4, ⟨(H 4).gen + 1, false, .row 8 [Rec.av ⟨r1, r2, r3, r4, r5, r6, r7, r8⟩]⟩)] ⟨by kernel_rfl, by kernel_rfl, by kernel_rfl, by kernel_rfl, by kernel_rfl, by kernel_rfl, by kernel_rfl, by kernel_rfl, trivial⟩ ⟨by kernel_rfl, by kernel_rfl, by kernel_rfl, trivial⟩ (fun T H hT hH => ?_)
   obtain ⟨h1, h0, h4, -⟩ := hH
   simp only [over]
   clear hT
   rw [g0] at h0
   rw [g1] at h1
   refine W.mono (rec_ids (k := k) (rs := c.l) (r := ⟨r1, r2, r3, r4, r5, r6, r7, r8⟩) (v0 := .islc false f 1 (BL l)) (v5 := .slc 1 1 c.l.length 1 0 c.l.length none) (v8 := .int .i64 (nb l : Nat)) (v10 := .int .i64 (c.whole + 1 : Nat)) (v11 := .int .i64 (a : Nat)) (by omega) (by omega) h0 h4 ⟨rfl, rfl, rfl, rfl, rfl, rfl, rfl, rfl, trivial⟩) ?_
   rintro ex T2 H2 (⟨rfl, hany, rfl, hT2⟩ | ⟨rfl, hany, g, g', q7, q8, e4, e5, e6, e7⟩)
   ·rw [hT2.eq]
    simp only [over]
    show W _ _
    have hpw : (c.put a ⟨r1, r2, r3, r4, r5, r6, r7, r8⟩).whole = c.whole + 1 := if_pos hk0
    by_cases hw : c.whole < 60
    ·have hmm : mayP c ⟨r1, r2, r3, r4, r5, r6, r7, r8⟩ = true := by
      unfold mayP
      rw [if_neg (by show ¬ r6 = 1; omega), hany, decide_eq_true hw]; rfl
     rw [if_neg (by simp [he, hmm])] at hgo
     repeat' (first
      | refine qS ?_ | refine qN ?_ | refine wo_loadR (Rec.av ⟨r1, r2, r3, r4, r5, r6, r7, r8⟩) rfl (by exact h4) rfl rfl (by exact Nat.le_of_ble_eq_true rfl) rfl rfl rfl ?_
      | refine wo_loadR (.int .i64 r1) rfl (by exact h4) rfl rfl (by exact Nat.le_of_ble_eq_true rfl) rfl rfl rfl ?_
      | refine wo_app1 (es := c.l.map Rec.av) rfl rfl rfl (by exact h0) (by rw [List.length_map]) rfl (by omega) rfl rfl (fun _ => ?_)
      | refine wo_app1 (es := NL c.blocks) rfl rfl rfl (by exact h1) (by rw [NL_len]; exact hbl) rfl (by omega) rfl rfl (fun _ => ?_) | refine qQb ?_
      | refine q_cmp2 (fun _ => ?_) (fun _ => ?_) | refine q_app fun _ => ?_)
     refine ⟨by omega, c.put a ⟨r1, r2, r3, r4, r5, r6, r7, r8⟩, r1, by rw [hgo, show m - 1 + 1 = m by omega], ⟨?_, ?_, by simp [CS.put, hbl], rfl⟩, by simp only [CS.put, List.length_append, List.length_cons, List.length_nil]; omega, by rw [hpw]; simp only [CS.put, List.length_append, List.length_cons, List.length_nil]; omega, by rw [hpw]; omega, rfl, ?_, ?_, rfl, by rw [hpw]; rfl, rfl, trivial⟩
     ·simp only [CS.put, List.map_append]; rfl
     ·simp only [CS.put, NL_snoc]; rfl
     ·simp only [CS.put, List.length_append, List.length_cons, List.length_nil]; rfl
     ·simp only [CS.put, List.length_append, List.length_cons, List.length_nil]; rfl
    ·have hmm : mayP c ⟨r1, r2, r3, r4, r5, r6, r7, r8⟩ = false := by
      unfold mayP
      rw [if_neg (by show ¬ r6 = 1; omega), hany, decide_eq_false hw]; rfl
     rw [if_pos (.inr hmm)] at hgo
     rw [hgo]
     repeat' (first | refine qS ?_ | refine qN ?_ | refine qQb ?_ | refine q_cmp2 (fun _ => ?_) (fun _ => ?_) | refine q_app fun _ => ?_)
     exact .inr ⟨rfl, ha0, 9, _, 10, _, rfl, rfl, rfl, rfl, rfl, rfl⟩
   ·have hmm : mayP c ⟨r1, r2, r3, r4, r5, r6, r7, r8⟩ = false := by
     unfold mayP
     rw [if_neg (by show ¬ r6 = 1; omega), hany]; rfl
    rw [if_pos (.inr hmm)] at hgo
    rw [hgo]
    exact .inr ⟨rfl, ha0, 7, g, 8, g', q7, q8, e4, e5, e6, e7⟩
  ·have hk1' : (r6 : Int) = 1 := by omega
   have hcl : c.l = [] := by
    cases h : c.l with
    | nil => rfl
    | cons y ys => exact absurd ⟨by omega, by rw [h]; simp⟩ hk1
   repeat' (first
    | refine qS ?_ | refine qN ?_ | refine q_call hin ?_ | refine q_call hhas ?_ rfl (by rfl) | refine wo_inl (hof _ _) rfl rfl rfl ?_ | refine q_store ?_ (hl := by kernel_rfl)
    | refine q_callB (hp) (fun _ => ?_) (fun _ => ?_) | refine q_call (hp) ?_ | refine qQb ?_ | refine q_cmp2 (fun _ => ?_) (fun _ => ?_) | refine q_app fun _ => ?_)
   refine w_cut [(0, .islc false f 1 (BL l)), (4, .slc 0 1 c.l.length 8 0 c.l.length none), (5, .slc 1 1 c.l.length 1 0 c.l.length none), (8, .int .i64 (nb l : Nat)), (10, .int .i64 (c.whole : Nat)), (11, .int .i64 (a : Nat)), (12, .ptr 4 ((H 4).gen + 1) 1 8 0 0), (14, .int .i64 0)] [(1, H 1), (0, H 0), (4, ⟨(H 4).gen + 1, false, .row 8 [Rec.av ⟨r1, r2, r3, r4, r5, r6, r7, r8⟩]⟩)] ⟨by kernel_rfl, by kernel_rfl, by kernel_rfl, by kernel_rfl, by kernel_rfl, by kernel_rfl, by kernel_rfl, by kernel_rfl, trivial⟩ ⟨by kernel_rfl, by kernel_rfl, by kernel_rfl, trivial⟩ (fun T H hT hH => ?_)
   obtain ⟨h1, h0, h4, -⟩ := hH
   simp only [over]
   clear hT
   rw [g0] at h0
   rw [g1] at h1
   refine W.mono (rec_ids (k := k) (rs := c.l) (r := ⟨r1, r2, r3, r4, r5, r6, r7, r8⟩) (v0 := .islc false f 1 (BL l)) (v5 := .slc 1 1 c.l.length 1 0 c.l.length none) (v8 := .int .i64 (nb l : Nat)) (v10 := .int .i64 (c.whole : Nat)) (v11 := .int .i64 (a : Nat)) (by omega) (by omega) h0 h4 ⟨rfl, rfl, rfl, rfl, rfl, rfl, rfl, rfl, trivial⟩) ?_
   rintro ex T2 H2 (⟨rfl, hany, rfl, hT2⟩ | ⟨rfl, hany, g, g', q7, q8, e4, e5, e6, e7⟩)
   ·rw [hT2.eq]
    simp only [over]
    show W _ _
    have hpw : (c.put a ⟨r1, r2, r3, r4, r5, r6, r7, r8⟩).whole = c.whole := if_neg hk0
    have hmm : mayP c ⟨r1, r2, r3, r4, r5, r6, r7, r8⟩ = true := by
     unfold mayP
     rw [if_pos (by show r6 = 1; omega)]
     exact decide_eq_true hcl
    rw [if_neg (by simp [he, hmm])] at hgo
    repeat' (first
     | refine qS ?_ | refine qN ?_ | refine wo_loadR (Rec.av ⟨r1, r2, r3, r4, r5, r6, r7, r8⟩) rfl (by exact h4) rfl rfl (by exact Nat.le_of_ble_eq_true rfl) rfl rfl rfl ?_
     | refine wo_loadR (.int .i64 r1) rfl (by exact h4) rfl rfl (by exact Nat.le_of_ble_eq_true rfl) rfl rfl rfl ?_
     | refine wo_app1 (es := c.l.map Rec.av) rfl rfl rfl (by exact h0) (by rw [List.length_map]) rfl (by omega) rfl rfl (fun _ => ?_)
     | refine wo_app1 (es := NL c.blocks) rfl rfl rfl (by exact h1) (by rw [NL_len]; exact hbl) rfl (by omega) rfl rfl (fun _ => ?_) | refine qQb ?_
     | refine q_cmp2 (fun _ => ?_) (fun _ => ?_) | refine q_app fun _ => ?_)
    refine ⟨by omega, c.put a ⟨r1, r2, r3, r4, r5, r6, r7, r8⟩, r1, by rw [hgo, show m - 1 + 1 = m by omega], ⟨?_, ?_, by simp [CS.put, hbl], rfl⟩, by simp only [CS.put, List.length_append, List.length_cons, List.length_nil]; omega, by rw [hpw]; simp only [CS.put, List.length_append, List.length_cons, List.length_nil]; omega, by rw [hpw]; omega, rfl, ?_, ?_, rfl, by rw [hpw]; rfl, rfl, trivial⟩
    ·simp only [CS.put, List.map_append]; rfl
    ·simp only [CS.put, NL_snoc]; rfl
    ·simp only [CS.put, List.length_append, List.length_cons, List.length_nil]; rfl
    ·simp only [CS.put, List.length_append, List.length_cons, List.length_nil]; rfl
   ·rw [hcl] at hany; cases hany
theorem fz_slc0 {out : Bool} {H : Heap} {j g s : Nat} (h : H j = ⟨g, false, .row s []⟩) (n : Nat) : fz out (n + 2) H (.slc j g 0 s 0 0 none) = .islc (!out) false s [] := by
 rw [fz_slc (ver := 0) (es := []) (row_of h rfl) (by omega)]
 rfl
theorem r_Records (k : Nat) (hk : 1000070 ≤ k) (f : Bool) (l : List UInt8) (hd : Dev l) (first : Nat) : FnV (CF k) n_ref10_Records [.islc false f 1 (BL l), .int .i64 first] (rrecsAv (followP l 64 first cs0)) := by
 have hck := r_BlocksD (k - 1) (by omega) false f l hd
 refine fnk (by omega) B_ref10_Records rfl ?_
 unfold ref10_Records
 repeat' (first | refine qS ?_ | refine qN ?_ | refine q_callB (hck) (fun _ => ?_) (fun _ => ?_) | refine q_call (hck) ?_ | refine qQb ?_ | refine q_cmp2 (fun _ => ?_) (fun _ => ?_) | refine q_app fun _ => ?_)
 refine W.mono (recs_loop (k - 1) (by omega) (f := f) (l := l) hd (first := first) ⟨rfl, rfl, rfl, rfl⟩ ⟨rfl, rfl, rfl, rfl, rfl, rfl, trivial⟩) ?_
 rintro ex T2 H2 (⟨rfl, ⟨g0, g1, hbl, hbad⟩, hlen, hT⟩ | ⟨rfl, hbad, j, g, i, g', hj, hi, e4, e5, e6, e7⟩)
 ·rw [hT.eq]
  simp only [over]
  show W _ _
  unfold rrecsAv
  rw [if_pos hbad]
  generalize followP l 64 first cs0 = c at *
  repeat' (first | refine qS ?_ | refine qN ?_ | refine qQb ?_ | refine q_cmp2 (fun _ => ?_) (fun _ => ?_) | refine q_app fun _ => ?_)
  refine ⟨Or.inr rfl, .tup [.slc 0 1 c.l.length 8 0 c.l.length none, .slc 1 1 c.l.length 1 0 c.l.length none, .int .i64 0, .bool true], rfl, ?_⟩
  show AV.tup [fz true 5 H2 (.slc 0 1 c.l.length 8 0 c.l.length none), fz true 5 H2 (.slc 1 1 c.l.length 1 0 c.l.length none), .int .i64 0, .bool true] = _
  rw [fz_ownR g0 rfl 2, fz_ownN g1 hbl 3]; rfl
 ·unfold rrecsAv
  rw [if_neg hbad]
  refine ⟨Or.inr rfl, .tup [.slc j g 0 8 0 0 none, .slc i g' 0 1 0 0 none, .int .i64 ((followP l 64 first cs0).bad : Nat), .bool false], ?_, ?_⟩
  ·show some (AV.tup [T2 4, T2 5, T2 6, T2 7]) = _
   rw [e4, e5, e6, e7]
  ·show AV.tup [fz true 5 H2 (.slc j g 0 8 0 0 none), fz true 5 H2 (.slc i g' 0 1 0 0 none), .int .i64 ((followP l 64 first cs0).bad : Nat), .bool false] = _
   rw [fz_slc0 hj 3, fz_slc0 hi 3]; rfl
end Go.Proofs.YtkaiiopoilpjeaaGreat

