import Derived.Test.YtkaiiopoilpjeaaGreatMK3
set_option linter.unusedSimpArgs false
set_option linter.unusedVariables false
set_option maxRecDepth 10000
set_option maxHeartbeats 16000000
namespace Go.Proofs.YtkaiiopoilpjeaaGreat
open Go.AI
attribute [local irreducible] aops aexec acall aiter aop W WO
theorem r_Free (k : Nat) (hk : 1000000 < k) (t f : Bool) (c : List Nat) (hl : c.length ≤ 4096) (h2 : 2 ≤ c.length) (hc : ∀ v ∈ c, v ≤ 1000000) : FnV (CF k) n_ref10_Free [.islc t f 1 (NL c)] (.islc false false 1 (NL (freeP c))) := by
 refine fnk (by omega) B_ref10_Free rfl ?_
 unfold ref10_Free
 repeat' (first | refine qQb ?_ | refine q_cmp2 (fun _ => ?_) (fun _ => ?_) | refine q_app fun _ => ?_)
 refine W.mono (Q := fun ex T' H' => ex = .exit 0 ∧ H' 1 = ⟨1, false, .row 1 (NL (freeP c))⟩ ∧ T' 3 = .slc 1 1 (freeP c).length 1 0 (freeP c).length none) ?_ ?_
 ·refine w_for (c.length - 2) (fun i T' H' => H' 1 = ⟨1, false, .row 1 (NL ((List.range (i + 2)).filter (isFree c)))⟩ ∧ Has T' [(0, .islc t f 1 (NL c)), (3, .slc 1 1 ((List.range (i + 2)).filter (isFree c)).length 1 0 ((List.range (i + 2)).filter (isFree c)).length none), (4, .int .i64 ((i : Int) + 2))]) ⟨rfl, rfl, rfl, rfl, trivial⟩ (by omega) ?_
  rintro i T H hi ⟨g1, hT⟩
  rw [hT.eq]
  simp only [over]
  by_cases hil : i < c.length - 2
  ·obtain ⟨v, hv⟩ : ∃ v, v = c.getD (i + 2) default := ⟨_, rfl⟩
   have hv2 : c.getD ((i : Int) + 2).toNat default = v := by rw [show ((i : Int) + 2).toNat = i + 2 by omega]; exact hv.symm
   have hvm : v ≤ 1000000 := hc v (by rw [hv]; simp [show i + 2 < c.length by omega])
   have hst : (List.range (i + 1 + 2)).filter (isFree c) = (List.range (i + 2)).filter (isFree c) ++ (if isFree c (i + 2) = true then [i + 2] else []) := by
    rw [show i + 1 + 2 = (i + 2) + 1 by omega, List.range_succ, List.filter_append]
    congr 1
    simp only [List.filter_cons, List.filter_nil]
   have hfl : ((List.range (i + 2)).filter (isFree c)).length ≤ i + 2 := by
    have := List.length_filter_le (isFree c) (List.range (i + 2))
    simpa using this
   obtain ⟨q, hq⟩ : ∃ q, q = (List.range (i + 2)).filter (isFree c) := ⟨_, rfl⟩
   rw [← hq] at g1 hst hfl ⊢
   by_cases h0 : v = 0
   ·have hfr : isFree c (i + 2) = true := by unfold isFree; exact decide_eq_true ⟨by omega, by rw [← hv]; exact h0⟩
    rw [if_pos hfr] at hst
    have hv0 : (v : Int) = 0 := by omega
    repeat' (first
     | refine qS ?_ | refine wo_lenG (n := c.length) rfl (NL_len _) rfl rfl ?_ | refine wo_atV (enc := nav) v rfl rfl (by omega) (by omega) hv2 rfl rfl ?_
     | refine wo_app1 rfl rfl rfl (by exact g1) (NL_len q) rfl (by omega) rfl rfl (fun _ => ?_) | refine qQb ?_ | refine q_cmp2 (fun _ => ?_) (fun _ => ?_) | refine q_app fun _ => ?_)
    refine ⟨hil, ?_, rfl, ?_, by show AV.int _ _ = AV.int _ _; congr 1, trivial⟩
    ·rw [hst, NL_snoc]; rfl
    ·rw [hst, List.length_append]; rfl
   ·have hfr : isFree c (i + 2) = false := by unfold isFree; exact decide_eq_false (fun h => h0 (by rw [hv]; exact h.2))
    rw [if_neg (by simp [hfr]), List.append_nil] at hst
    have hv0 : (v : Int) ≠ 0 := by omega
    repeat' (first
     | refine qS ?_ | refine wo_lenG (n := c.length) rfl (NL_len _) rfl rfl ?_ | refine wo_atV (enc := nav) v rfl rfl (by omega) (by omega) hv2 rfl rfl ?_ | refine qQb ?_
     | refine q_cmp2 (fun _ => ?_) (fun _ => ?_) | refine q_app fun _ => ?_)
    exact ⟨hil, by rw [hst]; exact g1, rfl, by rw [hst]; rfl, by show AV.int _ _ = AV.int _ _; congr 1, trivial⟩
  ·have hin : i + 2 = c.length := by omega
   rw [hin] at g1 ⊢
   repeat' (first | refine qS ?_ | refine wo_lenG (n := c.length) rfl (NL_len _) rfl rfl ?_ | refine qQb ?_ | refine q_cmp2 (fun _ => ?_) (fun _ => ?_) | refine q_app fun _ => ?_)
   exact ⟨rfl, g1, rfl⟩
 rintro ex T2 H2 ⟨rfl, g1, h3⟩
 rw [Has.eq (T := T2) (ps := [(3, _)]) ⟨h3, trivial⟩]
 simp only [over]
 show W _ _
 repeat' (first | refine qQb ?_ | refine q_cmp2 (fun _ => ?_) (fun _ => ?_) | refine q_app fun _ => ?_)
 refine ⟨Or.inr rfl, _, rfl, ?_⟩
 show fz true (4 + 2) H2 (.slc 1 1 (freeP c).length 1 0 (freeP c).length none) = _
 rw [fz_ownN g1 rfl 4]; rfl
theorem r_Sum (k : Nat) (hk : 1000002 ≤ k) (t f : Bool) (l : List UInt8) (hl : l.length < 1000000) : FnV (CF k) n_ref01_Sum [.islc t f 1 (BL l)] (.int .i64 (crcMore 0 l)) := by
 obtain ⟨j, rfl⟩ : ∃ j, k = j + 2 := ⟨k - 2, by omega⟩
 exact e_ref_Sum j (by omega) t f l hl
theorem r_Bytes (k : Nat) (hk : 10 ≤ k) (n : Int) (s : Nat) (hn : 0 ≤ n ∧ n ≤ 9223372036854775807) (hs : s ≤ 8) : FnF (CF k) n_ref01_Bytes [.int .i64 s, .int .i64 n] (leB s n) := by
 obtain ⟨j, rfl⟩ : ∃ j, k = j + 1 := ⟨k - 1, by omega⟩
 exact e_ref_Bytes j (by omega) n s hn hs
def padB (b : List UInt8) : List UInt8 := b ++ List.replicate (60 - b.length) 0
def sealB (b : List UInt8) : List UInt8 := padB b ++ leB 4 (crcMore 0 (padB b))
theorem BL_snoc (b : List UInt8) (c : UInt8) : BL (b ++ [c]) = BL b ++ [.int .u8 c.toNat] := by simp [BL, u8]
theorem sealB_make {m : List UInt8} {ss : List Nat} {ns : List Int} (hm : m.length = 4) (h : ss.length = ns.length) : sealB (m ++ putS ss ns) = makeB m ss ns := by
 have : padB (m ++ putS ss ns) = bodyK m ss ns := by
  unfold padB bodyK
  simp [putS_len ss ns h, hm]
 unfold sealB makeB
 rw [this]
theorem r_seal13 (k : Nat) (hk : 1000050 ≤ k) (H : Heap) (gn : Nat) (b : List UInt8) (hb : b.length ≤ 60) (hr : H 2 = ⟨gn, false, .row 1 (BL b)⟩) :
  ∃ u H', CF k n_ref01_seal 13 [.slc 2 gn b.length 1 0 b.length none] H = some (u, H') ∧ (u = .slc 2 gn 64 1 0 64 none ∧ H' 2 = ⟨gn, false, .row 1 (BL (sealB b))⟩) := by
 refine fni (by omega) B_ref01_seal rfl ?_
 unfold ref01_seal
 repeat' (first | refine qQb ?_ | refine q_cmp2 (fun _ => ?_) (fun _ => ?_) | refine q_app fun _ => ?_)
 refine W.mono (Q := fun ex T' H' => ex = .exit 0 ∧ H' 2 = ⟨gn, false, .row 1 (BL (padB b))⟩ ∧ T' 0 = .slc 2 gn 60 1 0 60 none) ?_ ?_
 ·refine w_for (60 - b.length) (fun i T' H' => H' 2 = ⟨gn, false, .row 1 (BL (b ++ List.replicate i 0))⟩ ∧ Has T' [(0, .slc 2 gn (b.length + i) 1 0 (b.length + i) none)]) ⟨by rw [List.replicate_zero, List.append_nil]; exact hr, rfl, trivial⟩ (by omega) ?_
  clear hr
  rintro i T H hi ⟨hr, hT⟩
  rw [hT.eq]
  simp only [over]
  by_cases hil : i < 60 - b.length
  ·skip
   repeat' (first
    | refine qS ?_ | refine wo_app1 (es := BL (b ++ List.replicate i 0)) rfl rfl rfl (by exact hr) (by simp) rfl (by omega) rfl rfl (fun _ => ?_) | refine qQb ?_
    | refine q_cmp2 (fun _ => ?_) (fun _ => ?_) | refine q_app fun _ => ?_)
   refine ⟨hil, ?_, rfl, trivial⟩
   show (⟨gn, false, .row 1 (BL (b ++ List.replicate i 0) ++ [.int .u8 0])⟩ : Blk) = _
   rw [List.replicate_succ', ← List.append_assoc, BL_snoc]; rfl
  ·have hin : i = 60 - b.length := by omega
   subst hin
   repeat' (first | refine qQb ?_ | refine q_cmp2 (fun _ => ?_) (fun _ => ?_) | refine q_app fun _ => ?_)
   refine ⟨rfl, hr, ?_⟩
   show AV.slc _ _ _ _ _ _ _ = _
   rw [show b.length + (60 - b.length) = 60 by omega]
 clear hr
 rintro ex T H ⟨rfl, hr, h0⟩
 have hpl : (padB b).length = 60 := by unfold padB; simp; omega
 have hc := crcMore_rangeK (padB b)
 have hsm := r_Sum (k - 1) (by omega) true false (padB b) (by omega)
 have hby := r_Bytes (k - 1) (by omega) (crcMore 0 (padB b)) 4 (by omega) (by decide)
 have hfz : ∀ H : Heap, H 2 = ⟨gn, false, .row 1 (BL (padB b))⟩ → fz false (4 + 2) H (.slc 2 gn 60 1 0 60 none) = .islc true false 1 (BL (padB b)) := fun H hH => by
  rw [fz_slcB (row_of hH (by simp [hpl])) (by omega), List.drop_zero, List.take_of_length_le (by omega)]; rfl
 rw [Has.eq (T := T) (ps := [(0, _)]) ⟨h0, trivial⟩]
 simp only [over]
 show W _ _
 repeat' (first
  | refine qS ?_ | refine q_call hsm ?_ rfl (by exact congrArg (fun x => [x]) (hfz _ (by exact hr))) | refine wo_fresh hby rfl rfl rfl ?_
  | refine wo_appR (l := padB b) (m := leB 4 (crcMore 0 (padB b))) rfl rfl (by rfl) (by exact hr) hpl (by rfl) (by simp) (by simp) (by decide) rfl rfl (fun _ => ?_) | refine qQb ?_
  | refine q_cmp2 (fun _ => ?_) (fun _ => ?_) | refine q_app fun _ => ?_)
 refine ⟨Or.inr rfl, _, rfl, ?_, ?_⟩
 ·show AV.slc 2 gn (60 + (leB 4 (crcMore 0 (padB b))).length) 1 0 (60 + (leB 4 (crcMore 0 (padB b))).length) none = _
  rw [leB_length]
 ·rfl
theorem r_seal19 (k : Nat) (hk : 1000050 ≤ k) (H : Heap) (gn : Nat) (b : List UInt8) (hb : b.length ≤ 60) (hr : H 2 = ⟨gn, false, .row 1 (BL b)⟩) :
  ∃ u H', CF k n_ref01_seal 19 [.slc 2 gn b.length 1 0 b.length none] H = some (u, H') ∧ (u = .slc 2 gn 64 1 0 64 none ∧ H' 2 = ⟨gn, false, .row 1 (BL (sealB b))⟩) := by
 refine fni (by omega) B_ref01_seal rfl ?_
 unfold ref01_seal
 repeat' (first | refine qQb ?_ | refine q_cmp2 (fun _ => ?_) (fun _ => ?_) | refine q_app fun _ => ?_)
 refine W.mono (Q := fun ex T' H' => ex = .exit 0 ∧ H' 2 = ⟨gn, false, .row 1 (BL (padB b))⟩ ∧ T' 0 = .slc 2 gn 60 1 0 60 none) ?_ ?_
 ·refine w_for (60 - b.length) (fun i T' H' => H' 2 = ⟨gn, false, .row 1 (BL (b ++ List.replicate i 0))⟩ ∧ Has T' [(0, .slc 2 gn (b.length + i) 1 0 (b.length + i) none)]) ⟨by rw [List.replicate_zero, List.append_nil]; exact hr, rfl, trivial⟩ (by omega) ?_
  clear hr
  rintro i T H hi ⟨hr, hT⟩
  rw [hT.eq]
  simp only [over]
  by_cases hil : i < 60 - b.length
  ·skip
   repeat' (first
    | refine qS ?_ | refine wo_app1 (es := BL (b ++ List.replicate i 0)) rfl rfl rfl (by exact hr) (by simp) rfl (by omega) rfl rfl (fun _ => ?_) | refine qQb ?_
    | refine q_cmp2 (fun _ => ?_) (fun _ => ?_) | refine q_app fun _ => ?_)
   refine ⟨hil, ?_, rfl, trivial⟩
   show (⟨gn, false, .row 1 (BL (b ++ List.replicate i 0) ++ [.int .u8 0])⟩ : Blk) = _
   rw [List.replicate_succ', ← List.append_assoc, BL_snoc]; rfl
  ·have hin : i = 60 - b.length := by omega
   subst hin
   repeat' (first | refine qQb ?_ | refine q_cmp2 (fun _ => ?_) (fun _ => ?_) | refine q_app fun _ => ?_)
   refine ⟨rfl, hr, ?_⟩
   show AV.slc _ _ _ _ _ _ _ = _
   rw [show b.length + (60 - b.length) = 60 by omega]
 clear hr
 rintro ex T H ⟨rfl, hr, h0⟩
 have hpl : (padB b).length = 60 := by unfold padB; simp; omega
 have hc := crcMore_rangeK (padB b)
 have hsm := r_Sum (k - 1) (by omega) true false (padB b) (by omega)
 have hby := r_Bytes (k - 1) (by omega) (crcMore 0 (padB b)) 4 (by omega) (by decide)
 have hfz : ∀ H : Heap, H 2 = ⟨gn, false, .row 1 (BL (padB b))⟩ → fz false (4 + 2) H (.slc 2 gn 60 1 0 60 none) = .islc true false 1 (BL (padB b)) := fun H hH => by
  rw [fz_slcB (row_of hH (by simp [hpl])) (by omega), List.drop_zero, List.take_of_length_le (by omega)]; rfl
 rw [Has.eq (T := T) (ps := [(0, _)]) ⟨h0, trivial⟩]
 simp only [over]
 show W _ _
 repeat' (first
  | refine qS ?_ | refine q_call hsm ?_ rfl (by exact congrArg (fun x => [x]) (hfz _ (by exact hr))) | refine wo_fresh hby rfl rfl rfl ?_
  | refine wo_appR (l := padB b) (m := leB 4 (crcMore 0 (padB b))) rfl rfl (by rfl) (by exact hr) hpl (by rfl) (by simp) (by simp) (by decide) rfl rfl (fun _ => ?_) | refine qQb ?_
  | refine q_cmp2 (fun _ => ?_) (fun _ => ?_) | refine q_app fun _ => ?_)
 refine ⟨Or.inr rfl, _, rfl, ?_, ?_⟩
 ·show AV.slc 2 gn (60 + (leB 4 (crcMore 0 (padB b))).length) 1 0 (60 + (leB 4 (crcMore 0 (padB b))).length) none = _
  rw [leB_length]
 ·rfl
theorem r_SuperBytes (k : Nat) (hk : 1000100 ≤ k) (s : Sup) (hs : s.gen < 4611686018427387904 ∧ s.blocks < 4611686018427387904 ∧ s.root < 4611686018427387904 ∧ s.size < 4611686018427387904 ∧ s.first < 4611686018427387904) : FnV (CF k) n_ref01_SuperBytes [s.av] (.islc false false 1 (BL (supB s))) := by
 obtain ⟨g, b, r, z, fi⟩ := s
 simp only at hs
 have y0 := r_Bytes (k - 1) (by omega) (g : Nat) 8 (by omega) (by decide)
 have y1 := r_Bytes (k - 1) (by omega) (b : Nat) 4 (by omega) (by decide)
 have y2 := r_Bytes (k - 1) (by omega) (r : Nat) 4 (by omega) (by decide)
 have y3 := r_Bytes (k - 1) (by omega) (z : Nat) 4 (by omega) (by decide)
 have y4 := r_Bytes (k - 1) (by omega) (fi : Nat) 4 (by omega) (by decide)
 obtain ⟨L, hL⟩ : ∃ L, L = mW ++ putS sW [(g : Int), (b : Int), (r : Int), (z : Int), (fi : Int)] := ⟨_, rfl⟩
 have hLl : L.length = 28 := by rw [hL]; simp [mW, sW, putS]
 have hse := fun H hr => r_seal13 (k - 1) (by omega) H 1 L (by omega) hr
 have hmk : sealB L = makeB mW sW [(g : Int), (b : Int), (r : Int), (z : Int), (fi : Int)] := by rw [hL]; exact sealB_make rfl rfl
 refine fnk (by omega) B_ref01_SuperBytes rfl ?_
 unfold ref01_SuperBytes Sup.av
 simp only
 repeat' (first | refine qQb ?_ | refine q_app fun _ => ?_)
 refine wo_cut [(1, .ptr 0 1 1 5 0 0), (6, .slc 2 1 4 1 0 4 none), (7, .ptr 0 1 1 5 0 0), (8, .int .i64 (g : Nat))] [(0, ⟨1, false, .row 5 [.agg [.int .i64 g, .int .i64 b, .int .i64 r, .int .i64 z, .int .i64 fi]]⟩), (2, ⟨1, false, .row 1 (BL mW)⟩)] ⟨by kernel_rfl, by kernel_rfl, by kernel_rfl, by kernel_rfl, trivial⟩ ⟨by kernel_rfl, by kernel_rfl, trivial⟩ (fun T H hT hH => ?_)
 obtain ⟨h0, h2, -⟩ := hH
 simp only [over]
 clear hT
 repeat' (first
  | refine qS ?_ | refine wo_fresh y0 rfl rfl rfl ?_ | refine wo_fresh y1 rfl rfl rfl ?_ | refine wo_fresh y2 rfl rfl rfl ?_ | refine wo_fresh y3 rfl rfl rfl ?_
  | refine wo_fresh y4 rfl rfl rfl ?_ | refine wo_appR rfl rfl (by rfl) (by first | exact h2 | rfl) (by simp [mW]) (by rfl) (by simp) (by simp) (by simp) rfl rfl (fun _ => ?_)
  | refine q_loadR ?_ (hr := by exact h0) | refine qQb ?_ | refine q_app fun _ => ?_)
 refine wo_cut [(30, .slc 2 1 L.length 1 0 L.length none)] [(2, ⟨1, false, .row 1 (BL L)⟩)] ⟨?_, trivial⟩ ⟨?_, trivial⟩ (fun T H hT hH => ?_)
 ·show AV.slc 2 1 _ 1 0 _ none = _
  rw [hLl]; simp
 ·rw [hL]
  show (⟨1, false, .row 1 (BL (mW ++ leB 8 (g : Int) ++ leB 4 (b : Int) ++ leB 4 (r : Int) ++ leB 4 (z : Int) ++ leB 4 (fi : Int)))⟩ : Blk) = _
  simp [putS, sW]
 obtain ⟨k2, -⟩ := hH
 simp only [over]
 repeat' (first | refine qS ?_ | refine wo_inlE (hse _ (by exact k2)) rfl rfl rfl ?_ | refine qQb ?_ | refine q_app fun _ => ?_)
 rintro u H3 ⟨rfl, hs2⟩
 repeat' (first | refine qQb ?_ | refine q_app fun _ => ?_)
 rw [hmk] at hs2
 refine ⟨Or.inr rfl, _, rfl, ?_⟩
 show fz true (4 + 2) H3 (.slc 2 1 64 1 0 64 none) = _
 rw [fz_out (l := makeB mW sW [(g : Int), (b : Int), (r : Int), (z : Int), (fi : Int)]) (by exact hs2) (makeB_len rfl rfl (by decide))]
 rfl
theorem r_RecordBytes (k : Nat) (hk : 1000100 ≤ k) (r : Rec) (hs : r.lt) : FnV (CF k) n_ref01_RecordBytes [r.av] (.islc false false 1 (BL (recB r))) := by
 obtain ⟨b1, b2, b3, b4, b5, b6, b7, b8⟩ := r
 unfold Rec.lt at hs
 simp only at hs
 have y0 := r_Bytes (k - 1) (by omega) (b1 : Nat) 4 (by omega) (by decide)
 have y1 := r_Bytes (k - 1) (by omega) (b2 : Nat) 8 (by omega) (by decide)
 have y2 := r_Bytes (k - 1) (by omega) (b3 : Nat) 8 (by omega) (by decide)
 have y3 := r_Bytes (k - 1) (by omega) (b4 : Nat) 4 (by omega) (by decide)
 have y4 := r_Bytes (k - 1) (by omega) (b5 : Nat) 4 (by omega) (by decide)
 have y5 := r_Bytes (k - 1) (by omega) (b6 : Nat) 4 (by omega) (by decide)
 have y6 := r_Bytes (k - 1) (by omega) (b7 : Nat) 4 (by omega) (by decide)
 have y7 := r_Bytes (k - 1) (by omega) (b8 : Nat) 4 (by omega) (by decide)
 obtain ⟨L, hL⟩ : ∃ L, L = mS ++ putS sS [(b1 : Int), (b2 : Int), (b3 : Int), (b4 : Int), (b5 : Int), (b6 : Int), (b7 : Int), (b8 : Int)] := ⟨_, rfl⟩
 have hLl : L.length = 44 := by rw [hL]; simp [mS, sS, putS]
 have hse := fun H hr => r_seal19 (k - 1) (by omega) H 1 L (by omega) hr
 have hmk : sealB L = makeB mS sS [(b1 : Int), (b2 : Int), (b3 : Int), (b4 : Int), (b5 : Int), (b6 : Int), (b7 : Int), (b8 : Int)] := by rw [hL]; exact sealB_make rfl rfl
 refine fnk (by omega) B_ref01_RecordBytes rfl ?_
 unfold ref01_RecordBytes Rec.av
 simp only
 repeat' (first | refine qQb ?_ | refine q_app fun _ => ?_)
 refine wo_cut [(1, .ptr 0 1 1 8 0 0), (5, .slc 2 1 4 1 0 4 none), (6, .ptr 0 1 1 8 0 0), (7, .int .i64 (b1 : Nat))] [(0, ⟨1, false, .row 8 [.agg [.int .i64 b1, .int .i64 b2, .int .i64 b3, .int .i64 b4, .int .i64 b5, .int .i64 b6, .int .i64 b7, .int .i64 b8]]⟩), (2, ⟨1, false, .row 1 (BL mS)⟩)] ⟨by kernel_rfl, by kernel_rfl, by kernel_rfl, by kernel_rfl, trivial⟩ ⟨by kernel_rfl, by kernel_rfl, trivial⟩ (fun T H hT hH => ?_)
 obtain ⟨h0, h2, -⟩ := hH
 simp only [over]
 clear hT
 repeat' (first
  | refine qS ?_ | refine wo_fresh y0 rfl rfl rfl ?_ | refine wo_fresh y1 rfl rfl rfl ?_ | refine wo_fresh y2 rfl rfl rfl ?_ | refine wo_fresh y3 rfl rfl rfl ?_
  | refine wo_fresh y4 rfl rfl rfl ?_ | refine wo_fresh y5 rfl rfl rfl ?_ | refine wo_fresh y6 rfl rfl rfl ?_ | refine wo_fresh y7 rfl rfl rfl ?_
  | refine wo_appR rfl rfl (by rfl) (by first | exact h2 | rfl) (by simp [mS]) (by rfl) (by simp) (by simp) (by simp) rfl rfl (fun _ => ?_) | refine q_loadR ?_ (hr := by exact h0)
  | refine qQb ?_ | refine q_app fun _ => ?_)
 refine wo_cut [(44, .slc 2 1 L.length 1 0 L.length none)] [(2, ⟨1, false, .row 1 (BL L)⟩)] ⟨?_, trivial⟩ ⟨?_, trivial⟩ (fun T H hT hH => ?_)
 ·show AV.slc 2 1 _ 1 0 _ none = _
  rw [hLl]; simp
 ·rw [hL]
  show (⟨1, false, .row 1 (BL (mS ++ leB 4 (b1 : Int) ++ leB 8 (b2 : Int) ++ leB 8 (b3 : Int) ++ leB 4 (b4 : Int) ++ leB 4 (b5 : Int) ++ leB 4 (b6 : Int) ++ leB 4 (b7 : Int) ++ leB 4 (b8 : Int)))⟩ : Blk) = _
  simp [putS, sS]
 obtain ⟨k2, -⟩ := hH
 simp only [over]
 repeat' (first | refine qS ?_ | refine wo_inlE (hse _ (by exact k2)) rfl rfl rfl ?_ | refine qQb ?_ | refine q_app fun _ => ?_)
 rintro u H3 ⟨rfl, hs2⟩
 repeat' (first | refine qQb ?_ | refine q_app fun _ => ?_)
 rw [hmk] at hs2
 refine ⟨Or.inr rfl, _, rfl, ?_⟩
 show fz true (4 + 2) H3 (.slc 2 1 64 1 0 64 none) = _
 rw [fz_out (l := makeB mS sS [(b1 : Int), (b2 : Int), (b3 : Int), (b4 : Int), (b5 : Int), (b6 : Int), (b7 : Int), (b8 : Int)]) (by exact hs2) (makeB_len rfl rfl (by decide))]
 rfl
end Go.Proofs.YtkaiiopoilpjeaaGreat

