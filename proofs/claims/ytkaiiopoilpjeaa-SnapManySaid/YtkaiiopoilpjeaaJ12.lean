import Derived.Test.YtkaiiopoilpjeaaJ11
set_option linter.unusedSimpArgs false
set_option linter.unusedVariables false
set_option maxRecDepth 10000
set_option maxHeartbeats 16000000
namespace Go.Proofs.Ytkaiiopoilpjeaa
open Go.AI
attribute [local irreducible] aops aexec acall aiter aop W WO
def isFree (c : List Nat) (a : Nat) : Bool := decide (2 ≤ a ∧ c.getD a default = 0)
def freeP (c : List Nat) : List Nat := (List.range c.length).filter (isFree c)
theorem c_alloc_right_1 (k : Nat) (hk : 1 ≤ k) (b : Nat) : FnV (CF k) n_alloc_right_1 [nav b] (.bool (decide (2147483647 < b))) := by
  unfold nav
  refine fnk (by omega) B_alloc_right_1 rfl ?_
  unfold alloc_right_1
  repeat' (first | refine q_s ?_ | refine q_z ?_ | refine q_n ?_ | refine q_nn ?_ | refine q_mv ?_ | refine q_cmp ?_ | refine q_cmp2 (fun _ => ?_) (fun _ => ?_) | refine q_pickT ?_ | refine q_pickF ?_)
  all_goals first
    | (refine ⟨Or.inr rfl, _, rfl, ?_⟩
       simp only [cmpP] at *
       show AV.bool _ = AV.bool _
       congr 1
       first
         | exact (decide_eq_true (by omega)).symm
         | exact (decide_eq_false (by omega)).symm)
    | (exfalso; simp only [cmpP] at *; omega)
theorem c_alloc_right (k : Nat) (hk : 1000020 ≤ k) (t f : Bool) (c : List Nat) (hl : c.length ≤ 4096) (hc : ∀ v ∈ c, v < 1000000) : FnV (CF k) n_alloc_right [.islc t f 1 (NL c)] (.bool true) := by
 have hcf := c_ContainsFuncN (k - 1) (by omega) t f c n_alloc_right_1 [] (fun b => decide (2147483647 < b)) (by omega) (fun _ => rfl) (fun _ _ => rfl) (fun i hi => c_alloc_right_1 (k - 3) (by omega) _)
 have hany : (c.any fun b => decide (2147483647 < b)) = false := by
  rw [List.any_eq_false]
  intro v hv
  have := hc v hv
  simp; omega
 rw [hany] at hcf
 refine fnk (by omega) B_alloc_right rfl ?_
 unfold alloc_right
 repeat' (first
  | refine q_s ?_ | refine q_z ?_ | refine wo_lenG (n := c.length) rfl (NL_len _) rfl rfl ?_ | refine q_call hcf ?_ | refine q_n ?_ | refine q_nn ?_ | refine q_mv ?_ | refine q_cmp ?_
  | refine q_cmp2 (fun _ => ?_) (fun _ => ?_) | refine q_pickT ?_ | refine q_pickF ?_ | refine q_notT ?_ | refine q_notF ?_ | refine q_len ?_ | refine q_lenS ?_ | refine q_len0 ?_
  | refine q_lenM ?_)
 exact ⟨Or.inr rfl, _, rfl, rfl⟩
theorem c_alloc_free (k : Nat) (hk : 1000000 < k) (t f : Bool) (c : List Nat) (hl : c.length ≤ 4096) (hc : ∀ v ∈ c, v < 1000000) : FnV (CF k) n_alloc_free [.islc t f 1 (NL c)] (.islc false false 1 (NL (freeP c))) := by
 refine fnk (by omega) B_alloc_free rfl ?_
 unfold alloc_free
 repeat' (first
  | refine q_s ?_ | refine q_z ?_ | refine q_b ?_ | refine wo_lenG (n := c.length) rfl (NL_len _) rfl rfl ?_ | refine q_n ?_ | refine q_nn ?_ | refine q_mv ?_ | refine q_load ?_
  | refine q_loadI ?_ | refine q_loadR ?_ | refine q_loadM ?_ | refine q_cmp ?_ | refine q_cmp2 (fun _ => ?_) (fun _ => ?_) | refine q_add ?_ | refine q_pickT ?_ | refine q_pickF ?_
  | refine q_len ?_ | refine q_lenS ?_ | refine q_len0 ?_ | refine q_lenM ?_ | refine q_at ?_ | refine q_atM ?_ | refine q_atG ?_ | refine q_atR ?_ | refine q_nilrow ?_ | refine q_buildS ?_
  | refine q_app fun _ => ?_)
 refine W.mono (Q := fun ex T' H' => ex = .exit 0 ∧ H' 1 = ⟨1, false, .row 1 (NL (freeP c))⟩ ∧ T' 3 = .slc 1 1 (freeP c).length 1 0 (freeP c).length none) ?_ ?_
 ·refine w_for c.length (fun i T' H' => H' 1 = ⟨1, false, .row 1 (NL ((List.range i).filter (isFree c)))⟩ ∧ Has T' [(3, .slc 1 1 ((List.range i).filter (isFree c)).length 1 0 ((List.range i).filter (isFree c)).length none), (6, .islc t f 1 (NL c)), (7, .int .i64 c.length), (8, .int .i64 (i : Nat))])
   ⟨rfl, rfl, rfl, rfl, rfl, trivial⟩ (by omega) ?_
  rintro i T H hi ⟨g1, hT⟩
  rw [hT.eq]
  simp only [over]
  by_cases hil : i < c.length
  ·obtain ⟨v, hv⟩ : ∃ v, v = c.getD i default := ⟨_, rfl⟩
   have hvm : v < 1000000 := hc v (by rw [hv]; simp [hil])
   have hst : (List.range (i + 1)).filter (isFree c) = (List.range i).filter (isFree c) ++ (if isFree c i = true then [i] else []) := by
    rw [List.range_succ, List.filter_append]
    congr 1
    simp only [List.filter_cons, List.filter_nil]
   have hfl : ((List.range i).filter (isFree c)).length ≤ i := by
    have := List.length_filter_le (isFree c) (List.range i)
    simpa using this
   obtain ⟨q, hq⟩ : ∃ q, q = (List.range i).filter (isFree c) := ⟨_, rfl⟩
   rw [← hq] at g1 hst hfl ⊢
   by_cases h2 : 2 ≤ i
   ·by_cases h0 : v = 0
    ·have hfr : isFree c i = true := by unfold isFree; exact decide_eq_true ⟨h2, by rw [← hv]; exact h0⟩
     rw [if_pos hfr] at hst
     have hv0 : (v : Int) = 0 := by omega
     repeat' (first
      | refine q_s ?_ | refine q_z ?_ | refine q_b ?_ | refine wo_atV (enc := nav) v rfl rfl (by omega) (by omega) hv.symm rfl rfl ?_
      | refine wo_app1 rfl rfl rfl (by exact g1) (NL_len q) rfl (by omega) rfl rfl (fun _ => ?_) | refine q_n ?_ | refine q_nn ?_ | refine q_mv ?_ | refine q_load ?_ | refine q_loadI ?_
      | refine q_loadR ?_ | refine q_loadM ?_ | refine q_cmp ?_ | refine q_cmp2 (fun _ => ?_) (fun _ => ?_) | refine q_add ?_ | refine q_pickT ?_ | refine q_pickF ?_ | refine q_len ?_
      | refine q_lenS ?_ | refine q_len0 ?_ | refine q_lenM ?_ | refine q_at ?_ | refine q_atM ?_ | refine q_atG ?_ | refine q_atR ?_ | refine q_nilrow ?_ | refine q_buildS ?_
      | refine q_app fun _ => ?_)
     refine ⟨hil, ?_, ?_, rfl, rfl, by show AV.int _ _ = AV.int _ _; congr 1, trivial⟩
     ·rw [hst, NL_snoc]; rfl
     ·rw [hst, List.length_append]; rfl
    ·have hfr : isFree c i = false := by unfold isFree; exact decide_eq_false (fun h => h0 (by rw [hv]; exact h.2))
     rw [if_neg (by rw [hfr]; decide), List.append_nil] at hst
     have hv0 : (v : Int) ≠ 0 := by omega
     repeat' (first
      | refine q_s ?_ | refine q_z ?_ | refine q_b ?_ | refine wo_atV (enc := nav) v rfl rfl (by omega) (by omega) hv.symm rfl rfl ?_ | refine q_n ?_ | refine q_nn ?_ | refine q_mv ?_
      | refine q_load ?_ | refine q_loadI ?_ | refine q_loadR ?_ | refine q_loadM ?_ | refine q_cmp ?_ | refine q_cmp2 (fun _ => ?_) (fun _ => ?_) | refine q_add ?_ | refine q_pickT ?_
      | refine q_pickF ?_ | refine q_len ?_ | refine q_lenS ?_ | refine q_len0 ?_ | refine q_lenM ?_ | refine q_at ?_ | refine q_atM ?_ | refine q_atG ?_ | refine q_atR ?_
      | refine q_nilrow ?_ | refine q_buildS ?_ | refine q_app fun _ => ?_)
     exact ⟨hil, by rw [hst]; exact g1, by rw [hst]; rfl, rfl, rfl, by show AV.int _ _ = AV.int _ _; congr 1, trivial⟩
   ·have hfr : isFree c i = false := by unfold isFree; exact decide_eq_false (fun h => h2 h.1)
    rw [if_neg (by rw [hfr]; decide), List.append_nil] at hst
    repeat' (first
     | refine q_s ?_ | refine q_z ?_ | refine q_b ?_ | refine wo_atV (enc := nav) v rfl rfl (by omega) (by omega) hv.symm rfl rfl ?_ | refine q_n ?_ | refine q_nn ?_ | refine q_mv ?_
     | refine q_load ?_ | refine q_loadI ?_ | refine q_loadR ?_ | refine q_loadM ?_ | refine q_cmp ?_ | refine q_cmp2 (fun _ => ?_) (fun _ => ?_) | refine q_add ?_ | refine q_pickT ?_
     | refine q_pickF ?_ | refine q_len ?_ | refine q_lenS ?_ | refine q_len0 ?_ | refine q_lenM ?_ | refine q_at ?_ | refine q_atM ?_ | refine q_atG ?_ | refine q_atR ?_
     | refine q_nilrow ?_ | refine q_buildS ?_ | refine q_app fun _ => ?_)
    exact ⟨hil, by rw [hst]; exact g1, by rw [hst]; rfl, rfl, rfl, by show AV.int _ _ = AV.int _ _; congr 1, trivial⟩
  ·have hin : i = c.length := by omega
   subst hin
   repeat' (first
    | refine q_s ?_ | refine q_z ?_ | refine q_b ?_ | refine q_n ?_ | refine q_nn ?_ | refine q_mv ?_ | refine q_load ?_ | refine q_loadI ?_ | refine q_loadR ?_ | refine q_loadM ?_
    | refine q_cmp ?_ | refine q_cmp2 (fun _ => ?_) (fun _ => ?_) | refine q_add ?_ | refine q_pickT ?_ | refine q_pickF ?_ | refine q_len ?_ | refine q_lenS ?_ | refine q_len0 ?_
    | refine q_lenM ?_ | refine q_at ?_ | refine q_atM ?_ | refine q_atG ?_ | refine q_atR ?_ | refine q_nilrow ?_ | refine q_buildS ?_ | refine q_app fun _ => ?_)
   exact ⟨rfl, g1, rfl⟩
 rintro ex T2 H2 ⟨rfl, g1, h3⟩
 rw [Has.eq (T := T2) (ps := [(3, _)]) ⟨h3, trivial⟩]
 simp only [over]
 show W _ _
 repeat' (first
  | refine q_s ?_ | refine q_z ?_ | refine q_b ?_ | refine q_n ?_ | refine q_nn ?_ | refine q_mv ?_ | refine q_load ?_ | refine q_loadI ?_ | refine q_loadR ?_ | refine q_loadM ?_
  | refine q_cmp ?_ | refine q_cmp2 (fun _ => ?_) (fun _ => ?_) | refine q_add ?_ | refine q_pickT ?_ | refine q_pickF ?_ | refine q_len ?_ | refine q_lenS ?_ | refine q_len0 ?_
  | refine q_lenM ?_ | refine q_at ?_ | refine q_atM ?_ | refine q_atG ?_ | refine q_atR ?_ | refine q_nilrow ?_ | refine q_buildS ?_ | refine q_app fun _ => ?_)
 exact ⟨Or.inr rfl, .slc 1 1 (freeP c).length 1 0 (freeP c).length none, rfl, fz_ownN (out := true) g1 rfl 4⟩
theorem c_alloc_Free (k : Nat) (hk : 1000030 ≤ k) (t f : Bool) (c : List Nat) (hl : c.length ≤ 4096) (hc : ∀ v ∈ c, v < 1000000) : FnV (CF k) n_alloc_Free [.islc t f 1 (NL c)] (.tup [.islc false false 1 (NL (freeP c)), .int .i64 0]) := by
 have h1 := c_alloc_right (k - 1) (by omega) t f c hl hc
 have h2 := c_alloc_free (k - 1) (by omega) t f c hl hc
 refine fnk (by omega) B_alloc_Free rfl ?_
 unfold alloc_Free
 repeat' (first | refine q_s ?_ | refine q_z ?_ | refine q_b ?_ | refine q_call h1 ?_ | refine q_call h2 ?_ | refine q_mv ?_ | refine q_notT ?_ | refine q_notF ?_)
 exact ⟨Or.inr rfl, _, rfl, rfl⟩
theorem c_head_Free (k : Nat) (hk : 1000080 ≤ k) (f : Bool) (l : List UInt8) (hd : Dev l) (x : Img) (hx : x.fit l) : FnV (CF k) n_head_Free [.islc false f 1 (BL l), .iptr false (x.cs false f l)] (.islc false false 1 (NL (freeP (countsP l x)))) := by
 have hn := hd.nb
 obtain ⟨hcl, hcm⟩ := countsP_cb hx
 have h1 := c_walk_Of (k - 1) (by omega) f l hd x hx
 have h2 := c_alloc_Free (k - 1) (by omega) false false (countsP l x) (by omega) hcm
 refine fnk (by omega) B_head_Free rfl ?_
 unfold head_Free
 repeat' (first | refine q_s ?_ | refine q_z ?_ | refine q_call h1 ?_ | refine q_call h2 ?_ | refine q_mv ?_ | refine q_ex ?_)
 exact ⟨Or.inr rfl, _, rfl, rfl⟩
end Go.Proofs.Ytkaiiopoilpjeaa

