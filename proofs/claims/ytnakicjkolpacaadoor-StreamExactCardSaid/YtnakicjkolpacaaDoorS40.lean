/- What the page's own functions answer: content, sums, digits, a stream's commands. -/
import Derived.Test.YtnakicjkolpacaaDoorS37
import Derived.Test.YtnakicjkolpacaaDoorS38
import Derived.Test.YtnakicjkolpacaaDoorS35
import Derived.Test.YtnakicjkolpacaaDoorS36
import Derived.Test.YtnakicjkolpacaaDoorMR
set_option linter.unusedSimpArgs false
set_option linter.unusedVariables false
set_option maxRecDepth 10000
set_option maxHeartbeats 4000000
namespace Go.Proofs.YtnakicjkolpacaaDoor
open Go.AI
attribute [local irreducible] aops aexec acall aiter aop W WO

variable {xf : ExtF} {gf : CallF}

theorem e_ref_More (k : Nat) (hk : 1000000 ≤ k) (t f : Bool) (l : List UInt8) (sum : Int) (hl : l.length < 1000000) (hs : 0 ≤ sum ∧ sum ≤ 4294967295) :
    FnV (acall B xf gf (k + 1)) n_ref01_More [.int .i64 sum, .islc t f 1 (BL l)] (.int .i64 (crcMore sum l)) := by
  obtain ⟨s, rfl⟩ : ∃ s : Nat, sum = s := ⟨sum.toNat, by omega⟩
  refine fn_of B_ref01_More rfl ?_
  unfold ref01_More
  repeat' (first
   | refine q_s ?_ | refine q_z ?_ | refine q_b ?_ | refine wo_cv32 rfl (by omega) rfl rfl ?_ | refine wo_not32 rfl (by omega) rfl rfl ?_ | refine q_mv ?_ | refine q_load ?_ | refine q_loadI ?_
    | refine q_loadR ?_ | refine q_cmp ?_ | refine q_cmp2 (fun _ => ?_) (fun _ => ?_) | refine q_add ?_ | refine q_rem ?_ | refine q_quo ?_ | refine q_bin ?_ | refine q_notT ?_
    | refine q_notF ?_ | refine q_len ?_ | refine q_lenS ?_ | refine q_len0 ?_ | refine q_to64 ?_ | refine q_cvi ?_ | refine q_at ?_)
  refine W.mono (ref_bytes (fuel := k) (n := 4294967295 - s) (l := l) (t := t) (f := f) (v0 := .int .i64 (s : Nat)) (by omega) hl hk ?_) ?_
  · exact ⟨rfl, rfl, rfl, rfl, trivial⟩
  rintro ex T2 H2 ⟨rfl, rfl, h2⟩
  have hr : crcReg (4294967295 - s) l < 4294967296 := crcReg_lt l (by omega)
  rw [Has.eq (T := T2) (ps := [(5, _)]) ⟨h2, trivial⟩]
  simp only [over]
  show W _ _
  repeat' (first
   | refine q_s ?_ | refine q_z ?_ | refine q_b ?_ | refine wo_not32 rfl hr rfl rfl ?_ | refine q_mv ?_ | refine q_load ?_ | refine q_loadI ?_ | refine q_loadR ?_ | refine q_cmp ?_
    | refine q_cmp2 (fun _ => ?_) (fun _ => ?_) | refine q_add ?_ | refine q_rem ?_ | refine q_quo ?_ | refine q_bin ?_ | refine q_notT ?_ | refine q_notF ?_ | refine q_len ?_
    | refine q_lenS ?_ | refine q_len0 ?_ | refine q_to64 ?_ | refine q_cvi ?_ | refine q_at ?_)
  refine ⟨Or.inr rfl, _, rfl, ?_⟩
  show AV.int _ _ = AV.int _ _
  congr 1
  have e : ((s : Int) % 4294967296).toNat = s := by omega
  rw [crcMore, e]; omega

theorem e_ref_content (k : Nat) (c : Cmd) : FnV (acall B xf gf (k + 1)) n_ref18_content [.int .i64 c.kind] (.bool (contentB c)) := by
  refine fn_of B_ref18_content rfl ?_
  unfold ref18_content
  repeat' (first
   | refine q_s ?_ | refine q_z ?_ | refine q_n ?_ | refine q_nn ?_ | refine q_mv ?_ | refine q_cmp ?_ | refine q_cmp2 (fun _ => ?_) (fun _ => ?_) | refine q_pickT ?_ | refine q_pickF ?_)
  all_goals (refine ⟨Or.inr rfl, _, rfl, ?_⟩; show AV.bool _ = AV.bool _; congr 1; simp only [cmpP, contentB] at *; simp; try omega)

theorem e_ref_Digest (k : Nat) (hk : 1000000 ≤ k) (t f : Bool) (es : List AV) (l : List Cmd) (hl : l.length < 100000) (hes : CsR es l) (hc : ∀ c ∈ l, chkP c) : FnV (acall B xf gf (k + 3)) n_ref18_Digest [.islc t f 9 es] (.int .i64 (sumC 0 l)) := by
  have hlen := hes.len
  refine fn_of B_ref18_Digest rfl ?_
  unfold ref18_Digest
  repeat' (first
   | refine q_s ?_ | refine q_z ?_ | refine q_b ?_ | refine q_mv ?_ | refine q_faddr ?_ | refine q_load ?_ | refine q_loadI ?_ | refine q_loadR ?_ | refine q_cmp ?_
    | refine q_cmp2 (fun _ => ?_) (fun _ => ?_) | refine q_add ?_ | refine q_len ?_ | refine q_lenS ?_ | refine q_len0 ?_ | refine q_at ?_)
  refine W.mono (Q := fun ex T' H' => ex = .exit 0 ∧ T' 3 = .int .i64 (sumC 0 l)) ?_ ?_
  · refine w_for l.length (fun i T' H' => ∃ s : Int, (0 ≤ s ∧ s ≤ 4294967295) ∧ sumC 0 l = sumC s (l.drop i) ∧ Has T' [(0, .islc t f 9 es), (3, .int .i64 s), (4, .int .i64 (i : Nat))])
      ⟨0, by omega, by simp, rfl, rfl, rfl, trivial⟩ (by omega) ?_
    rintro i T H hi ⟨s, hs, hgo, hT⟩
    rw [hT.eq]
    simp only [over]
    by_cases hil : i < l.length
    · rw [List.drop_eq_getElem_cons hil] at hgo
      obtain ⟨e, he, hcr⟩ := hes.get (List.getElem?_eq_getElem hil)
      have he2 : es[(i : Int).toNat]? = some e := by rw [Int.toNat_natCast]; exact he
      have hch := hc _ (List.getElem_mem hil)
      obtain ⟨c, hcd⟩ : ∃ c, c = l[i] := ⟨_, rfl⟩
      rw [← hcd] at hcr hch hgo
      have hpl := payB_le hch
      have hkd := chk_kind hch
      obtain ⟨t1, f1, s1, rfl, hsd, htk⟩ := hcr
      have hp := e_ref_Payload (xf := xf) (gf := gf) k (by omega) t1 f1 s1 c hch hsd
      have hm := fun f => e_ref_More (xf := xf) (gf := gf) (k + 1) (by omega) false f (payB c) s (by omega) hs
      have hct := e_ref_content (xf := xf) (gf := gf) (k + 1) c
      have hst : sumC s (c :: l.drop (i + 1)) = sumC (if c.kind = 1 ∨ c.kind = 6 then s else crcMore s (payB c)) (l.drop (i + 1)) := rfl
      rw [hst] at hgo
      unfold Cmd.av at hp he2
      cases hcb : contentB c with
      | true =>
        have hcc := contentB_iff.1 hcb
        unfold content at hcc
        rw [if_neg (by omega)] at hgo
        rw [hcb] at hct
        repeat' (first
         | refine q_s ?_ | refine q_z ?_ | refine q_b ?_ | refine wo_lenG (n := l.length) rfl hlen rfl rfl ?_ | refine wo_atG rfl rfl (by omega) he2 rfl rfl ?_ | refine q_faddrI ?_
          | refine q_call hct ?_ | refine q_call hp ?_ | refine q_call (hm _) ?_ | refine q_mv ?_ | refine q_faddr ?_ | refine q_load ?_ | refine q_loadI ?_ | refine q_loadR ?_
          | refine q_cmp ?_ | refine q_cmp2 (fun _ => ?_) (fun _ => ?_) | refine q_add ?_ | refine q_len ?_ | refine q_lenS ?_ | refine q_len0 ?_ | refine q_at ?_)
        exact ⟨hil, _, crcMore_range2 _ _, hgo, rfl, rfl, by show AV.int _ _ = AV.int _ _; congr 1, trivial⟩
      | false =>
        have hcc : ¬ content c := fun h => by rw [contentB_iff.2 h] at hcb; cases hcb
        unfold content at hcc
        rw [if_pos (by omega)] at hgo
        rw [hcb] at hct
        repeat' (first
         | refine q_s ?_ | refine q_z ?_ | refine q_b ?_ | refine wo_lenG (n := l.length) rfl hlen rfl rfl ?_ | refine wo_atG rfl rfl (by omega) he2 rfl rfl ?_ | refine q_faddrI ?_
          | refine q_call hct ?_ | refine q_mv ?_ | refine q_faddr ?_ | refine q_load ?_ | refine q_loadI ?_ | refine q_loadR ?_ | refine q_cmp ?_ | refine q_cmp2 (fun _ => ?_) (fun _ => ?_)
          | refine q_add ?_ | refine q_len ?_ | refine q_lenS ?_ | refine q_len0 ?_ | refine q_at ?_)
        exact ⟨hil, _, hs, hgo, rfl, rfl, by show AV.int _ _ = AV.int _ _; congr 1, trivial⟩
    · have hil2 : i = l.length := by omega
      repeat' (first
       | refine q_s ?_ | refine q_z ?_ | refine q_b ?_ | refine wo_lenG (n := l.length) rfl hlen rfl rfl ?_ | refine q_mv ?_ | refine q_faddr ?_ | refine q_load ?_ | refine q_loadI ?_
        | refine q_loadR ?_ | refine q_cmp ?_ | refine q_cmp2 (fun _ => ?_) (fun _ => ?_) | refine q_add ?_ | refine q_len ?_ | refine q_lenS ?_ | refine q_len0 ?_ | refine q_at ?_)
      rw [hil2, List.drop_length] at hgo
      exact ⟨rfl, by rw [hgo]; rfl⟩
  rintro ex T2 H2 ⟨rfl, h3⟩
  rw [Has.eq (T := T2) (ps := [(3, _)]) ⟨h3, trivial⟩]
  simp only [over]
  show W _ _
  repeat' (first
   | refine q_s ?_ | refine q_z ?_ | refine q_b ?_ | refine q_mv ?_ | refine q_faddr ?_ | refine q_load ?_ | refine q_loadI ?_ | refine q_loadR ?_ | refine q_cmp ?_
    | refine q_cmp2 (fun _ => ?_) (fun _ => ?_) | refine q_add ?_ | refine q_len ?_ | refine q_lenS ?_ | refine q_len0 ?_ | refine q_at ?_)
  exact ⟨Or.inr rfl, _, rfl, rfl⟩

end Go.Proofs.YtnakicjkolpacaaDoor
