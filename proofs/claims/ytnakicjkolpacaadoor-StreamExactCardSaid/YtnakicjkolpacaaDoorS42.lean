/- What the page's own functions answer: are commands a stream's. -/
import Derived.Test.YtnakicjkolpacaaDoorS40
set_option linter.unusedSimpArgs false
set_option linter.unusedVariables false
set_option maxRecDepth 10000
set_option maxHeartbeats 16000000
namespace Go.Proofs.YtnakicjkolpacaaDoor
open Go.AI
attribute [local irreducible] aops aexec acall aiter aop W WO

variable {xf : ExtF} {gf : CallF}

theorem ref_Plan_l0 (k : Nat) (hk : 1000000 ≤ k) {T : Tmps} {H : Heap} {t f : Bool} {es : List AV} {l : List Cmd} (hl : l.length < 100000) (hes : CsR es l) (hd : smallC l) (hT : Has T [(0, .islc t f 9 es), (3, .int .i64 0)]) :
    W (aexec (acall B xf gf (k + 3)) xf 0 (k + 3) (.loop ref18_Plan_l0) T H) (fun ex T' H' => (ex = .exit 0 ∧ (∀ c ∈ l, chkP c) ∧ T' 0 = .islc t f 9 es) ∨ (ex = .ret ∧ ¬ (∀ c ∈ l, chkP c) ∧ T' 2 = .bool false)) := by
  have hlen := hes.len
  refine w_for l.length (fun i T' H' => (∀ c ∈ l.take i, chkP c) ∧ Has T' [(0, .islc t f 9 es), (3, .int .i64 (i : Nat))]) ⟨by simp, hT⟩ (by omega) ?_
  rintro i T H hi ⟨hgo, hT⟩
  rw [hT.eq]
  simp only [over]
  unfold ref18_Plan_l0
  by_cases hil : i < l.length
  · obtain ⟨e, he, hcr⟩ := hes.get (List.getElem?_eq_getElem hil)
    have he2 : es[(i : Int).toNat]? = some e := by rw [Int.toNat_natCast]; exact he
    have hdl := hd _ (List.getElem_mem hil)
    obtain ⟨c, hcd⟩ : ∃ c, c = l[i] := ⟨_, rfl⟩
    rw [← hcd] at hcr hdl
    obtain ⟨t1, f1, s1, rfl, hsd, htk⟩ := hcr
    have hcm := e_ref_Command (xf := xf) (gf := gf) k t1 f1 s1 c (by omega)
    unfold Cmd.av at hcm he2
    by_cases hch : chkP c
    · rw [decide_eq_true hch] at hcm
      repeat' (first
       | refine q_s ?_ | refine q_z ?_ | refine q_b ?_ | refine wo_lenG (n := l.length) rfl hlen rfl rfl ?_ | refine wo_atG rfl rfl (by omega) he2 rfl rfl ?_ | refine q_call hcm ?_
        | refine q_mv ?_ | refine q_load ?_ | refine q_loadI ?_ | refine q_loadR ?_ | refine q_cmp ?_ | refine q_cmp2 (fun _ => ?_) (fun _ => ?_) | refine q_add ?_ | refine q_notT ?_
        | refine q_notF ?_ | refine q_len ?_ | refine q_lenS ?_ | refine q_len0 ?_ | refine q_at ?_)
      refine ⟨hil, ?_, rfl, by show AV.int _ _ = AV.int _ _; congr 1, trivial⟩
      intro x hx
      rw [List.take_succ_eq_append_getElem hil, ← hcd] at hx
      rcases List.mem_append.1 hx with hx | hx
      · exact hgo x hx
      · rw [List.mem_singleton.1 hx]; exact hch
    · rw [decide_eq_false hch] at hcm
      repeat' (first
       | refine q_s ?_ | refine q_z ?_ | refine q_b ?_ | refine wo_lenG (n := l.length) rfl hlen rfl rfl ?_ | refine wo_atG rfl rfl (by omega) he2 rfl rfl ?_ | refine q_call hcm ?_
        | refine q_mv ?_ | refine q_load ?_ | refine q_loadI ?_ | refine q_loadR ?_ | refine q_cmp ?_ | refine q_cmp2 (fun _ => ?_) (fun _ => ?_) | refine q_add ?_ | refine q_notT ?_
        | refine q_notF ?_ | refine q_len ?_ | refine q_lenS ?_ | refine q_len0 ?_ | refine q_at ?_)
      exact .inr ⟨rfl, fun h => hch (by rw [hcd]; exact h _ (List.getElem_mem hil)), rfl⟩
  · have hin : i = l.length := by omega
    repeat' (first
     | refine q_s ?_ | refine q_z ?_ | refine q_b ?_ | refine wo_lenG (n := l.length) rfl hlen rfl rfl ?_ | refine q_mv ?_ | refine q_load ?_ | refine q_loadI ?_ | refine q_loadR ?_
      | refine q_cmp ?_ | refine q_cmp2 (fun _ => ?_) (fun _ => ?_) | refine q_add ?_ | refine q_notT ?_ | refine q_notF ?_ | refine q_len ?_ | refine q_lenS ?_ | refine q_len0 ?_
      | refine q_at ?_)
    rw [hin, List.take_length] at hgo
    exact .inl ⟨rfl, hgo, rfl⟩

theorem ref_Plan_l1 (k : Nat) {fuel : Nat} (hk : 1000000 ≤ fuel) {T : Tmps} {H : Heap} {t f : Bool} {es : List AV} {l : List Cmd} (hl : l.length < 100000) (h2 : 2 ≤ l.length) (hes : CsR es l) (hT : Has T [(0, .islc t f 9 es), (4, .int .i64 ((l.length : Int) - 1)), (5, .int .i64 1)]) :
    W (aexec (acall B xf gf (k + 1)) xf 0 fuel (.loop ref18_Plan_l1) T H) (fun ex T' H' => (ex = .exit 2 ∧ (midsL l).all contentB = true) ∨ (ex = .ret ∧ (midsL l).all contentB = false ∧ T' 2 = .bool false)) := by
  have hml : (midsL l).length = l.length - 2 := by simp [midsL]; omega
  refine w_for (l.length - 2) (fun i T' H' => ((midsL l).take i).all contentB = true ∧ Has T' [(0, .islc t f 9 es), (4, .int .i64 ((l.length : Int) - 1)), (5, .int .i64 ((i : Nat) + 1))]) ⟨by simp, hT.1, hT.2.1, by rw [hT.2.2.1]; rfl, trivial⟩ (by omega) ?_
  rintro i T H hi ⟨hgo, hT⟩
  rw [hT.eq]
  simp only [over]
  unfold ref18_Plan_l1
  by_cases hil : i < l.length - 2
  · have hil2 : i + 1 < l.length := by omega
    obtain ⟨e, he, hcr⟩ := hes.get (List.getElem?_eq_getElem hil2)
    have he2 : es[((i : Int) + 1).toNat]? = some e := by rw [show ((i : Int) + 1).toNat = i + 1 by omega]; exact he
    obtain ⟨c, hcd⟩ : ∃ c, c = l[i + 1] := ⟨_, rfl⟩
    rw [← hcd] at hcr
    have hmi : (midsL l)[i]'(by omega) = c := by
      rw [hcd]; simp only [midsL, List.getElem_take, List.getElem_drop]; congr 1; omega
    obtain ⟨t1, f1, s1, rfl, hsd, htk⟩ := hcr
    have hct := e_ref_content (xf := xf) (gf := gf) k c
    unfold Cmd.av at he2
    cases hcb : contentB c with
    | true =>
      rw [hcb] at hct
      repeat' (first
       | refine q_s ?_ | refine q_z ?_ | refine q_b ?_ | refine wo_lenG (n := l.length) rfl hes.len rfl rfl ?_ | refine wo_atG rfl rfl (by omega) he2 rfl rfl ?_ | refine q_faddrI ?_
        | refine q_call hct ?_ | refine q_mv ?_ | refine q_faddr ?_ | refine q_load ?_ | refine q_loadI ?_ | refine q_loadR ?_ | refine q_cmp ?_ | refine q_cmp2 (fun _ => ?_) (fun _ => ?_)
        | refine q_add ?_ | refine q_notT ?_ | refine q_notF ?_ | refine q_at ?_)
      refine ⟨hil, ?_, rfl, rfl, by show AV.int _ _ = AV.int _ _; congr 1, trivial⟩
      rw [List.take_succ_eq_append_getElem (by omega), List.all_append, hgo, hmi]
      simp [hcb]
    | false =>
      rw [hcb] at hct
      repeat' (first
       | refine q_s ?_ | refine q_z ?_ | refine q_b ?_ | refine wo_lenG (n := l.length) rfl hes.len rfl rfl ?_ | refine wo_atG rfl rfl (by omega) he2 rfl rfl ?_ | refine q_faddrI ?_
        | refine q_call hct ?_ | refine q_mv ?_ | refine q_faddr ?_ | refine q_load ?_ | refine q_loadI ?_ | refine q_loadR ?_ | refine q_cmp ?_ | refine q_cmp2 (fun _ => ?_) (fun _ => ?_)
        | refine q_add ?_ | refine q_notT ?_ | refine q_notF ?_ | refine q_at ?_)
      refine .inr ⟨rfl, ?_, rfl⟩
      rw [List.all_eq_false]
      exact ⟨c, by rw [← hmi]; exact List.getElem_mem _, by simp [hcb]⟩
  · have hin : i = l.length - 2 := by omega
    repeat' (first
     | refine q_s ?_ | refine q_z ?_ | refine q_b ?_ | refine q_mv ?_ | refine q_faddr ?_ | refine q_load ?_ | refine q_loadI ?_ | refine q_loadR ?_ | refine q_cmp ?_
      | refine q_cmp2 (fun _ => ?_) (fun _ => ?_) | refine q_add ?_ | refine q_notT ?_ | refine q_notF ?_ | refine q_at ?_)
    rw [hin, ← hml, List.take_length] at hgo
    exact .inl ⟨rfl, hgo⟩

theorem e_ref_Plan (k : Nat) (hk : 1000000 ≤ k) (t f : Bool) (es : List AV) (l : List Cmd) (hl : l.length < 100000) (hes : CsR es l) (hd : smallC l) : FnV (acall B xf gf (k + 4)) n_ref18_Plan [.islc t f 9 es] (.bool (decide (wholeP l))) := by
  have hlen := hes.len
  refine fn_of B_ref18_Plan rfl ?_
  unfold ref18_Plan
  repeat' (first
   | refine q_s ?_ | refine q_z ?_ | refine q_b ?_ | refine q_n ?_ | refine q_nn ?_ | refine q_mv ?_ | refine q_faddr ?_ | refine q_load ?_ | refine q_loadI ?_ | refine q_loadR ?_
    | refine q_cmp ?_ | refine q_cmp2 (fun _ => ?_) (fun _ => ?_) | refine q_add ?_ | refine q_sub ?_ | refine q_pickT ?_ | refine q_pickF ?_ | refine q_notT ?_ | refine q_notF ?_
    | refine q_len ?_ | refine q_lenS ?_ | refine q_len0 ?_ | refine q_at ?_)
  refine W.mono (ref_Plan_l0 (xf := xf) (gf := gf) k hk (t := t) (f := f) hl hes hd ?_) ?_
  · exact ⟨rfl, rfl, trivial⟩
  rintro ex T2 H2 (⟨rfl, hch, h0⟩ | ⟨rfl, hch, h2⟩)
  rotate_left 1
  · refine ⟨Or.inr rfl, _, rfl, ?_⟩
    show fz true 6 H2 (T2 2) = _
    rw [h2, decide_eq_false (fun h => hch h.2.2.2.1)]
    rfl
  rw [Has.eq (T := T2) (ps := [(0, _)]) ⟨h0, trivial⟩]
  simp only [over]
  show W _ _
  by_cases h2 : 2 ≤ l.length
  · obtain ⟨e0, he0, hcr0⟩ := hes.get (i := 0) (List.getElem?_eq_getElem (by omega))
    obtain ⟨en, hen, hcrn⟩ := hes.get (i := l.length - 1) (List.getElem?_eq_getElem (by omega))
    have g0 : l.getD 0 cz = l[0] := by simp [List.getD, show 0 < l.length by omega]
    have gn : l.getD (l.length - 1) cz = l[l.length - 1] := by simp [List.getD, show l.length - 1 < l.length by omega]
    rw [← g0] at hcr0
    rw [← gn] at hcrn
    have hen2 : es[((l.length : Int) - 1).toNat]? = some en := by rw [← hen]; congr 1; omega
    have he02 : es[(0 : Int).toNat]? = some e0 := he0
    obtain ⟨t0, f0, s0, rfl, _⟩ := hcr0
    obtain ⟨tn, fn, sn, rfl, _⟩ := hcrn
    have hE : endsP l ↔ ((l.getD 0 cz).kind = 1 ∧ (l.getD 0 cz).count = 0 ∧ (l.getD (l.length - 1) cz).kind = 6 ∧ (l.getD (l.length - 1) cz).count = (l.length : Int) - 2) := Iff.rfl
    have hW : wholeP l ↔ endsP l ∧ (midsL l).all contentB = true ∧ (l.getD (l.length - 1) cz).digest = sumC 0 l := by
      unfold wholeP
      exact ⟨fun h => ⟨h.2.1, h.2.2.1, h.2.2.2.2⟩, fun h => ⟨h2, h.1, h.2.1, hch, h.2.2⟩⟩
    obtain ⟨c0, hc0⟩ : ∃ c, c = l.getD 0 cz := ⟨_, rfl⟩
    obtain ⟨cn, hcn⟩ : ∃ c, c = l.getD (l.length - 1) cz := ⟨_, rfl⟩
    rw [← hc0] at he02 hE
    rw [← hcn] at hen2 hE hW
    have hdg := e_ref_Digest (xf := xf) (gf := gf) k hk t f es l hl hes hch
    unfold Cmd.av at he02 hen2
    by_cases hends : endsP l ∧ cn.digest = sumC 0 l
    · obtain ⟨hx1, hx2, hx3, hx4⟩ := hE.1 hends.1
      have hx5 := hends.2
      repeat' (first
       | refine q_s ?_ | refine q_z ?_ | refine q_b ?_ | refine wo_lenG (n := l.length) rfl hlen rfl rfl ?_ | refine wo_atG rfl rfl (by omega) he02 rfl rfl ?_ | refine q_faddrI ?_
        | refine wo_atG rfl rfl (by omega) hen2 rfl rfl ?_ | refine q_call hdg ?_ | refine q_n ?_ | refine q_nn ?_ | refine q_mv ?_ | refine q_faddr ?_ | refine q_load ?_ | refine q_loadI ?_
        | refine q_loadR ?_ | refine q_cmp ?_ | refine q_cmp2 (fun _ => ?_) (fun _ => ?_) | refine q_add ?_ | refine q_sub ?_ | refine q_pickT ?_ | refine q_pickF ?_ | refine q_notT ?_
        | refine q_notF ?_ | refine q_len ?_ | refine q_lenS ?_ | refine q_len0 ?_ | refine q_at ?_)
      refine W.mono (ref_Plan_l1 (xf := xf) (gf := gf) (k + 2) (by omega) (t := t) (f := f) (es := es) (l := l) hl h2 hes ?_) ?_
      · exact ⟨rfl, rfl, rfl, trivial⟩
      rintro ex T3 H3 (⟨rfl, hall⟩ | ⟨rfl, hall, h2'⟩)
      · rw [decide_eq_true (hW.2 ⟨hends.1, hall, hx5⟩)]
        show W _ _
        repeat' (first
         | refine q_s ?_ | refine q_z ?_ | refine q_b ?_ | refine q_n ?_ | refine q_nn ?_ | refine q_mv ?_ | refine q_faddr ?_ | refine q_load ?_ | refine q_loadI ?_ | refine q_loadR ?_
          | refine q_cmp ?_ | refine q_cmp2 (fun _ => ?_) (fun _ => ?_) | refine q_add ?_ | refine q_sub ?_ | refine q_pickT ?_ | refine q_pickF ?_ | refine q_notT ?_ | refine q_notF ?_
          | refine q_len ?_ | refine q_lenS ?_ | refine q_len0 ?_ | refine q_at ?_)
        exact ⟨Or.inr rfl, _, rfl, rfl⟩
      · refine ⟨Or.inr rfl, _, rfl, ?_⟩
        show fz true 6 H3 (T3 2) = _
        rw [h2', decide_eq_false (fun h => by have := (hW.1 h).2.1; rw [hall] at this; cases this)]
        rfl
    · have hx : ¬ (c0.kind = 1 ∧ c0.count = 0 ∧ cn.kind = 6 ∧ cn.count = (l.length : Int) - 2 ∧ cn.digest = sumC 0 l) := fun h => hends ⟨hE.2 ⟨h.1, h.2.1, h.2.2.1, h.2.2.2.1⟩, h.2.2.2.2⟩
      rw [decide_eq_false (fun h => hends ⟨(hW.1 h).1, (hW.1 h).2.2⟩)]
      repeat' (first
       | refine q_s ?_ | refine q_z ?_ | refine q_b ?_ | refine wo_lenG (n := l.length) rfl hlen rfl rfl ?_ | refine wo_atG rfl rfl (by omega) he02 rfl rfl ?_ | refine q_faddrI ?_
        | refine wo_atG rfl rfl (by omega) hen2 rfl rfl ?_ | refine q_call hdg ?_ | refine q_n ?_ | refine q_nn ?_ | refine q_mv ?_ | refine q_faddr ?_ | refine q_load ?_ | refine q_loadI ?_
        | refine q_loadR ?_ | refine q_cmp ?_ | refine q_cmp2 (fun _ => ?_) (fun _ => ?_) | refine q_add ?_ | refine q_sub ?_ | refine q_pickT ?_ | refine q_pickF ?_ | refine q_notT ?_
        | refine q_notF ?_ | refine q_len ?_ | refine q_lenS ?_ | refine q_len0 ?_ | refine q_at ?_)
      all_goals exact ⟨Or.inr rfl, _, rfl, rfl⟩
  · rw [decide_eq_false (fun hh : wholeP l => h2 hh.1)]
    repeat' (first
     | refine q_s ?_ | refine q_z ?_ | refine q_b ?_ | refine wo_lenG (n := l.length) rfl hlen rfl rfl ?_ | refine q_n ?_ | refine q_nn ?_ | refine q_mv ?_ | refine q_faddr ?_
      | refine q_load ?_ | refine q_loadI ?_ | refine q_loadR ?_ | refine q_cmp ?_ | refine q_cmp2 (fun _ => ?_) (fun _ => ?_) | refine q_add ?_ | refine q_sub ?_ | refine q_pickT ?_
      | refine q_pickF ?_ | refine q_notT ?_ | refine q_notF ?_ | refine q_len ?_ | refine q_lenS ?_ | refine q_len0 ?_ | refine q_at ?_)
    exact ⟨Or.inr rfl, _, rfl, rfl⟩

end Go.Proofs.YtnakicjkolpacaaDoor
