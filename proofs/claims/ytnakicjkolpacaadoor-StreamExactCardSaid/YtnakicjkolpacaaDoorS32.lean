/- What the functions answer: are commands a stream's; a stream's bytes. -/
import Derived.Test.YtnakicjkolpacaaDoorS31
set_option linter.unusedSimpArgs false
set_option linter.unusedVariables false
set_option maxRecDepth 10000
set_option maxHeartbeats 16000000
namespace Go.Proofs.YtnakicjkolpacaaDoor
open Go.AI

attribute [local irreducible] aops aexec acall aiter aop W WO

variable {xf : ExtF} {gf : CallF}

def cz : Cmd := ⟨0, 0, 0, 0, 0, 0, 0, 0, []⟩
/-- A stream's commands, nothing left out. -/
def endsP (l : List Cmd) : Prop := (l.getD 0 cz).kind = 1 ∧ (l.getD 0 cz).count = 0 ∧ (l.getD (l.length - 1) cz).kind = 6 ∧ (l.getD (l.length - 1) cz).count = (l.length : Int) - 2
instance (l : List Cmd) : Decidable (endsP l) := by unfold endsP; infer_instance
def midsL (l : List Cmd) : List Cmd := (l.drop 1).take (l.length - 2)
def wholeP (l : List Cmd) : Prop := 2 ≤ l.length ∧ endsP l ∧ (midsL l).all contentB = true ∧ (∀ c ∈ l, chkP c) ∧ (l.getD (l.length - 1) cz).digest = sumC 0 l
instance (l : List Cmd) : Decidable (wholeP l) := by unfold wholeP; infer_instance

theorem whole_loop {cf : CallF} {fuel : Nat} {T : Tmps} {H : Heap} {t f t' f' : Bool} {es0 es : List AV} {l : List Cmd} {n : Int} (hl : l.length < 1000000) (hk2 : 1000000 ≤ fuel) (hes : CsR es l) (hc : ∀ t f s c, FnV cf n_stream_content [Cmd.av t f s c] (.bool (contentB c)))
    (hT : Has T [(0, .islc t' f' 9 es0), (3, .int .i64 n), (47, .islc t f 9 es), (48, .int .i64 l.length), (49, .int .i64 0)]) :
    W (aexec cf xf 0 fuel (.loop stream_whole_l0) T H) (fun ex T' H' => (ex = .ret ∧ l.all contentB = false ∧ T' 2 = .bool false) ∨ (ex = .exit 0 ∧ l.all contentB = true ∧ T' 0 = .islc t' f' 9 es0 ∧ T' 3 = .int .i64 n)) := by
  refine w_loop (fun m T' H' => m ≤ l.length ∧ l.all contentB = (l.drop (l.length - m)).all contentB ∧ Has T' [(0, .islc t' f' 9 es0), (3, .int .i64 n), (47, .islc t f 9 es), (48, .int .i64 l.length), (49, .int .i64 ((l.length - m : Nat) : Int))])
    l.length ⟨Nat.le_refl _, by simp, ?_⟩ (by omega) ?_
  · obtain ⟨h0, h1, h2, h3, h4, _⟩ := hT
    exact ⟨h0, h1, h2, h3, by rw [h4]; simp, trivial⟩
  rintro m T H hm ⟨_, hgo, hT⟩
  obtain ⟨i, hi⟩ : ∃ i, i = l.length - m := ⟨_, rfl⟩
  rw [← hi] at hT hgo
  by_cases hm0 : m = 0
  · have hil : i = l.length := by omega
    rw [hT.eq]
    simp only [over]
    unfold stream_whole_l0
    repeat' (first
     | refine q_s ?_ | refine q_z ?_ | refine q_b ?_ | refine q_mv ?_ | refine q_load ?_ | refine q_loadI ?_ | refine q_loadR ?_ | refine q_cmp ?_ | refine q_cmp2 (fun _ => ?_) (fun _ => ?_)
      | refine q_add ?_ | refine q_notT ?_ | refine q_notF ?_ | refine q_store ?_ | refine q_storeR ?_ | refine q_box ?_ | refine q_at ?_)
    refine .inr ⟨rfl, ?_, rfl, rfl⟩
    rw [hgo, hil, List.drop_length]; rfl
  have hil : i < l.length := by omega
  rw [List.drop_eq_getElem_cons hil, List.all_cons] at hgo
  obtain ⟨e, he, hcr⟩ := hes.get (List.getElem?_eq_getElem hil)
  have he2 : es[(i : Int).toNat]? = some e := by simpa using he
  obtain ⟨c, hcd⟩ : ∃ c, c = l[i] := ⟨_, rfl⟩
  rw [← hcd] at hcr hgo
  obtain ⟨t0, f0, s0, rfl, _⟩ := hcr
  have hcc := hc t0 f0 s0 c
  unfold Cmd.av at hcc he2
  rw [hT.eq]
  simp only [over]
  unfold stream_whole_l0
  repeat' (first
   | refine q_s ?_ | refine q_z ?_ | refine q_b ?_ | refine wo_atG rfl rfl (by omega) he2 rfl rfl ?_ | refine q_faddrI ?_ | refine q_callB hcc (fun _ => ?_) (fun _ => ?_) | refine q_mv ?_
    | refine q_load ?_ | refine q_loadI ?_ | refine q_loadR ?_ | refine q_cmp ?_ | refine q_cmp2 (fun _ => ?_) (fun _ => ?_) | refine q_add ?_ | refine q_notT ?_ | refine q_notF ?_
    | refine q_store ?_ | refine q_storeR ?_ | refine q_box ?_ | refine q_at ?_)
  · rename_i h1
    refine ⟨by omega, by omega, ?_, rfl, rfl, rfl, rfl, by show AV.int _ _ = AV.int _ _; congr 1; omega, trivial⟩
    rw [hgo, h1, show l.length - (m - 1) = i + 1 by omega]; rfl
  · rename_i h1
    refine .inl ⟨rfl, ?_, rfl⟩
    rw [hgo, h1]; rfl

theorem e_stream_whole (k : Nat) (hk : 1000000 ≤ k) (t f : Bool) (es : List AV) (l : List Cmd) (hl : l.length < 1000000) (hes : CsR es l) (hd : smallC l) :
    FnV (acall B xf gf (k + 9)) n_stream_whole [.islc t f 9 es] (.bool (decide (wholeP l))) := by
  refine fn_of B_stream_whole rfl ?_
  unfold stream_whole
  have hlen := hes.len
  by_cases h2 : 2 ≤ l.length
  · obtain ⟨e0, he0, hcr0⟩ := hes.get (i := 0) (List.getElem?_eq_getElem (by omega))
    obtain ⟨en, hen, hcrn⟩ := hes.get (i := l.length - 1) (List.getElem?_eq_getElem (by omega))
    have g0 : l.getD 0 cz = l[0] := by simp [List.getD, show 0 < l.length by omega]
    have gn : l.getD (l.length - 1) cz = l[l.length - 1] := by simp [List.getD, show l.length - 1 < l.length by omega]
    rw [← g0] at hcr0
    rw [← gn] at hcrn
    have hen2 : es[((l.length : Int) - 1).toNat]? = some en := by rw [← hen]; congr 1; omega
    have he02 : es[(0 : Int).toNat]? = some e0 := he0
    obtain ⟨t0, f0, s0, rfl, _⟩ := hcr0
    obtain ⟨tn, fn, sn, rfl, _⟩ := hcrn
    have hE : endsP l ↔ ((l.getD 0 cz).kind = 1 ∧ (l.getD 0 cz).count = 0 ∧ (l.getD (l.length - 1) cz).kind = 6 ∧ (l.getD (l.length - 1) cz).count = (l.length : Int) - 2) := Iff.rfl
    generalize hc0 : l.getD 0 cz = c0 at *
    generalize hcn : l.getD (l.length - 1) cz = cn at *
    unfold Cmd.av at he02 hen2
    have hW : wholeP l ↔ endsP l ∧ (midsL l).all contentB = true ∧ (∀ c ∈ l, chkP c) ∧ cn.digest = sumC 0 l := by
      unfold wholeP
      rw [hcn]
      exact ⟨fun h => h.2, fun h => ⟨h2, h⟩⟩
    by_cases hends : endsP l
    · obtain ⟨hx1, hx2, hx3, hx4⟩ := hE.1 hends
      have hmid : CsR ((es.drop (1 : Int).toNat).take (((l.length : Int) - 1).toNat - (1 : Int).toNat)) (midsL l) := by
        have := (hes.drop 1).take (l.length - 2)
        rw [show ((l.length : Int) - 1).toNat - (1 : Int).toNat = l.length - 2 by omega]
        exact this
      have hml : (midsL l).length = l.length - 2 := by simp [midsL]; omega
      repeat' (first
       | refine q_s ?_ | refine q_z ?_ | refine q_b ?_ | refine wo_lenG (n := l.length) rfl hlen rfl rfl ?_ | refine wo_lenG (n := (midsL l).length) rfl hmid.len rfl rfl ?_
        | refine wo_atG rfl rfl (by omega) he02 rfl rfl ?_ | refine q_faddrI ?_ | refine wo_atG rfl rfl (by omega) hen2 rfl rfl ?_
        | refine wo_sliceGM rfl (.inl rfl) hlen rfl rfl (by omega) (by omega) (by omega) rfl rfl ?_ | refine q_n ?_ | refine q_nn ?_ | refine q_mv ?_ | refine q_faddr ?_ | refine q_load ?_
        | refine q_loadI ?_ | refine q_loadR ?_ | refine q_cmp ?_ | refine q_cmp2 (fun _ => ?_) (fun _ => ?_) | refine q_add ?_ | refine q_sub ?_ | refine q_pickT ?_ | refine q_pickF ?_
        | refine q_notT ?_ | refine q_notF ?_ | refine q_len ?_ | refine q_lenS ?_ | refine q_len0 ?_ | refine q_ex ?_ | refine q_store ?_ | refine q_storeR ?_ | refine q_box ?_
        | refine q_at ?_ | refine q_slice0 ?_ | refine q_sliceE ?_ | refine q_sliceM ?_)
      refine (whole_loop (es := (es.drop (1 : Int).toNat).take (((l.length : Int) - 1).toNat - (1 : Int).toNat)) (l := midsL l) (es0 := es) (t' := t) (f' := f) (t := t) (f := f && decide (((l.length : Int) - 1).toNat = l.length)) (n := (l.length : Int) - 1) (by omega) (by omega) hmid (fun t f s c => e_stream_content (k + 7) t f s c) ?_).mono ?_
      · exact ⟨rfl, rfl, rfl, rfl, rfl, trivial⟩
      rintro ex T2 H2 (⟨rfl, hall, h2'⟩ | ⟨rfl, hall, hT0, hT3⟩)
      · refine ⟨Or.inr rfl, _, rfl, ?_⟩
        show fz true 6 H2 (T2 2) = _
        rw [h2']
        show AV.bool false = _
        congr 1
        symm
        rw [decide_eq_false_iff_not, hW]
        rintro ⟨_, h, _⟩
        rw [hall] at h
        cases h
      · rw [Has.eq (T := T2) (ps := [(0, _), (3, _)]) ⟨hT0, hT3, trivial⟩]
        simp only [over]
        show W _ _
        have hdg := e_plan_Digest (xf := xf) (gf := gf) k hk t f es l hl hes hd
        by_cases hchk : ∀ c ∈ l, chkP c
        · rw [if_pos hchk] at hdg
          repeat' (first
           | refine q_s ?_ | refine q_z ?_ | refine q_b ?_ | refine q_call hdg ?_ | refine wo_atG rfl rfl (by omega) hen2 rfl rfl ?_ | refine q_faddrI ?_ | refine q_n ?_ | refine q_nn ?_
            | refine q_mv ?_ | refine q_faddr ?_ | refine q_load ?_ | refine q_loadI ?_ | refine q_loadR ?_ | refine q_cmp ?_ | refine q_cmp2 (fun _ => ?_) (fun _ => ?_) | refine q_add ?_
            | refine q_sub ?_ | refine q_pickT ?_ | refine q_pickF ?_ | refine q_notT ?_ | refine q_notF ?_ | refine q_len ?_ | refine q_lenS ?_ | refine q_len0 ?_ | refine q_ex ?_
            | refine q_store ?_ | refine q_storeR ?_ | refine q_box ?_ | refine q_at ?_ | refine q_slice0 ?_ | refine q_sliceE ?_ | refine q_sliceM ?_)
          all_goals
            refine ⟨Or.inr rfl, _, rfl, ?_⟩
            show AV.bool _ = AV.bool _
            congr 1
            symm
            rename_i h
            simp only [cmpP] at h
            first
              | (rw [decide_eq_true_eq, hW]; exact ⟨hends, hall, hchk, h⟩)
              | (rw [decide_eq_false_iff_not, hW]; exact fun hh => h hh.2.2.2)
        · rw [if_neg hchk] at hdg
          repeat' (first
           | refine q_s ?_ | refine q_z ?_ | refine q_b ?_ | refine q_call hdg ?_ | refine wo_atG rfl rfl (by omega) hen2 rfl rfl ?_ | refine q_faddrI ?_ | refine q_n ?_ | refine q_nn ?_
            | refine q_mv ?_ | refine q_faddr ?_ | refine q_load ?_ | refine q_loadI ?_ | refine q_loadR ?_ | refine q_cmp ?_ | refine q_cmp2 (fun _ => ?_) (fun _ => ?_) | refine q_add ?_
            | refine q_sub ?_ | refine q_pickT ?_ | refine q_pickF ?_ | refine q_notT ?_ | refine q_notF ?_ | refine q_len ?_ | refine q_lenS ?_ | refine q_len0 ?_ | refine q_ex ?_
            | refine q_store ?_ | refine q_storeR ?_ | refine q_box ?_ | refine q_at ?_ | refine q_slice0 ?_ | refine q_sliceE ?_ | refine q_sliceM ?_)
          refine ⟨Or.inr rfl, _, rfl, ?_⟩
          show AV.bool _ = AV.bool _
          congr 1
          symm
          rw [decide_eq_false_iff_not, hW]
          exact fun hh => hchk hh.2.2.1
    · have hx : ¬ (c0.kind = 1 ∧ c0.count = 0 ∧ cn.kind = 6 ∧ cn.count = (l.length : Int) - 2) := fun h => hends (hE.2 h)
      have hf : decide (wholeP l) = false := by
        rw [decide_eq_false_iff_not, hW]
        exact fun hh => hends hh.1
      rw [hf]
      repeat' (first
       | refine q_s ?_ | refine q_z ?_ | refine q_b ?_ | refine wo_lenG (n := l.length) rfl hlen rfl rfl ?_ | refine wo_atG rfl rfl (by omega) he02 rfl rfl ?_ | refine q_faddrI ?_
        | refine wo_atG rfl rfl (by omega) hen2 rfl rfl ?_ | refine q_faddrI ?_ | refine q_n ?_ | refine q_nn ?_ | refine q_mv ?_ | refine q_faddr ?_ | refine q_load ?_ | refine q_loadI ?_
        | refine q_loadR ?_ | refine q_cmp ?_ | refine q_cmp2 (fun _ => ?_) (fun _ => ?_) | refine q_add ?_ | refine q_sub ?_ | refine q_pickT ?_ | refine q_pickF ?_ | refine q_notT ?_
        | refine q_notF ?_ | refine q_len ?_ | refine q_lenS ?_ | refine q_len0 ?_ | refine q_ex ?_ | refine q_store ?_ | refine q_storeR ?_ | refine q_box ?_ | refine q_at ?_
        | refine q_slice0 ?_ | refine q_sliceE ?_ | refine q_sliceM ?_)
      all_goals exact ⟨Or.inr rfl, _, rfl, rfl⟩
  · have hf : decide (wholeP l) = false := by
      rw [decide_eq_false_iff_not]
      exact fun hh => h2 hh.1
    rw [hf]
    repeat' (first
     | refine q_s ?_ | refine q_z ?_ | refine q_b ?_ | refine wo_lenG (n := l.length) rfl hlen rfl rfl ?_ | refine q_n ?_ | refine q_nn ?_ | refine q_mv ?_ | refine q_faddr ?_
      | refine q_load ?_ | refine q_loadI ?_ | refine q_loadR ?_ | refine q_cmp ?_ | refine q_cmp2 (fun _ => ?_) (fun _ => ?_) | refine q_add ?_ | refine q_sub ?_ | refine q_pickT ?_
      | refine q_pickF ?_ | refine q_notT ?_ | refine q_notF ?_ | refine q_len ?_ | refine q_lenS ?_ | refine q_len0 ?_ | refine q_ex ?_ | refine q_store ?_ | refine q_storeR ?_
      | refine q_box ?_ | refine q_at ?_ | refine q_slice0 ?_ | refine q_sliceE ?_ | refine q_sliceM ?_)
    exact ⟨Or.inr rfl, _, rfl, rfl⟩

end Go.Proofs.YtnakicjkolpacaaDoor
