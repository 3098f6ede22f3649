import Derived.Test.YtkaiiopoilpjeaaMJ3
set_option linter.unusedSimpArgs false
set_option linter.unusedVariables false
set_option maxRecDepth 10000
set_option maxHeartbeats 16000000
namespace Go.AI
section
variable {cf : CallF} {xf : ExtF} {base : Nat} {T : Tmps} {H : Heap} {QO : Tmps → Heap → Prop} {log : List FP} {g : Option (Nat × Bool)} {un : List Nat} {r : List SOper} {d : Nat} {t f : Bool}
theorem wo_fresh0 {site fn s : Nat} {fl : Bool} {xs : List SArg} {args : List AV} {Hc : Heap} (hF : cf fn 0 args Heap.none = some (.islc false fl s [], Hc)) (hw : awanted T g = some true) (ha : (xs.map (SArg.ev T)).map (fz false deep H) = args)
  (hl : logOk log ⟨(xs.map (SArg.ev T)).flatMap (vis deep H), [base + site], false⟩ un = true)
  (h : WO (aops cf xf base r (log ++ [⟨(xs.map (SArg.ev T)).flatMap (vis deep H), [base + site], false⟩]) (T.upd d (.islc false fl s [])) H) QO) :
  WO (aops cf xf base (⟨some d, .call (.fresh site) fn xs, g, un⟩ :: r) log T H) QO :=
 wo_step (v := .islc false fl s []) (H' := H) (fp := ⟨(xs.map (SArg.ev T)).flatMap (vis deep H), [base + site], false⟩) hw (by
  simp only [aop, acallM, ha, hF, Option.bind_eq_bind, Option.bind_some, moveRes, moveOut]
  rfl) hl h
end
end Go.AI
namespace Go.Proofs.Ytkaiiopoilpjeaa
open Go.AI
theorem cloneR_0 (k : Nat) (hk : 0 < k) (t f : Bool) (s : Nat) : CF k n_slices_Clone___api_Record_api_Record_ 0 [.islc t f s []] Heap.none = some (.islc false true 8 [], Heap.none) := by
 obtain ⟨k, rfl⟩ : ∃ m, k = m + 1 := ⟨k - 1, by omega⟩
 have hB : B n_slices_Clone___api_Record_api_Record_ = none := rfl
 simp only [CF, acall, hB]
 rfl
theorem Rec.nrs : ∀ l : List Rec, norefsL (l.map Rec.av) = true
 | [] => rfl
 | a :: l => by simp only [List.map_cons, norefsL, Bool.and_eq_true]; exact ⟨Rec.nr a, Rec.nrs l⟩
theorem Rec.fz (out : Bool) (n : Nat) (H : Heap) : ∀ l : List Rec, (l.map Rec.av).map (AI.fz out (n + 2) H) = l.map Rec.av := fun l => by
 rw [List.map_map]
 exact List.map_congr_left fun ⟨_, _, _, _, _, _, _, _⟩ _ => rfl
attribute [local irreducible] aops aexec acall aiter aop W WO
theorem c_Reverse00 (k : Nat) (hk : 1000 < k) (t f : Bool) (s : Nat) (H : Heap) : ∃ u H', CF k n_slices_Reverse___api_Record_api_Record_ 6 [.islc t f s []] H = some (u, H') ∧ H' = H := by
 rcases c_Reverse0 k hk t f s H with h | ⟨u, h⟩
 ·exact ⟨_, _, h, rfl⟩
 ·exact ⟨_, _, h, rfl⟩
theorem c_commit_Records (k : Nat) (hk : 1000060 ≤ k) (recs : List Rec) (f1 : Bool) (s1 : Nat) (hs1 : s1 = 8 ∨ recs = []) (bl : List Nat) (f2 : Bool) (s2 : Nat) (hs2 : s2 = 1 ∨ bl = []) (n : Nat) (first : Rec) (wth : Bool) (free : List Nat) (f3 : Bool) (hrl : recs.length < 900) (hbl : bl.length = recs.length) (hn : n ≤ recs.length)
  (hro : ∀ r ∈ recs, r.ok) (hfo : wth = true → ({ first with next := 0 } : Rec).ok) (hb : ∀ a ∈ bl, 2 ≤ a ∧ a < 4096) (hf : ∀ a ∈ free, 2 ≤ a ∧ a < 4096) (hfl : free.length ≤ 4096) (hinc : rising free) :
  FnV (CF k) n_commit_Records [.islc false f1 s1 (recs.map Rec.av), .islc false f2 s2 (NL bl), .int .i64 n, first.av, .bool wth, .islc false f3 1 (NL free)] (recsAv (anewP recs n first wth) free (bl.getD n default)) := by
 have hmay := c_commit_may (k - 1) (by omega) recs f1 s1 hs1 bl f2 s2 hs2 n first wth free f3 (by omega) hbl hn hro hfo hb hf hfl hinc
 have hlr : (recs.map Rec.av).length = recs.length := List.length_map _
 have hs1' : s1 = 8 ∨ recs.map Rec.av = [] := hs1.imp id fun h => by rw [h]; rfl
 have ho : ∀ r : Rec, r.ok → ({ r with next := 0 } : Rec).ok := fun r h => ⟨.inl rfl, h.2⟩
 have hano : ∀ r ∈ anewP recs n first wth, ({ r with next := 0 } : Rec).ok := by
  intro r hr
  unfold anewP at hr
  rcases List.mem_append.1 hr with hr | hr
  ·exact ho r (hro r (List.mem_of_mem_take (List.mem_reverse.1 hr)))
  ·cases wth with
   | false => simp at hr
   | true =>
    simp at hr
    subst hr
    exact hfo rfl
 have hpp : ptrOk (bl.getD n default) := by
  by_cases h : n < bl.length
  ·right
   rw [List.getD_eq_getElem?_getD, List.getElem?_eq_getElem h]
   exact hb _ (List.getElem_mem h)
  ·left
   rw [List.getD_eq_getElem?_getD, List.getElem?_eq_none (by omega)]; rfl
 have hcI := fun m (h : m ≤ free.length) f => cloneI_V (k - 1) (by omega) false f (NL (free.drop m)) (NL_norefs _) (fun n H => NL_fz _ _ _ _) (by rw [NL_len, List.length_drop]; omega)
 obtain ⟨p0, hp0⟩ : ∃ p, p = bl.getD n default := ⟨_, rfl⟩
 have hpn : bl.getD (n : Int).toNat default = p0 := by rw [Int.toNat_natCast]; exact hp0.symm
 rw [← hp0] at hpp ⊢
 obtain ⟨b1, b2, b3, b4, b5, b6, b7, b8⟩ := first
 have hav : Rec.av ⟨b1, b2, b3, b4, b5, b6, b7, b8⟩ = .agg [.int .i64 b1, .int .i64 b2, .int .i64 b3, .int .i64 b4, .int .i64 b5, .int .i64 b6, .int .i64 b7, .int .i64 b8] := rfl
 rw [hav] at hmay ⊢
 have hmx : max ((n : Int) - 1) 0 = ((n - 1 : Nat) : Int) := by omega
 refine fnk (by omega) B_commit_Records rfl ?_
 unfold commit_Records
 by_cases hn1 : n ≤ 1
 ·have hn0 : n - 1 = 0 := by omega
  rw [hn0] at hmx
  cases wth with
  | false =>
   have han : anewP recs n ⟨b1, b2, b3, b4, b5, b6, b7, b8⟩ false = [] := by unfold anewP; rw [hn0]; rfl
   rw [han]
   repeat' (first
    | refine q_s ?_ | refine q_z ?_ | refine q_b ?_ | refine q_call hmay ?_ | (refine q_mx ?_; rw [hmx])
    | refine wo_sliceG (n := recs.length) (a := 0) (b := 0) rfl hs1' hlr rfl (optNn rfl) (Nat.zero_le _) (by omega) rfl rfl ?_
    | refine wo_fresh0 (cloneR_0 (k - 1) (by omega) _ _ _) rfl (by rfl) rfl ?_ | refine wo_inlE (c_Reverse00 (k - 1) (by omega) _ _ _ _) rfl rfl rfl ?_ | refine q_mv ?_ | refine q_faddr ?_
    | refine q_faddrI ?_ | refine q_load ?_ | refine q_loadI ?_ | refine q_loadR ?_ | refine q_loadM ?_ | refine q_cmp ?_ | refine q_cmp2 (fun _ => ?_) (fun _ => ?_) | refine q_add ?_
    | refine q_sub ?_ | refine q_notT ?_ | refine q_notF ?_ | refine q_len ?_ | refine q_lenS ?_ | refine q_len0 ?_ | refine q_lenM ?_ | refine q_ex ?_ | refine q_store ?_
    | refine q_storeR ?_ | refine q_storeM ?_ | refine q_box ?_ | refine q_at ?_ | refine q_atM ?_ | refine q_atG ?_ | refine q_atR ?_ | refine q_nilrow ?_ | refine q_build0 ?_
    | refine q_build ?_ | refine q_buildS ?_ | refine q_mn ?_ | refine q_mx ?_ | refine q_app fun _ => ?_ | refine q_slice0 ?_ | refine q_sliceE ?_ | refine q_sliceM ?_)
   rintro u H3 rfl
   unfold recsAv
   rw [if_neg (by simp)]
   simp only [chainL, chainE]
   by_cases hnb : n < bl.length
   ·obtain rfl : s2 = 1 := hs2.resolve_right (fun h => by rw [h] at hnb; simp at hnb)
    repeat' (first
     | refine q_s ?_ | refine q_z ?_ | refine q_b ?_ | refine wo_lenG (n := free.length) rfl (NL_len _) rfl rfl ?_ | refine wo_lenG (n := bl.length) rfl (NL_len _) rfl rfl ?_
     | refine wo_lenG (n := 0) rfl rfl rfl rfl ?_ | refine wo_atV (enc := nav) p0 rfl rfl (by omega) (by omega) hpn rfl rfl ?_ | refine q_mv ?_ | refine q_faddr ?_ | refine q_faddrI ?_
     | refine q_load ?_ | refine q_loadI ?_ | refine q_loadR ?_ | refine q_loadM ?_ | refine q_cmp ?_ | refine q_cmp2 (fun _ => ?_) (fun _ => ?_) | refine q_add ?_ | refine q_sub ?_
     | refine q_notT ?_ | refine q_notF ?_ | refine q_len ?_ | refine q_lenS ?_ | refine q_len0 ?_ | refine q_lenM ?_ | refine q_ex ?_ | refine q_store ?_ | refine q_storeR ?_
     | refine q_storeM ?_ | refine q_box ?_ | refine q_at ?_ | refine q_atM ?_ | refine q_atG ?_ | refine q_atR ?_ | refine q_nilrow ?_ | refine q_build0 ?_ | refine q_build ?_
     | refine q_buildS ?_ | refine q_mn ?_ | refine q_mx ?_ | refine q_app fun _ => ?_ | refine q_slice0 ?_ | refine q_sliceE ?_ | refine q_sliceM ?_)
    refine w_iter0 (w_it (by omega) ?_)
    repeat' (first
     | refine q_s ?_ | refine q_z ?_ | refine q_b ?_ | refine wo_lenG (n := free.length) rfl (NL_len _) rfl rfl ?_ | refine wo_lenG (n := 0) rfl rfl rfl rfl ?_
     | refine wo_sliceG (n := free.length) (a := 0) (b := free.length) rfl (.inl rfl) (NL_len _) (optN0 rfl) rfl (Nat.zero_le _) (Nat.le_refl _) rfl rfl ?_
     | refine q_call (hcI 0 (Nat.zero_le _) _) ?_ rfl (by show [fz false 6 _ (AV.islc false (f3 && decide (free.length = free.length)) 1 (((NL free).drop 0).take (free.length - 0)))] = _; rw [List.drop_zero, List.drop_zero, List.take_of_length_le (by rw [NL_len]; omega)]; rfl)
     | refine q_mv ?_ | refine q_faddr ?_ | refine q_faddrI ?_ | refine q_load ?_ | refine q_loadI ?_ | refine q_loadR ?_ | refine q_loadM ?_ | refine q_cmp ?_
     | refine q_cmp2 (fun _ => ?_) (fun _ => ?_) | refine q_add ?_ | refine q_sub ?_ | refine q_notT ?_ | refine q_notF ?_ | refine q_len ?_ | refine q_lenS ?_ | refine q_len0 ?_
     | refine q_lenM ?_ | refine q_ex ?_ | refine q_store ?_ | refine q_storeR ?_ | refine q_storeM ?_ | refine q_box ?_ | refine q_at ?_ | refine q_atM ?_ | refine q_atG ?_
     | refine q_atR ?_ | refine q_nilrow ?_ | refine q_build0 ?_ | refine q_build ?_ | refine q_buildS ?_ | refine q_mn ?_ | refine q_mx ?_ | refine q_app fun _ => ?_ | refine q_slice0 ?_
     | refine q_sliceE ?_ | refine q_sliceM ?_)
    exact ⟨Or.inr rfl, .tup [.slc 1 1 0 3 0 0 none, .int .i64 p0, .islc false false 1 (NL (free.drop 0)), .int .i64 0], rfl, rfl⟩
   ·have hp00 : p0 = 0 := by rw [hp0, List.getD_eq_getElem?_getD, List.getElem?_eq_none (by omega)]; rfl
    subst hp00
    repeat' (first
     | refine q_s ?_ | refine q_z ?_ | refine q_b ?_ | refine wo_lenG (n := free.length) rfl (NL_len _) rfl rfl ?_ | refine wo_lenG (n := bl.length) rfl (NL_len _) rfl rfl ?_
     | refine wo_lenG (n := 0) rfl rfl rfl rfl ?_ | refine q_mv ?_ | refine q_faddr ?_ | refine q_faddrI ?_ | refine q_load ?_ | refine q_loadI ?_ | refine q_loadR ?_ | refine q_loadM ?_
     | refine q_cmp ?_ | refine q_cmp2 (fun _ => ?_) (fun _ => ?_) | refine q_add ?_ | refine q_sub ?_ | refine q_notT ?_ | refine q_notF ?_ | refine q_len ?_ | refine q_lenS ?_
     | refine q_len0 ?_ | refine q_lenM ?_ | refine q_ex ?_ | refine q_store ?_ | refine q_storeR ?_ | refine q_storeM ?_ | refine q_box ?_ | refine q_at ?_ | refine q_atM ?_
     | refine q_atG ?_ | refine q_atR ?_ | refine q_nilrow ?_ | refine q_build0 ?_ | refine q_build ?_ | refine q_buildS ?_ | refine q_mn ?_ | refine q_mx ?_ | refine q_app fun _ => ?_
     | refine q_slice0 ?_ | refine q_sliceE ?_ | refine q_sliceM ?_)
    refine w_iter0 (w_it (by omega) ?_)
    repeat' (first
     | refine q_s ?_ | refine q_z ?_ | refine q_b ?_ | refine wo_lenG (n := free.length) rfl (NL_len _) rfl rfl ?_ | refine wo_lenG (n := 0) rfl rfl rfl rfl ?_
     | refine wo_sliceG (n := free.length) (a := 0) (b := free.length) rfl (.inl rfl) (NL_len _) (optN0 rfl) rfl (Nat.zero_le _) (Nat.le_refl _) rfl rfl ?_
     | refine q_call (hcI 0 (Nat.zero_le _) _) ?_ rfl (by show [fz false 6 _ (AV.islc false (f3 && decide (free.length = free.length)) 1 (((NL free).drop 0).take (free.length - 0)))] = _; rw [List.drop_zero, List.drop_zero, List.take_of_length_le (by rw [NL_len]; omega)]; rfl)
     | refine q_mv ?_ | refine q_faddr ?_ | refine q_faddrI ?_ | refine q_load ?_ | refine q_loadI ?_ | refine q_loadR ?_ | refine q_loadM ?_ | refine q_cmp ?_
     | refine q_cmp2 (fun _ => ?_) (fun _ => ?_) | refine q_add ?_ | refine q_sub ?_ | refine q_notT ?_ | refine q_notF ?_ | refine q_len ?_ | refine q_lenS ?_ | refine q_len0 ?_
     | refine q_lenM ?_ | refine q_ex ?_ | refine q_store ?_ | refine q_storeR ?_ | refine q_storeM ?_ | refine q_box ?_ | refine q_at ?_ | refine q_atM ?_ | refine q_atG ?_
     | refine q_atR ?_ | refine q_nilrow ?_ | refine q_build0 ?_ | refine q_build ?_ | refine q_buildS ?_ | refine q_mn ?_ | refine q_mx ?_ | refine q_app fun _ => ?_ | refine q_slice0 ?_
     | refine q_sliceE ?_ | refine q_sliceM ?_)
    exact ⟨Or.inr rfl, .tup [.slc 1 1 0 3 0 0 none, .int .i64 0, .islc false false 1 (NL (free.drop 0)), .int .i64 0], rfl, rfl⟩
  | true =>
   have han : anewP recs n ⟨b1, b2, b3, b4, b5, b6, b7, b8⟩ true = [⟨b1, b2, b3, b4, b5, b6, b7, b8⟩] := by unfold anewP; rw [hn0]; rfl
   rw [han] at hano ⊢
   have hml : ([⟨b1, b2, b3, b4, b5, b6, b7, b8⟩] : List Rec).length = 1 := rfl
   repeat' (first
    | refine q_s ?_ | refine q_z ?_ | refine q_b ?_ | refine q_call hmay ?_ | (refine q_mx ?_; rw [hmx])
    | refine wo_sliceG (n := recs.length) (a := 0) (b := 0) rfl hs1' hlr rfl (optNn rfl) (Nat.zero_le _) (by omega) rfl rfl ?_
    | refine wo_fresh0 (cloneR_0 (k - 1) (by omega) _ _ _) rfl (by rfl) rfl ?_ | refine wo_inlE (c_Reverse00 (k - 1) (by omega) _ _ _ _) rfl rfl rfl ?_ | refine q_mv ?_ | refine q_faddr ?_
    | refine q_faddrI ?_ | refine q_load ?_ | refine q_loadI ?_ | refine q_loadR ?_ | refine q_loadM ?_ | refine q_cmp ?_ | refine q_cmp2 (fun _ => ?_) (fun _ => ?_) | refine q_add ?_
    | refine q_sub ?_ | refine q_notT ?_ | refine q_notF ?_ | refine q_len ?_ | refine q_lenS ?_ | refine q_len0 ?_ | refine q_lenM ?_ | refine q_ex ?_ | refine q_store ?_
    | refine q_storeR ?_ | refine q_storeM ?_ | refine q_box ?_ | refine q_at ?_ | refine q_atM ?_ | refine q_atG ?_ | refine q_atR ?_ | refine q_nilrow ?_ | refine q_build0 ?_
    | refine q_build ?_ | refine q_buildS ?_ | refine q_mn ?_ | refine q_mx ?_ | refine q_app fun _ => ?_ | refine q_slice0 ?_ | refine q_sliceE ?_ | refine q_sliceM ?_)
   rintro u H3 rfl
   unfold recsAv
   by_cases hsp : free.length < 1
   ·rw [if_pos (by rw [hml]; exact hsp)]
    repeat' (first
     | refine q_s ?_ | refine q_z ?_ | refine q_b ?_ | refine wo_app1N rfl rfl rfl rfl rfl rfl (fun _ => ?_) | refine wo_lenG (n := free.length) rfl (NL_len _) rfl rfl ?_
     | refine q_lenS (len := 1) ?_ | refine q_mv ?_ | refine q_faddr ?_ | refine q_faddrI ?_ | refine q_load ?_ | refine q_loadI ?_ | refine q_loadR ?_ | refine q_loadM ?_
     | refine q_cmp ?_ | refine q_cmp2 (fun _ => ?_) (fun _ => ?_) | refine q_add ?_ | refine q_sub ?_ | refine q_notT ?_ | refine q_notF ?_ | refine q_len ?_ | refine q_lenS ?_
     | refine q_len0 ?_ | refine q_lenM ?_ | refine q_ex ?_ | refine q_store ?_ | refine q_storeR ?_ | refine q_storeM ?_ | refine q_box ?_ | refine q_at ?_ | refine q_atM ?_
     | refine q_atG ?_ | refine q_atR ?_ | refine q_nilrow ?_ | refine q_build0 ?_ | refine q_build ?_ | refine q_buildS ?_ | refine q_mn ?_ | refine q_mx ?_ | refine q_app fun _ => ?_
     | refine q_slice0 ?_ | refine q_sliceE ?_ | refine q_sliceM ?_)
    exact ⟨Or.inr rfl, .tup [.slc 8 1 0 3 0 0 none, .int .i64 0, .slc 9 1 0 1 0 0 none, .int .i64 9], rfl, rfl⟩
   rw [if_neg (by rw [hml]; exact hsp)]
   by_cases hnb : n < bl.length
   ·obtain rfl : s2 = 1 := hs2.resolve_right (fun h => by rw [h] at hnb; simp at hnb)
    repeat' (first
     | refine q_s ?_ | refine q_z ?_ | refine q_b ?_ | refine wo_app1N rfl rfl rfl rfl rfl rfl (fun _ => ?_) | refine wo_lenG (n := free.length) rfl (NL_len _) rfl rfl ?_
     | refine wo_lenG (n := bl.length) rfl (NL_len _) rfl rfl ?_ | refine q_lenS (len := 1) ?_ | refine wo_atV (enc := nav) p0 rfl rfl (by omega) (by omega) hpn rfl rfl ?_ | refine q_mv ?_
     | refine q_faddr ?_ | refine q_faddrI ?_ | refine q_load ?_ | refine q_loadI ?_ | refine q_loadR ?_ | refine q_loadM ?_ | refine q_cmp ?_ | refine q_cmp2 (fun _ => ?_) (fun _ => ?_)
     | refine q_add ?_ | refine q_sub ?_ | refine q_notT ?_ | refine q_notF ?_ | refine q_len ?_ | refine q_lenS ?_ | refine q_len0 ?_ | refine q_lenM ?_ | refine q_ex ?_
     | refine q_store ?_ | refine q_storeR ?_ | refine q_storeM ?_ | refine q_box ?_ | refine q_at ?_ | refine q_atM ?_ | refine q_atG ?_ | refine q_atR ?_ | refine q_nilrow ?_
     | refine q_build0 ?_ | refine q_build ?_ | refine q_buildS ?_ | refine q_mn ?_ | refine q_mx ?_ | refine q_app fun _ => ?_ | refine q_slice0 ?_ | refine q_sliceE ?_
     | refine q_sliceM ?_)
    refine W.mono (recs_loop7 (k := k - 1) (anew := [⟨b1, b2, b3, b4, b5, b6, b7, b8⟩]) (free := free) (f3 := f3) (p0 := p0) (by omega) (by rw [hml]; omega) (by rw [hml]; omega) hfl hano hf hpp ?_ ?_ ?_) ?_
    ·rfl
    ·rfl
    ·rw [hml]
     exact ⟨rfl, rfl, rfl, rfl, rfl, rfl, rfl, trivial⟩
    rintro ex T2 H2 ⟨rfl, hcl, g1, hT2⟩
    rw [hml] at hT2 hcl
    rw [hT2.eq]
    simp only [over]
    show W _ _
    repeat' (first
     | refine q_s ?_ | refine q_z ?_ | refine q_b ?_ | refine q_lenS (len := 1) ?_
     | refine wo_sliceG (n := free.length) (a := 1) (b := free.length) rfl (.inl rfl) (NL_len _) (optNn rfl) rfl (by omega) (Nat.le_refl _) rfl rfl ?_
     | refine q_call (hcI 1 (by omega) _) ?_ rfl (by show [fz false 6 _ (AV.islc false (f3 && decide (free.length = free.length)) 1 (((NL free).drop 1).take (free.length - 1)))] = _; rw [List.take_of_length_le (by rw [List.length_drop, NL_len]; omega)]; simp only [NL, ← List.map_drop]; rfl)
     | refine q_mv ?_ | refine q_faddr ?_ | refine q_faddrI ?_ | refine q_load ?_ | refine q_loadI ?_ | refine q_loadR ?_ | refine q_loadM ?_ | refine q_cmp ?_
     | refine q_cmp2 (fun _ => ?_) (fun _ => ?_) | refine q_add ?_ | refine q_sub ?_ | refine q_notT ?_ | refine q_notF ?_ | refine q_len ?_ | refine q_lenS ?_ | refine q_len0 ?_
     | refine q_lenM ?_ | refine q_ex ?_ | refine q_store ?_ | refine q_storeR ?_ | refine q_storeM ?_ | refine q_box ?_ | refine q_at ?_ | refine q_atM ?_ | refine q_atG ?_
     | refine q_atR ?_ | refine q_nilrow ?_ | refine q_build0 ?_ | refine q_build ?_ | refine q_buildS ?_ | refine q_mn ?_ | refine q_mx ?_ | refine q_app fun _ => ?_ | refine q_slice0 ?_
     | refine q_sliceE ?_ | refine q_sliceM ?_)
    refine ⟨Or.inr rfl, .tup [.slc 1 1 1 3 0 1 none, .int .i64 (chainE [⟨b1, b2, b3, b4, b5, b6, b7, b8⟩] free p0), .islc false false 1 (NL (free.drop 1)), .int .i64 0], rfl, ?_⟩
    rw [hml]
    exact congrArg (fun z => AV.tup [z, .int .i64 (chainE [⟨b1, b2, b3, b4, b5, b6, b7, b8⟩] free p0), .islc false false 1 (NL (free.drop 1)), .int .i64 0]) (fz_ownO (out := true) g1 hcl (chainL_t _ _ _) 2)
   ·have hp00 : p0 = 0 := by rw [hp0, List.getD_eq_getElem?_getD, List.getElem?_eq_none (by omega)]; rfl
    repeat' (first
     | refine q_s ?_ | refine q_z ?_ | refine q_b ?_ | refine wo_app1N rfl rfl rfl rfl rfl rfl (fun _ => ?_) | refine wo_lenG (n := free.length) rfl (NL_len _) rfl rfl ?_
     | refine wo_lenG (n := bl.length) rfl (NL_len _) rfl rfl ?_ | refine q_lenS (len := 1) ?_ | refine q_mv ?_ | refine q_faddr ?_ | refine q_faddrI ?_ | refine q_load ?_
     | refine q_loadI ?_ | refine q_loadR ?_ | refine q_loadM ?_ | refine q_cmp ?_ | refine q_cmp2 (fun _ => ?_) (fun _ => ?_) | refine q_add ?_ | refine q_sub ?_ | refine q_notT ?_
     | refine q_notF ?_ | refine q_len ?_ | refine q_lenS ?_ | refine q_len0 ?_ | refine q_lenM ?_ | refine q_ex ?_ | refine q_store ?_ | refine q_storeR ?_ | refine q_storeM ?_
     | refine q_box ?_ | refine q_at ?_ | refine q_atM ?_ | refine q_atG ?_ | refine q_atR ?_ | refine q_nilrow ?_ | refine q_build0 ?_ | refine q_build ?_ | refine q_buildS ?_
     | refine q_mn ?_ | refine q_mx ?_ | refine q_app fun _ => ?_ | refine q_slice0 ?_ | refine q_sliceE ?_ | refine q_sliceM ?_)
    refine W.mono (recs_loop7 (k := k - 1) (anew := [⟨b1, b2, b3, b4, b5, b6, b7, b8⟩]) (free := free) (f3 := f3) (p0 := p0) (by omega) (by rw [hml]; omega) (by rw [hml]; omega) hfl hano hf hpp ?_ ?_ ?_) ?_
    ·rfl
    ·rfl
    ·rw [hml]
     exact ⟨rfl, rfl, by rw [hp00]; rfl, rfl, rfl, rfl, rfl, trivial⟩
    rintro ex T2 H2 ⟨rfl, hcl, g1, hT2⟩
    rw [hml] at hT2 hcl
    rw [hT2.eq]
    simp only [over]
    show W _ _
    repeat' (first
     | refine q_s ?_ | refine q_z ?_ | refine q_b ?_ | refine q_lenS (len := 1) ?_
     | refine wo_sliceG (n := free.length) (a := 1) (b := free.length) rfl (.inl rfl) (NL_len _) (optNn rfl) rfl (by omega) (Nat.le_refl _) rfl rfl ?_
     | refine q_call (hcI 1 (by omega) _) ?_ rfl (by show [fz false 6 _ (AV.islc false (f3 && decide (free.length = free.length)) 1 (((NL free).drop 1).take (free.length - 1)))] = _; rw [List.take_of_length_le (by rw [List.length_drop, NL_len]; omega)]; simp only [NL, ← List.map_drop]; rfl)
     | refine q_mv ?_ | refine q_faddr ?_ | refine q_faddrI ?_ | refine q_load ?_ | refine q_loadI ?_ | refine q_loadR ?_ | refine q_loadM ?_ | refine q_cmp ?_
     | refine q_cmp2 (fun _ => ?_) (fun _ => ?_) | refine q_add ?_ | refine q_sub ?_ | refine q_notT ?_ | refine q_notF ?_ | refine q_len ?_ | refine q_lenS ?_ | refine q_len0 ?_
     | refine q_lenM ?_ | refine q_ex ?_ | refine q_store ?_ | refine q_storeR ?_ | refine q_storeM ?_ | refine q_box ?_ | refine q_at ?_ | refine q_atM ?_ | refine q_atG ?_
     | refine q_atR ?_ | refine q_nilrow ?_ | refine q_build0 ?_ | refine q_build ?_ | refine q_buildS ?_ | refine q_mn ?_ | refine q_mx ?_ | refine q_app fun _ => ?_ | refine q_slice0 ?_
     | refine q_sliceE ?_ | refine q_sliceM ?_)
    refine ⟨Or.inr rfl, .tup [.slc 1 1 1 3 0 1 none, .int .i64 (chainE [⟨b1, b2, b3, b4, b5, b6, b7, b8⟩] free p0), .islc false false 1 (NL (free.drop 1)), .int .i64 0], rfl, ?_⟩
    rw [hml]
    exact congrArg (fun z => AV.tup [z, .int .i64 (chainE [⟨b1, b2, b3, b4, b5, b6, b7, b8⟩] free p0), .islc false false 1 (NL (free.drop 1)), .int .i64 0]) (fz_ownO (out := true) g1 hcl (chainL_t _ _ _) 2)
 ·obtain ⟨q, hq⟩ : ∃ q, q = n - 1 := ⟨_, rfl⟩
  have hq0 : 0 < q := by omega
  rw [← hq] at hmx
  have htk : ((recs.map Rec.av).drop 0).take (q - 0) = (recs.take q).map Rec.av := by rw [List.drop_zero, Nat.sub_zero, List.map_take]
  have hql : ((recs.take q).map Rec.av).length = q := by rw [List.length_map, List.length_take]; omega
  have hql2 : (recs.take q).length = q := by rw [List.length_take]; omega
  have hrvl : (recs.take q).reverse.length = q := by rw [List.length_reverse]; exact hql2
  have hcR := fun f => cloneR_F (k - 1) (by omega) false f ((recs.take q).map Rec.av) (by intro h; have := congrArg List.length h; rw [hql] at this; simp at this; omega) (Rec.nrs _) (fun H => Rec.fz _ 4 _ _) (by rw [hql]; omega)
  cases wth with
  | false =>
   have han : anewP recs n ⟨b1, b2, b3, b4, b5, b6, b7, b8⟩ false = (recs.take q).reverse := by unfold anewP; rw [← hq]; simp
   rw [han] at hano ⊢
   repeat' (first
    | refine q_s ?_ | refine q_z ?_ | refine q_b ?_ | refine q_call hmay ?_ | (refine q_mx ?_; rw [hmx])
    | refine wo_sliceG (n := recs.length) (a := 0) (b := q) rfl hs1' hlr rfl (optNn rfl) (Nat.zero_le _) (by omega) rfl rfl ?_
    | refine wo_freshG (hcR _) hql rfl (by show [fz false 6 _ (AV.islc false (f1 && decide (q = recs.length)) 8 (((recs.map Rec.av).drop 0).take (q - 0)))] = _; rw [htk]; rfl) rfl ?_
    | refine wo_inlE (c_Reverse (k - 1) (by omega) (recs.take q) (by rw [hql2]; omega) _ rfl) (by show [AV.slc 5 1 q 8 0 q none] = _; rw [hql2]) rfl rfl ?_ | refine q_mv ?_
    | refine q_faddr ?_ | refine q_faddrI ?_ | refine q_load ?_ | refine q_loadI ?_ | refine q_loadR ?_ | refine q_loadM ?_ | refine q_cmp ?_ | refine q_cmp2 (fun _ => ?_) (fun _ => ?_)
    | refine q_add ?_ | refine q_sub ?_ | refine q_notT ?_ | refine q_notF ?_ | refine q_len ?_ | refine q_lenS ?_ | refine q_len0 ?_ | refine q_lenM ?_ | refine q_ex ?_ | refine q_store ?_
    | refine q_storeR ?_ | refine q_storeM ?_ | refine q_box ?_ | refine q_at ?_ | refine q_atM ?_ | refine q_atG ?_ | refine q_atR ?_ | refine q_nilrow ?_ | refine q_build0 ?_
    | refine q_build ?_ | refine q_buildS ?_ | refine q_mn ?_ | refine q_mx ?_ | refine q_app fun _ => ?_ | refine q_slice0 ?_ | refine q_sliceE ?_ | refine q_sliceM ?_)
   rintro u H3 rfl
   unfold recsAv
   by_cases hsp : free.length < q
   ·rw [if_pos (by rw [hrvl]; exact hsp)]
    repeat' (first
     | refine q_s ?_ | refine q_z ?_ | refine q_b ?_ | refine wo_lenG (n := free.length) rfl (NL_len _) rfl rfl ?_ | refine q_lenS (len := q) ?_ | refine q_mv ?_ | refine q_faddr ?_
     | refine q_faddrI ?_ | refine q_load ?_ | refine q_loadI ?_ | refine q_loadR ?_ | refine q_loadM ?_ | refine q_cmp ?_ | refine q_cmp2 (fun _ => ?_) (fun _ => ?_) | refine q_add ?_
     | refine q_sub ?_ | refine q_notT ?_ | refine q_notF ?_ | refine q_len ?_ | refine q_lenS ?_ | refine q_len0 ?_ | refine q_lenM ?_ | refine q_ex ?_ | refine q_store ?_
     | refine q_storeR ?_ | refine q_storeM ?_ | refine q_box ?_ | refine q_at ?_ | refine q_atM ?_ | refine q_atG ?_ | refine q_atR ?_ | refine q_nilrow ?_ | refine q_build0 ?_
     | refine q_build ?_ | refine q_buildS ?_ | refine q_mn ?_ | refine q_mx ?_ | refine q_app fun _ => ?_ | refine q_slice0 ?_ | refine q_sliceE ?_ | refine q_sliceM ?_)
    exact ⟨Or.inr rfl, .tup [.slc 8 1 0 3 0 0 none, .int .i64 0, .slc 9 1 0 1 0 0 none, .int .i64 9], rfl, rfl⟩
   rw [if_neg (by rw [hrvl]; exact hsp)]
   by_cases hnb : n < bl.length
   ·obtain rfl : s2 = 1 := hs2.resolve_right (fun h => by rw [h] at hnb; simp at hnb)
    repeat' (first
     | refine q_s ?_ | refine q_z ?_ | refine q_b ?_ | refine wo_lenG (n := free.length) rfl (NL_len _) rfl rfl ?_ | refine wo_lenG (n := bl.length) rfl (NL_len _) rfl rfl ?_
     | refine q_lenS (len := q) ?_ | refine wo_atV (enc := nav) p0 rfl rfl (by omega) (by omega) hpn rfl rfl ?_ | refine q_mv ?_ | refine q_faddr ?_ | refine q_faddrI ?_ | refine q_load ?_
     | refine q_loadI ?_ | refine q_loadR ?_ | refine q_loadM ?_ | refine q_cmp ?_ | refine q_cmp2 (fun _ => ?_) (fun _ => ?_) | refine q_add ?_ | refine q_sub ?_ | refine q_notT ?_
     | refine q_notF ?_ | refine q_len ?_ | refine q_lenS ?_ | refine q_len0 ?_ | refine q_lenM ?_ | refine q_ex ?_ | refine q_store ?_ | refine q_storeR ?_ | refine q_storeM ?_
     | refine q_box ?_ | refine q_at ?_ | refine q_atM ?_ | refine q_atG ?_ | refine q_atR ?_ | refine q_nilrow ?_ | refine q_build0 ?_ | refine q_build ?_ | refine q_buildS ?_
     | refine q_mn ?_ | refine q_mx ?_ | refine q_app fun _ => ?_ | refine q_slice0 ?_ | refine q_sliceE ?_ | refine q_sliceM ?_)
    refine W.mono (recs_loop5 (k := k - 1) (anew := (recs.take q).reverse) (free := free) (f3 := f3) (p0 := p0) (by omega) (by rw [hrvl]; omega) (by rw [hrvl]; omega) hfl hano hf hpp ?_ ?_ ?_) ?_
    ·rfl
    ·rfl
    ·rw [hrvl]
     exact ⟨rfl, rfl, rfl, rfl, rfl, rfl, rfl, trivial⟩
    rintro ex T2 H2 ⟨rfl, hcl, g1, hT2⟩
    rw [hrvl] at hT2 hcl
    rw [hT2.eq]
    simp only [over]
    show W _ _
    repeat' (first
     | refine q_s ?_ | refine q_z ?_ | refine q_b ?_ | refine q_lenS (len := q) ?_
     | refine wo_sliceG (n := free.length) (a := q) (b := free.length) rfl (.inl rfl) (NL_len _) (optNn rfl) rfl (by omega) (Nat.le_refl _) rfl rfl ?_
     | refine q_call (hcI q (by omega) _) ?_ rfl (by show [fz false 6 _ (AV.islc false (f3 && decide (free.length = free.length)) 1 (((NL free).drop q).take (free.length - q)))] = _; rw [List.take_of_length_le (by rw [List.length_drop, NL_len]; omega)]; simp only [NL, ← List.map_drop]; rfl)
     | refine q_mv ?_ | refine q_faddr ?_ | refine q_faddrI ?_ | refine q_load ?_ | refine q_loadI ?_ | refine q_loadR ?_ | refine q_loadM ?_ | refine q_cmp ?_
     | refine q_cmp2 (fun _ => ?_) (fun _ => ?_) | refine q_add ?_ | refine q_sub ?_ | refine q_notT ?_ | refine q_notF ?_ | refine q_len ?_ | refine q_lenS ?_ | refine q_len0 ?_
     | refine q_lenM ?_ | refine q_ex ?_ | refine q_store ?_ | refine q_storeR ?_ | refine q_storeM ?_ | refine q_box ?_ | refine q_at ?_ | refine q_atM ?_ | refine q_atG ?_
     | refine q_atR ?_ | refine q_nilrow ?_ | refine q_build0 ?_ | refine q_build ?_ | refine q_buildS ?_ | refine q_mn ?_ | refine q_mx ?_ | refine q_app fun _ => ?_ | refine q_slice0 ?_
     | refine q_sliceE ?_ | refine q_sliceM ?_)
    refine ⟨Or.inr rfl, .tup [.slc 1 1 q 3 0 q none, .int .i64 (chainE (recs.take q).reverse free p0), .islc false false 1 (NL (free.drop q)), .int .i64 0], rfl, ?_⟩
    rw [hrvl]
    exact congrArg (fun z => AV.tup [z, .int .i64 (chainE (recs.take q).reverse free p0), .islc false false 1 (NL (free.drop q)), .int .i64 0]) (fz_ownO (out := true) g1 hcl (chainL_t _ _ _) 2)
   ·have hp00 : p0 = 0 := by rw [hp0, List.getD_eq_getElem?_getD, List.getElem?_eq_none (by omega)]; rfl
    repeat' (first
     | refine q_s ?_ | refine q_z ?_ | refine q_b ?_ | refine wo_lenG (n := free.length) rfl (NL_len _) rfl rfl ?_ | refine wo_lenG (n := bl.length) rfl (NL_len _) rfl rfl ?_
     | refine q_lenS (len := q) ?_ | refine q_mv ?_ | refine q_faddr ?_ | refine q_faddrI ?_ | refine q_load ?_ | refine q_loadI ?_ | refine q_loadR ?_ | refine q_loadM ?_
     | refine q_cmp ?_ | refine q_cmp2 (fun _ => ?_) (fun _ => ?_) | refine q_add ?_ | refine q_sub ?_ | refine q_notT ?_ | refine q_notF ?_ | refine q_len ?_ | refine q_lenS ?_
     | refine q_len0 ?_ | refine q_lenM ?_ | refine q_ex ?_ | refine q_store ?_ | refine q_storeR ?_ | refine q_storeM ?_ | refine q_box ?_ | refine q_at ?_ | refine q_atM ?_
     | refine q_atG ?_ | refine q_atR ?_ | refine q_nilrow ?_ | refine q_build0 ?_ | refine q_build ?_ | refine q_buildS ?_ | refine q_mn ?_ | refine q_mx ?_ | refine q_app fun _ => ?_
     | refine q_slice0 ?_ | refine q_sliceE ?_ | refine q_sliceM ?_)
    refine W.mono (recs_loop5 (k := k - 1) (anew := (recs.take q).reverse) (free := free) (f3 := f3) (p0 := p0) (by omega) (by rw [hrvl]; omega) (by rw [hrvl]; omega) hfl hano hf hpp ?_ ?_ ?_) ?_
    ·rfl
    ·rfl
    ·rw [hrvl]
     exact ⟨rfl, rfl, by rw [hp00]; rfl, rfl, rfl, rfl, rfl, trivial⟩
    rintro ex T2 H2 ⟨rfl, hcl, g1, hT2⟩
    rw [hrvl] at hT2 hcl
    rw [hT2.eq]
    simp only [over]
    show W _ _
    repeat' (first
     | refine q_s ?_ | refine q_z ?_ | refine q_b ?_ | refine q_lenS (len := q) ?_
     | refine wo_sliceG (n := free.length) (a := q) (b := free.length) rfl (.inl rfl) (NL_len _) (optNn rfl) rfl (by omega) (Nat.le_refl _) rfl rfl ?_
     | refine q_call (hcI q (by omega) _) ?_ rfl (by show [fz false 6 _ (AV.islc false (f3 && decide (free.length = free.length)) 1 (((NL free).drop q).take (free.length - q)))] = _; rw [List.take_of_length_le (by rw [List.length_drop, NL_len]; omega)]; simp only [NL, ← List.map_drop]; rfl)
     | refine q_mv ?_ | refine q_faddr ?_ | refine q_faddrI ?_ | refine q_load ?_ | refine q_loadI ?_ | refine q_loadR ?_ | refine q_loadM ?_ | refine q_cmp ?_
     | refine q_cmp2 (fun _ => ?_) (fun _ => ?_) | refine q_add ?_ | refine q_sub ?_ | refine q_notT ?_ | refine q_notF ?_ | refine q_len ?_ | refine q_lenS ?_ | refine q_len0 ?_
     | refine q_lenM ?_ | refine q_ex ?_ | refine q_store ?_ | refine q_storeR ?_ | refine q_storeM ?_ | refine q_box ?_ | refine q_at ?_ | refine q_atM ?_ | refine q_atG ?_
     | refine q_atR ?_ | refine q_nilrow ?_ | refine q_build0 ?_ | refine q_build ?_ | refine q_buildS ?_ | refine q_mn ?_ | refine q_mx ?_ | refine q_app fun _ => ?_ | refine q_slice0 ?_
     | refine q_sliceE ?_ | refine q_sliceM ?_)
    refine ⟨Or.inr rfl, .tup [.slc 1 1 q 3 0 q none, .int .i64 (chainE (recs.take q).reverse free p0), .islc false false 1 (NL (free.drop q)), .int .i64 0], rfl, ?_⟩
    rw [hrvl]
    exact congrArg (fun z => AV.tup [z, .int .i64 (chainE (recs.take q).reverse free p0), .islc false false 1 (NL (free.drop q)), .int .i64 0]) (fz_ownO (out := true) g1 hcl (chainL_t _ _ _) 2)
  | true =>
   have han : anewP recs n ⟨b1, b2, b3, b4, b5, b6, b7, b8⟩ true = (recs.take q).reverse ++ [⟨b1, b2, b3, b4, b5, b6, b7, b8⟩] := by unfold anewP; rw [← hq]; rfl
   rw [han] at hano ⊢
   have hml : ((recs.take q).reverse ++ [⟨b1, b2, b3, b4, b5, b6, b7, b8⟩] : List Rec).length = q + 1 := by rw [List.length_append, hrvl]; rfl
   have hrvl2 : ((recs.take q).reverse.map Rec.av).length = q := by rw [List.length_map]; exact hrvl
   repeat' (first
    | refine q_s ?_ | refine q_z ?_ | refine q_b ?_ | refine q_call hmay ?_ | (refine q_mx ?_; rw [hmx])
    | refine wo_sliceG (n := recs.length) (a := 0) (b := q) rfl hs1' hlr rfl (optNn rfl) (Nat.zero_le _) (by omega) rfl rfl ?_
    | refine wo_freshG (hcR _) hql rfl (by show [fz false 6 _ (AV.islc false (f1 && decide (q = recs.length)) 8 (((recs.map Rec.av).drop 0).take (q - 0)))] = _; rw [htk]; rfl) rfl ?_
    | refine wo_inlE (c_Reverse (k - 1) (by omega) (recs.take q) (by rw [hql2]; omega) _ rfl) (by show [AV.slc 5 1 q 8 0 q none] = _; rw [hql2]) rfl rfl ?_ | refine q_mv ?_
    | refine q_faddr ?_ | refine q_faddrI ?_ | refine q_load ?_ | refine q_loadI ?_ | refine q_loadR ?_ | refine q_loadM ?_ | refine q_cmp ?_ | refine q_cmp2 (fun _ => ?_) (fun _ => ?_)
    | refine q_add ?_ | refine q_sub ?_ | refine q_notT ?_ | refine q_notF ?_ | refine q_len ?_ | refine q_lenS ?_ | refine q_len0 ?_ | refine q_lenM ?_ | refine q_ex ?_ | refine q_store ?_
    | refine q_storeR ?_ | refine q_storeM ?_ | refine q_box ?_ | refine q_at ?_ | refine q_atM ?_ | refine q_atG ?_ | refine q_atR ?_ | refine q_nilrow ?_ | refine q_build0 ?_
    | refine q_build ?_ | refine q_buildS ?_ | refine q_mn ?_ | refine q_mx ?_ | refine q_app fun _ => ?_ | refine q_slice0 ?_ | refine q_sliceE ?_ | refine q_sliceM ?_)
   rintro u H3 rfl
   unfold recsAv
   by_cases hsp : free.length < (q + 1)
   ·rw [if_pos (by rw [hml]; exact hsp)]
    repeat' (first
     | refine q_s ?_ | refine q_z ?_ | refine q_b ?_ | refine wo_app1 rfl rfl rfl (by rfl) hrvl2 rfl (by omega) rfl rfl (fun _ => ?_)
     | refine wo_lenG (n := free.length) rfl (NL_len _) rfl rfl ?_ | refine q_lenS (len := (q + 1)) ?_ | refine q_mv ?_ | refine q_faddr ?_ | refine q_faddrI ?_ | refine q_load ?_
     | refine q_loadI ?_ | refine q_loadR ?_ | refine q_loadM ?_ | refine q_cmp ?_ | refine q_cmp2 (fun _ => ?_) (fun _ => ?_) | refine q_add ?_ | refine q_sub ?_ | refine q_notT ?_
     | refine q_notF ?_ | refine q_len ?_ | refine q_lenS ?_ | refine q_len0 ?_ | refine q_lenM ?_ | refine q_ex ?_ | refine q_store ?_ | refine q_storeR ?_ | refine q_storeM ?_
     | refine q_box ?_ | refine q_at ?_ | refine q_atM ?_ | refine q_atG ?_ | refine q_atR ?_ | refine q_nilrow ?_ | refine q_build0 ?_ | refine q_build ?_ | refine q_buildS ?_
     | refine q_mn ?_ | refine q_mx ?_ | refine q_app fun _ => ?_ | refine q_slice0 ?_ | refine q_sliceE ?_ | refine q_sliceM ?_)
    exact ⟨Or.inr rfl, .tup [.slc 8 1 0 3 0 0 none, .int .i64 0, .slc 9 1 0 1 0 0 none, .int .i64 9], rfl, rfl⟩
   rw [if_neg (by rw [hml]; exact hsp)]
   by_cases hnb : n < bl.length
   ·obtain rfl : s2 = 1 := hs2.resolve_right (fun h => by rw [h] at hnb; simp at hnb)
    repeat' (first
     | refine q_s ?_ | refine q_z ?_ | refine q_b ?_ | refine wo_app1 rfl rfl rfl (by rfl) hrvl2 rfl (by omega) rfl rfl (fun _ => ?_)
     | refine wo_lenG (n := free.length) rfl (NL_len _) rfl rfl ?_ | refine wo_lenG (n := bl.length) rfl (NL_len _) rfl rfl ?_ | refine q_lenS (len := (q + 1)) ?_
     | refine wo_atV (enc := nav) p0 rfl rfl (by omega) (by omega) hpn rfl rfl ?_ | refine q_mv ?_ | refine q_faddr ?_ | refine q_faddrI ?_ | refine q_load ?_ | refine q_loadI ?_
     | refine q_loadR ?_ | refine q_loadM ?_ | refine q_cmp ?_ | refine q_cmp2 (fun _ => ?_) (fun _ => ?_) | refine q_add ?_ | refine q_sub ?_ | refine q_notT ?_ | refine q_notF ?_
     | refine q_len ?_ | refine q_lenS ?_ | refine q_len0 ?_ | refine q_lenM ?_ | refine q_ex ?_ | refine q_store ?_ | refine q_storeR ?_ | refine q_storeM ?_ | refine q_box ?_
     | refine q_at ?_ | refine q_atM ?_ | refine q_atG ?_ | refine q_atR ?_ | refine q_nilrow ?_ | refine q_build0 ?_ | refine q_build ?_ | refine q_buildS ?_ | refine q_mn ?_
     | refine q_mx ?_ | refine q_app fun _ => ?_ | refine q_slice0 ?_ | refine q_sliceE ?_ | refine q_sliceM ?_)
    refine W.mono (recs_loop5 (k := k - 1) (anew := ((recs.take q).reverse ++ [⟨b1, b2, b3, b4, b5, b6, b7, b8⟩])) (free := free) (f3 := f3) (p0 := p0) (by omega) (by rw [hml]; omega) (by rw [hml]; omega) hfl hano hf hpp ?_ ?_ ?_) ?_
    ·rw [List.map_append]; rfl
    ·rfl
    ·rw [hml]
     exact ⟨rfl, rfl, rfl, rfl, rfl, rfl, rfl, trivial⟩
    rintro ex T2 H2 ⟨rfl, hcl, g1, hT2⟩
    rw [hml] at hT2 hcl
    rw [hT2.eq]
    simp only [over]
    show W _ _
    repeat' (first
     | refine q_s ?_ | refine q_z ?_ | refine q_b ?_ | refine q_lenS (len := (q + 1)) ?_
     | refine wo_sliceG (n := free.length) (a := (q + 1)) (b := free.length) rfl (.inl rfl) (NL_len _) (optNn rfl) rfl (by omega) (Nat.le_refl _) rfl rfl ?_
     | refine q_call (hcI (q + 1) (by omega) _) ?_ rfl (by show [fz false 6 _ (AV.islc false (f3 && decide (free.length = free.length)) 1 (((NL free).drop (q + 1)).take (free.length - (q + 1))))] = _; rw [List.take_of_length_le (by rw [List.length_drop, NL_len]; omega)]; simp only [NL, ← List.map_drop]; rfl)
     | refine q_mv ?_ | refine q_faddr ?_ | refine q_faddrI ?_ | refine q_load ?_ | refine q_loadI ?_ | refine q_loadR ?_ | refine q_loadM ?_ | refine q_cmp ?_
     | refine q_cmp2 (fun _ => ?_) (fun _ => ?_) | refine q_add ?_ | refine q_sub ?_ | refine q_notT ?_ | refine q_notF ?_ | refine q_len ?_ | refine q_lenS ?_ | refine q_len0 ?_
     | refine q_lenM ?_ | refine q_ex ?_ | refine q_store ?_ | refine q_storeR ?_ | refine q_storeM ?_ | refine q_box ?_ | refine q_at ?_ | refine q_atM ?_ | refine q_atG ?_
     | refine q_atR ?_ | refine q_nilrow ?_ | refine q_build0 ?_ | refine q_build ?_ | refine q_buildS ?_ | refine q_mn ?_ | refine q_mx ?_ | refine q_app fun _ => ?_ | refine q_slice0 ?_
     | refine q_sliceE ?_ | refine q_sliceM ?_)
    refine ⟨Or.inr rfl, .tup [.slc 1 1 (q + 1) 3 0 (q + 1) none, .int .i64 (chainE ((recs.take q).reverse ++ [⟨b1, b2, b3, b4, b5, b6, b7, b8⟩]) free p0), .islc false false 1 (NL (free.drop (q + 1))), .int .i64 0], rfl, ?_⟩
    rw [hml]
    exact congrArg (fun z => AV.tup [z, .int .i64 (chainE ((recs.take q).reverse ++ [⟨b1, b2, b3, b4, b5, b6, b7, b8⟩]) free p0), .islc false false 1 (NL (free.drop (q + 1))), .int .i64 0]) (fz_ownO (out := true) g1 hcl (chainL_t _ _ _) 2)
   ·have hp00 : p0 = 0 := by rw [hp0, List.getD_eq_getElem?_getD, List.getElem?_eq_none (by omega)]; rfl
    repeat' (first
     | refine q_s ?_ | refine q_z ?_ | refine q_b ?_ | refine wo_app1 rfl rfl rfl (by rfl) hrvl2 rfl (by omega) rfl rfl (fun _ => ?_)
     | refine wo_lenG (n := free.length) rfl (NL_len _) rfl rfl ?_ | refine wo_lenG (n := bl.length) rfl (NL_len _) rfl rfl ?_ | refine q_lenS (len := (q + 1)) ?_ | refine q_mv ?_
     | refine q_faddr ?_ | refine q_faddrI ?_ | refine q_load ?_ | refine q_loadI ?_ | refine q_loadR ?_ | refine q_loadM ?_ | refine q_cmp ?_ | refine q_cmp2 (fun _ => ?_) (fun _ => ?_)
     | refine q_add ?_ | refine q_sub ?_ | refine q_notT ?_ | refine q_notF ?_ | refine q_len ?_ | refine q_lenS ?_ | refine q_len0 ?_ | refine q_lenM ?_ | refine q_ex ?_
     | refine q_store ?_ | refine q_storeR ?_ | refine q_storeM ?_ | refine q_box ?_ | refine q_at ?_ | refine q_atM ?_ | refine q_atG ?_ | refine q_atR ?_ | refine q_nilrow ?_
     | refine q_build0 ?_ | refine q_build ?_ | refine q_buildS ?_ | refine q_mn ?_ | refine q_mx ?_ | refine q_app fun _ => ?_ | refine q_slice0 ?_ | refine q_sliceE ?_
     | refine q_sliceM ?_)
    refine W.mono (recs_loop5 (k := k - 1) (anew := ((recs.take q).reverse ++ [⟨b1, b2, b3, b4, b5, b6, b7, b8⟩])) (free := free) (f3 := f3) (p0 := p0) (by omega) (by rw [hml]; omega) (by rw [hml]; omega) hfl hano hf hpp ?_ ?_ ?_) ?_
    ·rw [List.map_append]; rfl
    ·rfl
    ·rw [hml]
     exact ⟨rfl, rfl, by rw [hp00]; rfl, rfl, rfl, rfl, rfl, trivial⟩
    rintro ex T2 H2 ⟨rfl, hcl, g1, hT2⟩
    rw [hml] at hT2 hcl
    rw [hT2.eq]
    simp only [over]
    show W _ _
    repeat' (first
     | refine q_s ?_ | refine q_z ?_ | refine q_b ?_ | refine q_lenS (len := (q + 1)) ?_
     | refine wo_sliceG (n := free.length) (a := (q + 1)) (b := free.length) rfl (.inl rfl) (NL_len _) (optNn rfl) rfl (by omega) (Nat.le_refl _) rfl rfl ?_
     | refine q_call (hcI (q + 1) (by omega) _) ?_ rfl (by show [fz false 6 _ (AV.islc false (f3 && decide (free.length = free.length)) 1 (((NL free).drop (q + 1)).take (free.length - (q + 1))))] = _; rw [List.take_of_length_le (by rw [List.length_drop, NL_len]; omega)]; simp only [NL, ← List.map_drop]; rfl)
     | refine q_mv ?_ | refine q_faddr ?_ | refine q_faddrI ?_ | refine q_load ?_ | refine q_loadI ?_ | refine q_loadR ?_ | refine q_loadM ?_ | refine q_cmp ?_
     | refine q_cmp2 (fun _ => ?_) (fun _ => ?_) | refine q_add ?_ | refine q_sub ?_ | refine q_notT ?_ | refine q_notF ?_ | refine q_len ?_ | refine q_lenS ?_ | refine q_len0 ?_
     | refine q_lenM ?_ | refine q_ex ?_ | refine q_store ?_ | refine q_storeR ?_ | refine q_storeM ?_ | refine q_box ?_ | refine q_at ?_ | refine q_atM ?_ | refine q_atG ?_
     | refine q_atR ?_ | refine q_nilrow ?_ | refine q_build0 ?_ | refine q_build ?_ | refine q_buildS ?_ | refine q_mn ?_ | refine q_mx ?_ | refine q_app fun _ => ?_ | refine q_slice0 ?_
     | refine q_sliceE ?_ | refine q_sliceM ?_)
    refine ⟨Or.inr rfl, .tup [.slc 1 1 (q + 1) 3 0 (q + 1) none, .int .i64 (chainE ((recs.take q).reverse ++ [⟨b1, b2, b3, b4, b5, b6, b7, b8⟩]) free p0), .islc false false 1 (NL (free.drop (q + 1))), .int .i64 0], rfl, ?_⟩
    rw [hml]
    exact congrArg (fun z => AV.tup [z, .int .i64 (chainE ((recs.take q).reverse ++ [⟨b1, b2, b3, b4, b5, b6, b7, b8⟩]) free p0), .islc false false 1 (NL (free.drop (q + 1))), .int .i64 0]) (fz_ownO (out := true) g1 hcl (chainL_t _ _ _) 2)
end Go.Proofs.Ytkaiiopoilpjeaa

