/- What the functions answer: the command of a payload that writes; of no kind. -/
import Derived.Test.YtnakicjkolpacaaDoorS12
set_option linter.unusedSimpArgs false
set_option linter.unusedVariables false
set_option maxRecDepth 10000
set_option maxHeartbeats 16000000
namespace Go.Proofs.YtnakicjkolpacaaDoor
open Go.AI
attribute [local irreducible] aops aexec acall aiter aop W WO

variable {xf : ExtF}

/-- A command whose data are the call's own. -/
theorem ha_cmdR {T : Tmps} {H : Heap} {i j g ver : Nat} {ro : Bool} {cap : Option Nat} {a1 a2 a3 a4 a5 a6 a7 a8 : Int} {l : List UInt8} (hT : T i = .agg [.int .i64 a1, .int .i64 a2, .int .i64 a3, .int .i64 a4, .int .i64 a5, .int .i64 a6, .int .i64 a7, .int .i64 a8, .slc j g ver 1 0 ver cap])
    (hr : H j = ⟨g, ro, .row 1 (BL l)⟩) (hl : l.length = ver) :
    ([SArg.t i].map (SArg.ev T)).map (fz false deep H) = [(Cmd.mk a1 a2 a3 a4 a5 a6 a7 a8 l).av true false 1] := by
  have e : [SArg.t i].map (SArg.ev T) = [T i] := rfl
  rw [e, hT]
  have h2 : fz false 5 H (.slc j g ver 1 0 ver cap) = .islc true false 1 (BL l) := by
    rw [fz_slcB (row_of hr (by simpa using hl)) (by omega), List.drop_zero, ← hl, List.take_length]
    rfl
  show [AV.agg [_, _, _, _, _, _, _, _, fz false 5 H (.slc j g ver 1 0 ver cap)]] = _
  rw [h2]
  rfl

theorem take_min8 (b : List UInt8) : b.take (min (b.length : Int) 8).toNat = b.take 8 := by
  by_cases h : b.length ≤ 8
  · rw [show (min (b.length : Int) 8).toNat = b.length by omega, List.take_of_length_le (Nat.le_refl _), List.take_of_length_le h]
  · rw [show (min (b.length : Int) 8).toNat = 8 by omega]

theorem numGo_end : ∀ {l : List UInt8} {ss : List Nat} {a : Nat} {o : List Int} {e : Nat}, numGo l a ss = some (o, e) → e = a + ss.sum
  | l, [], a, o, e, h => by
    simp only [numGo, Option.some.injEq, Prod.mk.injEq] at h
    simp [h.2]
  | l, s :: r, a, o, e, h => by
    simp only [numGo] at h
    split at h
    · simp only [Option.map_eq_some_iff] at h
      obtain ⟨⟨o', e'⟩, h1, h2⟩ := h
      simp only [Prod.mk.injEq] at h2
      rw [← h2.2, numGo_end h1, List.sum_cons]; omega
    · cases h
theorem numB_len {l : List UInt8} {ss : List Nat} (h : numB l ss = true) : l.length = ss.sum := by
  unfold numB at h
  cases hg : numGo l 0 ss with
  | none => rw [hg] at h; cases h
  | some p =>
    rw [hg] at h
    have := numGo_end hg
    simp at h
    omega

theorem e_command2 (k : Nat) (hk : 1000000 ≤ k) (t f : Bool) (b : List UInt8) (hb : b.length < 900000) :
    FnV (acall B xf cloneF (k + 5)) n_frame_command [.int .i64 2, .islc t f 1 (BL b)] (.tup [rawAv 2 b, .bool (rawB 2 b && decide (chkP (rawC 2 b)))]) := by
  have hn := fun f => e_frame_numbers (xf := xf) (gf := cloneF) (k + 2) (by omega) t f (b.take (min (b.length : Int) 8).toNat) [4, 4] (by rw [take_min8]; simp; omega) (by simp) (by simp)
  simp only [take_min8] at hn
  have htm := take_min8 b
  cases hB : numB (b.take 8) [4, 4] with
  | true =>
    have h8 := numB_len hB
    have h8' : 8 ≤ b.length := by simp at h8; omega
    have hl := list2 (numO_len hB)
    have hD : rawD 2 b = true := by simp [rawD, hB]
    have hraw : rawB 2 b = decide ((numO (b.take 8) [4, 4]).getD 1 0 = ((b.drop 8).length / 64 : Int)) := by simp [rawB, hB]
    have hrc : rawC 2 b = ⟨2, 0, 0, 0, (numO (b.take 8) [4, 4]).getD 0 0, 0, 0, 0, b.drop 8⟩ := by simp [rawC, hB]
    unfold rawAv
    rw [hD, hraw, hrc]
    rw [hl] at hn
    simp only [hB] at hn
    generalize (numO (b.take 8) [4, 4]).getD 0 0 = o0 at *
    generalize (numO (b.take 8) [4, 4]).getD 1 0 = o1 at *
    have hbn : (8 : Int).toNat = 8 := rfl
    by_cases hne : b.drop 8 = []
    · have hc := e_frame_Check (xf := xf) (gf := cloneF) k false false 1 ⟨2, 0, 0, 0, o0, 0, 0, 0, []⟩ (by simp) (.inl rfl)
      have hsec := e_frame_Sectors (xf := xf) (gf := cloneF) (k + 3) false false 1 ⟨2, 0, 0, 0, o0, 0, 0, 0, []⟩ (by simp)
      rw [if_neg (by simp [chkP, bareP, writesP, inR])] at hc
      unfold Cmd.av at hc hsec
      rw [hne]
      have hcl : ∀ f, acall B xf cloneF (k + 4) n_slices_Clone___byte_byte_ 0 [.islc t f 1 (BL (b.drop (8 : Int).toNat))] Heap.none = some (.islc false false 1 [], Heap.none) := by
        intro f
        rw [hbn, hne]
        simp only [acall]
        rfl
      refine fn_of B_frame_command rfl ?_
      unfold frame_command
      repeat' (first
       | refine q_s ?_ | refine q_z ?_ | refine q_b ?_ | (refine wo_call (hn _) rfl (by first | rfl | (rw [← htm]; rfl)) rfl ?_) | refine wo_atG rfl rfl (by decide) rfl rfl rfl ?_
        | refine wo_loadI (.int _ _) rfl (Nat.le_of_ble_eq_true rfl) rfl rfl rfl ?_ | refine wo_freshE (hcl _) rfl rfl rfl ?_ | refine wo_call hsec rfl rfl rfl ?_
        | refine wo_call hc rfl rfl rfl ?_ | refine q_n ?_ | refine q_nn ?_ | refine q_mv ?_ | refine q_faddr ?_ | refine q_load ?_ | refine q_loadI ?_ | refine q_loadR ?_ | refine q_cmp ?_
        | refine q_cmp2 (fun _ => ?_) (fun _ => ?_) | refine q_pickT ?_ | refine q_pickF ?_ | refine q_len ?_ | refine q_lenS ?_ | refine q_len0 ?_ | refine q_ex ?_ | refine q_store ?_
        | refine q_storeR ?_ | refine q_box ?_ | refine q_at ?_ | refine q_buildS ?_ | refine q_mn ?_ | refine q_mx ?_ | refine q_slice0 ?_ | refine q_sliceE ?_ | refine q_sliceM ?_)
      all_goals (refine ⟨Or.inr rfl, _, rfl, ?_⟩)
      all_goals (refine congrArg (fun z => AV.tup [_, AV.bool z]) ?_)
      all_goals (simp only [cmpP] at *; simp [chkP, bareP, writesP, inR, *])
    · have hc := e_frame_Check (xf := xf) (gf := cloneF) k true false 1 ⟨2, 0, 0, 0, o0, 0, 0, 0, b.drop 8⟩ (by simp; omega) (.inr rfl)
      have hsec := e_frame_Sectors (xf := xf) (gf := cloneF) (k + 3) true false 1 ⟨2, 0, 0, 0, o0, 0, 0, 0, b.drop 8⟩ (by simp; omega)
      have hcl := fun f => e_clone B rfl xf (k + 3) t f (b.drop (8 : Int).toNat) (by rw [hbn]; exact hne) (by rw [hbn]; simp; omega)
      have fin : ∀ (H : Heap) (ok : Bool) (gn v : Nat), v = (b.drop 8).length → H 3 = ⟨gn, false, .row 1 (BL (b.drop 8))⟩ →
          fz true deep H (.tup [.agg [.int .i64 2, .int .i64 0, .int .i64 0, .int .i64 0, .int .i64 o0, .int .i64 0, .int .i64 0, .int .i64 0, .slc 3 gn v 1 0 v none], .bool ok]) =
            .tup [Cmd.av false (!true) (if true = true then 1 else 0) ⟨2, 0, 0, 0, o0, 0, 0, 0, b.drop 8⟩, .bool ok] := by
        intro H ok gn v hv h3
        show AV.tup [AV.agg [_, _, _, _, _, _, _, _, fz true (2 + 2) H (AV.slc _ _ _ _ _ _ _)], _] = _
        rw [fz_out h3 hv.symm]
        rfl
      by_cases hchk : chkP ⟨2, 0, 0, 0, o0, 0, 0, 0, b.drop 8⟩
      all_goals
        simp only [hchk, if_true, if_false, decide_true, decide_false] at hc ⊢
        refine fn_of B_frame_command rfl ?_
        unfold frame_command
      · skip
        repeat' (first
         | refine q_s ?_ | refine q_z ?_ | refine q_b ?_ | (refine wo_call (hn _) rfl (by first | rfl | (rw [← htm]; rfl)) rfl ?_) | refine wo_atG rfl rfl (by decide) rfl rfl rfl ?_
          | refine wo_loadI (.int _ _) rfl (Nat.le_of_ble_eq_true rfl) rfl rfl rfl ?_ | refine wo_fresh (hcl _) rfl rfl rfl ?_ | refine wo_call hsec rfl (ha_cmdR rfl rfl rfl) rfl ?_
          | refine wo_call hc rfl (ha_cmdR rfl rfl rfl) rfl ?_ | refine q_n ?_ | refine q_nn ?_ | refine q_mv ?_ | refine q_faddr ?_ | refine q_load ?_ | refine q_loadI ?_ | refine q_loadR ?_
          | refine q_cmp ?_ | refine q_cmp2 (fun _ => ?_) (fun _ => ?_) | refine q_pickT ?_ | refine q_pickF ?_ | refine q_len ?_ | refine q_lenS ?_ | refine q_len0 ?_ | refine q_ex ?_
          | refine q_store ?_ | refine q_storeR ?_ | refine q_box ?_ | refine q_at ?_ | refine q_buildS ?_ | refine q_mn ?_ | refine q_mx ?_ | refine q_slice0 ?_ | refine q_sliceE ?_
          | refine q_sliceM ?_)
        all_goals (refine ⟨Or.inr rfl, _, rfl, ?_⟩)
        all_goals (refine (fin _ _ _ _ rfl rfl).trans (congrArg (fun z => AV.tup [_, AV.bool z]) ?_))
        all_goals (rename_i h1; simp only [cmpP] at h1)
        · rw [decide_eq_true h1]; rfl
        · rw [decide_eq_false h1]; rfl
      · skip
        repeat' (first
         | refine q_s ?_ | refine q_z ?_ | refine q_b ?_ | (refine wo_call (hn _) rfl (by first | rfl | (rw [← htm]; rfl)) rfl ?_) | refine wo_atG rfl rfl (by decide) rfl rfl rfl ?_
          | refine wo_loadI (.int _ _) rfl (Nat.le_of_ble_eq_true rfl) rfl rfl rfl ?_ | refine wo_fresh (hcl _) rfl rfl rfl ?_ | refine wo_call hsec rfl (ha_cmdR rfl rfl rfl) rfl ?_
          | refine wo_call hc rfl (ha_cmdR rfl rfl rfl) rfl ?_ | refine q_n ?_ | refine q_nn ?_ | refine q_mv ?_ | refine q_faddr ?_ | refine q_load ?_ | refine q_loadI ?_ | refine q_loadR ?_
          | refine q_cmp ?_ | refine q_cmp2 (fun _ => ?_) (fun _ => ?_) | refine q_pickT ?_ | refine q_pickF ?_ | refine q_len ?_ | refine q_lenS ?_ | refine q_len0 ?_ | refine q_ex ?_
          | refine q_store ?_ | refine q_storeR ?_ | refine q_box ?_ | refine q_at ?_ | refine q_buildS ?_ | refine q_mn ?_ | refine q_mx ?_ | refine q_slice0 ?_ | refine q_sliceE ?_
          | refine q_sliceM ?_)
        all_goals (refine ⟨Or.inr rfl, _, rfl, ?_⟩)
        all_goals (refine (fin _ _ _ _ rfl rfl).trans (congrArg (fun z => AV.tup [_, AV.bool z]) ?_))
        all_goals (rename_i h1; simp only [cmpP] at h1)
        · rw [decide_eq_true h1]; rfl
        · rw [decide_eq_false h1]; rfl
  | false =>
    have hraw : rawB 2 b = false := by simp [rawB, hB]
    have hD : rawD 2 b = false := by simp [rawD, hB]
    have hrc : rawC 2 b = ⟨2, 0, 0, 0, 0, 0, 0, 0, []⟩ := by simp [rawC, hB]
    unfold rawAv
    rw [hraw, Bool.false_and, hrc, hD]
    simp only [hB] at hn
    refine fn_of B_frame_command rfl ?_
    unfold frame_command
    repeat' (first
     | refine q_s ?_ | refine q_z ?_ | refine q_b ?_ | (refine wo_call (hn _) rfl (by first | rfl | (rw [← htm]; rfl)) rfl ?_) | refine q_n ?_ | refine q_nn ?_ | refine q_mv ?_
      | refine q_faddr ?_ | refine q_load ?_ | refine q_loadI ?_ | refine q_loadR ?_ | refine q_cmp ?_ | refine q_cmp2 (fun _ => ?_) (fun _ => ?_) | refine q_pickT ?_ | refine q_pickF ?_
      | refine q_len ?_ | refine q_lenS ?_ | refine q_len0 ?_ | refine q_ex ?_ | refine q_store ?_ | refine q_storeR ?_ | refine q_box ?_ | refine q_at ?_ | refine q_buildS ?_ | refine q_mn ?_
      | refine q_mx ?_ | refine q_slice0 ?_ | refine q_sliceE ?_ | refine q_sliceM ?_)
    exact ⟨Or.inr rfl, _, rfl, rfl⟩

theorem e_commandO (k : Nat) (hk : 1000000 ≤ k) (t f : Bool) (kind : Int) (b : List UInt8) (h1 : ¬ kind = 1) (h2 : ¬ kind = 2) (h3 : ¬ kind = 3) (h4 : ¬ kind = 4) (h5 : ¬ kind = 5) (h6 : ¬ kind = 6) :
    FnV (acall B xf cloneF (k + 5)) n_frame_command [.int .i64 kind, .islc t f 1 (BL b)] (.tup [rawAv kind b, .bool (rawB kind b && decide (chkP (rawC kind b)))]) := by
  have hraw : rawB kind b = false := by simp [rawB, *]
  have hD : rawD kind b = false := by simp [rawD, *]
  have hrc : rawC kind b = ⟨kind, 0, 0, 0, 0, 0, 0, 0, []⟩ := by simp [rawC, *]
  unfold rawAv
  rw [hraw, Bool.false_and, hrc, hD]
  refine fn_of B_frame_command rfl ?_
  unfold frame_command
  repeat' (first
   | refine q_s ?_ | refine q_z ?_ | refine q_b ?_ | refine q_n ?_ | refine q_nn ?_ | refine q_mv ?_ | refine q_faddr ?_ | refine q_load ?_ | refine q_loadI ?_ | refine q_loadR ?_
    | refine q_cmp ?_ | refine q_cmp2 (fun _ => ?_) (fun _ => ?_) | refine q_pickT ?_ | refine q_pickF ?_ | refine q_len ?_ | refine q_lenS ?_ | refine q_len0 ?_ | refine q_ex ?_
    | refine q_store ?_ | refine q_storeR ?_ | refine q_box ?_ | refine q_at ?_ | refine q_buildS ?_ | refine q_mn ?_ | refine q_mx ?_ | refine q_slice0 ?_ | refine q_sliceE ?_
    | refine q_sliceM ?_)
  exact ⟨Or.inr rfl, _, rfl, rfl⟩

end Go.Proofs.YtnakicjkolpacaaDoor
