/- What the functions answer: the command of a payload. -/
import Derived.Test.YtnakicjkolpacaaDoorS11
import Derived.Test.YtnakicjkolpacaaDoorG2
set_option linter.unusedSimpArgs false
set_option linter.unusedVariables false
set_option maxRecDepth 10000
set_option maxHeartbeats 16000000
namespace Go.Proofs.YtnakicjkolpacaaDoor
open Go.AI
attribute [local irreducible] aops aexec acall aiter aop W WO

variable {xf : ExtF}

theorem numGo_len : ∀ {l : List UInt8} {ss : List Nat} {a : Nat} {o : List Int} {e : Nat}, numGo l a ss = some (o, e) → o.length = ss.length
  | l, [], a, o, e, h => by
    simp only [numGo, Option.some.injEq, Prod.mk.injEq] at h
    rw [← h.1]; rfl
  | l, s :: r, a, o, e, h => by
    simp only [numGo] at h
    split at h
    · simp only [Option.map_eq_some_iff] at h
      obtain ⟨⟨o', e'⟩, h1, h2⟩ := h
      simp only [Prod.mk.injEq] at h2
      rw [← h2.1, List.length_cons, numGo_len h1]; rfl
    · cases h
theorem numO_len {l : List UInt8} {ss : List Nat} (h : numB l ss = true) : (numO l ss).length = ss.length := by
  unfold numB at h
  unfold numO
  cases hg : numGo l 0 ss with
  | none => rw [hg] at h; cases h
  | some p => exact numGo_len hg
theorem list1 {l : List Int} (h : l.length = 1) : l = [l.getD 0 0] := by
  match l, h with
  | [a], _ => rfl
theorem list2 {l : List Int} (h : l.length = 2) : l = [l.getD 0 0, l.getD 1 0] := by
  match l, h with
  | [a, b], _ => rfl
theorem list3 {l : List Int} (h : l.length = 3) : l = [l.getD 0 0, l.getD 1 0, l.getD 2 0] := by
  match l, h with
  | [a, b, c], _ => rfl
theorem list4 {l : List Int} (h : l.length = 4) : l = [l.getD 0 0, l.getD 1 0, l.getD 2 0, l.getD 3 0] := by
  match l, h with
  | [a, b, c, d], _ => rfl

/-- The command of a payload, be it right or not. -/
def rawC (kind : Int) (b : List UInt8) : Cmd :=
  if kind = 1 ∧ numB b [8, 8, 4, 4] = true then ⟨1, (numO b [8, 8, 4, 4]).getD 0 0, (numO b [8, 8, 4, 4]).getD 1 0, (numO b [8, 8, 4, 4]).getD 2 0, 0, (numO b [8, 8, 4, 4]).getD 3 0, 0, 0, []⟩
  else if kind = 2 ∧ numB (b.take 8) [4, 4] = true then ⟨2, 0, 0, 0, (numO (b.take 8) [4, 4]).getD 0 0, 0, 0, 0, b.drop 8⟩
  else if kind = 3 ∧ numB b [4, 4] = true then ⟨3, 0, 0, 0, (numO b [4, 4]).getD 0 0, (numO b [4, 4]).getD 1 0, 0, 0, []⟩
  else if kind = 4 ∧ numB b [4, 4, 4] = true then ⟨4, 0, 0, 0, (numO b [4, 4, 4]).getD 0 0, (numO b [4, 4, 4]).getD 1 0, (numO b [4, 4, 4]).getD 2 0, 0, []⟩
  else if kind = 5 ∧ numB b [4] = true then ⟨5, 0, 0, (numO b [4]).getD 0 0, 0, 0, 0, 0, []⟩
  else if kind = 6 ∧ numB b [4, 4] = true then ⟨6, 0, 0, 0, 0, (numO b [4, 4]).getD 0 0, 0, (numO b [4, 4]).getD 1 0, []⟩
  else ⟨kind, 0, 0, 0, 0, 0, 0, 0, []⟩
def rawB (kind : Int) (b : List UInt8) : Bool :=
  if kind = 1 then numB b [8, 8, 4, 4]
  else if kind = 2 then numB (b.take 8) [4, 4] && decide ((numO (b.take 8) [4, 4]).getD 1 0 = ((b.drop 8).length / 64 : Int))
  else if kind = 3 then numB b [4, 4]
  else if kind = 4 then numB b [4, 4, 4]
  else if kind = 5 then numB b [4]
  else if kind = 6 then numB b [4, 4]
  else false
/-- Does its data come out of the payload? -/
def rawD (kind : Int) (b : List UInt8) : Bool := decide (kind = 2) && numB (b.take 8) [4, 4]
def rawAv (kind : Int) (b : List UInt8) : AV := (rawC kind b).av false (!rawD kind b) (if rawD kind b then 1 else 0)

theorem e_command1 (k : Nat) (hk : 1000000 ≤ k) (t f : Bool) (b : List UInt8) (hb : b.length < 900000) :
    FnV (acall B xf cloneF (k + 5)) n_frame_command [.int .i64 1, .islc t f 1 (BL b)] (.tup [rawAv 1 b, .bool (rawB 1 b && decide (chkP (rawC 1 b)))]) := by
  have hn := e_frame_numbers (xf := xf) (gf := cloneF) (k + 2) (by omega) t f b [8, 8, 4, 4] (by omega) (by simp) (by simp)
  have hD : rawD 1 b = false := by simp [rawD]
  unfold rawAv
  rw [hD]
  cases hB : numB b [8, 8, 4, 4] with
  | true =>
    have hl := list4 (numO_len hB)
    have hc := e_frame_Check (xf := xf) (gf := cloneF) k false true 0 (rawC 1 b) (by simp [rawC, hB]) (.inl rfl)
    have hraw : rawB 1 b = true := by simp [rawB, hB]
    rw [hraw, Bool.true_and]
    have hrc : rawC 1 b = ⟨1, (numO b [8, 8, 4, 4]).getD 0 0, (numO b [8, 8, 4, 4]).getD 1 0, (numO b [8, 8, 4, 4]).getD 2 0, 0, (numO b [8, 8, 4, 4]).getD 3 0, 0, 0, []⟩ := by simp [rawC, hB]
    rw [hrc] at hc ⊢
    rw [hl] at hn
    rw [hB] at hn
    by_cases hchk : chkP ⟨1, (numO b [8, 8, 4, 4]).getD 0 0, (numO b [8, 8, 4, 4]).getD 1 0, (numO b [8, 8, 4, 4]).getD 2 0, 0, (numO b [8, 8, 4, 4]).getD 3 0, 0, 0, []⟩
    all_goals
      simp only [hchk, if_true, if_false, decide_true, decide_false] at hc ⊢
      generalize (numO b [8, 8, 4, 4]).getD 0 0 = o0 at *
      generalize (numO b [8, 8, 4, 4]).getD 1 0 = o1 at *
      generalize (numO b [8, 8, 4, 4]).getD 2 0 = o2 at *
      generalize (numO b [8, 8, 4, 4]).getD 3 0 = o3 at *
      unfold Cmd.av at hc
      refine fn_of B_frame_command rfl ?_
      unfold frame_command
    · skip
      repeat' (first
       | refine q_s ?_ | refine q_z ?_ | refine q_b ?_ | refine wo_call hn rfl rfl rfl ?_ | refine wo_atG rfl rfl (by decide) rfl rfl rfl ?_
        | refine wo_loadI (.int _ _) rfl (Nat.le_of_ble_eq_true rfl) rfl rfl rfl ?_ | refine wo_call hc rfl rfl rfl ?_ | refine q_n ?_ | refine q_nn ?_ | refine q_mv ?_ | refine q_faddr ?_
        | refine q_load ?_ | refine q_loadI ?_ | refine q_loadR ?_ | refine q_cmp ?_ | refine q_cmp2 (fun _ => ?_) (fun _ => ?_) | refine q_pickT ?_ | refine q_pickF ?_ | refine q_len ?_
        | refine q_lenS ?_ | refine q_len0 ?_ | refine q_ex ?_ | refine q_store ?_ | refine q_storeR ?_ | refine q_box ?_ | refine q_at ?_ | refine q_buildS ?_ | refine q_mn ?_ | refine q_mx ?_
        | refine q_slice0 ?_ | refine q_sliceE ?_ | refine q_sliceM ?_)
      exact ⟨Or.inr rfl, _, rfl, rfl⟩
    · skip
      repeat' (first
       | refine q_s ?_ | refine q_z ?_ | refine q_b ?_ | refine wo_call hn rfl rfl rfl ?_ | refine wo_atG rfl rfl (by decide) rfl rfl rfl ?_
        | refine wo_loadI (.int _ _) rfl (Nat.le_of_ble_eq_true rfl) rfl rfl rfl ?_ | refine wo_call hc rfl rfl rfl ?_ | refine q_n ?_ | refine q_nn ?_ | refine q_mv ?_ | refine q_faddr ?_
        | refine q_load ?_ | refine q_loadI ?_ | refine q_loadR ?_ | refine q_cmp ?_ | refine q_cmp2 (fun _ => ?_) (fun _ => ?_) | refine q_pickT ?_ | refine q_pickF ?_ | refine q_len ?_
        | refine q_lenS ?_ | refine q_len0 ?_ | refine q_ex ?_ | refine q_store ?_ | refine q_storeR ?_ | refine q_box ?_ | refine q_at ?_ | refine q_buildS ?_ | refine q_mn ?_ | refine q_mx ?_
        | refine q_slice0 ?_ | refine q_sliceE ?_ | refine q_sliceM ?_)
      exact ⟨Or.inr rfl, _, rfl, rfl⟩
  | false =>
    have hraw : rawB 1 b = false := by simp [rawB, hB]
    have hrc : rawC 1 b = ⟨1, 0, 0, 0, 0, 0, 0, 0, []⟩ := by simp [rawC, hB]
    rw [hraw, Bool.false_and, hrc]
    rw [hB] at hn
    refine fn_of B_frame_command rfl ?_
    unfold frame_command
    repeat' (first
     | refine q_s ?_ | refine q_z ?_ | refine q_b ?_ | refine wo_call hn rfl rfl rfl ?_ | refine q_n ?_ | refine q_nn ?_ | refine q_mv ?_ | refine q_faddr ?_ | refine q_load ?_
      | refine q_loadI ?_ | refine q_loadR ?_ | refine q_cmp ?_ | refine q_cmp2 (fun _ => ?_) (fun _ => ?_) | refine q_pickT ?_ | refine q_pickF ?_ | refine q_len ?_ | refine q_lenS ?_
      | refine q_len0 ?_ | refine q_ex ?_ | refine q_store ?_ | refine q_storeR ?_ | refine q_box ?_ | refine q_at ?_ | refine q_buildS ?_ | refine q_mn ?_ | refine q_mx ?_ | refine q_slice0 ?_
      | refine q_sliceE ?_ | refine q_sliceM ?_)
    exact ⟨Or.inr rfl, _, rfl, rfl⟩

theorem e_command3 (k : Nat) (hk : 1000000 ≤ k) (t f : Bool) (b : List UInt8) (hb : b.length < 900000) :
    FnV (acall B xf cloneF (k + 5)) n_frame_command [.int .i64 3, .islc t f 1 (BL b)] (.tup [rawAv 3 b, .bool (rawB 3 b && decide (chkP (rawC 3 b)))]) := by
  have hn := e_frame_numbers (xf := xf) (gf := cloneF) (k + 2) (by omega) t f b [4, 4] (by omega) (by simp) (by simp)
  have hD : rawD 3 b = false := by simp [rawD]
  unfold rawAv
  rw [hD]
  cases hB : numB b [4, 4] with
  | true =>
    have hl := list2 (numO_len hB)
    have hc := e_frame_Check (xf := xf) (gf := cloneF) k false true 0 (rawC 3 b) (by simp [rawC, hB]) (.inl rfl)
    have hraw : rawB 3 b = true := by simp [rawB, hB]
    rw [hraw, Bool.true_and]
    have hrc : rawC 3 b = ⟨3, 0, 0, 0, (numO b [4, 4]).getD 0 0, (numO b [4, 4]).getD 1 0, 0, 0, []⟩ := by simp [rawC, hB]
    rw [hrc] at hc ⊢
    rw [hl] at hn
    rw [hB] at hn
    by_cases hchk : chkP ⟨3, 0, 0, 0, (numO b [4, 4]).getD 0 0, (numO b [4, 4]).getD 1 0, 0, 0, []⟩
    all_goals
      simp only [hchk, if_true, if_false, decide_true, decide_false] at hc ⊢
      generalize (numO b [4, 4]).getD 0 0 = o0 at *
      generalize (numO b [4, 4]).getD 1 0 = o1 at *
      generalize (numO b [4, 4]).getD 2 0 = o2 at *
      generalize (numO b [4, 4]).getD 3 0 = o3 at *
      unfold Cmd.av at hc
      refine fn_of B_frame_command rfl ?_
      unfold frame_command
    · skip
      repeat' (first
       | refine q_s ?_ | refine q_z ?_ | refine q_b ?_ | refine wo_call hn rfl rfl rfl ?_ | refine wo_atG rfl rfl (by decide) rfl rfl rfl ?_
        | refine wo_loadI (.int _ _) rfl (Nat.le_of_ble_eq_true rfl) rfl rfl rfl ?_ | refine wo_call hc rfl rfl rfl ?_ | refine q_n ?_ | refine q_nn ?_ | refine q_mv ?_ | refine q_faddr ?_
        | refine q_load ?_ | refine q_loadI ?_ | refine q_loadR ?_ | refine q_cmp ?_ | refine q_cmp2 (fun _ => ?_) (fun _ => ?_) | refine q_pickT ?_ | refine q_pickF ?_ | refine q_len ?_
        | refine q_lenS ?_ | refine q_len0 ?_ | refine q_ex ?_ | refine q_store ?_ | refine q_storeR ?_ | refine q_box ?_ | refine q_at ?_ | refine q_buildS ?_ | refine q_mn ?_ | refine q_mx ?_
        | refine q_slice0 ?_ | refine q_sliceE ?_ | refine q_sliceM ?_)
      exact ⟨Or.inr rfl, _, rfl, rfl⟩
    · skip
      repeat' (first
       | refine q_s ?_ | refine q_z ?_ | refine q_b ?_ | refine wo_call hn rfl rfl rfl ?_ | refine wo_atG rfl rfl (by decide) rfl rfl rfl ?_
        | refine wo_loadI (.int _ _) rfl (Nat.le_of_ble_eq_true rfl) rfl rfl rfl ?_ | refine wo_call hc rfl rfl rfl ?_ | refine q_n ?_ | refine q_nn ?_ | refine q_mv ?_ | refine q_faddr ?_
        | refine q_load ?_ | refine q_loadI ?_ | refine q_loadR ?_ | refine q_cmp ?_ | refine q_cmp2 (fun _ => ?_) (fun _ => ?_) | refine q_pickT ?_ | refine q_pickF ?_ | refine q_len ?_
        | refine q_lenS ?_ | refine q_len0 ?_ | refine q_ex ?_ | refine q_store ?_ | refine q_storeR ?_ | refine q_box ?_ | refine q_at ?_ | refine q_buildS ?_ | refine q_mn ?_ | refine q_mx ?_
        | refine q_slice0 ?_ | refine q_sliceE ?_ | refine q_sliceM ?_)
      exact ⟨Or.inr rfl, _, rfl, rfl⟩
  | false =>
    have hraw : rawB 3 b = false := by simp [rawB, hB]
    have hrc : rawC 3 b = ⟨3, 0, 0, 0, 0, 0, 0, 0, []⟩ := by simp [rawC, hB]
    rw [hraw, Bool.false_and, hrc]
    rw [hB] at hn
    refine fn_of B_frame_command rfl ?_
    unfold frame_command
    repeat' (first
     | refine q_s ?_ | refine q_z ?_ | refine q_b ?_ | refine wo_call hn rfl rfl rfl ?_ | refine q_n ?_ | refine q_nn ?_ | refine q_mv ?_ | refine q_faddr ?_ | refine q_load ?_
      | refine q_loadI ?_ | refine q_loadR ?_ | refine q_cmp ?_ | refine q_cmp2 (fun _ => ?_) (fun _ => ?_) | refine q_pickT ?_ | refine q_pickF ?_ | refine q_len ?_ | refine q_lenS ?_
      | refine q_len0 ?_ | refine q_ex ?_ | refine q_store ?_ | refine q_storeR ?_ | refine q_box ?_ | refine q_at ?_ | refine q_buildS ?_ | refine q_mn ?_ | refine q_mx ?_ | refine q_slice0 ?_
      | refine q_sliceE ?_ | refine q_sliceM ?_)
    exact ⟨Or.inr rfl, _, rfl, rfl⟩

theorem e_command4 (k : Nat) (hk : 1000000 ≤ k) (t f : Bool) (b : List UInt8) (hb : b.length < 900000) :
    FnV (acall B xf cloneF (k + 5)) n_frame_command [.int .i64 4, .islc t f 1 (BL b)] (.tup [rawAv 4 b, .bool (rawB 4 b && decide (chkP (rawC 4 b)))]) := by
  have hn := e_frame_numbers (xf := xf) (gf := cloneF) (k + 2) (by omega) t f b [4, 4, 4] (by omega) (by simp) (by simp)
  have hD : rawD 4 b = false := by simp [rawD]
  unfold rawAv
  rw [hD]
  cases hB : numB b [4, 4, 4] with
  | true =>
    have hl := list3 (numO_len hB)
    have hc := e_frame_Check (xf := xf) (gf := cloneF) k false true 0 (rawC 4 b) (by simp [rawC, hB]) (.inl rfl)
    have hraw : rawB 4 b = true := by simp [rawB, hB]
    rw [hraw, Bool.true_and]
    have hrc : rawC 4 b = ⟨4, 0, 0, 0, (numO b [4, 4, 4]).getD 0 0, (numO b [4, 4, 4]).getD 1 0, (numO b [4, 4, 4]).getD 2 0, 0, []⟩ := by simp [rawC, hB]
    rw [hrc] at hc ⊢
    rw [hl] at hn
    rw [hB] at hn
    by_cases hchk : chkP ⟨4, 0, 0, 0, (numO b [4, 4, 4]).getD 0 0, (numO b [4, 4, 4]).getD 1 0, (numO b [4, 4, 4]).getD 2 0, 0, []⟩
    all_goals
      simp only [hchk, if_true, if_false, decide_true, decide_false] at hc ⊢
      generalize (numO b [4, 4, 4]).getD 0 0 = o0 at *
      generalize (numO b [4, 4, 4]).getD 1 0 = o1 at *
      generalize (numO b [4, 4, 4]).getD 2 0 = o2 at *
      generalize (numO b [4, 4, 4]).getD 3 0 = o3 at *
      unfold Cmd.av at hc
      refine fn_of B_frame_command rfl ?_
      unfold frame_command
    · skip
      repeat' (first
       | refine q_s ?_ | refine q_z ?_ | refine q_b ?_ | refine wo_call hn rfl rfl rfl ?_ | refine wo_atG rfl rfl (by decide) rfl rfl rfl ?_
        | refine wo_loadI (.int _ _) rfl (Nat.le_of_ble_eq_true rfl) rfl rfl rfl ?_ | refine wo_call hc rfl rfl rfl ?_ | refine q_n ?_ | refine q_nn ?_ | refine q_mv ?_ | refine q_faddr ?_
        | refine q_load ?_ | refine q_loadI ?_ | refine q_loadR ?_ | refine q_cmp ?_ | refine q_cmp2 (fun _ => ?_) (fun _ => ?_) | refine q_pickT ?_ | refine q_pickF ?_ | refine q_len ?_
        | refine q_lenS ?_ | refine q_len0 ?_ | refine q_ex ?_ | refine q_store ?_ | refine q_storeR ?_ | refine q_box ?_ | refine q_at ?_ | refine q_buildS ?_ | refine q_mn ?_ | refine q_mx ?_
        | refine q_slice0 ?_ | refine q_sliceE ?_ | refine q_sliceM ?_)
      exact ⟨Or.inr rfl, _, rfl, rfl⟩
    · skip
      repeat' (first
       | refine q_s ?_ | refine q_z ?_ | refine q_b ?_ | refine wo_call hn rfl rfl rfl ?_ | refine wo_atG rfl rfl (by decide) rfl rfl rfl ?_
        | refine wo_loadI (.int _ _) rfl (Nat.le_of_ble_eq_true rfl) rfl rfl rfl ?_ | refine wo_call hc rfl rfl rfl ?_ | refine q_n ?_ | refine q_nn ?_ | refine q_mv ?_ | refine q_faddr ?_
        | refine q_load ?_ | refine q_loadI ?_ | refine q_loadR ?_ | refine q_cmp ?_ | refine q_cmp2 (fun _ => ?_) (fun _ => ?_) | refine q_pickT ?_ | refine q_pickF ?_ | refine q_len ?_
        | refine q_lenS ?_ | refine q_len0 ?_ | refine q_ex ?_ | refine q_store ?_ | refine q_storeR ?_ | refine q_box ?_ | refine q_at ?_ | refine q_buildS ?_ | refine q_mn ?_ | refine q_mx ?_
        | refine q_slice0 ?_ | refine q_sliceE ?_ | refine q_sliceM ?_)
      exact ⟨Or.inr rfl, _, rfl, rfl⟩
  | false =>
    have hraw : rawB 4 b = false := by simp [rawB, hB]
    have hrc : rawC 4 b = ⟨4, 0, 0, 0, 0, 0, 0, 0, []⟩ := by simp [rawC, hB]
    rw [hraw, Bool.false_and, hrc]
    rw [hB] at hn
    refine fn_of B_frame_command rfl ?_
    unfold frame_command
    repeat' (first
     | refine q_s ?_ | refine q_z ?_ | refine q_b ?_ | refine wo_call hn rfl rfl rfl ?_ | refine q_n ?_ | refine q_nn ?_ | refine q_mv ?_ | refine q_faddr ?_ | refine q_load ?_
      | refine q_loadI ?_ | refine q_loadR ?_ | refine q_cmp ?_ | refine q_cmp2 (fun _ => ?_) (fun _ => ?_) | refine q_pickT ?_ | refine q_pickF ?_ | refine q_len ?_ | refine q_lenS ?_
      | refine q_len0 ?_ | refine q_ex ?_ | refine q_store ?_ | refine q_storeR ?_ | refine q_box ?_ | refine q_at ?_ | refine q_buildS ?_ | refine q_mn ?_ | refine q_mx ?_ | refine q_slice0 ?_
      | refine q_sliceE ?_ | refine q_sliceM ?_)
    exact ⟨Or.inr rfl, _, rfl, rfl⟩

theorem e_command5 (k : Nat) (hk : 1000000 ≤ k) (t f : Bool) (b : List UInt8) (hb : b.length < 900000) :
    FnV (acall B xf cloneF (k + 5)) n_frame_command [.int .i64 5, .islc t f 1 (BL b)] (.tup [rawAv 5 b, .bool (rawB 5 b && decide (chkP (rawC 5 b)))]) := by
  have hn := e_frame_numbers (xf := xf) (gf := cloneF) (k + 2) (by omega) t f b [4] (by omega) (by simp) (by simp)
  have hD : rawD 5 b = false := by simp [rawD]
  unfold rawAv
  rw [hD]
  cases hB : numB b [4] with
  | true =>
    have hl := list1 (numO_len hB)
    have hc := e_frame_Check (xf := xf) (gf := cloneF) k false true 0 (rawC 5 b) (by simp [rawC, hB]) (.inl rfl)
    have hraw : rawB 5 b = true := by simp [rawB, hB]
    rw [hraw, Bool.true_and]
    have hrc : rawC 5 b = ⟨5, 0, 0, (numO b [4]).getD 0 0, 0, 0, 0, 0, []⟩ := by simp [rawC, hB]
    rw [hrc] at hc ⊢
    rw [hl] at hn
    rw [hB] at hn
    by_cases hchk : chkP ⟨5, 0, 0, (numO b [4]).getD 0 0, 0, 0, 0, 0, []⟩
    all_goals
      simp only [hchk, if_true, if_false, decide_true, decide_false] at hc ⊢
      generalize (numO b [4]).getD 0 0 = o0 at *
      generalize (numO b [4]).getD 1 0 = o1 at *
      generalize (numO b [4]).getD 2 0 = o2 at *
      generalize (numO b [4]).getD 3 0 = o3 at *
      unfold Cmd.av at hc
      refine fn_of B_frame_command rfl ?_
      unfold frame_command
    · skip
      repeat' (first
       | refine q_s ?_ | refine q_z ?_ | refine q_b ?_ | refine wo_call hn rfl rfl rfl ?_ | refine wo_atG rfl rfl (by decide) rfl rfl rfl ?_
        | refine wo_loadI (.int _ _) rfl (Nat.le_of_ble_eq_true rfl) rfl rfl rfl ?_ | refine wo_call hc rfl rfl rfl ?_ | refine q_n ?_ | refine q_nn ?_ | refine q_mv ?_ | refine q_faddr ?_
        | refine q_load ?_ | refine q_loadI ?_ | refine q_loadR ?_ | refine q_cmp ?_ | refine q_cmp2 (fun _ => ?_) (fun _ => ?_) | refine q_pickT ?_ | refine q_pickF ?_ | refine q_len ?_
        | refine q_lenS ?_ | refine q_len0 ?_ | refine q_ex ?_ | refine q_store ?_ | refine q_storeR ?_ | refine q_box ?_ | refine q_at ?_ | refine q_buildS ?_ | refine q_mn ?_ | refine q_mx ?_
        | refine q_slice0 ?_ | refine q_sliceE ?_ | refine q_sliceM ?_)
      exact ⟨Or.inr rfl, _, rfl, rfl⟩
    · skip
      repeat' (first
       | refine q_s ?_ | refine q_z ?_ | refine q_b ?_ | refine wo_call hn rfl rfl rfl ?_ | refine wo_atG rfl rfl (by decide) rfl rfl rfl ?_
        | refine wo_loadI (.int _ _) rfl (Nat.le_of_ble_eq_true rfl) rfl rfl rfl ?_ | refine wo_call hc rfl rfl rfl ?_ | refine q_n ?_ | refine q_nn ?_ | refine q_mv ?_ | refine q_faddr ?_
        | refine q_load ?_ | refine q_loadI ?_ | refine q_loadR ?_ | refine q_cmp ?_ | refine q_cmp2 (fun _ => ?_) (fun _ => ?_) | refine q_pickT ?_ | refine q_pickF ?_ | refine q_len ?_
        | refine q_lenS ?_ | refine q_len0 ?_ | refine q_ex ?_ | refine q_store ?_ | refine q_storeR ?_ | refine q_box ?_ | refine q_at ?_ | refine q_buildS ?_ | refine q_mn ?_ | refine q_mx ?_
        | refine q_slice0 ?_ | refine q_sliceE ?_ | refine q_sliceM ?_)
      exact ⟨Or.inr rfl, _, rfl, rfl⟩
  | false =>
    have hraw : rawB 5 b = false := by simp [rawB, hB]
    have hrc : rawC 5 b = ⟨5, 0, 0, 0, 0, 0, 0, 0, []⟩ := by simp [rawC, hB]
    rw [hraw, Bool.false_and, hrc]
    rw [hB] at hn
    refine fn_of B_frame_command rfl ?_
    unfold frame_command
    repeat' (first
     | refine q_s ?_ | refine q_z ?_ | refine q_b ?_ | refine wo_call hn rfl rfl rfl ?_ | refine q_n ?_ | refine q_nn ?_ | refine q_mv ?_ | refine q_faddr ?_ | refine q_load ?_
      | refine q_loadI ?_ | refine q_loadR ?_ | refine q_cmp ?_ | refine q_cmp2 (fun _ => ?_) (fun _ => ?_) | refine q_pickT ?_ | refine q_pickF ?_ | refine q_len ?_ | refine q_lenS ?_
      | refine q_len0 ?_ | refine q_ex ?_ | refine q_store ?_ | refine q_storeR ?_ | refine q_box ?_ | refine q_at ?_ | refine q_buildS ?_ | refine q_mn ?_ | refine q_mx ?_ | refine q_slice0 ?_
      | refine q_sliceE ?_ | refine q_sliceM ?_)
    exact ⟨Or.inr rfl, _, rfl, rfl⟩

theorem e_command6 (k : Nat) (hk : 1000000 ≤ k) (t f : Bool) (b : List UInt8) (hb : b.length < 900000) :
    FnV (acall B xf cloneF (k + 5)) n_frame_command [.int .i64 6, .islc t f 1 (BL b)] (.tup [rawAv 6 b, .bool (rawB 6 b && decide (chkP (rawC 6 b)))]) := by
  have hn := e_frame_numbers (xf := xf) (gf := cloneF) (k + 2) (by omega) t f b [4, 4] (by omega) (by simp) (by simp)
  have hD : rawD 6 b = false := by simp [rawD]
  unfold rawAv
  rw [hD]
  cases hB : numB b [4, 4] with
  | true =>
    have hl := list2 (numO_len hB)
    have hc := e_frame_Check (xf := xf) (gf := cloneF) k false true 0 (rawC 6 b) (by simp [rawC, hB]) (.inl rfl)
    have hraw : rawB 6 b = true := by simp [rawB, hB]
    rw [hraw, Bool.true_and]
    have hrc : rawC 6 b = ⟨6, 0, 0, 0, 0, (numO b [4, 4]).getD 0 0, 0, (numO b [4, 4]).getD 1 0, []⟩ := by simp [rawC, hB]
    rw [hrc] at hc ⊢
    rw [hl] at hn
    rw [hB] at hn
    by_cases hchk : chkP ⟨6, 0, 0, 0, 0, (numO b [4, 4]).getD 0 0, 0, (numO b [4, 4]).getD 1 0, []⟩
    all_goals
      simp only [hchk, if_true, if_false, decide_true, decide_false] at hc ⊢
      generalize (numO b [4, 4]).getD 0 0 = o0 at *
      generalize (numO b [4, 4]).getD 1 0 = o1 at *
      generalize (numO b [4, 4]).getD 2 0 = o2 at *
      generalize (numO b [4, 4]).getD 3 0 = o3 at *
      unfold Cmd.av at hc
      refine fn_of B_frame_command rfl ?_
      unfold frame_command
    · skip
      repeat' (first
       | refine q_s ?_ | refine q_z ?_ | refine q_b ?_ | refine wo_call hn rfl rfl rfl ?_ | refine wo_atG rfl rfl (by decide) rfl rfl rfl ?_
        | refine wo_loadI (.int _ _) rfl (Nat.le_of_ble_eq_true rfl) rfl rfl rfl ?_ | refine wo_call hc rfl rfl rfl ?_ | refine q_n ?_ | refine q_nn ?_ | refine q_mv ?_ | refine q_faddr ?_
        | refine q_load ?_ | refine q_loadI ?_ | refine q_loadR ?_ | refine q_cmp ?_ | refine q_cmp2 (fun _ => ?_) (fun _ => ?_) | refine q_pickT ?_ | refine q_pickF ?_ | refine q_len ?_
        | refine q_lenS ?_ | refine q_len0 ?_ | refine q_ex ?_ | refine q_store ?_ | refine q_storeR ?_ | refine q_box ?_ | refine q_at ?_ | refine q_buildS ?_ | refine q_mn ?_ | refine q_mx ?_
        | refine q_slice0 ?_ | refine q_sliceE ?_ | refine q_sliceM ?_)
      exact ⟨Or.inr rfl, _, rfl, rfl⟩
    · skip
      repeat' (first
       | refine q_s ?_ | refine q_z ?_ | refine q_b ?_ | refine wo_call hn rfl rfl rfl ?_ | refine wo_atG rfl rfl (by decide) rfl rfl rfl ?_
        | refine wo_loadI (.int _ _) rfl (Nat.le_of_ble_eq_true rfl) rfl rfl rfl ?_ | refine wo_call hc rfl rfl rfl ?_ | refine q_n ?_ | refine q_nn ?_ | refine q_mv ?_ | refine q_faddr ?_
        | refine q_load ?_ | refine q_loadI ?_ | refine q_loadR ?_ | refine q_cmp ?_ | refine q_cmp2 (fun _ => ?_) (fun _ => ?_) | refine q_pickT ?_ | refine q_pickF ?_ | refine q_len ?_
        | refine q_lenS ?_ | refine q_len0 ?_ | refine q_ex ?_ | refine q_store ?_ | refine q_storeR ?_ | refine q_box ?_ | refine q_at ?_ | refine q_buildS ?_ | refine q_mn ?_ | refine q_mx ?_
        | refine q_slice0 ?_ | refine q_sliceE ?_ | refine q_sliceM ?_)
      exact ⟨Or.inr rfl, _, rfl, rfl⟩
  | false =>
    have hraw : rawB 6 b = false := by simp [rawB, hB]
    have hrc : rawC 6 b = ⟨6, 0, 0, 0, 0, 0, 0, 0, []⟩ := by simp [rawC, hB]
    rw [hraw, Bool.false_and, hrc]
    rw [hB] at hn
    refine fn_of B_frame_command rfl ?_
    unfold frame_command
    repeat' (first
     | refine q_s ?_ | refine q_z ?_ | refine q_b ?_ | refine wo_call hn rfl rfl rfl ?_ | refine q_n ?_ | refine q_nn ?_ | refine q_mv ?_ | refine q_faddr ?_ | refine q_load ?_
      | refine q_loadI ?_ | refine q_loadR ?_ | refine q_cmp ?_ | refine q_cmp2 (fun _ => ?_) (fun _ => ?_) | refine q_pickT ?_ | refine q_pickF ?_ | refine q_len ?_ | refine q_lenS ?_
      | refine q_len0 ?_ | refine q_ex ?_ | refine q_store ?_ | refine q_storeR ?_ | refine q_box ?_ | refine q_at ?_ | refine q_buildS ?_ | refine q_mn ?_ | refine q_mx ?_ | refine q_slice0 ?_
      | refine q_sliceE ?_ | refine q_sliceM ?_)
    exact ⟨Or.inr rfl, _, rfl, rfl⟩

end Go.Proofs.YtnakicjkolpacaaDoor
