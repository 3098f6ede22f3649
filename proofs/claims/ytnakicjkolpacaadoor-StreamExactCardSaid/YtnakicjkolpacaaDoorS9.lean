/- What the functions answer: payloads, frames. -/
import Derived.Test.YtnakicjkolpacaaDoorS5
import Derived.Test.YtnakicjkolpacaaDoorS8c
set_option linter.unusedSimpArgs false
set_option linter.unusedVariables false
set_option maxRecDepth 10000
set_option maxHeartbeats 16000000
namespace Go.Proofs.YtnakicjkolpacaaDoor
open Go.AI
attribute [local irreducible] aops aexec acall aiter aop W WO

variable {xf : ExtF} {gf : CallF}

theorem e_frame_Check (k : Nat) (t f : Bool) (s : Nat) (c : Cmd) (hl : c.data.length < 1000000) (ht : t = false ∨ c.kind = 2) : FnV (acall B xf gf (k + 4)) n_frame_Check [c.av t f s] (.int .i64 (if chkP c then 0 else 1)) := by
  by_cases h : c.kind = 2
  · exact e_frame_Check2 k t f s c hl h
  · obtain rfl : t = false := by rcases ht with h1 | h1; exact h1; exact absurd h1 h
    exact e_frame_CheckO k f s c hl h

/-- The bytes of a command. -/
def payB (c : Cmd) : List UInt8 :=
  if c.kind = 1 then putB 8 [c.id, c.parent] ++ putB 4 [c.size, c.count]
  else if c.kind = 2 then putB 4 [c.frm, (c.data.length / 64 : Int)] ++ c.data
  else if c.kind = 3 then putB 4 [c.frm, c.count]
  else if c.kind = 4 then putB 4 [c.frm, c.count, c.source]
  else if c.kind = 5 then putB 4 [c.size]
  else putB 4 [c.count, c.digest]

theorem payB_length (c : Cmd) : (payB c).length ≤ 24 + c.data.length := by
  unfold payB
  repeat' split
  all_goals simp
  all_goals omega

theorem e_frame_payload (k : Nat) (hk : 1000000 ≤ k) (t f : Bool) (s : Nat) (c : Cmd) (hl : c.data.length < 900000) (hs : s = 1 ∨ c.data = []) :
    FnV (acall B xf gf (k + 3)) n_frame_payload [c.av t f s] (.islc false false 1 (BL (payB c))) := by
  have hp1 := e_frame_putNil (xf := xf) (gf := gf) k hk [c.id, c.parent] 8 true false (by decide) (by simp) (by simp)
  have hp2 := e_frame_putNil (xf := xf) (gf := gf) k hk [c.frm, (c.data.length / 64 : Int)] 4 true false (by decide) (by simp) (by simp)
  have hp3 := e_frame_putNil (xf := xf) (gf := gf) k hk [c.frm, c.count] 4 true false (by decide) (by simp) (by simp)
  have hp4 := e_frame_putNil (xf := xf) (gf := gf) k hk [c.frm, c.count, c.source] 4 true false (by decide) (by simp) (by simp)
  have hp5 := e_frame_putNil (xf := xf) (gf := gf) k hk [c.size] 4 true false (by decide) (by simp) (by simp)
  have hp6 := e_frame_putNil (xf := xf) (gf := gf) k hk [c.count, c.digest] 4 true false (by decide) (by simp) (by simp)
  have hsec := e_frame_Sectors (xf := xf) (gf := gf) (k + 1) t f s c (by omega)
  refine fn_of B_frame_payload rfl ?_
  unfold frame_payload Cmd.av
  unfold Cmd.av at hsec
  repeat' (first
   | refine q_s ?_ | refine q_z ?_ | refine q_b ?_ | refine wo_fresh hp1 rfl rfl rfl ?_ | refine wo_fresh hp2 rfl rfl rfl ?_ | refine wo_fresh hp3 rfl rfl rfl ?_
    | refine wo_fresh hp4 rfl rfl rfl ?_ | refine wo_fresh hp5 rfl rfl rfl ?_ | refine wo_fresh hp6 rfl rfl rfl ?_
    | (refine wo_inl (e_frame_put (xf := xf) (gf := gf) k hk _ _ _ _ _ (putB 8 [c.id, c.parent]) [c.size, c.count] 4 _ (by decide) (by simp) (by simp) rfl (by decide) (.inr ⟨_, _, _, _, rfl, rfl, by decide, by decide⟩)) rfl rfl rfl ?_)
    | refine q_mv ?_ | refine q_faddr ?_ | refine q_load ?_ | refine q_loadI ?_ | refine q_loadR ?_ | refine q_cmp ?_ | refine q_cmp2 (fun _ => ?_) (fun _ => ?_) | refine q_box ?_
    | refine q_nilrow ?_ | refine q_buildS ?_ | refine q_app fun _ => ?_ | refine q_callB (hsec) (fun _ => ?_) (fun _ => ?_) | refine q_call (hsec) ?_)
  all_goals (refine ⟨Or.inr rfl, _, rfl, ?_⟩)
  all_goals clear hp1 hp2 hp3 hp4 hp5 hp6 hsec
  all_goals simp only [cmpP] at *
  all_goals refine (fz_out (n := 4) rfl (by simp)).trans ?_
  all_goals (congr 2; unfold payB; simp [*])

theorem e_frame_Payload (k : Nat) (hk : 1000000 ≤ k) (t f : Bool) (s : Nat) (c : Cmd) (hl : c.data.length < 900000) (hs : s = 1 ∨ c.data = []) (ht : t = false ∨ c.kind = 2) :
    FnV (acall B xf gf (k + 5)) n_frame_Payload [c.av t f s] (if chkP c then .tup [.islc false false 1 (BL (payB c)), .int .i64 0] else .tup [.islc false true 0 [], .int .i64 1]) := by
  have hc := e_frame_Check (xf := xf) (gf := gf) k t f s c (by omega) ht
  have hp := e_frame_payload (xf := xf) (gf := gf) (k + 1) (by omega) t f s c hl hs
  by_cases h : chkP c
  · rw [if_pos h] at hc ⊢
    refine fn_of B_frame_Payload rfl ?_
    unfold frame_Payload Cmd.av
    unfold Cmd.av at hc hp
    repeat' (first
     | refine q_s ?_ | refine q_z ?_ | refine q_b ?_ | refine wo_call hc rfl rfl rfl ?_ | refine wo_call hp rfl rfl rfl ?_ | refine q_mv ?_ | refine q_load ?_ | refine q_loadI ?_
      | refine q_loadR ?_ | refine q_cmp ?_ | refine q_cmp2 (fun _ => ?_) (fun _ => ?_) | refine q_box ?_)
    exact ⟨Or.inr rfl, _, rfl, rfl⟩
  · rw [if_neg h] at hc ⊢
    refine fn_of B_frame_Payload rfl ?_
    unfold frame_Payload Cmd.av
    unfold Cmd.av at hc hp
    repeat' (first
     | refine q_s ?_ | refine q_z ?_ | refine q_b ?_ | refine wo_call hc rfl rfl rfl ?_ | refine wo_call hp rfl rfl rfl ?_ | refine q_mv ?_ | refine q_load ?_ | refine q_loadI ?_
      | refine q_loadR ?_ | refine q_cmp ?_ | refine q_cmp2 (fun _ => ?_) (fun _ => ?_) | refine q_box ?_)
    exact ⟨Or.inr rfl, _, rfl, rfl⟩

/-- The bytes of a frame ahead of its sum. -/
def frH (seq : Int) (c : Cmd) : List UInt8 := [70, 82, 65, 77] ++ putB 4 [seq, c.kind, ((payB c).length : Int)] ++ payB c
def frB (seq : Int) (c : Cmd) : List UInt8 := frH seq c ++ putB 4 [crcMore 0 (frH seq c)]
theorem frH_length (seq : Int) (c : Cmd) : (frH seq c).length = 16 + (payB c).length := by simp [frH]; omega

theorem e_frame_Bytes (k : Nat) (hk : 1000000 ≤ k) (t f : Bool) (s : Nat) (seq : Int) (c : Cmd) (hl : c.data.length < 900000) (hs : s = 1 ∨ c.data = []) (ht : t = false ∨ c.kind = 2) :
    FnV (acall B xf gf (k + 6)) n_frame_Bytes [.int .i64 seq, c.av t f s] (if chkP c ∧ 0 ≤ seq ∧ seq ≤ 4294967295 then .tup [.islc false false 1 (BL (frB seq c)), .int .i64 0] else .tup [.islc false false 1 [], .int .i64 1]) := by
  have hp := e_frame_Payload (xf := xf) (gf := gf) k hk t f s c hl hs ht
  have hin := e_frame_in (xf := xf) (gf := gf) (k + 4) seq 0 4294967295
  have hpl := payB_length c
  have hfl := frH_length seq c
  have hsum := e_crc_Sum (xf := xf) (gf := gf) (k + 3) (by omega) true false (frH seq c) (by omega)
  by_cases h : chkP c
  · rw [if_pos h] at hp
    by_cases hq : 0 ≤ seq ∧ seq ≤ 4294967295
    · rw [if_pos ⟨h, hq⟩]
      rw [show (decide (seq ≥ 0) && decide (seq ≤ 4294967295)) = true by simp; omega] at hin
      refine fn_of B_frame_Bytes rfl ?_
      unfold frame_Bytes Cmd.av
      unfold Cmd.av at hp
      repeat' (first
       | refine q_s ?_ | refine q_z ?_ | refine q_b ?_ | refine wo_call hp rfl rfl rfl ?_ | refine wo_call hin rfl rfl rfl ?_
        | (refine wo_inl (e_frame_put (xf := xf) (gf := gf) (k + 3) (by omega) _ _ _ _ _ [70, 82, 65, 77] [seq, c.kind, ((payB c).length : Int)] 4 _ (by decide) (by simp) (by simp) rfl (by decide) (.inr ⟨_, _, _, _, rfl, rfl, by decide, by decide⟩)) rfl rfl rfl ?_)
        | refine wo_call hsum rfl (ha_slc rfl rfl (by simp [frH]; omega)) rfl ?_
        | (refine wo_inl (e_frame_put (xf := xf) (gf := gf) (k + 3) (by omega) _ _ _ _ _ (frH seq c) [crcMore 0 (frH seq c)] 4 _ (by decide) (by simp; omega) (by simp [frH]; omega) rfl (by decide) (.inr ⟨_, _, _, _, rfl, rfl, by decide, by decide⟩)) rfl rfl rfl ?_)
        | refine q_mv ?_ | refine q_faddr ?_ | refine q_load ?_ | refine q_loadI ?_ | refine q_loadR ?_ | refine q_cmp ?_ | refine q_cmp2 (fun _ => ?_) (fun _ => ?_) | refine q_notT ?_
        | refine q_notF ?_ | refine q_len ?_ | refine q_lenS ?_ | refine q_len0 ?_ | refine q_ex ?_ | refine q_box ?_ | refine q_nilrow ?_ | refine q_buildS ?_ | refine q_app fun _ => ?_
        | refine q_ss ?_)
      refine ⟨Or.inr rfl, _, rfl, ?_⟩
      show AV.tup [fz true (3 + 2) _ (AV.slc _ _ _ _ _ _ _), AV.int _ _] = _
      rw [fz_out (l := frB seq c) rfl (by simp [frB])]
    · rw [if_neg (fun hh => hq hh.2)]
      rw [show (decide (seq ≥ 0) && decide (seq ≤ 4294967295)) = false by simp; omega] at hin
      refine fn_of B_frame_Bytes rfl ?_
      unfold frame_Bytes Cmd.av
      unfold Cmd.av at hp
      repeat' (first
       | refine q_s ?_ | refine q_z ?_ | refine q_b ?_ | refine wo_call hp rfl rfl rfl ?_ | refine wo_call hin rfl rfl rfl ?_ | refine q_mv ?_ | refine q_faddr ?_ | refine q_load ?_
        | refine q_loadI ?_ | refine q_loadR ?_ | refine q_cmp ?_ | refine q_cmp2 (fun _ => ?_) (fun _ => ?_) | refine q_notT ?_ | refine q_notF ?_ | refine q_len ?_ | refine q_lenS ?_
        | refine q_len0 ?_ | refine q_ex ?_ | refine q_box ?_ | refine q_nilrow ?_ | refine q_buildS ?_ | refine q_app fun _ => ?_ | refine q_ss ?_)
      exact ⟨Or.inr rfl, _, rfl, rfl⟩
  · rw [if_neg h] at hp
    rw [if_neg (fun hh => h hh.1)]
    refine fn_of B_frame_Bytes rfl ?_
    unfold frame_Bytes Cmd.av
    unfold Cmd.av at hp
    repeat' (first
     | refine q_s ?_ | refine q_z ?_ | refine q_b ?_ | refine wo_call hp rfl rfl rfl ?_ | refine q_mv ?_ | refine q_faddr ?_ | refine q_load ?_ | refine q_loadI ?_ | refine q_loadR ?_
      | refine q_cmp ?_ | refine q_cmp2 (fun _ => ?_) (fun _ => ?_) | refine q_notT ?_ | refine q_notF ?_ | refine q_len ?_ | refine q_lenS ?_ | refine q_len0 ?_ | refine q_ex ?_
      | refine q_box ?_ | refine q_nilrow ?_ | refine q_buildS ?_ | refine q_app fun _ => ?_ | refine q_ss ?_)
    exact ⟨Or.inr rfl, _, rfl, rfl⟩

end Go.Proofs.YtnakicjkolpacaaDoor
