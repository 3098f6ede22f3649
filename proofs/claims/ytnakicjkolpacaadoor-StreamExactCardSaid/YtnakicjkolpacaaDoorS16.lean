/- What the functions leave: frames, twins in bytes of the caller's own. -/
import Derived.Test.YtnakicjkolpacaaDoorS9
import Derived.Test.YtnakicjkolpacaaDoorMC
set_option linter.unusedSimpArgs false
set_option linter.unusedVariables false
set_option maxRecDepth 10000
set_option maxHeartbeats 16000000
namespace Go.Proofs.YtnakicjkolpacaaDoor
open Go.AI
attribute [local irreducible] aops aexec acall aiter aop W WO

variable {xf : ExtF} {gf : CallF}

theorem e_frame_BytesF (k : Nat) (hk : 1000000 ≤ k) (t f : Bool) (s : Nat) (seq : Int) (c : Cmd) (hl : c.data.length < 900000) (hs : s = 1 ∨ c.data = []) (ht : t = false ∨ c.kind = 2) :
    (chkP c ∧ 0 ≤ seq ∧ seq ≤ 4294967295 → FnFT (acall B xf gf (k + 6)) n_frame_Bytes [.int .i64 seq, c.av t f s] (frB seq c) [.int .i64 0]) ∧
    (¬ (chkP c ∧ 0 ≤ seq ∧ seq ≤ 4294967295) → FnFT (acall B xf gf (k + 6)) n_frame_Bytes [.int .i64 seq, c.av t f s] [] [.int .i64 1]) := by
  have hp := e_frame_Payload (xf := xf) (gf := gf) k hk t f s c hl hs ht
  have hin := e_frame_in (xf := xf) (gf := gf) (k + 4) seq 0 4294967295
  have hpl := payB_length c
  have hfl := frH_length seq c
  have hsum := e_crc_Sum (xf := xf) (gf := gf) (k + 3) (by omega) true false (frH seq c) (by omega)
  constructor
  · rintro ⟨h, hq⟩
    rw [if_pos h] at hp
    rw [show (decide (seq ≥ 0) && decide (seq ≤ 4294967295)) = true by simp; omega] at hin
    refine fnFT_of (fn_gen B_frame_Bytes rfl ?_)
    unfold frame_Bytes Cmd.av
    unfold Cmd.av at hp
    repeat' (first
     | refine q_s ?_ | refine q_z ?_ | refine q_b ?_ | refine wo_call hp rfl rfl rfl ?_ | refine wo_call hin rfl rfl rfl ?_
      | (refine wo_inl (e_frame_put (xf := xf) (gf := gf) (k + 3) (by omega) _ _ _ _ _ [70, 82, 65, 77] [seq, c.kind, ((payB c).length : Int)] 4 _ (by decide) (by simp) (by simp) rfl (by decide) (.inr ⟨_, _, _, _, rfl, rfl, by decide, by decide⟩)) rfl rfl rfl ?_)
      | refine wo_call hsum rfl (ha_slc rfl rfl (by simp [frH]; omega)) rfl ?_
      | (refine wo_inl (e_frame_put (xf := xf) (gf := gf) (k + 3) (by omega) _ _ _ _ _ (frH seq c) [crcMore 0 (frH seq c)] 4 _ (by decide) (by simp; omega) (by simp [frH]; omega) rfl (by decide) (.inr ⟨_, _, _, _, rfl, rfl, by decide, by decide⟩)) rfl rfl rfl ?_)
      | refine q_mv ?_ | refine q_faddr ?_ | refine q_load ?_ | refine q_loadI ?_ | refine q_loadR ?_ | refine q_cmp ?_ | refine q_cmp2 (fun _ => ?_) (fun _ => ?_) | refine q_notT ?_
      | refine q_notF ?_ | refine q_len ?_ | refine q_lenS ?_ | refine q_len0 ?_ | refine q_ex ?_ | refine q_box ?_ | refine q_nilrow ?_ | refine q_buildS ?_ | refine q_app fun _ => ?_
      | refine q_ss ?_)
    exact ⟨Or.inr rfl, _, rfl, _, _, _, rfl, by simp [frB], rfl⟩
  · intro h
    by_cases hc : chkP c
    · rw [if_pos hc] at hp
      have hq : ¬ (0 ≤ seq ∧ seq ≤ 4294967295) := fun hh => h ⟨hc, hh⟩
      rw [show (decide (seq ≥ 0) && decide (seq ≤ 4294967295)) = false by simp; omega] at hin
      refine fnFT_of (fn_gen B_frame_Bytes rfl ?_)
      unfold frame_Bytes Cmd.av
      unfold Cmd.av at hp
      repeat' (first
       | refine q_s ?_ | refine q_z ?_ | refine q_b ?_ | refine wo_call hp rfl rfl rfl ?_ | refine wo_call hin rfl rfl rfl ?_ | refine q_mv ?_ | refine q_faddr ?_ | refine q_load ?_
        | refine q_loadI ?_ | refine q_loadR ?_ | refine q_cmp ?_ | refine q_cmp2 (fun _ => ?_) (fun _ => ?_) | refine q_notT ?_ | refine q_notF ?_ | refine q_len ?_ | refine q_lenS ?_
        | refine q_len0 ?_ | refine q_ex ?_ | refine q_box ?_ | refine q_nilrow ?_ | refine q_buildS ?_ | refine q_app fun _ => ?_ | refine q_ss ?_)
      exact ⟨Or.inr rfl, _, rfl, _, _, _, rfl, rfl, rfl⟩
    · rw [if_neg hc] at hp
      refine fnFT_of (fn_gen B_frame_Bytes rfl ?_)
      unfold frame_Bytes Cmd.av
      unfold Cmd.av at hp
      repeat' (first
       | refine q_s ?_ | refine q_z ?_ | refine q_b ?_ | refine wo_call hp rfl rfl rfl ?_ | refine q_mv ?_ | refine q_faddr ?_ | refine q_load ?_ | refine q_loadI ?_ | refine q_loadR ?_
        | refine q_cmp ?_ | refine q_cmp2 (fun _ => ?_) (fun _ => ?_) | refine q_notT ?_ | refine q_notF ?_ | refine q_len ?_ | refine q_lenS ?_ | refine q_len0 ?_ | refine q_ex ?_
        | refine q_box ?_ | refine q_nilrow ?_ | refine q_buildS ?_ | refine q_app fun _ => ?_ | refine q_ss ?_)
      exact ⟨Or.inr rfl, _, rfl, _, _, _, rfl, rfl, rfl⟩

end Go.Proofs.YtnakicjkolpacaaDoor
