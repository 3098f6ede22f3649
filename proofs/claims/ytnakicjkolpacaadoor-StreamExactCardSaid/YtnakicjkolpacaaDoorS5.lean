/- What the functions answer: is a command right? -/
import Derived.Test.YtnakicjkolpacaaDoorS4
set_option linter.unusedSimpArgs false
set_option linter.unusedVariables false
set_option maxRecDepth 10000
set_option maxHeartbeats 16000000
namespace Go.Proofs.YtnakicjkolpacaaDoor
open Go.AI
attribute [local irreducible] aops aexec acall aiter aop W WO

variable {xf : ExtF} {gf : CallF}

theorem e_frame_bare2 (k : Nat) (t f : Bool) (s : Nat) (c : Cmd) (hl : c.data.length < 1000000) (h : c.kind = 2) :
    FnV (acall B xf gf (k + 3)) n_frame_bare [c.av t f s] (.tup [(bareP c).1.avN, .bool (bareP c).2]) := by
  have := e_frame_bare (xf := xf) (gf := gf) k t f s c hl (.inr h)
  rwa [if_pos h] at this
theorem e_frame_bareO (k : Nat) (f : Bool) (s : Nat) (c : Cmd) (hl : c.data.length < 1000000) (h : c.kind ≠ 2) :
    FnV (acall B xf gf (k + 3)) n_frame_bare [c.av false f s] (.tup [(bareP c).1.av false f s, .bool (bareP c).2]) := by
  have := e_frame_bare (xf := xf) (gf := gf) k false f s c hl (.inl rfl)
  rwa [if_neg h] at this

/-- Is a command right? -/
def chkP (c : Cmd) : Prop := (bareP c).2 = true ∧ (bareP c).1.id = 0 ∧ (bareP c).1.parent = 0 ∧ (bareP c).1.size = 0 ∧ (bareP c).1.frm = 0 ∧ (bareP c).1.count = 0 ∧ (bareP c).1.source = 0 ∧ (bareP c).1.digest = 0 ∧ (bareP c).1.data.length = 0
instance (c : Cmd) : Decidable (chkP c) := by unfold chkP; infer_instance

theorem e_frame_CheckO (k : Nat) (f : Bool) (s : Nat) (c : Cmd) (hl : c.data.length < 1000000) (h : c.kind ≠ 2) : FnV (acall B xf gf (k + 4)) n_frame_Check [c.av false f s] (.int .i64 (if chkP c then 0 else 1)) := by
  have hb := e_frame_bareO (xf := xf) (gf := gf) k f s c hl h
  obtain ⟨r, ok, hr, hok⟩ : ∃ r ok, (bareP c).1 = r ∧ (bareP c).2 = ok := ⟨_, _, rfl, rfl⟩
  rw [hr, hok] at hb
  unfold Cmd.av at hb
  refine fn_of B_frame_Check rfl ?_
  unfold frame_Check
  cases ok
  repeat' (first
   | refine q_s ?_ | refine q_z ?_ | refine q_b ?_ | refine q_n ?_ | refine q_nn ?_ | refine q_mv ?_ | refine q_faddr ?_ | refine q_load ?_ | refine q_loadI ?_ | refine q_loadR ?_
    | refine q_cmp ?_ | refine q_cmp2 (fun _ => ?_) (fun _ => ?_) | refine q_pickT ?_ | refine q_pickF ?_ | refine q_notT ?_ | refine q_notF ?_ | refine q_len ?_ | refine q_lenS ?_
    | refine q_len0 ?_ | refine q_ex ?_ | refine q_store ?_ | refine q_storeR ?_ | refine q_box ?_ | refine q_callB (hb) (fun _ => ?_) (fun _ => ?_) | refine q_call (hb) ?_)
  all_goals (refine ⟨Or.inr rfl, _, rfl, ?_⟩; show AV.int _ _ = AV.int _ _; congr 1; clear hb; simp only [cmpP, chkP, hr, hok] at *)
  all_goals first
    | (rw [if_pos (by simp only [true_and]; omega)]; done)
    | (rw [if_neg (by simp only [true_and, Bool.false_eq_true, false_and, not_false_eq_true] <;> omega)]; done)

theorem e_frame_Check2 (k : Nat) (t f : Bool) (s : Nat) (c : Cmd) (hl : c.data.length < 1000000) (h : c.kind = 2) : FnV (acall B xf gf (k + 4)) n_frame_Check [c.av t f s] (.int .i64 (if chkP c then 0 else 1)) := by
  have hb := e_frame_bare2 (xf := xf) (gf := gf) k t f s c hl h
  obtain ⟨r, ok, hr, hok⟩ : ∃ r ok, (bareP c).1 = r ∧ (bareP c).2 = ok := ⟨_, _, rfl, rfl⟩
  rw [hr, hok] at hb
  unfold Cmd.av Cmd.avN at hb
  have hd : (bareP c).1.data = [] := by simp [bareP, h]
  refine fn_of B_frame_Check rfl ?_
  unfold frame_Check
  cases ok
  repeat' (first
   | refine q_s ?_ | refine q_z ?_ | refine q_b ?_ | refine q_n ?_ | refine q_nn ?_ | refine q_mv ?_ | refine q_faddr ?_ | refine q_load ?_ | refine q_loadI ?_ | refine q_loadR ?_
    | refine q_cmp ?_ | refine q_cmp2 (fun _ => ?_) (fun _ => ?_) | refine q_pickT ?_ | refine q_pickF ?_ | refine q_notT ?_ | refine q_notF ?_ | refine q_len ?_ | refine q_lenS ?_
    | refine q_len0 ?_ | refine q_ex ?_ | refine q_store ?_ | refine q_storeR ?_ | refine q_box ?_ | refine q_callB (hb) (fun _ => ?_) (fun _ => ?_) | refine q_call (hb) ?_)
  all_goals (refine ⟨Or.inr rfl, _, rfl, ?_⟩; show AV.int _ _ = AV.int _ _; congr 1; clear hb; simp only [cmpP, chkP, hr, hok, hd, List.length_nil] at *)
  all_goals first
    | (rw [if_pos (by simp only [true_and]; omega)]; done)
    | (rw [if_neg (by simp only [true_and, Bool.false_eq_true, false_and, not_false_eq_true] <;> omega)]; done)
    | (rw [if_pos (by exact ⟨trivial, by omega, by omega, by omega, by omega, by omega, by omega, by omega, by rw [hd]; rfl⟩)]; done)

end Go.Proofs.YtnakicjkolpacaaDoor
