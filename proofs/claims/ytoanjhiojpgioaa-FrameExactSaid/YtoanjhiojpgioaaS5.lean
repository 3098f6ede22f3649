/- What the functions answer: is a command right? -/
import Derived.Test.YtoanjhiojpgioaaS4
set_option linter.unusedSimpArgs false
set_option linter.unusedVariables false
set_option maxRecDepth 10000
set_option maxHeartbeats 16000000
namespace Go.Proofs.Ytoanjhiojpgioaa
open Go.AI
attribute [local irreducible] aops aexec acall aiter aop W WO

variable {xf : ExtF} {gf : CallF}

theorem e_frame_bare2 (k : Nat) (t f : Bool) (s : Nat) (c : Cmd) (hl : c.data.length < 1000000) (h : c.kind = 2) :
    FnV (acall B xf gf (k + 3)) n_frame_bare [c.av t f s] (.tup [(bareP c).1.avN, .bool (bareP c).2]) := by
  have := e_frame_bare (xf := xf) (gf := gf) k t f s c hl (.inr h)
  rwa [if_pos h] at this
theorem e_frame_bareO (k : Nat) (f : Bool) (s : Nat) (c : Cmd) (hl : c.data.length < 1000000) (h : c.kind ≠ 2) :
    FnV (acall B xf gf (k + 3)) n_frame_bare [c.av false f s] (.tup [(bareP c).1.av false f s, .bool (bareP c).2]) := by
  have := e_frame_bare (xf := xf) (gf := gf) k false f s c hl (.inl rfl)
  rwa [if_neg h] at this

/-- Is a command right? -/
def chkP (c : Cmd) : Prop := (bareP c).2 = true ∧ (bareP c).1.id = 0 ∧ (bareP c).1.parent = 0 ∧ (bareP c).1.size = 0 ∧ (bareP c).1.frm = 0 ∧ (bareP c).1.count = 0 ∧ (bareP c).1.source = 0 ∧ (bareP c).1.digest = 0 ∧ (bareP c).1.data.length = 0
instance (c : Cmd) : Decidable (chkP c) := by unfold chkP; infer_instance

theorem e_frame_CheckO (k : Nat) (f : Bool) (s : Nat) (c : Cmd) (hl : c.data.length < 1000000) (h : c.kind ≠ 2) : FnV (acall B xf gf (k + 4)) n_frame_Check [c.av false f s] (.int .i64 (if chkP c then 0 else 1)) := by
  have hb := e_frame_bareO (xf := xf) (gf := gf) k f s c hl h
  obtain ⟨r, ok, hr, hok⟩ : ∃ r ok, (bareP c).1 = r ∧ (bareP c).2 = ok := ⟨_, _, rfl, rfl⟩
  rw [hr, hok] at hb
  unfold Cmd.av at hb
  refine fn_of B_frame_Check rfl ?_
  unfold frame_Check
  cases ok
  repeat' (first
   | refine wo_nil ?_
   | refine w_seq ?_
   | refine w_region ?_
   | refine w_ret ?_
   | refine w_skip ?_
   | refine w_exit ?_
   | refine w_block ?_
   | refine w_true rfl ?_
   | refine w_false rfl ?_
   | refine wo_n rfl ?_
   | refine wo_nn rfl ?_
   | refine wo_mv _ (by conv => lhs; whnf) rfl rfl ?_
   | refine wo_faddr rfl rfl rfl ?_
   | (refine is_load ?_; first | refine wo_load _ rfl rfl rfl (Nat.le_of_ble_eq_true rfl) (by conv => lhs; whnf) rfl rfl ?_ | refine wo_loadI _ rfl (Nat.le_of_ble_eq_true rfl) (by conv => lhs; whnf) rfl rfl ?_)
   | (refine is_bin ?_; first | refine wo_cmpT rfl rfl rfl (by first | (simp only [cmpP]; done) | (simp only [cmpP]; omega)) rfl rfl ?_ | refine wo_cmpF rfl rfl rfl (by first | (simp only [cmpP]; done) | (simp only [cmpP]; omega)) rfl rfl ?_ | refine wo_cmp rfl rfl rfl rfl rfl (fun _ => ?_) (fun _ => ?_))
   | (refine is_pick ?_; first | refine wo_pickT _ rfl (by conv => lhs; whnf) rfl rfl ?_ | refine wo_pickF _ rfl (by conv => lhs; whnf) rfl rfl ?_)
   | (refine is_un ?_; first | refine wo_notT rfl rfl rfl ?_ | refine wo_notF rfl rfl rfl ?_)
   | (refine is_len ?_; first | refine wo_len rfl rfl rfl ?_ | refine wo_lenS rfl rfl rfl ?_ | refine wo_len0 rfl rfl rfl ?_)
   | refine wo_extractW rfl rfl (by conv => lhs; whnf) rfl rfl ?_
   | refine wo_store rfl rfl rfl rfl rfl rfl rfl (Nat.le_of_ble_eq_true rfl) rfl rfl ?_
   | refine wo_box _ (by conv => lhs; whnf) (by rfl) rfl rfl ?_
   | (refine is_call ?_; first | refine wo_callB (hb) rfl rfl rfl (fun _ => ?_) (fun _ => ?_) | refine wo_call (hb) rfl rfl rfl ?_))
  all_goals (refine ⟨Or.inr rfl, _, rfl, ?_⟩; show AV.int _ _ = AV.int _ _; congr 1; clear hb; simp only [cmpP, chkP, hr, hok] at *)
  all_goals first
    | (rw [if_pos (by simp only [true_and]; omega)]; done)
    | (rw [if_neg (by simp only [true_and, Bool.false_eq_true, false_and, not_false_eq_true] <;> omega)]; done)

theorem e_frame_Check2 (k : Nat) (t f : Bool) (s : Nat) (c : Cmd) (hl : c.data.length < 1000000) (h : c.kind = 2) : FnV (acall B xf gf (k + 4)) n_frame_Check [c.av t f s] (.int .i64 (if chkP c then 0 else 1)) := by
  have hb := e_frame_bare2 (xf := xf) (gf := gf) k t f s c hl h
  obtain ⟨r, ok, hr, hok⟩ : ∃ r ok, (bareP c).1 = r ∧ (bareP c).2 = ok := ⟨_, _, rfl, rfl⟩
  rw [hr, hok] at hb
  unfold Cmd.av Cmd.avN at hb
  have hd : (bareP c).1.data = [] := by simp [bareP, h]
  refine fn_of B_frame_Check rfl ?_
  unfold frame_Check
  cases ok
  repeat' (first
   | refine wo_nil ?_
   | refine w_seq ?_
   | refine w_region ?_
   | refine w_ret ?_
   | refine w_skip ?_
   | refine w_exit ?_
   | refine w_block ?_
   | refine w_true rfl ?_
   | refine w_false rfl ?_
   | refine wo_n rfl ?_
   | refine wo_nn rfl ?_
   | refine wo_mv _ (by conv => lhs; whnf) rfl rfl ?_
   | refine wo_faddr rfl rfl rfl ?_
   | (refine is_load ?_; first | refine wo_load _ rfl rfl rfl (Nat.le_of_ble_eq_true rfl) (by conv => lhs; whnf) rfl rfl ?_ | refine wo_loadI _ rfl (Nat.le_of_ble_eq_true rfl) (by conv => lhs; whnf) rfl rfl ?_)
   | (refine is_bin ?_; first | refine wo_cmpT rfl rfl rfl (by first | (simp only [cmpP]; done) | (simp only [cmpP]; omega)) rfl rfl ?_ | refine wo_cmpF rfl rfl rfl (by first | (simp only [cmpP]; done) | (simp only [cmpP]; omega)) rfl rfl ?_ | refine wo_cmp rfl rfl rfl rfl rfl (fun _ => ?_) (fun _ => ?_))
   | (refine is_pick ?_; first | refine wo_pickT _ rfl (by conv => lhs; whnf) rfl rfl ?_ | refine wo_pickF _ rfl (by conv => lhs; whnf) rfl rfl ?_)
   | (refine is_un ?_; first | refine wo_notT rfl rfl rfl ?_ | refine wo_notF rfl rfl rfl ?_)
   | (refine is_len ?_; first | refine wo_len rfl rfl rfl ?_ | refine wo_lenS rfl rfl rfl ?_ | refine wo_len0 rfl rfl rfl ?_)
   | refine wo_extractW rfl rfl (by conv => lhs; whnf) rfl rfl ?_
   | refine wo_store rfl rfl rfl rfl rfl rfl rfl (Nat.le_of_ble_eq_true rfl) rfl rfl ?_
   | refine wo_box _ (by conv => lhs; whnf) (by rfl) rfl rfl ?_
   | (refine is_call ?_; first | refine wo_callB (hb) rfl rfl rfl (fun _ => ?_) (fun _ => ?_) | refine wo_call (hb) rfl rfl rfl ?_))
  all_goals (refine ⟨Or.inr rfl, _, rfl, ?_⟩; show AV.int _ _ = AV.int _ _; congr 1; clear hb; simp only [cmpP, chkP, hr, hok, hd, List.length_nil] at *)
  all_goals first
    | (rw [if_pos (by simp only [true_and]; omega)]; done)
    | (rw [if_neg (by simp only [true_and, Bool.false_eq_true, false_and, not_false_eq_true] <;> omega)]; done)
    | (rw [if_pos (by exact ⟨trivial, by omega, by omega, by omega, by omega, by omega, by omega, by omega, by rw [hd]; rfl⟩)]; done)

end Go.Proofs.Ytoanjhiojpgioaa
