/- The document's answers: is a command right? -/
import Derived.Test.YtoanjhiojpgioaaS21a
import Derived.Test.YtoanjhiojpgioaaS21b
import Derived.Test.YtoanjhiojpgioaaS21c
set_option linter.unusedSimpArgs false
set_option linter.unusedVariables false
set_option maxRecDepth 10000
set_option maxHeartbeats 16000000
namespace Go.Proofs.Ytoanjhiojpgioaa
open Go.AI
attribute [local irreducible] aops aexec acall aiter aop W WO

variable {xf : ExtF} {gf : CallF}

theorem e_ref_Command (k : Nat) (t f : Bool) (s : Nat) (c : Cmd) (hl : c.data.length < 1000000) : FnV (acall B xf gf (k + 3)) n_ref01_Command [c.av t f s] (.bool (decide (chkP c))) := by
  obtain ⟨kd, i, p, sz, fr, n, o, g, x⟩ := c
  by_cases h1 : kd = 1
  · subst h1; exact e_ref_Command1 k t f s i p sz fr n o g x hl
  by_cases h2 : kd = 2
  · subst h2; exact e_ref_Command2 k t f s i p sz fr n o g x hl
  by_cases h3 : kd = 3
  · subst h3; exact e_ref_Command3 k t f s i p sz fr n o g x hl
  by_cases h4 : kd = 4
  · subst h4; exact e_ref_Command4 k t f s i p sz fr n o g x hl
  by_cases h5 : kd = 5
  · subst h5; exact e_ref_Command5 k t f s i p sz fr n o g x hl
  by_cases h6 : kd = 6
  · subst h6; exact e_ref_Command6 k t f s i p sz fr n o g x hl
  have hn : ¬ chkP ⟨kd, i, p, sz, fr, n, o, g, x⟩ := by
    intro h
    have := chk_kind h
    simp only at this
    omega
  rw [decide_eq_false hn]
  refine fn_of B_ref01_Command rfl ?_
  unfold ref01_Command Cmd.av
  repeat' (first
   | refine wo_nil ?_
   | refine w_seq ?_
   | refine w_region ?_
   | refine w_ret ?_
   | refine w_skip ?_
   | refine w_exit ?_
   | refine w_block ?_
   | refine w_true rfl ?_
   | refine w_false rfl ?_
   | refine wo_n rfl ?_
   | refine wo_nn rfl ?_
   | refine wo_mv _ (by conv => lhs; whnf) rfl rfl ?_
   | refine wo_faddr rfl rfl rfl ?_
   | (refine is_load ?_; first | refine wo_load _ rfl rfl rfl (Nat.le_of_ble_eq_true rfl) (by conv => lhs; whnf) rfl rfl ?_ | refine wo_loadI _ rfl (Nat.le_of_ble_eq_true rfl) (by conv => lhs; whnf) rfl rfl ?_)
   | (refine is_bin ?_; first | refine wo_cmpT rfl rfl rfl (by first | (simp only [cmpP]; done) | (simp only [cmpP]; omega)) rfl rfl ?_ | refine wo_cmpF rfl rfl rfl (by first | (simp only [cmpP]; done) | (simp only [cmpP]; omega)) rfl rfl ?_ | refine wo_cmp rfl rfl rfl rfl rfl (fun _ => ?_) (fun _ => ?_) | refine wo_rem rfl rfl (by omega) (by omega) rfl rfl ?_ | refine wo_bin (.int _ _) rfl rfl rfl ?_)
   | (refine is_pick ?_; first | refine wo_pickT _ rfl (by conv => lhs; whnf) rfl rfl ?_ | refine wo_pickF _ rfl (by conv => lhs; whnf) rfl rfl ?_)
   | (refine is_un ?_; first | refine wo_notT rfl rfl rfl ?_ | refine wo_notF rfl rfl rfl ?_)
   | (refine is_len ?_; first | refine wo_len rfl rfl rfl ?_ | refine wo_lenS rfl rfl rfl ?_ | refine wo_len0 rfl rfl rfl ?_)
   | refine wo_store rfl rfl rfl rfl rfl rfl rfl (Nat.le_of_ble_eq_true rfl) rfl rfl ?_
   | refine wo_box _ (by conv => lhs; whnf) (by rfl) rfl rfl ?_
   | refine wo_build (.agg _) rfl rfl rfl rfl ?_)
  exact ⟨Or.inr rfl, _, rfl, rfl⟩

end Go.Proofs.Ytoanjhiojpgioaa
