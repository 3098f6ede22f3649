/- The document's answers: is a command right? -/
import Derived.Test.YtoanjhiojpgioaaS20
set_option linter.unusedSimpArgs false
set_option linter.unusedVariables false
set_option maxRecDepth 10000
set_option maxHeartbeats 16000000
namespace Go.Proofs.Ytoanjhiojpgioaa
open Go.AI
attribute [local irreducible] aops aexec acall aiter aop W WO

variable {xf : ExtF} {gf : CallF}

theorem chkP_k4 {i p s f n o g : Int} {x : List UInt8} : chkP ⟨4, i, p, s, f, n, o, g, x⟩ ↔ (0 < n ∧ (0 ≤ f ∧ n ≤ 512 ∧ f ≤ 512 - n) ∧ (0 ≤ o ∧ o ≤ 512 - n) ∧ i = 0 ∧ p = 0 ∧ s = 0 ∧ g = 0 ∧ x.length = 0) := by
  rw [chkP_iff]
  constructor
  · intro h
    unfold rightD at h
    rcases h with h | h | h | h | h | h
    · exact absurd (show (4 : Int) = 1 from h.1) (by decide)
    · exact absurd (show (4 : Int) = 2 from h.1) (by decide)
    · exact absurd (show (4 : Int) = 3 from h.1) (by decide)
    · exact h.2
    · exact absurd (show (4 : Int) = 5 from h.1) (by decide)
    · exact absurd (show (4 : Int) = 6 from h.1) (by decide)
  · intro h
    exact .inr (.inr (.inr (.inl ⟨rfl, h⟩)))

theorem e_ref_Command4 (k : Nat) (t fl : Bool) (sz : Nat) (i p s f n o g : Int) (x : List UInt8) (hl : x.length < 1000000) : FnV (acall B xf gf (k + 3)) n_ref01_Command [Cmd.av t fl sz ⟨4, i, p, s, f, n, o, g, x⟩] (.bool (decide (chkP ⟨4, i, p, s, f, n, o, g, x⟩))) := by
  refine fn_of B_ref01_Command rfl ?_
  unfold ref01_Command Cmd.av
  repeat' (first
   | refine wo_nil ?_
   | refine w_seq ?_
   | refine w_region ?_
   | refine w_ret ?_
   | refine w_skip ?_
   | refine w_exit ?_
   | refine w_block ?_
   | refine w_true rfl ?_
   | refine w_false rfl ?_
   | refine wo_n rfl ?_
   | refine wo_nn rfl ?_
   | refine wo_lenG (n := x.length) rfl (by simp) rfl rfl ?_
   | refine wo_rem (a := (x.length : Int)) rfl rfl (by omega) (by omega) rfl rfl ?_
   | refine wo_quo (a := (x.length : Int)) rfl rfl (by omega) (by omega) rfl rfl ?_
   | refine wo_mv _ (by conv => lhs; whnf) rfl rfl ?_
   | refine wo_faddr rfl rfl rfl ?_
   | (refine is_load ?_; first | refine wo_load _ rfl rfl rfl (Nat.le_of_ble_eq_true rfl) (by conv => lhs; whnf) rfl rfl ?_ | refine wo_loadI _ rfl (Nat.le_of_ble_eq_true rfl) (by conv => lhs; whnf) rfl rfl ?_)
   | (refine is_bin ?_; first | refine wo_cmpT rfl rfl rfl (by first | (simp only [cmpP]; done) | (simp only [cmpP]; omega)) rfl rfl ?_ | refine wo_cmpF rfl rfl rfl (by first | (simp only [cmpP]; done) | (simp only [cmpP]; omega)) rfl rfl ?_ | refine wo_cmp rfl rfl rfl rfl rfl (fun _ => ?_) (fun _ => ?_) | refine wo_rem rfl rfl (by omega) (by omega) rfl rfl ?_ | refine wo_bin (.int _ _) rfl rfl rfl ?_)
   | (refine is_pick ?_; first | refine wo_pickT _ rfl (by conv => lhs; whnf) rfl rfl ?_ | refine wo_pickF _ rfl (by conv => lhs; whnf) rfl rfl ?_)
   | (refine is_un ?_; first | refine wo_notT rfl rfl rfl ?_ | refine wo_notF rfl rfl rfl ?_)
   | (refine is_len ?_; first | refine wo_len rfl rfl rfl ?_ | refine wo_lenS rfl rfl rfl ?_ | refine wo_len0 rfl rfl rfl ?_)
   | refine wo_store rfl rfl rfl rfl rfl rfl rfl (Nat.le_of_ble_eq_true rfl) rfl rfl ?_
   | refine wo_box _ (by conv => lhs; whnf) (by rfl) rfl rfl ?_
   | refine wo_build (.agg _) rfl rfl rfl rfl ?_
   | (refine is_call ?_; first | refine wo_callB (e_ref_Id k _) rfl rfl rfl (fun _ => ?_) (fun _ => ?_) | refine wo_call (e_ref_Id k _) rfl rfl rfl ?_ | refine wo_callB (e_ref_In (k + 1) _ _ _) rfl rfl rfl (fun _ => ?_) (fun _ => ?_) | refine wo_call (e_ref_In (k + 1) _ _ _) rfl rfl rfl ?_ | refine wo_callB (e_ref_run k _ _) rfl rfl rfl (fun _ => ?_) (fun _ => ?_) | refine wo_call (e_ref_run k _ _) rfl rfl rfl ?_))
  all_goals (refine ⟨Or.inr rfl, _, rfl, ?_⟩; show AV.bool _ = AV.bool _; congr 1; symm; simp only [cmpP, inR_iff, inR_f, runP_iff, runP_f] at *)
  all_goals first
    | (refine decide_eq_true (chkP_k4.2 ?_); omega)
    | (refine decide_eq_false (fun hh => ?_); rw [chkP_k4] at hh; omega)

theorem chkP_k5 {i p s f n o g : Int} {x : List UInt8} : chkP ⟨5, i, p, s, f, n, o, g, x⟩ ↔ ((0 ≤ s ∧ s ≤ 512) ∧ i = 0 ∧ p = 0 ∧ f = 0 ∧ n = 0 ∧ o = 0 ∧ g = 0 ∧ x.length = 0) := by
  rw [chkP_iff]
  constructor
  · intro h
    unfold rightD at h
    rcases h with h | h | h | h | h | h
    · exact absurd (show (5 : Int) = 1 from h.1) (by decide)
    · exact absurd (show (5 : Int) = 2 from h.1) (by decide)
    · exact absurd (show (5 : Int) = 3 from h.1) (by decide)
    · exact absurd (show (5 : Int) = 4 from h.1) (by decide)
    · exact h.2
    · exact absurd (show (5 : Int) = 6 from h.1) (by decide)
  · intro h
    exact .inr (.inr (.inr (.inr (.inl ⟨rfl, h⟩))))

theorem e_ref_Command5 (k : Nat) (t fl : Bool) (sz : Nat) (i p s f n o g : Int) (x : List UInt8) (hl : x.length < 1000000) : FnV (acall B xf gf (k + 3)) n_ref01_Command [Cmd.av t fl sz ⟨5, i, p, s, f, n, o, g, x⟩] (.bool (decide (chkP ⟨5, i, p, s, f, n, o, g, x⟩))) := by
  refine fn_of B_ref01_Command rfl ?_
  unfold ref01_Command Cmd.av
  repeat' (first
   | refine wo_nil ?_
   | refine w_seq ?_
   | refine w_region ?_
   | refine w_ret ?_
   | refine w_skip ?_
   | refine w_exit ?_
   | refine w_block ?_
   | refine w_true rfl ?_
   | refine w_false rfl ?_
   | refine wo_n rfl ?_
   | refine wo_nn rfl ?_
   | refine wo_lenG (n := x.length) rfl (by simp) rfl rfl ?_
   | refine wo_rem (a := (x.length : Int)) rfl rfl (by omega) (by omega) rfl rfl ?_
   | refine wo_quo (a := (x.length : Int)) rfl rfl (by omega) (by omega) rfl rfl ?_
   | refine wo_mv _ (by conv => lhs; whnf) rfl rfl ?_
   | refine wo_faddr rfl rfl rfl ?_
   | (refine is_load ?_; first | refine wo_load _ rfl rfl rfl (Nat.le_of_ble_eq_true rfl) (by conv => lhs; whnf) rfl rfl ?_ | refine wo_loadI _ rfl (Nat.le_of_ble_eq_true rfl) (by conv => lhs; whnf) rfl rfl ?_)
   | (refine is_bin ?_; first | refine wo_cmpT rfl rfl rfl (by first | (simp only [cmpP]; done) | (simp only [cmpP]; omega)) rfl rfl ?_ | refine wo_cmpF rfl rfl rfl (by first | (simp only [cmpP]; done) | (simp only [cmpP]; omega)) rfl rfl ?_ | refine wo_cmp rfl rfl rfl rfl rfl (fun _ => ?_) (fun _ => ?_) | refine wo_rem rfl rfl (by omega) (by omega) rfl rfl ?_ | refine wo_bin (.int _ _) rfl rfl rfl ?_)
   | (refine is_pick ?_; first | refine wo_pickT _ rfl (by conv => lhs; whnf) rfl rfl ?_ | refine wo_pickF _ rfl (by conv => lhs; whnf) rfl rfl ?_)
   | (refine is_un ?_; first | refine wo_notT rfl rfl rfl ?_ | refine wo_notF rfl rfl rfl ?_)
   | (refine is_len ?_; first | refine wo_len rfl rfl rfl ?_ | refine wo_lenS rfl rfl rfl ?_ | refine wo_len0 rfl rfl rfl ?_)
   | refine wo_store rfl rfl rfl rfl rfl rfl rfl (Nat.le_of_ble_eq_true rfl) rfl rfl ?_
   | refine wo_box _ (by conv => lhs; whnf) (by rfl) rfl rfl ?_
   | refine wo_build (.agg _) rfl rfl rfl rfl ?_
   | (refine is_call ?_; first | refine wo_callB (e_ref_Id k _) rfl rfl rfl (fun _ => ?_) (fun _ => ?_) | refine wo_call (e_ref_Id k _) rfl rfl rfl ?_ | refine wo_callB (e_ref_In (k + 1) _ _ _) rfl rfl rfl (fun _ => ?_) (fun _ => ?_) | refine wo_call (e_ref_In (k + 1) _ _ _) rfl rfl rfl ?_ | refine wo_callB (e_ref_run k _ _) rfl rfl rfl (fun _ => ?_) (fun _ => ?_) | refine wo_call (e_ref_run k _ _) rfl rfl rfl ?_))
  all_goals (refine ⟨Or.inr rfl, _, rfl, ?_⟩; show AV.bool _ = AV.bool _; congr 1; symm; simp only [cmpP, inR_iff, inR_f, runP_iff, runP_f] at *)
  all_goals first
    | (refine decide_eq_true (chkP_k5.2 ?_); omega)
    | (refine decide_eq_false (fun hh => ?_); rw [chkP_k5] at hh; omega)

theorem chkP_k6 {i p s f n o g : Int} {x : List UInt8} : chkP ⟨6, i, p, s, f, n, o, g, x⟩ ↔ ((0 ≤ n ∧ n ≤ 65535) ∧ (0 ≤ g ∧ g ≤ 4294967295) ∧ i = 0 ∧ p = 0 ∧ s = 0 ∧ f = 0 ∧ o = 0 ∧ x.length = 0) := by
  rw [chkP_iff]
  constructor
  · intro h
    unfold rightD at h
    rcases h with h | h | h | h | h | h
    · exact absurd (show (6 : Int) = 1 from h.1) (by decide)
    · exact absurd (show (6 : Int) = 2 from h.1) (by decide)
    · exact absurd (show (6 : Int) = 3 from h.1) (by decide)
    · exact absurd (show (6 : Int) = 4 from h.1) (by decide)
    · exact absurd (show (6 : Int) = 5 from h.1) (by decide)
    · exact h.2
  · intro h
    exact .inr (.inr (.inr (.inr (.inr (⟨rfl, h⟩)))))

theorem e_ref_Command6 (k : Nat) (t fl : Bool) (sz : Nat) (i p s f n o g : Int) (x : List UInt8) (hl : x.length < 1000000) : FnV (acall B xf gf (k + 3)) n_ref01_Command [Cmd.av t fl sz ⟨6, i, p, s, f, n, o, g, x⟩] (.bool (decide (chkP ⟨6, i, p, s, f, n, o, g, x⟩))) := by
  refine fn_of B_ref01_Command rfl ?_
  unfold ref01_Command Cmd.av
  repeat' (first
   | refine wo_nil ?_
   | refine w_seq ?_
   | refine w_region ?_
   | refine w_ret ?_
   | refine w_skip ?_
   | refine w_exit ?_
   | refine w_block ?_
   | refine w_true rfl ?_
   | refine w_false rfl ?_
   | refine wo_n rfl ?_
   | refine wo_nn rfl ?_
   | refine wo_lenG (n := x.length) rfl (by simp) rfl rfl ?_
   | refine wo_rem (a := (x.length : Int)) rfl rfl (by omega) (by omega) rfl rfl ?_
   | refine wo_quo (a := (x.length : Int)) rfl rfl (by omega) (by omega) rfl rfl ?_
   | refine wo_mv _ (by conv => lhs; whnf) rfl rfl ?_
   | refine wo_faddr rfl rfl rfl ?_
   | (refine is_load ?_; first | refine wo_load _ rfl rfl rfl (Nat.le_of_ble_eq_true rfl) (by conv => lhs; whnf) rfl rfl ?_ | refine wo_loadI _ rfl (Nat.le_of_ble_eq_true rfl) (by conv => lhs; whnf) rfl rfl ?_)
   | (refine is_bin ?_; first | refine wo_cmpT rfl rfl rfl (by first | (simp only [cmpP]; done) | (simp only [cmpP]; omega)) rfl rfl ?_ | refine wo_cmpF rfl rfl rfl (by first | (simp only [cmpP]; done) | (simp only [cmpP]; omega)) rfl rfl ?_ | refine wo_cmp rfl rfl rfl rfl rfl (fun _ => ?_) (fun _ => ?_) | refine wo_rem rfl rfl (by omega) (by omega) rfl rfl ?_ | refine wo_bin (.int _ _) rfl rfl rfl ?_)
   | (refine is_pick ?_; first | refine wo_pickT _ rfl (by conv => lhs; whnf) rfl rfl ?_ | refine wo_pickF _ rfl (by conv => lhs; whnf) rfl rfl ?_)
   | (refine is_un ?_; first | refine wo_notT rfl rfl rfl ?_ | refine wo_notF rfl rfl rfl ?_)
   | (refine is_len ?_; first | refine wo_len rfl rfl rfl ?_ | refine wo_lenS rfl rfl rfl ?_ | refine wo_len0 rfl rfl rfl ?_)
   | refine wo_store rfl rfl rfl rfl rfl rfl rfl (Nat.le_of_ble_eq_true rfl) rfl rfl ?_
   | refine wo_box _ (by conv => lhs; whnf) (by rfl) rfl rfl ?_
   | refine wo_build (.agg _) rfl rfl rfl rfl ?_
   | (refine is_call ?_; first | refine wo_callB (e_ref_Id k _) rfl rfl rfl (fun _ => ?_) (fun _ => ?_) | refine wo_call (e_ref_Id k _) rfl rfl rfl ?_ | refine wo_callB (e_ref_In (k + 1) _ _ _) rfl rfl rfl (fun _ => ?_) (fun _ => ?_) | refine wo_call (e_ref_In (k + 1) _ _ _) rfl rfl rfl ?_ | refine wo_callB (e_ref_run k _ _) rfl rfl rfl (fun _ => ?_) (fun _ => ?_) | refine wo_call (e_ref_run k _ _) rfl rfl rfl ?_))
  all_goals (refine ⟨Or.inr rfl, _, rfl, ?_⟩; show AV.bool _ = AV.bool _; congr 1; symm; simp only [cmpP, inR_iff, inR_f, runP_iff, runP_f] at *)
  all_goals first
    | (refine decide_eq_true (chkP_k6.2 ?_); omega)
    | (refine decide_eq_false (fun hh => ?_); rw [chkP_k6] at hh; omega)

end Go.Proofs.Ytoanjhiojpgioaa
