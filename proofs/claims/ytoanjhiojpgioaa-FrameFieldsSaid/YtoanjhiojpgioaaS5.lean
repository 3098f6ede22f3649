/- What the functions answer: is a command right? -/
import Derived.Test.YtoanjhiojpgioaaS4
set_option linter.unusedSimpArgs false
set_option linter.unusedVariables false
set_option maxRecDepth 10000
set_option maxHeartbeats 16000000
namespace Go.Proofs.Ytoanjhiojpgioaa
open Go.AI
attribute [local irreducible] aops aexec acall aiter aop W WO

variable {xf : ExtF} {gf : CallF}

theorem e_frame_bare2 (k : Nat) (t f : Bool) (s : Nat) (c : Cmd) (hl : c.data.length < 1000000) (h : c.kind = 2) :
    FnV (acall B xf gf (k + 3)) n_frame_bare [c.av t f s] (.tup [(bareP c).1.avN, .bool (bareP c).2]) := by
  have := e_frame_bare (xf := xf) (gf := gf) k t f s c hl (.inr h)
  rwa [if_pos h] at this
theorem e_frame_bareO (k : Nat) (f : Bool) (s : Nat) (c : Cmd) (hl : c.data.length < 1000000) (h : c.kind ≠ 2) :
    FnV (acall B xf gf (k + 3)) n_frame_bare [c.av false f s] (.tup [(bareP c).1.av false f s, .bool (bareP c).2]) := by
  have := e_frame_bare (xf := xf) (gf := gf) k false f s c hl (.inl rfl)
  rwa [if_neg h] at this

/-- Is a command right? -/
def chkP (c : Cmd) : Prop := (bareP c).2 = true ∧ (bareP c).1.id = 0 ∧ (bareP c).1.parent = 0 ∧ (bareP c).1.size = 0 ∧ (bareP c).1.frm = 0 ∧ (bareP c).1.count = 0 ∧ (bareP c).1.source = 0 ∧ (bareP c).1.digest = 0 ∧ (bareP c).1.data.length = 0
instance (c : Cmd) : Decidable (chkP c) := by unfold chkP; infer_instance

theorem e_frame_CheckO (k : Nat) (f : Bool) (s : Nat) (c : Cmd) (hl : c.data.length < 1000000) (h : c.kind ≠ 2) : FnV (acall B xf gf (k + 4)) n_frame_Check [c.av false f s] (.int .i64 (if chkP c then 0 else 1)) := by
  have hb := e_frame_bareO (xf := xf) (gf := gf) k f s c hl h
  obtain ⟨r, ok, hr, hok⟩ : ∃ r ok, (bareP c).1 = r ∧ (bareP c).2 = ok := ⟨_, _, rfl, rfl⟩
  rw [hr, hok] at hb
  unfold Cmd.av at hb
  refine fn_of B_frame_Check rfl ?_
  unfold frame_Check
  cases ok
  repeat' (first
    | refine wo_nil ?_
    | refine w_seq ?_
    | refine w_region ?_
    | refine w_ret ?_
    | refine w_skip ?_
    | refine w_exit ?_
    | refine w_block ?_
    | refine w_true rfl ?_
    | refine w_false rfl ?_
    | refine wo_n rfl ?_
    | refine wo_nn rfl ?_
    | (refine is_mv ?_; first
        | refine wo_mv (.int _ _) rfl rfl rfl ?_
        | refine wo_mv (.bool true) rfl rfl rfl ?_
        | refine wo_mv (.bool false) rfl rfl rfl ?_
        | refine wo_mv (.islc _ _ _ _) rfl rfl rfl ?_
        | refine wo_mv (.agg _) rfl rfl rfl ?_
        | refine wo_mv (.ptr _ _ _ _ _ _) rfl rfl rfl ?_
        | refine wo_mv (.slc _ _ _ _ _ _ _) rfl rfl rfl ?_
        | refine wo_mv (.iptr _ _) rfl rfl rfl ?_
        | refine wo_mv (.tup _) rfl rfl rfl ?_
        | refine wo_mv (.undef) rfl rfl rfl ?_
        | refine wo_mv (.nilp) rfl rfl rfl ?_
        | refine wo_mv (.fn _ _) rfl rfl rfl ?_
        | refine wo_mv (.str _) rfl rfl rfl ?_
        | refine wo_mv (.nilf) rfl rfl rfl ?_)
    | (refine is_faddr ?_; first
        | refine wo_faddr rfl rfl rfl ?_)
    | (refine is_load ?_; first
        | refine wo_load (.int _ _) rfl rfl rfl (Nat.le_of_ble_eq_true rfl) rfl rfl rfl ?_
        | refine wo_load (.bool true) rfl rfl rfl (Nat.le_of_ble_eq_true rfl) rfl rfl rfl ?_
        | refine wo_load (.bool false) rfl rfl rfl (Nat.le_of_ble_eq_true rfl) rfl rfl rfl ?_
        | refine wo_load (.islc _ _ _ _) rfl rfl rfl (Nat.le_of_ble_eq_true rfl) rfl rfl rfl ?_
        | refine wo_load (.agg _) rfl rfl rfl (Nat.le_of_ble_eq_true rfl) rfl rfl rfl ?_
        | refine wo_load (.slc _ _ _ _ _ _ _) rfl rfl rfl (Nat.le_of_ble_eq_true rfl) rfl rfl rfl ?_
        | refine wo_loadI (.int _ _) rfl (Nat.le_of_ble_eq_true rfl) rfl rfl rfl ?_
        | refine wo_loadI (.bool true) rfl (Nat.le_of_ble_eq_true rfl) rfl rfl rfl ?_
        | refine wo_loadI (.bool false) rfl (Nat.le_of_ble_eq_true rfl) rfl rfl rfl ?_
        | refine wo_loadI (.islc _ _ _ _) rfl (Nat.le_of_ble_eq_true rfl) rfl rfl rfl ?_
        | refine wo_loadI (.agg _) rfl (Nat.le_of_ble_eq_true rfl) rfl rfl rfl ?_
        | refine wo_loadI (.slc _ _ _ _ _ _ _) rfl (Nat.le_of_ble_eq_true rfl) rfl rfl rfl ?_)
    | (refine is_bin ?_; first
        | refine wo_cmpT rfl rfl rfl (by first | (simp only [cmpP]; done) | (simp only [cmpP]; omega)) rfl rfl ?_
        | refine wo_cmpF rfl rfl rfl (by first | (simp only [cmpP]; done) | (simp only [cmpP]; omega)) rfl rfl ?_
        | refine wo_cmp rfl rfl rfl rfl rfl (fun _ => ?_) (fun _ => ?_)
        | refine wo_add rfl rfl (by omega) rfl rfl ?_
        | refine wo_sub rfl rfl (by omega) rfl rfl ?_
        | refine wo_mul rfl rfl (by omega) rfl rfl ?_
        | refine wo_rem rfl rfl (by omega) (by omega) rfl rfl ?_
        | refine wo_bin (.int _ _) rfl rfl rfl ?_)
    | (refine is_pick ?_; first
        | refine wo_pickT (.int _ _) rfl rfl rfl rfl ?_
        | refine wo_pickF (.int _ _) rfl rfl rfl rfl ?_
        | refine wo_pickT (.bool true) rfl rfl rfl rfl ?_
        | refine wo_pickF (.bool true) rfl rfl rfl rfl ?_
        | refine wo_pickT (.bool false) rfl rfl rfl rfl ?_
        | refine wo_pickF (.bool false) rfl rfl rfl rfl ?_
        | refine wo_pickT (.islc _ _ _ _) rfl rfl rfl rfl ?_
        | refine wo_pickF (.islc _ _ _ _) rfl rfl rfl rfl ?_
        | refine wo_pickT (.agg _) rfl rfl rfl rfl ?_
        | refine wo_pickF (.agg _) rfl rfl rfl rfl ?_
        | refine wo_pickT (.ptr _ _ _ _ _ _) rfl rfl rfl rfl ?_
        | refine wo_pickF (.ptr _ _ _ _ _ _) rfl rfl rfl rfl ?_
        | refine wo_pickT (.slc _ _ _ _ _ _ _) rfl rfl rfl rfl ?_
        | refine wo_pickF (.slc _ _ _ _ _ _ _) rfl rfl rfl rfl ?_
        | refine wo_pickT (.iptr _ _) rfl rfl rfl rfl ?_
        | refine wo_pickF (.iptr _ _) rfl rfl rfl rfl ?_
        | refine wo_pickT (.tup _) rfl rfl rfl rfl ?_
        | refine wo_pickF (.tup _) rfl rfl rfl rfl ?_
        | refine wo_pickT (.undef) rfl rfl rfl rfl ?_
        | refine wo_pickF (.undef) rfl rfl rfl rfl ?_
        | refine wo_pickT (.nilp) rfl rfl rfl rfl ?_
        | refine wo_pickF (.nilp) rfl rfl rfl rfl ?_
        | refine wo_pickT (.fn _ _) rfl rfl rfl rfl ?_
        | refine wo_pickF (.fn _ _) rfl rfl rfl rfl ?_
        | refine wo_pickT (.str _) rfl rfl rfl rfl ?_
        | refine wo_pickF (.str _) rfl rfl rfl rfl ?_
        | refine wo_pickT (.nilf) rfl rfl rfl rfl ?_
        | refine wo_pickF (.nilf) rfl rfl rfl rfl ?_)
    | (refine is_un ?_; first
        | refine wo_notT rfl rfl rfl ?_
        | refine wo_notF rfl rfl rfl ?_)
    | (refine is_len ?_; first
        | refine wo_len rfl rfl rfl ?_
        | refine wo_lenS rfl rfl rfl ?_
        | refine wo_len0 rfl rfl rfl ?_)
    | (refine is_extract ?_; first
        | refine wo_extract (.int _ _) rfl rfl rfl rfl ?_
        | refine wo_extract (.bool true) rfl rfl rfl rfl ?_
        | refine wo_extract (.bool false) rfl rfl rfl rfl ?_
        | refine wo_extract (.islc _ _ _ _) rfl rfl rfl rfl ?_
        | refine wo_extract (.agg _) rfl rfl rfl rfl ?_
        | refine wo_extract (.ptr _ _ _ _ _ _) rfl rfl rfl rfl ?_
        | refine wo_extract (.slc _ _ _ _ _ _ _) rfl rfl rfl rfl ?_
        | refine wo_extract (.iptr _ _) rfl rfl rfl rfl ?_
        | refine wo_extract (.tup _) rfl rfl rfl rfl ?_
        | refine wo_extract (.undef) rfl rfl rfl rfl ?_
        | refine wo_extract (.nilp) rfl rfl rfl rfl ?_
        | refine wo_extract (.fn _ _) rfl rfl rfl rfl ?_
        | refine wo_extract (.str _) rfl rfl rfl rfl ?_
        | refine wo_extract (.nilf) rfl rfl rfl rfl ?_)
    | (refine is_store ?_; first
        | refine wo_store rfl rfl rfl rfl rfl rfl rfl (Nat.le_of_ble_eq_true rfl) rfl rfl ?_)
    | (refine is_box ?_; first
        | refine wo_box (.int _ _) rfl rfl rfl rfl ?_
        | refine wo_box (.bool true) rfl rfl rfl rfl ?_
        | refine wo_box (.bool false) rfl rfl rfl rfl ?_
        | refine wo_box (.islc _ _ _ _) rfl rfl rfl rfl ?_
        | refine wo_box (.agg _) rfl rfl rfl rfl ?_
        | refine wo_box (.ptr _ _ _ _ _ _) rfl rfl rfl rfl ?_
        | refine wo_box (.slc _ _ _ _ _ _ _) rfl rfl rfl rfl ?_
        | refine wo_box (.iptr _ _) rfl rfl rfl rfl ?_
        | refine wo_box (.tup _) rfl rfl rfl rfl ?_
        | refine wo_box (.undef) rfl rfl rfl rfl ?_
        | refine wo_box (.nilp) rfl rfl rfl rfl ?_
        | refine wo_box (.fn _ _) rfl rfl rfl rfl ?_
        | refine wo_box (.str _) rfl rfl rfl rfl ?_
        | refine wo_box (.nilf) rfl rfl rfl rfl ?_)
    | (refine is_eqb ?_; first
        | refine wo_eqb true rfl rfl rfl rfl rfl ?_
        | refine wo_eqb false rfl rfl rfl rfl rfl ?_)
    | (refine is_cvi ?_; first
        | refine wo_to64 rfl (by omega) rfl rfl ?_
        | refine wo_tou64 rfl (by omega) rfl rfl ?_
        | refine wo_cvu rfl rfl rfl ?_
        | refine wo_cvi rfl rfl rfl ?_)
    | (refine is_iaddr ?_; first
        | refine wo_at rfl rfl (by omega) (by omega) rfl rfl ?_)
    | (refine is_field ?_; first
        | refine wo_field (.int _ _) rfl (Nat.le_of_ble_eq_true rfl) rfl rfl rfl ?_
        | refine wo_field (.bool true) rfl (Nat.le_of_ble_eq_true rfl) rfl rfl rfl ?_
        | refine wo_field (.bool false) rfl (Nat.le_of_ble_eq_true rfl) rfl rfl rfl ?_
        | refine wo_field (.islc _ _ _ _) rfl (Nat.le_of_ble_eq_true rfl) rfl rfl rfl ?_
        | refine wo_field (.agg _) rfl (Nat.le_of_ble_eq_true rfl) rfl rfl rfl ?_
        | refine wo_field (.slc _ _ _ _ _ _ _) rfl (Nat.le_of_ble_eq_true rfl) rfl rfl rfl ?_)
    | (refine is_nilrow ?_; first
        | refine wo_nilrow rfl rfl ?_)
    | (refine is_build ?_; first
        | refine wo_build (.agg _) rfl rfl rfl rfl ?_)
    | (refine is_buildS ?_; first
        | refine wo_buildS rfl rfl rfl rfl ?_)
    | (refine is_call ?_; first
        | refine wo_callB (hb) rfl rfl rfl (fun _ => ?_) (fun _ => ?_)
        | refine wo_call (hb) rfl rfl rfl ?_))
  all_goals (refine ⟨Or.inr rfl, _, rfl, ?_⟩; show AV.int _ _ = AV.int _ _; congr 1; clear hb; simp only [cmpP, chkP, hr, hok] at *)
  all_goals first
    | (rw [if_pos (by simp only [true_and]; omega)]; done)
    | (rw [if_neg (by simp only [true_and, Bool.false_eq_true, false_and, not_false_eq_true] <;> omega)]; done)

theorem e_frame_Check2 (k : Nat) (t f : Bool) (s : Nat) (c : Cmd) (hl : c.data.length < 1000000) (h : c.kind = 2) : FnV (acall B xf gf (k + 4)) n_frame_Check [c.av t f s] (.int .i64 (if chkP c then 0 else 1)) := by
  have hb := e_frame_bare2 (xf := xf) (gf := gf) k t f s c hl h
  obtain ⟨r, ok, hr, hok⟩ : ∃ r ok, (bareP c).1 = r ∧ (bareP c).2 = ok := ⟨_, _, rfl, rfl⟩
  rw [hr, hok] at hb
  unfold Cmd.av Cmd.avN at hb
  have hd : (bareP c).1.data = [] := by simp [bareP, h]
  refine fn_of B_frame_Check rfl ?_
  unfold frame_Check
  cases ok
  repeat' (first
    | refine wo_nil ?_
    | refine w_seq ?_
    | refine w_region ?_
    | refine w_ret ?_
    | refine w_skip ?_
    | refine w_exit ?_
    | refine w_block ?_
    | refine w_true rfl ?_
    | refine w_false rfl ?_
    | refine wo_n rfl ?_
    | refine wo_nn rfl ?_
    | (refine is_mv ?_; first
        | refine wo_mv (.int _ _) rfl rfl rfl ?_
        | refine wo_mv (.bool true) rfl rfl rfl ?_
        | refine wo_mv (.bool false) rfl rfl rfl ?_
        | refine wo_mv (.islc _ _ _ _) rfl rfl rfl ?_
        | refine wo_mv (.agg _) rfl rfl rfl ?_
        | refine wo_mv (.ptr _ _ _ _ _ _) rfl rfl rfl ?_
        | refine wo_mv (.slc _ _ _ _ _ _ _) rfl rfl rfl ?_
        | refine wo_mv (.iptr _ _) rfl rfl rfl ?_
        | refine wo_mv (.tup _) rfl rfl rfl ?_
        | refine wo_mv (.undef) rfl rfl rfl ?_
        | refine wo_mv (.nilp) rfl rfl rfl ?_
        | refine wo_mv (.fn _ _) rfl rfl rfl ?_
        | refine wo_mv (.str _) rfl rfl rfl ?_
        | refine wo_mv (.nilf) rfl rfl rfl ?_)
    | (refine is_faddr ?_; first
        | refine wo_faddr rfl rfl rfl ?_)
    | (refine is_load ?_; first
        | refine wo_load (.int _ _) rfl rfl rfl (Nat.le_of_ble_eq_true rfl) rfl rfl rfl ?_
        | refine wo_load (.bool true) rfl rfl rfl (Nat.le_of_ble_eq_true rfl) rfl rfl rfl ?_
        | refine wo_load (.bool false) rfl rfl rfl (Nat.le_of_ble_eq_true rfl) rfl rfl rfl ?_
        | refine wo_load (.islc _ _ _ _) rfl rfl rfl (Nat.le_of_ble_eq_true rfl) rfl rfl rfl ?_
        | refine wo_load (.agg _) rfl rfl rfl (Nat.le_of_ble_eq_true rfl) rfl rfl rfl ?_
        | refine wo_load (.slc _ _ _ _ _ _ _) rfl rfl rfl (Nat.le_of_ble_eq_true rfl) rfl rfl rfl ?_
        | refine wo_loadI (.int _ _) rfl (Nat.le_of_ble_eq_true rfl) rfl rfl rfl ?_
        | refine wo_loadI (.bool true) rfl (Nat.le_of_ble_eq_true rfl) rfl rfl rfl ?_
        | refine wo_loadI (.bool false) rfl (Nat.le_of_ble_eq_true rfl) rfl rfl rfl ?_
        | refine wo_loadI (.islc _ _ _ _) rfl (Nat.le_of_ble_eq_true rfl) rfl rfl rfl ?_
        | refine wo_loadI (.agg _) rfl (Nat.le_of_ble_eq_true rfl) rfl rfl rfl ?_
        | refine wo_loadI (.slc _ _ _ _ _ _ _) rfl (Nat.le_of_ble_eq_true rfl) rfl rfl rfl ?_)
    | (refine is_bin ?_; first
        | refine wo_cmpT rfl rfl rfl (by first | (simp only [cmpP]; done) | (simp only [cmpP]; omega)) rfl rfl ?_
        | refine wo_cmpF rfl rfl rfl (by first | (simp only [cmpP]; done) | (simp only [cmpP]; omega)) rfl rfl ?_
        | refine wo_cmp rfl rfl rfl rfl rfl (fun _ => ?_) (fun _ => ?_)
        | refine wo_add rfl rfl (by omega) rfl rfl ?_
        | refine wo_sub rfl rfl (by omega) rfl rfl ?_
        | refine wo_mul rfl rfl (by omega) rfl rfl ?_
        | refine wo_rem rfl rfl (by omega) (by omega) rfl rfl ?_
        | refine wo_bin (.int _ _) rfl rfl rfl ?_)
    | (refine is_pick ?_; first
        | refine wo_pickT (.int _ _) rfl rfl rfl rfl ?_
        | refine wo_pickF (.int _ _) rfl rfl rfl rfl ?_
        | refine wo_pickT (.bool true) rfl rfl rfl rfl ?_
        | refine wo_pickF (.bool true) rfl rfl rfl rfl ?_
        | refine wo_pickT (.bool false) rfl rfl rfl rfl ?_
        | refine wo_pickF (.bool false) rfl rfl rfl rfl ?_
        | refine wo_pickT (.islc _ _ _ _) rfl rfl rfl rfl ?_
        | refine wo_pickF (.islc _ _ _ _) rfl rfl rfl rfl ?_
        | refine wo_pickT (.agg _) rfl rfl rfl rfl ?_
        | refine wo_pickF (.agg _) rfl rfl rfl rfl ?_
        | refine wo_pickT (.ptr _ _ _ _ _ _) rfl rfl rfl rfl ?_
        | refine wo_pickF (.ptr _ _ _ _ _ _) rfl rfl rfl rfl ?_
        | refine wo_pickT (.slc _ _ _ _ _ _ _) rfl rfl rfl rfl ?_
        | refine wo_pickF (.slc _ _ _ _ _ _ _) rfl rfl rfl rfl ?_
        | refine wo_pickT (.iptr _ _) rfl rfl rfl rfl ?_
        | refine wo_pickF (.iptr _ _) rfl rfl rfl rfl ?_
        | refine wo_pickT (.tup _) rfl rfl rfl rfl ?_
        | refine wo_pickF (.tup _) rfl rfl rfl rfl ?_
        | refine wo_pickT (.undef) rfl rfl rfl rfl ?_
        | refine wo_pickF (.undef) rfl rfl rfl rfl ?_
        | refine wo_pickT (.nilp) rfl rfl rfl rfl ?_
        | refine wo_pickF (.nilp) rfl rfl rfl rfl ?_
        | refine wo_pickT (.fn _ _) rfl rfl rfl rfl ?_
        | refine wo_pickF (.fn _ _) rfl rfl rfl rfl ?_
        | refine wo_pickT (.str _) rfl rfl rfl rfl ?_
        | refine wo_pickF (.str _) rfl rfl rfl rfl ?_
        | refine wo_pickT (.nilf) rfl rfl rfl rfl ?_
        | refine wo_pickF (.nilf) rfl rfl rfl rfl ?_)
    | (refine is_un ?_; first
        | refine wo_notT rfl rfl rfl ?_
        | refine wo_notF rfl rfl rfl ?_)
    | (refine is_len ?_; first
        | refine wo_len rfl rfl rfl ?_
        | refine wo_lenS rfl rfl rfl ?_
        | refine wo_len0 rfl rfl rfl ?_)
    | (refine is_extract ?_; first
        | refine wo_extract (.int _ _) rfl rfl rfl rfl ?_
        | refine wo_extract (.bool true) rfl rfl rfl rfl ?_
        | refine wo_extract (.bool false) rfl rfl rfl rfl ?_
        | refine wo_extract (.islc _ _ _ _) rfl rfl rfl rfl ?_
        | refine wo_extract (.agg _) rfl rfl rfl rfl ?_
        | refine wo_extract (.ptr _ _ _ _ _ _) rfl rfl rfl rfl ?_
        | refine wo_extract (.slc _ _ _ _ _ _ _) rfl rfl rfl rfl ?_
        | refine wo_extract (.iptr _ _) rfl rfl rfl rfl ?_
        | refine wo_extract (.tup _) rfl rfl rfl rfl ?_
        | refine wo_extract (.undef) rfl rfl rfl rfl ?_
        | refine wo_extract (.nilp) rfl rfl rfl rfl ?_
        | refine wo_extract (.fn _ _) rfl rfl rfl rfl ?_
        | refine wo_extract (.str _) rfl rfl rfl rfl ?_
        | refine wo_extract (.nilf) rfl rfl rfl rfl ?_)
    | (refine is_store ?_; first
        | refine wo_store rfl rfl rfl rfl rfl rfl rfl (Nat.le_of_ble_eq_true rfl) rfl rfl ?_)
    | (refine is_box ?_; first
        | refine wo_box (.int _ _) rfl rfl rfl rfl ?_
        | refine wo_box (.bool true) rfl rfl rfl rfl ?_
        | refine wo_box (.bool false) rfl rfl rfl rfl ?_
        | refine wo_box (.islc _ _ _ _) rfl rfl rfl rfl ?_
        | refine wo_box (.agg _) rfl rfl rfl rfl ?_
        | refine wo_box (.ptr _ _ _ _ _ _) rfl rfl rfl rfl ?_
        | refine wo_box (.slc _ _ _ _ _ _ _) rfl rfl rfl rfl ?_
        | refine wo_box (.iptr _ _) rfl rfl rfl rfl ?_
        | refine wo_box (.tup _) rfl rfl rfl rfl ?_
        | refine wo_box (.undef) rfl rfl rfl rfl ?_
        | refine wo_box (.nilp) rfl rfl rfl rfl ?_
        | refine wo_box (.fn _ _) rfl rfl rfl rfl ?_
        | refine wo_box (.str _) rfl rfl rfl rfl ?_
        | refine wo_box (.nilf) rfl rfl rfl rfl ?_)
    | (refine is_eqb ?_; first
        | refine wo_eqb true rfl rfl rfl rfl rfl ?_
        | refine wo_eqb false rfl rfl rfl rfl rfl ?_)
    | (refine is_cvi ?_; first
        | refine wo_to64 rfl (by omega) rfl rfl ?_
        | refine wo_tou64 rfl (by omega) rfl rfl ?_
        | refine wo_cvu rfl rfl rfl ?_
        | refine wo_cvi rfl rfl rfl ?_)
    | (refine is_iaddr ?_; first
        | refine wo_at rfl rfl (by omega) (by omega) rfl rfl ?_)
    | (refine is_field ?_; first
        | refine wo_field (.int _ _) rfl (Nat.le_of_ble_eq_true rfl) rfl rfl rfl ?_
        | refine wo_field (.bool true) rfl (Nat.le_of_ble_eq_true rfl) rfl rfl rfl ?_
        | refine wo_field (.bool false) rfl (Nat.le_of_ble_eq_true rfl) rfl rfl rfl ?_
        | refine wo_field (.islc _ _ _ _) rfl (Nat.le_of_ble_eq_true rfl) rfl rfl rfl ?_
        | refine wo_field (.agg _) rfl (Nat.le_of_ble_eq_true rfl) rfl rfl rfl ?_
        | refine wo_field (.slc _ _ _ _ _ _ _) rfl (Nat.le_of_ble_eq_true rfl) rfl rfl rfl ?_)
    | (refine is_nilrow ?_; first
        | refine wo_nilrow rfl rfl ?_)
    | (refine is_build ?_; first
        | refine wo_build (.agg _) rfl rfl rfl rfl ?_)
    | (refine is_buildS ?_; first
        | refine wo_buildS rfl rfl rfl rfl ?_)
    | (refine is_call ?_; first
        | refine wo_callB (hb) rfl rfl rfl (fun _ => ?_) (fun _ => ?_)
        | refine wo_call (hb) rfl rfl rfl ?_))
  all_goals (refine ⟨Or.inr rfl, _, rfl, ?_⟩; show AV.int _ _ = AV.int _ _; congr 1; clear hb; simp only [cmpP, chkP, hr, hok, hd, List.length_nil] at *)
  all_goals first
    | (rw [if_pos (by simp only [true_and]; omega)]; done)
    | (rw [if_neg (by simp only [true_and, Bool.false_eq_true, false_and, not_false_eq_true] <;> omega)]; done)
    | (rw [if_pos (by exact ⟨trivial, by omega, by omega, by omega, by omega, by omega, by omega, by omega, by rw [hd]; rfl⟩)]; done)

end Go.Proofs.Ytoanjhiojpgioaa
