/- What the functions answer: is a command right? -/
import Derived.Test.YtoanjhiojpgioaaS2
set_option linter.unusedSimpArgs false
set_option linter.unusedVariables false
set_option maxRecDepth 10000
set_option maxHeartbeats 16000000
namespace Go.Proofs.Ytoanjhiojpgioaa
open Go.AI
attribute [local irreducible] aops aexec acall aiter aop W WO

variable {xf : ExtF} {gf : CallF}

theorem e_frame_Sectors (k : Nat) (t f : Bool) (s : Nat) (c : Cmd) (hl : c.data.length < 1000000) : FnV (acall B xf gf (k + 1)) n_frame_Sectors [c.av t f s] (.int .i64 (c.data.length / 64 : Int)) := by
  refine fn_of B_frame_Sectors rfl ?_
  unfold frame_Sectors Cmd.av
  repeat' (first
    | refine wo_nil ?_
    | refine w_seq ?_
    | refine w_region ?_
    | refine w_ret ?_
    | refine w_skip ?_
    | refine w_exit ?_
    | refine w_block ?_
    | refine w_true rfl ?_
    | refine w_false rfl ?_
    | refine wo_n rfl ?_
    | refine wo_nn rfl ?_
    | (refine is_mv ?_; first
        | refine wo_mv (.int _ _) rfl rfl rfl ?_
        | refine wo_mv (.bool true) rfl rfl rfl ?_
        | refine wo_mv (.bool false) rfl rfl rfl ?_
        | refine wo_mv (.islc _ _ _ _) rfl rfl rfl ?_
        | refine wo_mv (.agg _) rfl rfl rfl ?_
        | refine wo_mv (.ptr _ _ _ _ _ _) rfl rfl rfl ?_
        | refine wo_mv (.slc _ _ _ _ _ _ _) rfl rfl rfl ?_
        | refine wo_mv (.iptr _ _) rfl rfl rfl ?_
        | refine wo_mv (.tup _) rfl rfl rfl ?_
        | refine wo_mv (.undef) rfl rfl rfl ?_
        | refine wo_mv (.nilp) rfl rfl rfl ?_
        | refine wo_mv (.fn _ _) rfl rfl rfl ?_
        | refine wo_mv (.str _) rfl rfl rfl ?_
        | refine wo_mv (.nilf) rfl rfl rfl ?_)
    | (refine is_faddr ?_; first
        | refine wo_faddr rfl rfl rfl ?_)
    | (refine is_load ?_; first
        | refine wo_load (.int _ _) rfl rfl rfl (Nat.le_of_ble_eq_true rfl) rfl rfl rfl ?_
        | refine wo_load (.bool true) rfl rfl rfl (Nat.le_of_ble_eq_true rfl) rfl rfl rfl ?_
        | refine wo_load (.bool false) rfl rfl rfl (Nat.le_of_ble_eq_true rfl) rfl rfl rfl ?_
        | refine wo_load (.islc _ _ _ _) rfl rfl rfl (Nat.le_of_ble_eq_true rfl) rfl rfl rfl ?_
        | refine wo_load (.agg _) rfl rfl rfl (Nat.le_of_ble_eq_true rfl) rfl rfl rfl ?_
        | refine wo_load (.slc _ _ _ _ _ _ _) rfl rfl rfl (Nat.le_of_ble_eq_true rfl) rfl rfl rfl ?_
        | refine wo_loadI (.int _ _) rfl (Nat.le_of_ble_eq_true rfl) rfl rfl rfl ?_
        | refine wo_loadI (.bool true) rfl (Nat.le_of_ble_eq_true rfl) rfl rfl rfl ?_
        | refine wo_loadI (.bool false) rfl (Nat.le_of_ble_eq_true rfl) rfl rfl rfl ?_
        | refine wo_loadI (.islc _ _ _ _) rfl (Nat.le_of_ble_eq_true rfl) rfl rfl rfl ?_
        | refine wo_loadI (.agg _) rfl (Nat.le_of_ble_eq_true rfl) rfl rfl rfl ?_
        | refine wo_loadI (.slc _ _ _ _ _ _ _) rfl (Nat.le_of_ble_eq_true rfl) rfl rfl rfl ?_)
    | (refine is_bin ?_; first
        | refine wo_cmpT rfl rfl rfl (by first | (simp only [cmpP]; done) | (simp only [cmpP]; omega)) rfl rfl ?_
        | refine wo_cmpF rfl rfl rfl (by first | (simp only [cmpP]; done) | (simp only [cmpP]; omega)) rfl rfl ?_
        | refine wo_cmp rfl rfl rfl rfl rfl (fun _ => ?_) (fun _ => ?_)
        | refine wo_add rfl rfl (by omega) rfl rfl ?_
        | refine wo_sub rfl rfl (by omega) rfl rfl ?_
        | refine wo_mul rfl rfl (by omega) rfl rfl ?_
        | refine wo_rem rfl rfl (by omega) (by omega) rfl rfl ?_
        | refine wo_bin (.int _ _) rfl rfl rfl ?_)
    | (refine is_pick ?_; first
        | refine wo_pickT (.int _ _) rfl rfl rfl rfl ?_
        | refine wo_pickF (.int _ _) rfl rfl rfl rfl ?_
        | refine wo_pickT (.bool true) rfl rfl rfl rfl ?_
        | refine wo_pickF (.bool true) rfl rfl rfl rfl ?_
        | refine wo_pickT (.bool false) rfl rfl rfl rfl ?_
        | refine wo_pickF (.bool false) rfl rfl rfl rfl ?_
        | refine wo_pickT (.islc _ _ _ _) rfl rfl rfl rfl ?_
        | refine wo_pickF (.islc _ _ _ _) rfl rfl rfl rfl ?_
        | refine wo_pickT (.agg _) rfl rfl rfl rfl ?_
        | refine wo_pickF (.agg _) rfl rfl rfl rfl ?_
        | refine wo_pickT (.ptr _ _ _ _ _ _) rfl rfl rfl rfl ?_
        | refine wo_pickF (.ptr _ _ _ _ _ _) rfl rfl rfl rfl ?_
        | refine wo_pickT (.slc _ _ _ _ _ _ _) rfl rfl rfl rfl ?_
        | refine wo_pickF (.slc _ _ _ _ _ _ _) rfl rfl rfl rfl ?_
        | refine wo_pickT (.iptr _ _) rfl rfl rfl rfl ?_
        | refine wo_pickF (.iptr _ _) rfl rfl rfl rfl ?_
        | refine wo_pickT (.tup _) rfl rfl rfl rfl ?_
        | refine wo_pickF (.tup _) rfl rfl rfl rfl ?_
        | refine wo_pickT (.undef) rfl rfl rfl rfl ?_
        | refine wo_pickF (.undef) rfl rfl rfl rfl ?_
        | refine wo_pickT (.nilp) rfl rfl rfl rfl ?_
        | refine wo_pickF (.nilp) rfl rfl rfl rfl ?_
        | refine wo_pickT (.fn _ _) rfl rfl rfl rfl ?_
        | refine wo_pickF (.fn _ _) rfl rfl rfl rfl ?_
        | refine wo_pickT (.str _) rfl rfl rfl rfl ?_
        | refine wo_pickF (.str _) rfl rfl rfl rfl ?_
        | refine wo_pickT (.nilf) rfl rfl rfl rfl ?_
        | refine wo_pickF (.nilf) rfl rfl rfl rfl ?_)
    | (refine is_un ?_; first
        | refine wo_notT rfl rfl rfl ?_
        | refine wo_notF rfl rfl rfl ?_)
    | (refine is_len ?_; first
        | refine wo_len rfl rfl rfl ?_
        | refine wo_lenS rfl rfl rfl ?_
        | refine wo_len0 rfl rfl rfl ?_)
    | (refine is_extract ?_; first
        | refine wo_extract (.int _ _) rfl rfl rfl rfl ?_
        | refine wo_extract (.bool true) rfl rfl rfl rfl ?_
        | refine wo_extract (.bool false) rfl rfl rfl rfl ?_
        | refine wo_extract (.islc _ _ _ _) rfl rfl rfl rfl ?_
        | refine wo_extract (.agg _) rfl rfl rfl rfl ?_
        | refine wo_extract (.ptr _ _ _ _ _ _) rfl rfl rfl rfl ?_
        | refine wo_extract (.slc _ _ _ _ _ _ _) rfl rfl rfl rfl ?_
        | refine wo_extract (.iptr _ _) rfl rfl rfl rfl ?_
        | refine wo_extract (.tup _) rfl rfl rfl rfl ?_
        | refine wo_extract (.undef) rfl rfl rfl rfl ?_
        | refine wo_extract (.nilp) rfl rfl rfl rfl ?_
        | refine wo_extract (.fn _ _) rfl rfl rfl rfl ?_
        | refine wo_extract (.str _) rfl rfl rfl rfl ?_
        | refine wo_extract (.nilf) rfl rfl rfl rfl ?_)
    | (refine is_store ?_; first
        | refine wo_store rfl rfl rfl rfl rfl rfl rfl (Nat.le_of_ble_eq_true rfl) rfl rfl ?_)
    | (refine is_box ?_; first
        | refine wo_box (.int _ _) rfl rfl rfl rfl ?_
        | refine wo_box (.bool true) rfl rfl rfl rfl ?_
        | refine wo_box (.bool false) rfl rfl rfl rfl ?_
        | refine wo_box (.islc _ _ _ _) rfl rfl rfl rfl ?_
        | refine wo_box (.agg _) rfl rfl rfl rfl ?_
        | refine wo_box (.ptr _ _ _ _ _ _) rfl rfl rfl rfl ?_
        | refine wo_box (.slc _ _ _ _ _ _ _) rfl rfl rfl rfl ?_
        | refine wo_box (.iptr _ _) rfl rfl rfl rfl ?_
        | refine wo_box (.tup _) rfl rfl rfl rfl ?_
        | refine wo_box (.undef) rfl rfl rfl rfl ?_
        | refine wo_box (.nilp) rfl rfl rfl rfl ?_
        | refine wo_box (.fn _ _) rfl rfl rfl rfl ?_
        | refine wo_box (.str _) rfl rfl rfl rfl ?_
        | refine wo_box (.nilf) rfl rfl rfl rfl ?_)
    | (refine is_eqb ?_; first
        | refine wo_eqb true rfl rfl rfl rfl rfl ?_
        | refine wo_eqb false rfl rfl rfl rfl rfl ?_)
    | (refine is_cvi ?_; first
        | refine wo_to64 rfl (by omega) rfl rfl ?_
        | refine wo_tou64 rfl (by omega) rfl rfl ?_
        | refine wo_cvu rfl rfl rfl ?_
        | refine wo_cvi rfl rfl rfl ?_)
    | (refine is_iaddr ?_; first
        | refine wo_at rfl rfl (by omega) (by omega) rfl rfl ?_)
    | (refine is_field ?_; first
        | refine wo_field (.int _ _) rfl (Nat.le_of_ble_eq_true rfl) rfl rfl rfl ?_
        | refine wo_field (.bool true) rfl (Nat.le_of_ble_eq_true rfl) rfl rfl rfl ?_
        | refine wo_field (.bool false) rfl (Nat.le_of_ble_eq_true rfl) rfl rfl rfl ?_
        | refine wo_field (.islc _ _ _ _) rfl (Nat.le_of_ble_eq_true rfl) rfl rfl rfl ?_
        | refine wo_field (.agg _) rfl (Nat.le_of_ble_eq_true rfl) rfl rfl rfl ?_
        | refine wo_field (.slc _ _ _ _ _ _ _) rfl (Nat.le_of_ble_eq_true rfl) rfl rfl rfl ?_)
    | (refine is_nilrow ?_; first
        | refine wo_nilrow rfl rfl ?_)
    | (refine is_build ?_; first
        | refine wo_build (.agg _) rfl rfl rfl rfl ?_)
    | (refine is_buildS ?_; first
        | refine wo_buildS rfl rfl rfl rfl ?_))
  refine ⟨Or.inr rfl, _, rfl, ?_⟩
  show AV.int _ _ = AV.int _ _
  congr 1
  exact IntWalk.i64_quo _ _ (by omega)

def writesP (c : Cmd) : Bool := decide (c.data.length % 64 = 0) && inR (c.data.length / 64 : Int) 1 8 && withinP c.frm (c.data.length / 64 : Int) 512

theorem e_frame_writes (k : Nat) (t f : Bool) (s : Nat) (c : Cmd) (hl : c.data.length < 1000000) : FnV (acall B xf gf (k + 2)) n_frame_writes [c.av t f s] (.bool (writesP c)) := by
  refine fn_of B_frame_writes rfl ?_
  unfold frame_writes
  repeat' (first
    | refine wo_nil ?_
    | refine w_seq ?_
    | refine w_region ?_
    | refine w_ret ?_
    | refine w_skip ?_
    | refine w_exit ?_
    | refine w_block ?_
    | refine w_true rfl ?_
    | refine w_false rfl ?_
    | refine wo_n rfl ?_
    | refine wo_nn rfl ?_
    | (refine is_mv ?_; first
        | refine wo_mv (.int _ _) rfl rfl rfl ?_
        | refine wo_mv (.bool true) rfl rfl rfl ?_
        | refine wo_mv (.bool false) rfl rfl rfl ?_
        | refine wo_mv (.islc _ _ _ _) rfl rfl rfl ?_
        | refine wo_mv (.agg _) rfl rfl rfl ?_
        | refine wo_mv (.ptr _ _ _ _ _ _) rfl rfl rfl ?_
        | refine wo_mv (.slc _ _ _ _ _ _ _) rfl rfl rfl ?_
        | refine wo_mv (.iptr _ _) rfl rfl rfl ?_
        | refine wo_mv (.tup _) rfl rfl rfl ?_
        | refine wo_mv (.undef) rfl rfl rfl ?_
        | refine wo_mv (.nilp) rfl rfl rfl ?_
        | refine wo_mv (.fn _ _) rfl rfl rfl ?_
        | refine wo_mv (.str _) rfl rfl rfl ?_
        | refine wo_mv (.nilf) rfl rfl rfl ?_)
    | (refine is_faddr ?_; first
        | refine wo_faddr rfl rfl rfl ?_)
    | (refine is_load ?_; first
        | refine wo_load (.int _ _) rfl rfl rfl (Nat.le_of_ble_eq_true rfl) rfl rfl rfl ?_
        | refine wo_load (.bool true) rfl rfl rfl (Nat.le_of_ble_eq_true rfl) rfl rfl rfl ?_
        | refine wo_load (.bool false) rfl rfl rfl (Nat.le_of_ble_eq_true rfl) rfl rfl rfl ?_
        | refine wo_load (.islc _ _ _ _) rfl rfl rfl (Nat.le_of_ble_eq_true rfl) rfl rfl rfl ?_
        | refine wo_load (.agg _) rfl rfl rfl (Nat.le_of_ble_eq_true rfl) rfl rfl rfl ?_
        | refine wo_load (.slc _ _ _ _ _ _ _) rfl rfl rfl (Nat.le_of_ble_eq_true rfl) rfl rfl rfl ?_
        | refine wo_loadI (.int _ _) rfl (Nat.le_of_ble_eq_true rfl) rfl rfl rfl ?_
        | refine wo_loadI (.bool true) rfl (Nat.le_of_ble_eq_true rfl) rfl rfl rfl ?_
        | refine wo_loadI (.bool false) rfl (Nat.le_of_ble_eq_true rfl) rfl rfl rfl ?_
        | refine wo_loadI (.islc _ _ _ _) rfl (Nat.le_of_ble_eq_true rfl) rfl rfl rfl ?_
        | refine wo_loadI (.agg _) rfl (Nat.le_of_ble_eq_true rfl) rfl rfl rfl ?_
        | refine wo_loadI (.slc _ _ _ _ _ _ _) rfl (Nat.le_of_ble_eq_true rfl) rfl rfl rfl ?_)
    | (refine is_bin ?_; first
        | refine wo_cmpT rfl rfl rfl (by first | (simp only [cmpP]; done) | (simp only [cmpP]; omega)) rfl rfl ?_
        | refine wo_cmpF rfl rfl rfl (by first | (simp only [cmpP]; done) | (simp only [cmpP]; omega)) rfl rfl ?_
        | refine wo_cmp rfl rfl rfl rfl rfl (fun _ => ?_) (fun _ => ?_)
        | refine wo_add rfl rfl (by omega) rfl rfl ?_
        | refine wo_sub rfl rfl (by omega) rfl rfl ?_
        | refine wo_mul rfl rfl (by omega) rfl rfl ?_
        | refine wo_rem rfl rfl (by omega) (by omega) rfl rfl ?_
        | refine wo_bin (.int _ _) rfl rfl rfl ?_)
    | (refine is_pick ?_; first
        | refine wo_pickT (.int _ _) rfl rfl rfl rfl ?_
        | refine wo_pickF (.int _ _) rfl rfl rfl rfl ?_
        | refine wo_pickT (.bool true) rfl rfl rfl rfl ?_
        | refine wo_pickF (.bool true) rfl rfl rfl rfl ?_
        | refine wo_pickT (.bool false) rfl rfl rfl rfl ?_
        | refine wo_pickF (.bool false) rfl rfl rfl rfl ?_
        | refine wo_pickT (.islc _ _ _ _) rfl rfl rfl rfl ?_
        | refine wo_pickF (.islc _ _ _ _) rfl rfl rfl rfl ?_
        | refine wo_pickT (.agg _) rfl rfl rfl rfl ?_
        | refine wo_pickF (.agg _) rfl rfl rfl rfl ?_
        | refine wo_pickT (.ptr _ _ _ _ _ _) rfl rfl rfl rfl ?_
        | refine wo_pickF (.ptr _ _ _ _ _ _) rfl rfl rfl rfl ?_
        | refine wo_pickT (.slc _ _ _ _ _ _ _) rfl rfl rfl rfl ?_
        | refine wo_pickF (.slc _ _ _ _ _ _ _) rfl rfl rfl rfl ?_
        | refine wo_pickT (.iptr _ _) rfl rfl rfl rfl ?_
        | refine wo_pickF (.iptr _ _) rfl rfl rfl rfl ?_
        | refine wo_pickT (.tup _) rfl rfl rfl rfl ?_
        | refine wo_pickF (.tup _) rfl rfl rfl rfl ?_
        | refine wo_pickT (.undef) rfl rfl rfl rfl ?_
        | refine wo_pickF (.undef) rfl rfl rfl rfl ?_
        | refine wo_pickT (.nilp) rfl rfl rfl rfl ?_
        | refine wo_pickF (.nilp) rfl rfl rfl rfl ?_
        | refine wo_pickT (.fn _ _) rfl rfl rfl rfl ?_
        | refine wo_pickF (.fn _ _) rfl rfl rfl rfl ?_
        | refine wo_pickT (.str _) rfl rfl rfl rfl ?_
        | refine wo_pickF (.str _) rfl rfl rfl rfl ?_
        | refine wo_pickT (.nilf) rfl rfl rfl rfl ?_
        | refine wo_pickF (.nilf) rfl rfl rfl rfl ?_)
    | (refine is_un ?_; first
        | refine wo_notT rfl rfl rfl ?_
        | refine wo_notF rfl rfl rfl ?_)
    | (refine is_len ?_; first
        | refine wo_len rfl rfl rfl ?_
        | refine wo_lenS rfl rfl rfl ?_
        | refine wo_len0 rfl rfl rfl ?_)
    | (refine is_extract ?_; first
        | refine wo_extract (.int _ _) rfl rfl rfl rfl ?_
        | refine wo_extract (.bool true) rfl rfl rfl rfl ?_
        | refine wo_extract (.bool false) rfl rfl rfl rfl ?_
        | refine wo_extract (.islc _ _ _ _) rfl rfl rfl rfl ?_
        | refine wo_extract (.agg _) rfl rfl rfl rfl ?_
        | refine wo_extract (.ptr _ _ _ _ _ _) rfl rfl rfl rfl ?_
        | refine wo_extract (.slc _ _ _ _ _ _ _) rfl rfl rfl rfl ?_
        | refine wo_extract (.iptr _ _) rfl rfl rfl rfl ?_
        | refine wo_extract (.tup _) rfl rfl rfl rfl ?_
        | refine wo_extract (.undef) rfl rfl rfl rfl ?_
        | refine wo_extract (.nilp) rfl rfl rfl rfl ?_
        | refine wo_extract (.fn _ _) rfl rfl rfl rfl ?_
        | refine wo_extract (.str _) rfl rfl rfl rfl ?_
        | refine wo_extract (.nilf) rfl rfl rfl rfl ?_)
    | (refine is_store ?_; first
        | refine wo_store rfl rfl rfl rfl rfl rfl rfl (Nat.le_of_ble_eq_true rfl) rfl rfl ?_)
    | (refine is_box ?_; first
        | refine wo_box (.int _ _) rfl rfl rfl rfl ?_
        | refine wo_box (.bool true) rfl rfl rfl rfl ?_
        | refine wo_box (.bool false) rfl rfl rfl rfl ?_
        | refine wo_box (.islc _ _ _ _) rfl rfl rfl rfl ?_
        | refine wo_box (.agg _) rfl rfl rfl rfl ?_
        | refine wo_box (.ptr _ _ _ _ _ _) rfl rfl rfl rfl ?_
        | refine wo_box (.slc _ _ _ _ _ _ _) rfl rfl rfl rfl ?_
        | refine wo_box (.iptr _ _) rfl rfl rfl rfl ?_
        | refine wo_box (.tup _) rfl rfl rfl rfl ?_
        | refine wo_box (.undef) rfl rfl rfl rfl ?_
        | refine wo_box (.nilp) rfl rfl rfl rfl ?_
        | refine wo_box (.fn _ _) rfl rfl rfl rfl ?_
        | refine wo_box (.str _) rfl rfl rfl rfl ?_
        | refine wo_box (.nilf) rfl rfl rfl rfl ?_)
    | (refine is_eqb ?_; first
        | refine wo_eqb true rfl rfl rfl rfl rfl ?_
        | refine wo_eqb false rfl rfl rfl rfl rfl ?_)
    | (refine is_cvi ?_; first
        | refine wo_to64 rfl (by omega) rfl rfl ?_
        | refine wo_tou64 rfl (by omega) rfl rfl ?_
        | refine wo_cvu rfl rfl rfl ?_
        | refine wo_cvi rfl rfl rfl ?_)
    | (refine is_iaddr ?_; first
        | refine wo_at rfl rfl (by omega) (by omega) rfl rfl ?_)
    | (refine is_field ?_; first
        | refine wo_field (.int _ _) rfl (Nat.le_of_ble_eq_true rfl) rfl rfl rfl ?_
        | refine wo_field (.bool true) rfl (Nat.le_of_ble_eq_true rfl) rfl rfl rfl ?_
        | refine wo_field (.bool false) rfl (Nat.le_of_ble_eq_true rfl) rfl rfl rfl ?_
        | refine wo_field (.islc _ _ _ _) rfl (Nat.le_of_ble_eq_true rfl) rfl rfl rfl ?_
        | refine wo_field (.agg _) rfl (Nat.le_of_ble_eq_true rfl) rfl rfl rfl ?_
        | refine wo_field (.slc _ _ _ _ _ _ _) rfl (Nat.le_of_ble_eq_true rfl) rfl rfl rfl ?_)
    | (refine is_nilrow ?_; first
        | refine wo_nilrow rfl rfl ?_)
    | (refine is_build ?_; first
        | refine wo_build (.agg _) rfl rfl rfl rfl ?_)
    | (refine is_buildS ?_; first
        | refine wo_buildS rfl rfl rfl rfl ?_)
    | (refine is_call ?_; first
        | refine wo_callB (e_frame_Sectors k t f s c hl) rfl rfl rfl (fun _ => ?_) (fun _ => ?_)
        | refine wo_call (e_frame_Sectors k t f s c hl) rfl rfl rfl ?_
        | refine wo_callB (e_frame_in k _ _ _) rfl rfl rfl (fun _ => ?_) (fun _ => ?_)
        | refine wo_call (e_frame_in k _ _ _) rfl rfl rfl ?_
        | refine wo_callB (e_frame_Within k _ _) rfl rfl rfl (fun _ => ?_) (fun _ => ?_)
        | refine wo_call (e_frame_Within k _ _) rfl rfl rfl ?_))
  all_goals (refine ⟨Or.inr rfl, _, rfl, ?_⟩; show AV.bool _ = AV.bool _; congr 1)
  · rename_i h1 h2 h3
    have hm : c.data.length % 64 = 0 := by
      have h4 : ((c.data.length % 64 : Nat) : Int) = 0 := h1
      omega
    unfold writesP inR
    rw [h2, h3]; simp [hm]
  · rename_i h1 h2 h3
    unfold writesP inR
    rw [h3]; simp
  · rename_i h1 h2
    unfold writesP inR
    rw [h2]; simp
  · rename_i h1
    have hm : ¬ c.data.length % 64 = 0 := fun h => h1 (by show ((c.data.length % 64 : Nat) : Int) = 0; omega)
    simp [writesP, hm]

end Go.Proofs.Ytoanjhiojpgioaa
