/- What the functions answer: is a command right? -/
import Derived.Test.YtoanjhiojpgioaaS2
set_option linter.unusedSimpArgs false
set_option linter.unusedVariables false
set_option maxRecDepth 10000
set_option maxHeartbeats 16000000
namespace Go.Proofs.Ytoanjhiojpgioaa
open Go.AI
attribute [local irreducible] aops aexec acall aiter aop W WO

variable {xf : ExtF} {gf : CallF}

theorem e_frame_Sectors (k : Nat) (t f : Bool) (s : Nat) (c : Cmd) (hl : c.data.length < 1000000) : FnV (acall B xf gf (k + 1)) n_frame_Sectors [c.av t f s] (.int .i64 (c.data.length / 64 : Int)) := by
  refine fn_of B_frame_Sectors rfl ?_
  unfold frame_Sectors Cmd.av
  repeat' (first
   | refine wo_nil ?_
   | refine w_seq ?_
   | refine w_region ?_
   | refine w_ret ?_
   | refine w_skip ?_
   | refine w_exit ?_
   | refine w_block ?_
   | refine w_true rfl ?_
   | refine w_false rfl ?_
   | refine wo_n rfl ?_
   | refine wo_nn rfl ?_
   | refine wo_mv _ (by conv => lhs; whnf) rfl rfl ?_
   | refine wo_faddr rfl rfl rfl ?_
   | (refine is_load ?_; first | refine wo_load _ rfl rfl rfl (Nat.le_of_ble_eq_true rfl) (by conv => lhs; whnf) rfl rfl ?_ | refine wo_loadI _ rfl (Nat.le_of_ble_eq_true rfl) (by conv => lhs; whnf) rfl rfl ?_)
   | refine wo_bin (.int _ _) rfl rfl rfl ?_
   | (refine is_len ?_; first | refine wo_len rfl rfl rfl ?_ | refine wo_lenS rfl rfl rfl ?_ | refine wo_len0 rfl rfl rfl ?_)
   | refine wo_box _ (by conv => lhs; whnf) (by rfl) rfl rfl ?_)
  refine ⟨Or.inr rfl, _, rfl, ?_⟩
  show AV.int _ _ = AV.int _ _
  congr 1
  exact IntWalk.i64_quo _ _ (by omega)

def writesP (c : Cmd) : Bool := decide (c.data.length % 64 = 0) && inR (c.data.length / 64 : Int) 1 8 && withinP c.frm (c.data.length / 64 : Int) 512

theorem e_frame_writes (k : Nat) (t f : Bool) (s : Nat) (c : Cmd) (hl : c.data.length < 1000000) : FnV (acall B xf gf (k + 2)) n_frame_writes [c.av t f s] (.bool (writesP c)) := by
  refine fn_of B_frame_writes rfl ?_
  unfold frame_writes
  repeat' (first
   | refine wo_nil ?_
   | refine w_seq ?_
   | refine w_region ?_
   | refine w_ret ?_
   | refine w_skip ?_
   | refine w_exit ?_
   | refine w_block ?_
   | refine w_true rfl ?_
   | refine w_false rfl ?_
   | refine wo_n rfl ?_
   | refine wo_nn rfl ?_
   | refine wo_mv _ (by conv => lhs; whnf) rfl rfl ?_
   | refine wo_faddr rfl rfl rfl ?_
   | (refine is_load ?_; first | refine wo_load _ rfl rfl rfl (Nat.le_of_ble_eq_true rfl) (by conv => lhs; whnf) rfl rfl ?_ | refine wo_loadI _ rfl (Nat.le_of_ble_eq_true rfl) (by conv => lhs; whnf) rfl rfl ?_)
   | (refine is_bin ?_; first | refine wo_cmpT rfl rfl rfl (by first | (simp only [cmpP]; done) | (simp only [cmpP]; omega)) rfl rfl ?_ | refine wo_cmpF rfl rfl rfl (by first | (simp only [cmpP]; done) | (simp only [cmpP]; omega)) rfl rfl ?_ | refine wo_cmp rfl rfl rfl rfl rfl (fun _ => ?_) (fun _ => ?_) | refine wo_rem rfl rfl (by omega) (by omega) rfl rfl ?_ | refine wo_bin (.int _ _) rfl rfl rfl ?_)
   | (refine is_pick ?_; first | refine wo_pickT _ rfl (by conv => lhs; whnf) rfl rfl ?_ | refine wo_pickF _ rfl (by conv => lhs; whnf) rfl rfl ?_)
   | (refine is_len ?_; first | refine wo_len rfl rfl rfl ?_ | refine wo_lenS rfl rfl rfl ?_ | refine wo_len0 rfl rfl rfl ?_)
   | refine wo_box _ (by conv => lhs; whnf) (by rfl) rfl rfl ?_
   | (refine is_call ?_; first | refine wo_callB (e_frame_Sectors k t f s c hl) rfl rfl rfl (fun _ => ?_) (fun _ => ?_) | refine wo_call (e_frame_Sectors k t f s c hl) rfl rfl rfl ?_ | refine wo_callB (e_frame_in k _ _ _) rfl rfl rfl (fun _ => ?_) (fun _ => ?_) | refine wo_call (e_frame_in k _ _ _) rfl rfl rfl ?_ | refine wo_callB (e_frame_Within k _ _) rfl rfl rfl (fun _ => ?_) (fun _ => ?_) | refine wo_call (e_frame_Within k _ _) rfl rfl rfl ?_))
  all_goals (refine ⟨Or.inr rfl, _, rfl, ?_⟩; show AV.bool _ = AV.bool _; congr 1)
  · rename_i h1 h2 h3
    have hm : c.data.length % 64 = 0 := by
      have h4 : ((c.data.length % 64 : Nat) : Int) = 0 := h1
      omega
    unfold writesP inR
    rw [h2, h3]; simp [hm]
  · rename_i h1 h2 h3
    unfold writesP inR
    rw [h3]; simp
  · rename_i h1 h2
    unfold writesP inR
    rw [h2]; simp
  · rename_i h1
    have hm : ¬ c.data.length % 64 = 0 := fun h => h1 (by show ((c.data.length % 64 : Nat) : Int) = 0; omega)
    simp [writesP, hm]

end Go.Proofs.Ytoanjhiojpgioaa
