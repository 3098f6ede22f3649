/- What the functions answer: is a command right? -/
import Derived.Test.YtnakicjkolpacaaDoorS2
set_option linter.unusedSimpArgs false
set_option linter.unusedVariables false
set_option maxRecDepth 10000
set_option maxHeartbeats 16000000
namespace Go.Proofs.YtnakicjkolpacaaDoor
open Go.AI
attribute [local irreducible] aops aexec acall aiter aop W WO

variable {xf : ExtF} {gf : CallF}

theorem e_frame_Sectors (k : Nat) (t f : Bool) (s : Nat) (c : Cmd) (hl : c.data.length < 1000000) : FnV (acall B xf gf (k + 1)) n_frame_Sectors [c.av t f s] (.int .i64 (c.data.length / 64 : Int)) := by
  refine fn_of B_frame_Sectors rfl ?_
  unfold frame_Sectors Cmd.av
  repeat' (first
   | refine q_s ?_ | refine q_z ?_ | refine q_mv ?_ | refine q_faddr ?_ | refine q_load ?_ | refine q_loadI ?_ | refine q_loadR ?_ | refine q_quo ?_ | refine q_bin ?_ | refine q_len ?_
    | refine q_lenS ?_ | refine q_len0 ?_ | refine q_box ?_)
  exact ⟨Or.inr rfl, _, rfl, rfl⟩

def writesP (c : Cmd) : Bool := decide (c.data.length % 64 = 0) && inR (c.data.length / 64 : Int) 1 8 && withinP c.frm (c.data.length / 64 : Int) 512

theorem e_frame_writes (k : Nat) (t f : Bool) (s : Nat) (c : Cmd) (hl : c.data.length < 1000000) : FnV (acall B xf gf (k + 2)) n_frame_writes [c.av t f s] (.bool (writesP c)) := by
  refine fn_of B_frame_writes rfl ?_
  unfold frame_writes
  repeat' (first
   | refine q_s ?_ | refine q_z ?_ | refine q_n ?_ | refine q_nn ?_ | refine q_mv ?_ | refine q_faddr ?_ | refine q_load ?_ | refine q_loadI ?_ | refine q_loadR ?_ | refine q_cmp ?_
    | refine q_cmp2 (fun _ => ?_) (fun _ => ?_) | refine q_rem ?_ | refine q_bin ?_ | refine q_pickT ?_ | refine q_pickF ?_ | refine q_len ?_ | refine q_lenS ?_ | refine q_len0 ?_
    | refine q_box ?_ | refine q_callB (e_frame_Sectors k t f s c hl) (fun _ => ?_) (fun _ => ?_) | refine q_call (e_frame_Sectors k t f s c hl) ?_
    | refine q_callB (e_frame_in k _ _ _) (fun _ => ?_) (fun _ => ?_) | refine q_call (e_frame_in k _ _ _) ?_ | refine q_callB (e_frame_Within k _ _) (fun _ => ?_) (fun _ => ?_)
    | refine q_call (e_frame_Within k _ _) ?_)
  all_goals (refine ⟨Or.inr rfl, _, rfl, ?_⟩; show AV.bool _ = AV.bool _; congr 1)
  · rename_i h1 h2 h3
    have hm : c.data.length % 64 = 0 := by
      have h4 : ((c.data.length % 64 : Nat) : Int) = 0 := h1
      omega
    unfold writesP inR
    rw [h2, h3]; simp [hm]
  · rename_i h1 h2 h3
    unfold writesP inR
    rw [h3]; simp
  · rename_i h1 h2
    unfold writesP inR
    rw [h2]; simp
  · rename_i h1
    have hm : ¬ c.data.length % 64 = 0 := fun h => h1 (by show ((c.data.length % 64 : Nat) : Int) = 0; omega)
    simp [writesP, hm]

end Go.Proofs.YtnakicjkolpacaaDoor
