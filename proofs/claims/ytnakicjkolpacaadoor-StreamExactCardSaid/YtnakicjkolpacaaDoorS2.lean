/- What the functions answer: commands. -/
import Derived.Test.YtnakicjkolpacaaDoorT
import Derived.Test.YtnakicjkolpacaaDoorS1
set_option linter.unusedSimpArgs false
set_option linter.unusedVariables false
set_option maxRecDepth 10000
set_option maxHeartbeats 4000000
namespace Go.Proofs.YtnakicjkolpacaaDoor
open Go.AI
attribute [local irreducible] aops aexec acall aiter aop W WO

variable {xf : ExtF} {gf : CallF}

structure Cmd where
  kind : Int
  id : Int
  parent : Int
  size : Int
  frm : Int
  count : Int
  source : Int
  digest : Int
  data : List UInt8

def Cmd.av (t f : Bool) (s : Nat) (c : Cmd) : AV := .agg [.int .i64 c.kind, .int .i64 c.id, .int .i64 c.parent, .int .i64 c.size, .int .i64 c.frm, .int .i64 c.count, .int .i64 c.source, .int .i64 c.digest, .islc t f s (BL c.data)]

def inR (n lo hi : Int) : Bool := decide (n ≥ lo) && decide (n ≤ hi)
def withinP (frm count of : Int) : Bool := decide (0 ≤ frm ∧ 0 ≤ count ∧ count ≤ of ∧ frm ≤ of - count)
def idP (id : Int) : Bool := decide (1 ≤ id ∧ id ≤ 4611686018427387903)
def parentsP (id parent : Int) : Bool := decide ((1 ≤ id ∧ id ≤ 4611686018427387903) ∧ parent ≠ id ∧ (parent = 0 ∨ (1 ≤ parent ∧ parent ≤ 4611686018427387903)))

theorem e_frame_Within (k : Nat) (a c : Int) : FnV (acall B xf gf (k + 1)) n_frame_Within [.int .i64 a, .int .i64 c, .int .i64 512] (.bool (withinP a c 512)) := by
  refine fn_of B_frame_Within rfl ?_
  unfold frame_Within
  repeat' (first
   | refine q_s ?_ | refine q_z ?_ | refine q_n ?_ | refine q_nn ?_ | refine q_mv ?_ | refine q_cmp ?_ | refine q_cmp2 (fun _ => ?_) (fun _ => ?_) | refine q_sub ?_ | refine q_pickT ?_
    | refine q_pickF ?_)
  all_goals (refine ⟨Or.inr rfl, _, rfl, ?_⟩; show AV.bool _ = _; simp [withinP, cmpP] at *; try omega)

theorem e_ids_Check (k : Nat) (a : Int) : FnV (acall B xf gf (k + 1)) n_ids_Check [.int .i64 a] (.int .i64 (if 1 ≤ a ∧ a ≤ 4611686018427387903 then 0 else 1)) := by
  refine fn_of B_ids_Check rfl ?_
  unfold ids_Check
  repeat' (first
   | refine q_s ?_ | refine q_z ?_ | refine q_b ?_ | refine q_n ?_ | refine q_nn ?_ | refine q_mv ?_ | refine q_cmp ?_ | refine q_cmp2 (fun _ => ?_) (fun _ => ?_) | refine q_pickT ?_
    | refine q_pickF ?_)
  all_goals (refine ⟨Or.inr rfl, _, rfl, ?_⟩; show AV.int _ _ = AV.int _ _; congr 1; first | rw [if_pos (by omega)] | rw [if_neg (by omega)])

theorem e_record_Parents (k : Nat) (a b : Int) : FnV (acall B xf gf (k + 2)) n_record_Parents [.int .i64 a, .int .i64 b] (.bool (parentsP a b)) := by
  refine fn_of B_record_Parents rfl ?_
  unfold record_Parents
  repeat' (first
   | refine q_s ?_ | refine q_z ?_ | refine q_n ?_ | refine q_nn ?_ | refine q_mv ?_ | refine q_cmp ?_ | refine q_cmp2 (fun _ => ?_) (fun _ => ?_) | refine q_pickT ?_ | refine q_pickF ?_
    | refine q_callB (e_ids_Check k a) (fun _ => ?_) (fun _ => ?_) | refine q_call (e_ids_Check k a) ?_ | refine q_callB (e_ids_Check k b) (fun _ => ?_) (fun _ => ?_)
    | refine q_call (e_ids_Check k b) ?_)
  all_goals (refine ⟨Or.inr rfl, _, rfl, ?_⟩; show AV.bool _ = AV.bool _; congr 1; simp only [parentsP, cmpP, ite_eq_left_iff] at *; first | (symm; rw [decide_eq_true_eq]; omega) | (symm; rw [decide_eq_false_iff_not]; omega))

end Go.Proofs.YtnakicjkolpacaaDoor
