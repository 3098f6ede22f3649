/- What the functions answer: commands without what their kind has. -/
import Derived.Test.YtnakicjkolpacaaDoorS3
set_option linter.unusedSimpArgs false
set_option linter.unusedVariables false
set_option maxRecDepth 10000
set_option maxHeartbeats 16000000
namespace Go.Proofs.YtnakicjkolpacaaDoor
open Go.AI
attribute [local irreducible] aops aexec acall aiter aop W WO

variable {xf : ExtF} {gf : CallF}

/-- A command without what its kind has; is that right? -/
def bareP (c : Cmd) : Cmd × Bool :=
  if c.kind = 1 then ({ c with id := 0, parent := 0, size := 0, count := 0 }, parentsP c.id c.parent && inR c.size 0 512 && inR c.count 0 65535)
  else if c.kind = 2 then ({ c with frm := 0, data := [] }, writesP c)
  else if c.kind = 3 then ({ c with frm := 0, count := 0 }, decide (0 < c.count) && withinP c.frm c.count 512)
  else if c.kind = 4 then ({ c with frm := 0, count := 0, source := 0 }, decide (0 < c.count) && withinP c.frm c.count 512 && withinP c.source c.count 512)
  else if c.kind = 5 then ({ c with size := 0 }, inR c.size 0 512)
  else if c.kind = 6 then ({ c with count := 0, digest := 0 }, inR c.count 0 65535 && inR c.digest 0 4294967295)
  else (c, false)

/-- With no data at all. -/
def Cmd.avN (c : Cmd) : AV := .agg [.int .i64 c.kind, .int .i64 c.id, .int .i64 c.parent, .int .i64 c.size, .int .i64 c.frm, .int .i64 c.count, .int .i64 c.source, .int .i64 c.digest, .islc false true 0 []]

theorem e_frame_bare (k : Nat) (t f : Bool) (s : Nat) (c : Cmd) (hl : c.data.length < 1000000) (ht : t = false ∨ c.kind = 2) :
    FnV (acall B xf gf (k + 3)) n_frame_bare [c.av t f s] (.tup [if c.kind = 2 then (bareP c).1.avN else (bareP c).1.av false f s, .bool (bareP c).2]) := by
  refine fn_of B_frame_bare rfl ?_
  unfold frame_bare
  repeat' (first
   | refine q_s ?_ | refine q_z ?_ | refine q_b ?_ | refine q_n ?_ | refine q_nn ?_ | refine q_mv ?_ | refine q_faddr ?_ | refine q_load ?_ | refine q_loadI ?_ | refine q_loadR ?_
    | refine q_cmp ?_ | refine q_cmp2 (fun _ => ?_) (fun _ => ?_) | refine q_pickT ?_ | refine q_pickF ?_ | refine q_store ?_ | refine q_storeR ?_ | refine q_box ?_
    | refine q_callB (e_record_Parents k _ _) (fun _ => ?_) (fun _ => ?_) | refine q_call (e_record_Parents k _ _) ?_ | refine q_callB (e_frame_in (k + 1) _ _ _) (fun _ => ?_) (fun _ => ?_)
    | refine q_call (e_frame_in (k + 1) _ _ _) ?_ | refine q_callB (e_frame_writes k t f s c hl) (fun _ => ?_) (fun _ => ?_) | refine q_call (e_frame_writes k t f s c hl) ?_
    | refine q_callB (e_frame_Within (k + 1) _ _) (fun _ => ?_) (fun _ => ?_) | refine q_call (e_frame_Within (k + 1) _ _) ?_)
  all_goals refine ⟨Or.inr rfl, _, rfl, ?_⟩
  all_goals simp only [cmpP] at *
  all_goals first
      | (have h2 : c.kind = 2 := by omega
         show AV.tup [AV.agg [AV.int _ _, AV.int _ _, AV.int _ _, AV.int _ _, AV.int _ _, AV.int _ _, AV.int _ _, AV.int _ _, AV.islc _ _ _ _], AV.bool _] = _
         simp [bareP, Cmd.avN, inR, *]
         done)
      | (obtain rfl : t = false := by rcases ht with h | h; exact h; exfalso; omega
         show AV.tup [AV.agg [AV.int _ _, AV.int _ _, AV.int _ _, AV.int _ _, AV.int _ _, AV.int _ _, AV.int _ _, AV.int _ _, AV.islc _ _ _ _], AV.bool _] = _
         simp [bareP, Cmd.av, inR, *]
         done)

end Go.Proofs.YtnakicjkolpacaaDoor
