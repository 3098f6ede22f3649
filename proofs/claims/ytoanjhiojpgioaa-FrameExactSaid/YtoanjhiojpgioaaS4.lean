/- What the functions answer: commands without what their kind has. -/
import Derived.Test.YtoanjhiojpgioaaS3
set_option linter.unusedSimpArgs false
set_option linter.unusedVariables false
set_option maxRecDepth 10000
set_option maxHeartbeats 16000000
namespace Go.Proofs.Ytoanjhiojpgioaa
open Go.AI
attribute [local irreducible] aops aexec acall aiter aop W WO

variable {xf : ExtF} {gf : CallF}

/-- A command without what its kind has; is that right? -/
def bareP (c : Cmd) : Cmd × Bool :=
  if c.kind = 1 then ({ c with id := 0, parent := 0, size := 0, count := 0 }, parentsP c.id c.parent && inR c.size 0 512 && inR c.count 0 65535)
  else if c.kind = 2 then ({ c with frm := 0, data := [] }, writesP c)
  else if c.kind = 3 then ({ c with frm := 0, count := 0 }, decide (0 < c.count) && withinP c.frm c.count 512)
  else if c.kind = 4 then ({ c with frm := 0, count := 0, source := 0 }, decide (0 < c.count) && withinP c.frm c.count 512 && withinP c.source c.count 512)
  else if c.kind = 5 then ({ c with size := 0 }, inR c.size 0 512)
  else if c.kind = 6 then ({ c with count := 0, digest := 0 }, inR c.count 0 65535 && inR c.digest 0 4294967295)
  else (c, false)

/-- With no data at all. -/
def Cmd.avN (c : Cmd) : AV := .agg [.int .i64 c.kind, .int .i64 c.id, .int .i64 c.parent, .int .i64 c.size, .int .i64 c.frm, .int .i64 c.count, .int .i64 c.source, .int .i64 c.digest, .islc false true 0 []]

theorem e_frame_bare (k : Nat) (t f : Bool) (s : Nat) (c : Cmd) (hl : c.data.length < 1000000) (ht : t = false ∨ c.kind = 2) :
    FnV (acall B xf gf (k + 3)) n_frame_bare [c.av t f s] (.tup [if c.kind = 2 then (bareP c).1.avN else (bareP c).1.av false f s, .bool (bareP c).2]) := by
  refine fn_of B_frame_bare rfl ?_
  unfold frame_bare
  repeat' (first
   | refine wo_nil ?_
   | refine w_seq ?_
   | refine w_region ?_
   | refine w_ret ?_
   | refine w_skip ?_
   | refine w_exit ?_
   | refine w_block ?_
   | refine w_true rfl ?_
   | refine w_false rfl ?_
   | refine wo_n rfl ?_
   | refine wo_nn rfl ?_
   | refine wo_mv _ (by conv => lhs; whnf) rfl rfl ?_
   | refine wo_faddr rfl rfl rfl ?_
   | (refine is_load ?_; first | refine wo_load _ rfl rfl rfl (Nat.le_of_ble_eq_true rfl) (by conv => lhs; whnf) rfl rfl ?_ | refine wo_loadI _ rfl (Nat.le_of_ble_eq_true rfl) (by conv => lhs; whnf) rfl rfl ?_)
   | (refine is_bin ?_; first | refine wo_cmpT rfl rfl rfl (by first | (simp only [cmpP]; done) | (simp only [cmpP]; omega)) rfl rfl ?_ | refine wo_cmpF rfl rfl rfl (by first | (simp only [cmpP]; done) | (simp only [cmpP]; omega)) rfl rfl ?_ | refine wo_cmp rfl rfl rfl rfl rfl (fun _ => ?_) (fun _ => ?_))
   | (refine is_pick ?_; first | refine wo_pickT _ rfl (by conv => lhs; whnf) rfl rfl ?_ | refine wo_pickF _ rfl (by conv => lhs; whnf) rfl rfl ?_)
   | refine wo_store rfl rfl rfl rfl rfl rfl rfl (Nat.le_of_ble_eq_true rfl) rfl rfl ?_
   | refine wo_box _ (by conv => lhs; whnf) (by rfl) rfl rfl ?_
   | (refine is_call ?_; first | refine wo_callB (e_record_Parents k _ _) rfl rfl rfl (fun _ => ?_) (fun _ => ?_) | refine wo_call (e_record_Parents k _ _) rfl rfl rfl ?_ | refine wo_callB (e_frame_in (k + 1) _ _ _) rfl rfl rfl (fun _ => ?_) (fun _ => ?_) | refine wo_call (e_frame_in (k + 1) _ _ _) rfl rfl rfl ?_ | refine wo_callB (e_frame_writes k t f s c hl) rfl rfl rfl (fun _ => ?_) (fun _ => ?_) | refine wo_call (e_frame_writes k t f s c hl) rfl rfl rfl ?_ | refine wo_callB (e_frame_Within (k + 1) _ _) rfl rfl rfl (fun _ => ?_) (fun _ => ?_) | refine wo_call (e_frame_Within (k + 1) _ _) rfl rfl rfl ?_))
  all_goals refine ⟨Or.inr rfl, _, rfl, ?_⟩
  all_goals simp only [cmpP] at *
  all_goals first
      | (have h2 : c.kind = 2 := by omega
         show AV.tup [AV.agg [AV.int _ _, AV.int _ _, AV.int _ _, AV.int _ _, AV.int _ _, AV.int _ _, AV.int _ _, AV.int _ _, AV.islc _ _ _ _], AV.bool _] = _
         simp [bareP, Cmd.avN, inR, *]
         done)
      | (obtain rfl : t = false := by rcases ht with h | h; exact h; exfalso; omega
         show AV.tup [AV.agg [AV.int _ _, AV.int _ _, AV.int _ _, AV.int _ _, AV.int _ _, AV.int _ _, AV.int _ _, AV.int _ _, AV.islc _ _ _ _], AV.bool _] = _
         simp [bareP, Cmd.av, inR, *]
         done)

end Go.Proofs.Ytoanjhiojpgioaa
