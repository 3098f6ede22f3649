/- What the functions answer: are bytes, commands alike? -/
import Derived.Test.YtnakicjkolpacaaDoorS2
import Derived.Test.YtnakicjkolpacaaDoorS8c
import Derived.Test.YtnakicjkolpacaaDoorMC
set_option linter.unusedSimpArgs false
set_option linter.unusedVariables false
set_option maxRecDepth 10000
set_option maxHeartbeats 16000000
namespace Go.Proofs.YtnakicjkolpacaaDoor
open Go.AI
attribute [local irreducible] aops aexec acall aiter aop W WO

variable {xf : ExtF} {gf : CallF}

theorem Cmd.ext' {c d : Cmd} (h1 : c.kind = d.kind) (h2 : c.id = d.id) (h3 : c.parent = d.parent) (h4 : c.size = d.size) (h5 : c.frm = d.frm) (h6 : c.count = d.count) (h7 : c.source = d.source) (h8 : c.digest = d.digest) (h9 : c.data = d.data) : c = d := by
  cases c; cases d; simp_all

def Cmd.cells (c : Cmd) : List AV := [.int .i64 c.kind, .int .i64 c.id, .int .i64 c.parent, .int .i64 c.size, .int .i64 c.frm, .int .i64 c.count, .int .i64 c.source, .int .i64 c.digest, .islc false false 1 (BL c.data)]

/-- A number of 64 bits. -/
def i64R (n : Int) : Prop := -9223372036854775808 ≤ n ∧ n ≤ 9223372036854775807
theorem i64R_of {n : Int} (h : (Lit.int .i64 n).wf = true) : i64R n := by
  simp only [Lit.wf, Bool.and_eq_true, decide_eq_true_eq] at h
  exact ⟨h.1, h.2⟩

structure CmdR (c : Cmd) : Prop where
  kind : i64R c.kind
  id : i64R c.id
  parent : i64R c.parent
  size : i64R c.size
  frm : i64R c.frm
  count : i64R c.count
  source : i64R c.source
  digest : i64R c.digest
  data : c.data.length ≤ maxLen

/-- Are commands alike? -/
theorem e_keep_Command (k : Nat) (hk : 1000000 ≤ k) (t f t' f' : Bool) (s s' : Nat) (c d : Cmd) (ha : c.data.length < 1000000) (hb : d.data.length < 1000000) (hs : s = 1 ∨ c.data = []) (hs' : s' = 1 ∨ d.data = []) :
    ∃ r, (r = true ↔ c = d) ∧ FnV (acall B xf gf (k + 2)) n_keep_Command [c.av t f s, d.av t' f' s'] (.bool r) := by
  have hB := e_keep_Bytes (xf := xf) (gf := gf) k hk t f t' f' s s' c.data d.data ha hb hs hs'
  by_cases h : c.kind = d.kind ∧ c.id = d.id ∧ c.parent = d.parent ∧ c.size = d.size ∧ c.frm = d.frm ∧ c.count = d.count ∧ c.source = d.source ∧ c.digest = d.digest
  · obtain ⟨h1, h2, h3, h4, h5, h6, h7, h8⟩ := h
    refine ⟨decide (c.data = d.data), ⟨fun h => Cmd.ext' h1 h2 h3 h4 h5 h6 h7 h8 (of_decide_eq_true h), fun h => decide_eq_true (by rw [h])⟩, ?_⟩
    refine fn_of B_keep_Command rfl ?_
    unfold keep_Command Cmd.av
    repeat' (first
     | refine q_s ?_ | refine q_z ?_ | refine wo_call hB rfl rfl rfl ?_ | refine q_n ?_ | refine q_nn ?_ | refine q_mv ?_ | refine q_faddr ?_ | refine q_load ?_ | refine q_loadI ?_
      | refine q_loadR ?_ | refine q_cmp ?_ | refine q_cmp2 (fun _ => ?_) (fun _ => ?_) | refine q_pickT ?_ | refine q_pickF ?_ | refine q_box ?_)
    exact ⟨Or.inr rfl, _, rfl, rfl⟩
  · refine ⟨false, ⟨fun h => (by cases h), fun he => absurd (by subst he; simp) h⟩, ?_⟩
    refine fn_of B_keep_Command rfl ?_
    unfold keep_Command Cmd.av
    repeat' (first
     | refine q_s ?_ | refine q_z ?_ | refine wo_call hB rfl rfl rfl ?_ | refine q_n ?_ | refine q_nn ?_ | refine q_mv ?_ | refine q_faddr ?_ | refine q_load ?_ | refine q_loadI ?_
      | refine q_loadR ?_ | refine q_cmp ?_ | refine q_cmp2 (fun _ => ?_) (fun _ => ?_) | refine q_pickT ?_ | refine q_pickF ?_ | refine q_box ?_)
    all_goals first
      | exact ⟨Or.inr rfl, _, rfl, rfl⟩
      | (exfalso; simp only [cmpP] at *; apply h; simp only [*, and_self]; done)

end Go.Proofs.YtnakicjkolpacaaDoor
