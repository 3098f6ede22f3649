/- One operation of a region; a region. -/
import Derived.Test.YtoanjhiojpgioaaA16
set_option linter.unusedSimpArgs false
set_option linter.unusedVariables false
namespace Go.AI

section ops
variable {P : Program} {o : Oper} {a : Act} {C : Ctx} {n : Nat} {T : Tmps} {cf : CallF} {xf : ExtF} {base : Nat} {v : AV} {H' : Heap} {fp : FP}

theorem run_callFunc {f : Nat} (h : HasBody P f) (args : Array Value) (w : World) : (callFunc f args).run P w = .ok (.enter f args) w := by
  obtain ⟨fn, h1, h2, h3⟩ := h
  have h2' : fn.body ≠ none := by intro hb; rw [hb] at h2; simp at h2
  unfold callFunc
  simp [h1, h2', h3]

theorem strip_builtin_nc {h : Hint} {b : Builtin} {ts : List TypeId} {xs : List Operand} {sop : SOp} (hs : stripBuiltin P h b ts xs = some sop) : isCall sop = false := by
  unfold stripBuiltin at hs
  (repeat' split at hs) <;> (first | (simp at hs; done) | (simp at hs; subst hs; rfl) | (simp at hs; obtain ⟨_, _, rfl⟩ := hs; rfl))

theorem strip_call {h : Hint} {sop : SOp} (hs : stripOp P h o = some sop) (hc : isCall sop = true) :
    ∃ c, o.op = .call c ∧ ((∃ m f args, sop = .call m f args ∧ c.callee = .value (.func f) ∧ sargs c.args.toList = some args) ∨
      (∃ m t args, sop = .callv m (.t t) args ∧ c.callee = .value (.tmp t) ∧ sargs c.args.toList = some args)) := by
  unfold stripOp at hs
  split at hs
  case h_22 c ho =>
    refine ⟨c, ho, ?_⟩
    split at hs
    · rw [strip_builtin_nc hs] at hc; simp at hc
    · rename_i f hf
      split at hs
      · split at hs
        · simp only [Option.map_eq_some_iff] at hs
          obtain ⟨args, ha, rfl⟩ := hs
          exact .inl ⟨_, f, args, rfl, hf, ha⟩
        · simp at hs
      · simp at hs
    · rename_i t ht
      simp only [Option.map_eq_some_iff] at hs
      obtain ⟨args, ha, rfl⟩ := hs
      exact .inr ⟨_, t, args, rfl, ht, ha⟩
    · simp at hs
  all_goals
    (repeat' split at hs) <;> first
      | (simp at hs; done)
      | (simp at hs; subst hs; simp [isCall] at hc; done)
      | (simp at hs; obtain ⟨_, _, rfl⟩ := hs; simp [isCall] at hc; done)

/-- What a step does, of whatever kind. -/
theorem oper_upon {h : Hint} {sop : SOp} (hcf : FunOk P cf) (hxf : ExtOk P xf) (hs : stripOp P h o = some sop) (hR : Rel C) (hT : TR C n T a.tmps)
    (hop : aop cf xf base T C.H sop = some (v, H', fp)) {K : Act → World → Prop} {Q : Exit → Act → World → Prop}
    (hK : ∀ v' μ' w', Evo C ⟨C.F, μ', H', w'⟩ → Rel ⟨C.F, μ', H', w'⟩ → VR ⟨C.F, μ', H', w'⟩ true true v v' → K (a.put o.dst v') w') : o.wp P a C.w K Q := by
  have calls : ∀ {m : Mode} {f : Nat} {args : List AV} {vs : Array Value}, acallM cf xf base m f args C.H = some (v, H', fp) → VRT C true true args vs.toList →
      (HasBody P f → (execOp a.eval o).run P C.w = .ok (.enter f vs) C.w) → o.wp P a C.w K Q := by
    intro m f args vs h1 h2 h3
    obtain ⟨hb, hc⟩ := acallM_ok hcf hxf hR h2 h1
    unfold Oper.wp
    rw [h3 hb, Oper.upon_enter]
    refine hc.mono ?_
    rintro e w' ⟨v', μ', rfl, k1, k2, k3⟩
    exact hK v' μ' w' k1 k2 k3
  by_cases hnc : isCall sop = false
  · obtain ⟨v', μ', w', h1, h2, h3, h4⟩ := op_ok hs hnc hR hT hop
    unfold Oper.wp
    rcases h1 with h1 | ⟨h1, rfl⟩
    · rw [h1]; exact hK v' μ' w' h2 h3 h4
    · rw [h1]; exact hK _ μ' w' h2 h3 h4
  · cases sop with
    | call m f args =>
      obtain ⟨c, ho, hh⟩ := strip_call hs rfl
      rcases hh with ⟨m', f', args', he, hc, ha⟩ | ⟨_, _, _, he, _⟩
      · simp only [SOp.call.injEq] at he
        obtain ⟨rfl, rfl, rfl⟩ := he
        simp only [aop] at hop
        refine calls (vs := c.args.map a.eval) hop (by simpa using VRT_args hT ha) fun hb => ?_
        have : execOp a.eval o = callFunc f (c.args.map a.eval) := by
          have ef : a.eval (.func f) = .func (.func f) #[] #[] := rfl
          unfold execOp
          simp [ho, resolve, hc, ef, Deferred.ofValue, invoke]
        rw [this]; exact run_callFunc hb _ _
      · simp at he
    | callv m x args =>
      obtain ⟨c, ho, hh⟩ := strip_call hs rfl
      rcases hh with ⟨_, _, _, he, _⟩ | ⟨m', t, args', he, hc, ha⟩
      · simp at he
      · simp only [SOp.callv.injEq] at he
        obtain ⟨rfl, rfl, rfl⟩ := he
        simp only [aop] at hop
        split at hop
        · rename_i f caps hx
          have hv := hT.rel t
          simp only [SArg.ev] at hx
          rw [hx] at hv
          simp only [VR] at hv
          obtain ⟨us, hv, hcs⟩ := hv
          refine calls (vs := c.args.map a.eval ++ us) hop ?_ fun hb => ?_
          · simpa using VRT.append (VRT_args hT ha) hcs
          · have hev : a.eval (.tmp t) = .func (.func f) #[] us := by simpa [Act.eval, Array.getD_eq_getD_getElem?] using hv
            have : execOp a.eval o = callFunc f (c.args.map a.eval ++ us) := by
              unfold execOp
              simp [ho, resolve, hc, hev, Deferred.ofValue, invoke]
            rw [this]; exact run_callFunc hb _ _
        · simp at hop
    | _ => simp [isCall] at hnc

end ops
end Go.AI
