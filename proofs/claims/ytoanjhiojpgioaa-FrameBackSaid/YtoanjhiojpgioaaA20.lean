/- Functions: the interpreter is sound. -/
import Derived.Test.YtoanjhiojpgioaaA19
set_option linter.unusedSimpArgs false
set_option linter.unusedVariables false
namespace Go.AI

section
variable {P : Program} {n : Nat}

theorem tmps0_ok {C : Ctx} {args : List AV} {vs : Array Value} (h : VRT C true true args vs.toList) (hle : args.length ≤ n) : TR C n (tmps0 args) (vs ++ Array.replicate (n - vs.size) undef) := by
  have hl := VRT.length h
  simp at hl
  refine ⟨by simp; omega, fun t => ?_⟩
  unfold tmps0
  by_cases ht : t < args.length
  · obtain ⟨v, h1, h2⟩ := VRT.get t h (List.getElem?_eq_getElem ht)
    have e1 : (vs ++ Array.replicate (n - vs.size) undef).getD t undef = v := by
      simp at h1
      rw [Array.getD_eq_getD_getElem?, Array.getElem?_append_left (by omega), h1]; rfl
    have e2 : args.getD t .undef = args[t] := by simp [List.getD, ht]
    rw [e1, e2]; exact h2
  · have e2 : args.getD t .undef = .undef := by simp [List.getD, ht]
    rw [e2]
    simp only [VR]
    rw [Array.getD_eq_getD_getElem?, Array.getElem?_append_right (by omega), Array.getElem?_replicate]
    split <;> rfl

theorem res_ok {C : Ctx} {T : Tmps} {tmps : Array Value} (hR : Rel C) (hT : TR C n T tmps) : ∀ {rs : List ResultVar} {srs : List SRes} {vs : List AV}, stripRes P rs = some srs → srs.mapM (ares T C.H) = some vs →
    ∃ us : List Value, (∀ (k : Nat) (r : ResultVar), rs[k]? = some r → ∃ u, us[k]? = some u ∧ (match r with | .tmp t => (pure (tmps.getD t undef) : Sem Value) | .cell a t => do loadVar t (← asAddr (tmps.getD a undef))).run P C.w = .ok u C.w) ∧
      us.length = rs.length ∧ VRT C true true vs us
  | [], srs, vs, h, hm => by
    simp [stripRes] at h; subst h
    simp at hm; subst hm
    exact ⟨[], fun k r hk => by simp at hk, rfl, by simp [VRT]⟩
  | .tmp t :: rs, srs, vs, h, hm => by
    simp only [stripRes, Option.map_eq_some_iff] at h
    obtain ⟨l, h1, rfl⟩ := h
    simp only [List.mapM_cons, ares, Option.bind_eq_bind, Option.bind_some, Option.pure_def] at hm
    cases e1 : l.mapM (ares T C.H) with
    | none => rw [e1] at hm; simp at hm
    | some ws =>
      rw [e1] at hm
      simp at hm; subst hm
      obtain ⟨us, k1, k2, k3⟩ := res_ok hR hT h1 e1
      refine ⟨tmps.getD t undef :: us, fun k r hk => ?_, by simp [k2], ?_⟩
      · cases k with
        | zero => simp at hk; subst hk; exact ⟨_, rfl, by simp⟩
        | succ k => exact k1 k r (by simpa using hk)
      · simp only [VRT]
        exact ⟨_, _, rfl, hT.rel t, k3⟩
  | .cell a t :: rs, srs, vs, h, hm => by
    simp only [stripRes] at h
    split at h
    · rename_i kk l hk h1
      split at h
      · rename_i hagg
        simp at h; subst h
        simp only [List.mapM_cons, Option.bind_eq_bind, Option.pure_def] at hm
        cases e0 : ares T C.H (.cell a kk (isAggB P t)) with
        | none => rw [e0] at hm; simp at hm
        | some v0 =>
        rw [e0] at hm
        cases e1 : l.mapM (ares T C.H) with
        | none => rw [e1] at hm; simp at hm
        | some ws =>
          rw [e1] at hm
          simp at hm; subst hm
          obtain ⟨us, k1, k2, k3⟩ := res_ok hR hT h1 e1
          have hv := hT.rel a
          simp only [ares] at e0
          split at e0
          · rename_i j g ver s i off hq
            rw [hq] at hv
            split at e0
            · rename_i es hes
              split at e0
              · rename_i e he
                split at e0
                · rename_i hle
                  simp at e0; subst e0
                  obtain ⟨vs, hv', hrow, hvs⟩ := ptr_mem hR hes he hv
                  have hl := VRL.length hvs
                  simp at hl
                  have hrun := run_loadVar_at (P := P) C.w hk (under_of_size hk) (hrow.take kk) (by simp; omega) hagg
                  have hvr := VRL_load hvs (k := kk) (agg := isAggB P t) (by simp; omega) hagg
                  refine ⟨(if isAggB P t then .agg (vs.take kk).toArray else (vs.take kk).headD Go.undef) :: us, fun k r hkk => ?_, by simp [k2], ?_⟩
                  · cases k with
                    | zero =>
                      simp at hkk; subst hkk
                      refine ⟨_, rfl, ?_⟩
                      simp only [hv']
                      simpa [asAddr] using hrun
                    | succ k => exact k1 k r (by simpa using hkk)
                  · simp only [VRT]
                    refine ⟨_, _, rfl, ?_, k3⟩
                    simpa using hvr
                · simp at e0
              · simp at e0
            · simp at e0
          · simp at e0
      · simp at h
    · simp at h

theorem run_mapM_list {α : Type} {f : α → Sem Value} {w : World} : ∀ {xs : List α} {us : List Value}, us.length = xs.length → (∀ (k : Nat) (x : α), xs[k]? = some x → ∃ u, us[k]? = some u ∧ (f x).run P w = .ok u w) →
    (xs.mapM f).run P w = .ok us w
  | [], us, hl, _ => by
    simp at hl; subst hl
    simp
  | x :: xs, us, hl, h => by
    cases us with
    | nil => simp at hl
    | cons u us =>
      obtain ⟨u', h1, h2⟩ := h 0 x rfl
      simp at h1; subst h1
      have := run_mapM_list (xs := xs) (us := us) (by simpa using hl) fun k x hk => h (k + 1) x (by simpa using hk)
      simp [List.mapM_cons, h2, this]

theorem results_ok {fn : Func} {C : Ctx} {T : Tmps} {tmps : Array Value} {srs : List SRes} {v : AV} (hR : Rel C) (hT : TR C n T tmps) (hs : stripRes P fn.results.toList = some srs) (h : aresults T C.H srs = some v) :
    ∃ v', (results fn tmps).run P C.w = .ok v' C.w ∧ VR C true true v v' := by
  cases e1 : srs.mapM (ares T C.H) with
  | none => simp [aresults, e1] at h
  | some vs =>
    obtain ⟨us, k1, k2, k3⟩ := res_ok hR hT hs e1
    have hlen := VRT.length k3
    refine ⟨if h : us.toArray.size = 1 then us.toArray[0] else .tuple us.toArray, ?_, ?_⟩
    · unfold results
      simp only [Array.mapM_eq_mapM_toList]
      simp
      rw [run_mapM_list (us := us) k2 fun k x hk => ?_]
      · simp
      · obtain ⟨u, q1, q2⟩ := k1 k x hk
        exact ⟨u, q1, by cases x <;> simpa using q2⟩
    · simp only [aresults, e1] at h
      split at h
      · rename_i v0 hq
        simp at hq h
        subst hq; subst h
        simp only [VRT] at k3
        obtain ⟨u, us', rfl, h2, rfl⟩ := k3
        simpa using h2
      · rename_i vs0 hne hq
        simp at hq h
        subst hq; subst h
        have : us.length ≠ 1 := by
          intro h1
          rw [hlen] at h1
          obtain ⟨v0, rfl⟩ := List.length_eq_one_iff.1 h1
          exact hne _ rfl
        simp only [List.size_toArray, this, dif_neg, not_false_eq_true, VR]
        exact ⟨_, rfl, by simpa using k3⟩
      · simp_all

/-- The table is the program's. -/
def Laid (P : Program) (B : Prog) : Prop := ∀ f fn', B f = some fn' → ∃ fn hs, P.funcs[f]? = some fn ∧ stripFun P hs fn = some fn' ∧ fn.name ≠ "runtime.NumGoroutine"

theorem acall_ok (hm : P.follows .mixedOrders = true) {B : Prog} {xf : ExtF} {gf : CallF} (hB : Laid P B) (hxf : ExtOk P xf) (hgf : FunOk P gf) : ∀ k, FunOk P (acall B xf gf k)
  | 0 => by
    intro C f base args v H' vs hR h
    simp [acall] at h
  | k + 1 => by
    have ih := acall_ok hm hB hxf hgf k
    intro C f base args v H' vs hR h hargs
    simp only [acall] at h
    split at h
    · exact hgf C f base args v H' vs hR h hargs
    · rename_i fn' hf'
      obtain ⟨fn, hs, hfn, hst, hname⟩ := hB f fn' hf'
      unfold stripFun at hst
      split at hst
      · rename_i c hbody
        split at hst
        · rename_i code rs hc hrs
          split at hst
          · rename_i hle
            simp at hst; subst hst
            refine ⟨⟨fn, hfn, by rw [hbody]; rfl, hname⟩, ?_⟩
            split at h
            · rename_i hlen
              simp only at hlen h
              refine calls_of_wp hfn hbody ?_
              have hT := tmps0_ok (n := fn.ntmps) hargs (by omega)
              have fin : ∀ (ex : Ex) (T' : Tmps) (H1 : Heap), aexec (acall B xf gf k) xf base k code (tmps0 args) C.H = some (ex, T', H1) → (ex = .normal ∨ ex = .ret) → (aresults T' H1 rs).map (fun v => (v, H1)) = some (v, H') →
                  c.wp P (bodyPost P fn (Done C v H')) { tmps := vs ++ Array.replicate (fn.ntmps - vs.size) undef, defers := [] } C.w := by
                intro ex T' H1 h1 hex h2
                refine code_ok hm ih hxf c hc h1 hR hT fun C' a' m1 m2 m3 m4 m5 => ?_
                simp only [Option.map_eq_some_iff, Prod.mk.injEq] at h2
                obtain ⟨v0, h3, rfl, rfl⟩ := h2
                rw [← m2] at h3
                obtain ⟨v', h4, h5⟩ := results_ok m3 m4 hrs h3
                have hD : Done C v0 H1 (.returned v') C'.w := by
                  have hC' : C' = ⟨C.F, C'.μ, H1, C'.w⟩ := by
                    obtain ⟨F, μ, H, w⟩ := C'
                    have := m1.F
                    simp at this m2
                    subst this; subst m2; rfl
                  rw [hC'] at m1 m3 h5
                  exact ⟨v', C'.μ, rfl, m1, m3, h5⟩
                rcases hex with rfl | rfl
                · exact ⟨m5, v', h4, hD⟩
                · exact ⟨m5, v', h4, hD⟩
              split at h
              · rename_i T' H1 h1
                exact fin _ T' H1 h1 (.inl rfl) h
              · rename_i T' H1 h1
                exact fin _ T' H1 h1 (.inr rfl) h
              · simp at h
            · simp at h
          · simp at hst
        · simp at hst
      · simp at hst

end
end Go.AI
