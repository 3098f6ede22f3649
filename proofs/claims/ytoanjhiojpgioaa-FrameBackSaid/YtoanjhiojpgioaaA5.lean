/- Each operation of the interpreter is the model's. Part 1: what looks at no block, or only looks. -/
import Derived.Test.YtoanjhiojpgioaaA4
import Derived.Laws.Entries
namespace Go.AI

structure TR (C : Ctx) (n : Nat) (T : Tmps) (tmps : Array Value) : Prop where
  size : tmps.size = n
  rel : ∀ t, VR C true true (T t) (tmps.getD t Go.undef)

theorem TR.mono {C C' : Ctx} {n : Nat} {T : Tmps} {tmps : Array Value} (h : Evo C C') (hT : TR C n T tmps) : TR C' n T tmps := ⟨hT.size, fun t => VR.mono h (hT.rel t)⟩

theorem TR.put {C : Ctx} {n : Nat} {T : Tmps} {a : Act} {v : AV} {v' : Value} (hT : TR C n T a.tmps) (dst : Option Nat) (hd : dst.all (· < n) = true) (hv : VR C true true v v') :
    TR C n (T.put dst v) (a.put dst v').tmps := by
  cases dst with
  | none => exact hT
  | some d =>
    simp at hd
    refine ⟨by simp [Act.put, hT.size], fun t => ?_⟩
    simp only [Tmps.put, Tmps.upd_eq, Act.put]
    by_cases h : t = d
    · subst h
      rw [if_pos rfl]
      have : t < a.tmps.size := by rw [hT.size]; exact hd
      simp [Array.getD, this]
      exact hv
    · rw [if_neg h]
      have := hT.rel t
      simp only [Array.getD_eq_getD_getElem?, Array.getElem?_setIfInBounds_ne (Ne.symm h)] at this ⊢
      exact this

theorem VR_cvtAtom {C : Ctx} {r t : Bool} {v : Value} {a : AV} (h : cvtAtom v = some a) : VR C r t a v ∧ v.oneCell' = true := by
  unfold cvtAtom at h
  split at h <;> simp at h <;> subst h <;> simp [VR, Value.oneCell']

theorem VRL_cvtL {C : Ctx} {r t : Bool} : ∀ {vs : List Value} {as : List AV}, cvtL vs = some as → VRL C r t as vs
  | [], as, h => by simp [cvtL] at h; subst h; simp [VRL]
  | v :: vs, as, h => by
    simp only [cvtL] at h
    split at h
    · rename_i a l h1 h2
      simp at h; subst h
      simp only [VRL]
      have := VR_cvtAtom (C := C) (r := r) (t := t) h1
      exact ⟨v, vs, rfl, this.2, this.1, VRL_cvtL h2⟩
    · simp at h

theorem VR_cvt {C : Ctx} {r t : Bool} {v : Value} {a : AV} (h : cvt v = some a) : VR C r t a v := by
  unfold cvt at h
  split at h
  · rename_i cs
    simp only [Option.map_eq_some_iff] at h
    obtain ⟨l, h1, rfl⟩ := h
    simp only [VR]
    exact ⟨cs, rfl, VRL_cvtL h1⟩
  · rename_i cs
    split at h
    · rename_i hc
      simp at h; subst h
      have : cs = #[] := Array.eq_empty_of_size_eq_zero hc
      subst this
      simp [VR, Go.undef]
    · simp at h
  · exact (VR_cvtAtom h).1

theorem VR_arg {C : Ctx} {n : Nat} {T : Tmps} {a : Act} {x : Operand} {sx : SArg} (hT : TR C n T a.tmps) (h : sarg x = some sx) : VR C true true (sx.ev T) (a.eval x) := by
  cases x with
  | tmp t => simp [sarg] at h; subst h; exact hT.rel t
  | const v =>
    simp only [sarg, Option.map_eq_some_iff] at h
    obtain ⟨av, h1, rfl⟩ := h
    exact VR_cvt h1
  | func f => simp [sarg] at h; subst h; simp [SArg.ev, Act.eval, VR, VRT]
  | global g => simp [sarg] at h

theorem VRT_args {C : Ctx} {n : Nat} {T : Tmps} {a : Act} (hT : TR C n T a.tmps) : ∀ {xs : List Operand} {sx : List SArg}, sargs xs = some sx → VRT C true true (sx.map (SArg.ev T)) (xs.map a.eval)
  | [], _, h => by simp [sargs] at h; subst h; simp [VRT]
  | x :: xs, _, h => by
    simp only [sargs] at h
    split at h
    · rename_i s l h1 h2
      simp at h; subst h
      simp only [List.map_cons, VRT]
      exact ⟨_, _, rfl, VR_arg hT h1, VRT_args hT h2⟩
    · simp at h

/-- What an operation comes to. -/
def StepOk (P : Program) (o : Oper) (a : Act) (C : Ctx) (v : AV) (H' : Heap) : Prop :=
  ∃ v' μ' w', ((execOp a.eval o).run P C.w = .ok (.value v') w' ∨ ((execOp a.eval o).run P C.w = .ok .skip w' ∧ v' = Go.undef)) ∧
    Evo C ⟨C.F, μ', H', w'⟩ ∧ Rel ⟨C.F, μ', H', w'⟩ ∧ VR ⟨C.F, μ', H', w'⟩ true true v v'

theorem stepOk_val {P : Program} {o : Oper} {a : Act} {C : Ctx} {v : AV} {v' : Value} (hR : Rel C) (h : (execOp a.eval o).run P C.w = .ok (.value v') C.w) (hv : VR C true true v v') : StepOk P o a C v C.H :=
  ⟨v', C.μ, C.w, .inl h, Evo.refl C, hR, hv⟩

section ops
variable {P : Program} {o : Oper} {a : Act} {C : Ctx} {n : Nat} {T : Tmps} {cf : CallF} {xf : ExtF} {base : Nat} {v : AV} {H' : Heap} {fp : FP}

theorem rv_some {v v' : AV} {H H' : Heap} {fp : FP} (h : rv v H = some (v', H', fp)) : v' = v ∧ H' = H := by
  simp [rv] at h; exact ⟨h.1.symm, h.2.1.symm⟩

theorem ok_mv {x : Operand} {sx : SArg} (ho : o.op = .move x ∨ o.op = .assign x) (hR : Rel C) (hT : TR C n T a.tmps) (hx : sarg x = some sx)
    (h : aop cf xf base T C.H (.mv sx) = some (v, H', fp)) : StepOk P o a C v H' := by
  obtain ⟨rfl, rfl⟩ := rv_some h
  refine stepOk_val (v' := a.eval x) hR ?_ (VR_arg hT hx)
  rcases ho with ho | ho <;> simp [execOp, ho]

theorem ok_pick {c x y : Operand} {sc sx sy : SArg} (ho : o.op = .pick c x y) (hR : Rel C) (hT : TR C n T a.tmps) (hc : sarg c = some sc) (hx : sarg x = some sx) (hy : sarg y = some sy)
    (h : aop cf xf base T C.H (.pick sc sx sy) = some (v, H', fp)) : StepOk P o a C v H' := by
  simp only [aop] at h
  have h1 := VR_arg hT hc
  split at h
  · rename_i b hb
    obtain ⟨rfl, rfl⟩ := rv_some h
    rw [hb] at h1
    simp only [VR] at h1
    refine stepOk_val (v' := if b then a.eval x else a.eval y) hR ?_ ?_
    · simp [execOp, ho, h1, asBool]
    · split
      · exact VR_arg hT hx
      · exact VR_arg hT hy
  · simp at h

theorem run_sizeOf {t : TypeId} {k : Nat} (h : sizeOf? P t = some k) (w : World) : (sizeOf t).run P w = .ok k w := by
  simp only [sizeOf?] at h
  split at h
  · simp only [Option.map_eq_some_iff] at h
    obtain ⟨i, h1, rfl⟩ := h
    simp [Go.sizeOf, typeInfo, h1]
  · simp at h

theorem under_of_size {t : TypeId} {k : Nat} (h : sizeOf? P t = some k) : (P.underlying t).isSome = true := by
  simp only [sizeOf?] at h
  split at h
  · rename_i d hd; simp [hd]
  · simp at h

theorem run_isAgg {t : TypeId} (w : World) (hu : (P.underlying t).isSome = true) : (isAgg t).run P w = .ok (isAggB P t) w := by
  obtain ⟨d, hd⟩ := Option.isSome_iff_exists.1 hu
  simp only [isAgg, Sem.run_bind, run_underlying hd, Result.andThen_ok, isAggB, hd]
  cases d <;> rfl

theorem run_loadRow {b off : Nat} {vs : List Value} (w : World) (h : rowAt w b off vs) : (loadCells ⟨b, off, none⟩ vs.length).run P w = .ok vs.toArray w := by
  refine run_loadCells_list w _ vs fun j u hj => ?_
  have := h j u hj
  unfold Addr.add
  split
  · rename_i h0; subst h0; simpa using this
  · exact this

/-- A variable's value, out of memory. -/
theorem run_loadVar_at {t : TypeId} {k b off : Nat} {vs : List Value} (w : World) (hk : sizeOf? P t = some k) (hu : (P.underlying t).isSome = true) (h : rowAt w b off vs) (hl : vs.length = k)
    (h1 : isAggB P t = true ∨ k = 1) : (loadVar t ⟨b, off, none⟩).run P w = .ok (if isAggB P t then .agg vs.toArray else vs.headD Go.undef) w := by
  simp only [loadVar, Sem.run_bind, run_isAgg w hu, Result.andThen_ok]
  cases hb : isAggB P t with
  | true =>
    subst hl
    simp [run_sizeOf hk, run_loadRow w h]
  | false =>
    have hk1 : k = 1 := by simpa [hb] using h1
    subst hk1
    obtain ⟨u, rfl⟩ := List.length_eq_one_iff.1 hl
    have := h 0 u rfl
    simp at this
    simp [this]

/-- The cells behind a pointer into a row. -/
theorem ptr_mem {j g ver s i off : Nat} {es : List AV} {e : AV} {v' : Value} (hR : Rel C) (hes : C.H.row j g ver s = some es) (he : es[i]? = some e)
    (hv : VR C true true (.ptr j g ver s i off) v') : ∃ vs, v' = .pointer (some ⟨C.μ j, i * s + off, none⟩) ∧ rowAt C.w (C.μ j) (i * s + off) vs ∧ VRL C true true (e.cells.drop off) vs := by
  simp only [VR] at hv
  obtain ⟨_, _, ad, rfl, hk⟩ := hv
  have hes' := row_some.1 hes
  have hi : i < es.length := (List.getElem?_eq_some_iff.1 he).1
  have hne : es ≠ [] := by intro h; subst h; simp at hi
  obtain ⟨_, c, el, fzz, hobj, hok⟩ := hR.mem hes'.2.1 hne
  rw [hk es hes (by omega)]
  have hel := CRL.get i hok.cells he
  refine ⟨_, rfl, ?_, VRL.drop off hel.2⟩
  have hr := ((rowAt_block (w := C.w) hobj (es.length * s)).drop (i * s)).take s |>.drop off
  simpa using hr

theorem VRL_load {k : Nat} {agg : Bool} {cs : List AV} {vs : List Value} {r t : Bool} (h : VRL C r t cs vs) (hk : k ≤ cs.length) (h1 : agg = true ∨ k = 1) :
    VR C r t (if agg then .agg (cs.take k) else cs.headD .undef) (if agg then .agg (vs.take k).toArray else (vs.take k).headD Go.undef) := by
  cases agg with
  | true =>
    simp only [if_true, VR]
    exact ⟨_, rfl, by simpa using h.take k⟩
  | false =>
    have hk1 : k = 1 := by simpa using h1
    subst hk1
    cases cs with
    | nil => simp at hk
    | cons c cs =>
      simp only [VRL] at h
      obtain ⟨v, vs', rfl, _, h2, _⟩ := h
      simpa using h2

theorem ok_load {t : TypeId} {x : Operand} {sx : SArg} {k : Nat} (ho : o.op = .load t x) (hR : Rel C) (hT : TR C n T a.tmps) (hx : sarg x = some sx) (hk : sizeOf? P t = some k)
    (h1 : isAggB P t = true ∨ k = 1)
    (h : aop cf xf base T C.H (.load k (isAggB P t) sx) = some (v, H', fp)) : StepOk P o a C v H' := by
  have hv := VR_arg hT hx
  simp only [aop] at h
  split at h
  · rename_i j g ver s i off hq
    rw [hq] at hv
    split at h
    · rename_i es hes
      split at h
      · rename_i e he
        split at h
        · rename_i hle
          simp only [Option.some.injEq, Prod.mk.injEq] at h
          obtain ⟨rfl, rfl, _⟩ := h
          obtain ⟨vs, hv', hrow, hvs⟩ := ptr_mem hR hes he hv
          have hl := VRL.length hvs
          simp at hl
          refine stepOk_val hR (v' := if isAggB P t then .agg (vs.take k).toArray else (vs.take k).headD Go.undef) ?_ (VRL_load hvs (by simp; omega) h1)
          have := run_loadVar_at (P := P) C.w hk (under_of_size hk) (hrow.take k) (by simp; omega) h1
          simp [execOp, ho, hv', Instr.loadAt, Instr.sureAddr, this]
        · simp at h
      · simp at h
    · simp at h
  · rename_i tt cs hq
    rw [hq] at hv
    split at h
    · rename_i hle
      obtain ⟨rfl, rfl⟩ := rv_some h
      simp only [VR] at hv
      obtain ⟨htt, b, off, vs, hv', hib, hrow, hvs⟩ := hv
      have hl := VRL.length hvs
      refine stepOk_val hR (v' := if isAggB P t then .agg (vs.take k).toArray else (vs.take k).headD Go.undef) ?_ (VR.weak (by simp) (by simp) (VRL_load hvs hle h1))
      have := run_loadVar_at (P := P) C.w hk (under_of_size hk) (hrow.take k) (by simp; omega) h1
      simp [execOp, ho, hv', Instr.loadAt, Instr.sureAddr, this]
    · simp at h
  · simp at h

theorem ok_nilc {x : Operand} {sx : SArg} (ho : o.op = .nilCheck x) (hR : Rel C) (hT : TR C n T a.tmps) (hx : sarg x = some sx)
    (h : aop cf xf base T C.H (.nilc sx) = some (v, H', fp)) : StepOk P o a C v H' := by
  have hv := VR_arg hT hx
  simp only [aop] at h
  split at h
  · rename_i j g ver s i off hq
    rw [hq] at hv
    obtain ⟨rfl, rfl⟩ := rv_some h
    have hv2 := hv
    simp only [VR] at hv
    obtain ⟨_, _, ad, hv', _⟩ := hv
    exact stepOk_val hR (v' := a.eval x) (by simp [execOp, ho, hv']) hv2
  · rename_i tt cs hq
    rw [hq] at hv
    obtain ⟨rfl, rfl⟩ := rv_some h
    have hv2 := hv
    simp only [VR] at hv
    obtain ⟨_, b, off, vs, hv', _⟩ := hv
    exact stepOk_val hR (v' := a.eval x) (by simp [execOp, ho, hv']) hv2
  · rename_i f cs hq
    rw [hq] at hv
    obtain ⟨rfl, rfl⟩ := rv_some h
    have hv2 := hv
    simp only [VR] at hv
    obtain ⟨vs, hv', _⟩ := hv
    exact stepOk_val hR (v' := a.eval x) (by simp [execOp, ho, hv']) hv2
  · simp at h

end ops
end Go.AI
