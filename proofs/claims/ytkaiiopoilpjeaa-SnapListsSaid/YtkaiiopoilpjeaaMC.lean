/- Lemmas. -/
import Derived.Test.YtkaiiopoilpjeaaMB
import Derived.Scope
import Derived.LoopN
import Derived.IntWalk
import Derived.ProofKit
import Derived.OpenShut
import Derived.Laws.Strings
set_option linter.unusedSimpArgs false
set_option linter.unusedVariables false
namespace Go.AI
section ops
variable {P : Program} {o : Oper} {a : Act} {C : Ctx} {n : Nat} {T : Tmps} {cf : Cx} {xf : ExtF} {base : Nat} {v : AV} {H' : Heap} {fp : FP}
theorem Zr {f : Nat} (h : Zn P f) (args : Array Value) (w : World) : (callFunc f args).run P w = .ok (.enter f args) w := by
 obtain ⟨fn, h1, h2, h3⟩ := h
 have h2' : fn.body ≠ none := by intro hb; rw [hb] at h2; simp at h2
 unfold callFunc
 simp [h1, h2', h3]
theorem bJ {h : Hint} {b : Builtin} {ts : List TypeId} {xs : List Operand} {sop : SOp} (hs : Lq P h b ts xs = some sop) : Rt sop = false := by
 unfold Lq at hs
 (repeat' split at hs) <;> (first | (simp at hs; done) | (simp at hs; subst hs; rfl) | (simp at hs; obtain ⟨_, _, rfl⟩ := hs; rfl))
theorem iI {h : Hint} {sop : SOp} (hs : Pq P h o = some sop) (hc : Rt sop = true) :
  ∃ c, o.op = .call c ∧ ((∃ m f args, sop = .call m f args ∧ c.callee = .value (.func f) ∧ Wc c.args.toList = some args) ∨
   (∃ m t args, sop = .callv m (.t t) args ∧ c.callee = .value (.tmp t) ∧ Wc c.args.toList = some args)) := by
 unfold Pq at hs
 split at hs
 case h_25 c ho =>
  refine ⟨c, ho, ?_⟩
  split at hs
  ·rw [bJ hs] at hc; simp at hc
  ·rename_i f hf
   split at hs
   ·split at hs
    ·simp only [Al] at hs
     obtain ⟨args, ha, rfl⟩ := hs
     exact .inl ⟨_, f, args, rfl, hf, ha⟩
    ·simp at hs
   ·simp at hs
  ·rename_i t ht
   simp only [Al] at hs
   obtain ⟨args, ha, rfl⟩ := hs
   exact .inr ⟨_, t, args, rfl, ht, ha⟩
  ·simp at hs
 all_goals
  (repeat' split at hs) <;> first
   | (simp at hs; done)
   | (simp at hs; subst hs; simp [Rt] at hc; done)
   | (simp at hs; obtain ⟨_, _, rfl⟩ := hs; simp [Rt] at hc; done)
theorem yA {h : Hint} {sop : SOp} (hcf : Pn P cf) (hxf : Vw P xf) (hs : Pq P h o = some sop ∨ sop = .bad) (hR : Rel C) (hT : TR C n T a.tmps)
  (hop : aop cf xf base T C.H sop = some (v, H', fp)) {K : Act → World → Prop} {Q : Exit → Act → World → Prop}
  (hK : ∀ v' μ' w', Evo C ⟨C.F, μ', H', w'⟩ → Rel ⟨C.F, μ', H', w'⟩ → VR ⟨C.F, μ', H', w'⟩ true true v v' → K (a.put o.dst v') w') : o.wp P a C.w K Q := by
 have calls : ∀ {m : Mode} {f : Nat} {args : List AV} {vs : Array Value}, Fu cf xf base m f args C.H = some (v, H', fp) → VRT C true true args vs.toList →
   (Zn P f → (execOp a.eval o).run P C.w = .ok (.enter f vs) C.w) → o.wp P a C.w K Q := by
  intro m f args vs h1 h2 h3
  obtain ⟨hb, hc⟩ := zV hcf hxf hR h2 h1
  unfold Oper.wp
  rw [h3 hb, Oper.upon_enter]
  refine hc.mono ?_
  rintro e w' ⟨v', μ', rfl, k1, k2, k3⟩
  exact hK v' μ' w' k1 k2 k3
 have hs := hs.resolve_right (fun hb => by subst hb; simp [aop] at hop)
 by_cases hnc : Rt sop = false
 ·obtain ⟨v', μ', w', h1, h2, h3, h4⟩ := Ahv hs hnc hR hT hop
  unfold Oper.wp
  rcases h1 with h1 | ⟨h1, rfl⟩
  ·rw [h1]; exact hK v' μ' w' h2 h3 h4
  ·rw [h1]; exact hK _ μ' w' h2 h3 h4
 ·cases sop with
  | call m f args =>
   obtain ⟨c, ho, hh⟩ := iI hs rfl
   rcases hh with ⟨m', f', args', he, hc, ha⟩ | ⟨_, _, _, he, _⟩
   ·simp only [SOp.call.injEq] at he
    obtain ⟨rfl, rfl, rfl⟩ := he
    simp only [aop] at hop
    refine calls (vs := c.args.map a.eval) hop (by simpa using Yo hT ha) fun hb => ?_
    have : execOp a.eval o = callFunc f (c.args.map a.eval) := by
     have ef : a.eval (.func f) = .func (.func f) #[] #[] := rfl
     unfold execOp
     simp [ho, resolve, hc, ef, Deferred.ofValue, invoke]
    rw [this]; exact Zr hb _ _
   ·simp at he
  | callv m x args =>
   obtain ⟨c, ho, hh⟩ := iI hs rfl
   rcases hh with ⟨_, _, _, he, _⟩ | ⟨m', t, args', he, hc, ha⟩
   ·simp at he
   ·simp only [SOp.callv.injEq] at he
    obtain ⟨rfl, rfl, rfl⟩ := he
    simp only [aop] at hop
    split at hop
    ·rename_i f caps hx
     have hv := hT.rel t
     simp only [SArg.ev] at hx
     rw [hx] at hv
     simp only [VR] at hv
     obtain ⟨us, hv, hcs⟩ := hv
     refine calls (vs := c.args.map a.eval ++ us) hop ?_ fun hb => ?_
     ·simpa using VRT.append (Yo hT ha) hcs
     ·have hev : a.eval (.tmp t) = .func (.func f) #[] us := by simpa [Act.eval, Cv] using hv
      have : execOp a.eval o = callFunc f (c.args.map a.eval ++ us) := by
       unfold execOp
       simp [ho, resolve, hc, hev, Deferred.ofValue, invoke]
      rw [this]; exact Zr hb _ _
    ·simp at hop
  | _ => simp [Rt] at hnc
end ops
end Go.AI
namespace Go.AI
structure OpRel (P : Program) (n : Nat) (ops : Array Oper) (o : Oper) (so : SOper) : Prop where
 op : ∃ h, Pq P h o = some so.op ∨ so.op = .bad
 guard : Za ops o.guard = some so.guard
 dst : so.dst = o.dst
 lt : o.dst.all (· < n) = true
theorem lI {P : Program} {n : Nat} {hs : Nat → Hint} {ops : Array Oper} : ∀ {l : List Oper} {i : Nat} {sl : List SOper}, Qu P n hs ops i l = some sl →
  sl.length = l.length ∧ ∀ (k : Nat) (o : Oper), l[k]? = some o → ∃ so, sl[k]? = some so ∧ OpRel P n ops o so
 | [], i, sl, h => by
  simp [Qu] at h; subst h
  exact ⟨rfl, fun k o h => by simp at h⟩
 | o :: r, i, sl, h => by
  simp only [Qu] at h
  split at h
  ·rename_i op g l h1 h2 h3
   split at h
   ·rename_i hd
    simp at h; subst h
    obtain ⟨k1, k2⟩ := lI h3
    refine ⟨by simp [k1], fun k o' ho => ?_⟩
    cases k with
    | zero => simp at ho; subst ho; exact ⟨_, rfl, ⟨hs i, by
      cases hx : Pq P (hs i) o with
      | some x => rw [hx] at h1; simp at h1; subst h1; exact .inl rfl
      | none => rw [hx] at h1; simp at h1; exact .inr h1.symm⟩, h2, rfl, hd⟩
    | succ k => exact k2 k o' ho
   ·simp at h
  ·simp at h
theorem iP (bef : List (List Nat)) (all : List SOper) : ∀ (l : List SOper) (i k : Nat), (Mw bef all i l)[k]? = (l[k]?).map fun o => { o with un := unOf bef all (i + k) o.op }
 | [], i, k => by simp [Mw]
 | o :: r, i, 0 => by simp [Mw]
 | o :: r, i, k + 1 => by
  simp only [Mw, List.getElem?_cons_succ, iP bef all r (i + 1) k]
  congr 1; funext o; rw [show i + 1 + k = i + (k + 1) by omega]
theorem iQ (bef : List (List Nat)) (all : List SOper) : ∀ (l : List SOper) (i : Nat), (Mw bef all i l).length = l.length
 | [], i => by simp [Mw]
 | o :: r, i => by simp [Mw, iQ bef all r]
theorem lO : ∀ (l : List Oper) (acc : List (List Nat)), (∀ k, k < acc.length → (befs l acc).getD k [] = acc.getD k []) ∧
  ∀ (k : Nat) (o : Oper), l[k]? = some o → (befs l acc).getD (acc.length + k) [] = uniq (((Rg o).filter (· < acc.length + k)).flatMap fun k' => k' :: (befs l acc).getD k' [])
 | [], acc => by
  exact ⟨fun k _ => rfl, fun k o h => by simp at h⟩
 | o :: r, acc => by
  simp only [befs]
  generalize hx : uniq (((Rg o).filter (· < acc.length)).flatMap (fun k => k :: acc.getD k [])) = x
  obtain ⟨h1, h2⟩ := lO r (acc ++ [x])
  have h1' : ∀ k, k < acc.length → (befs r (acc ++ [x])).getD k [] = acc.getD k [] := fun k hk => by
   rw [h1 k (by simp; omega)]
   simp [List.getD, List.getElem?_append_left hk]
  refine ⟨h1', fun k o' ho => ?_⟩
  cases k with
  | zero =>
   simp at ho; subst ho
   rw [h1 (acc.length + 0) (by simp)]
   have : (acc ++ [x]).getD (acc.length + 0) [] = x := by simp [List.getD]
   refine this.trans (hx.symm.trans ?_)
   simp only [El, Adx]
   congr 2
   refine Bn fun k' hk' => ?_
   rw [h1' k' (by have := (Ld.1 hk').2; simpa using this)]
  | succ k =>
   simp at ho
   have := h2 k o' ho
   simp only [Ar, As, Dl, Da] at this
   rw [show acc.length + 1 + k = acc.length + (k + 1) by omega] at this
   exact this
theorem lR : ∀ {l : List Oper} {i : Nat}, Xv l i = true → ∀ (k : Nat) (o : Oper), l[k]? = some o → ∀ j ∈ Rg o, j < i + k
 | [], i, _, k, o, ho => by simp at ho
 | o :: r, i, h, k, o', ho => by
  simp only [Xv, Bu, Ij, Dj] at h
  cases k with
  | zero => simp at ho; subst ho; exact h.1
  | succ k => intro j hj; have := lR h.2 k o' ho j hj; omega
section
variable {P : Program} {C : Ctx} {n : Nat} {T T' : Tmps} {cf : Cx} {xf : ExtF} {base : Nat} {H' : Heap} {ops : Array Oper} {o : Oper} {so : SOper} {a : Act}
theorem mA (hg : Za ops o.guard = some so.guard) (hT : TR C n T a.tmps) {b : Bool} (h : Af T so.guard = some b) : Region.wanted o (yielded ops a.tmps) = b := by
 unfold Region.wanted
 cases hgu : o.guard with
 | none =>
  rw [hgu] at hg
  simp [Za] at hg
  rw [← hg] at h
  simp [Af] at h
  simp [h]
 | some g =>
  obtain ⟨j, want⟩ := g
  rw [hgu] at hg
  simp only [Za] at hg
  split at hg
  ·rename_i d hd
   simp at hg
   rw [← hg] at h
   simp only [Af] at h
   have hv := hT.rel d
   simp only [yielded, hd]
   split at h
   ·rename_i c hc
    rw [hc] at hv
    simp only [VR] at hv
    have : a.tmps[d]? = some (.bool c) := by
     cases hx : a.tmps[d]? with
     | none => simp [Cv, hx, Go.undef] at hv
     | some u => simp [Cv, hx] at hv; rw [hv]
    simp at h; subst h
    simp [this]
   ·rename_i hc
    rw [hc] at hv
    simp only [VR] at hv
    simp at h; subst h
    cases hx : a.tmps[d]? with
    | none => simp [hx]
    | some u =>
     simp [Cv, hx, Go.undef] at hv
     subst hv; simp [hx]
   ·simp at h
  ·simp at hg
theorem vQ (hcf : Pn P cf) (hxf : Vw P xf) {i : Nat} (hi : ops[i]? = some o) (ho : OpRel P n ops o so) (hR : Rel C) (hT : TR C n T a.tmps) {v : AV} {fp : FP}
  (h : (Af T so.guard = some false ∧ v = .undef ∧ H' = C.H) ∨ (Af T so.guard = some true ∧ aop cf xf base T C.H so.op = some (v, H', fp)))
  {K : Act → World → Prop} {Q : Exit → Act → World → Prop}
  (hK : ∀ C' a', Evo C C' → C'.H = H' → Rel C' → TR C' n (T.put so.dst v) a'.tmps → a'.defers = a.defers → K a' C'.w) : wpOp P ops Q i K a C.w := by
 unfold wpOp
 simp only [hi]
 have hdef : ∀ v', (a.put o.dst v').defers = a.defers := fun v' => by cases o.dst <;> rfl
 have hlt : so.dst.all (· < n) = true := by rw [ho.dst]; exact ho.lt
 rcases h with ⟨h1, rfl, rfl⟩ | ⟨h1, h2⟩
 ·rw [mA ho.guard hT h1]
  simp only [Ap, Bx]
  refine hK C _ (Evo.refl C) rfl hR ?_ (hdef _)
  rw [← ho.dst]
  exact hT.put so.dst hlt (by simp [VR])
 ·rw [mA ho.guard hT h1]
  simp only [if_true]
  obtain ⟨hh, hs⟩ := ho.op
  refine .inl (yA hcf hxf hs hR hT h2 fun v' μ' w' k1 k2 k3 => ?_)
  refine hK _ _ k1 rfl k2 ?_ (hdef _)
  rw [← ho.dst]
  exact (hT.mono k1).put so.dst hlt k3
theorem oA (hcf : Pn P cf) (hxf : Vw P xf) {Q : Exit → Act → World → Prop} : ∀ {l : List SOper} {log : List FP} {i : Nat} {C : Ctx} {T : Tmps} {a : Act},
  aops cf xf base l log T C.H = some (T', H') → (∀ (k : Nat) (so : SOper), l[k]? = some so → ∃ o, ops[i + k]? = some o ∧ OpRel P n ops o so) → Rel C → TR C n T a.tmps →
  (∀ C' a', Evo C C' → C'.H = H' → Rel C' → TR C' n T' a'.tmps → a'.defers = a.defers → Q .normal a' C'.w) → wpOps P ops Q (List.range' i l.length) a C.w
 | [], log, i, C, T, a, h, hl, hR, hT, hQ => by
  simp [aops] at h
  obtain ⟨rfl, rfl⟩ := h
  simp [wpOps]
  exact hQ C a (Evo.refl C) rfl hR hT rfl
 | so :: l, log, i, C, T, a, h, hl, hR, hT, hQ => by
  obtain ⟨o, ho, hrel⟩ := hl 0 so rfl
  simp only [As, List.range'_succ, wpOps_cons]
  have hl' : ∀ (k : Nat) (so' : SOper), l[k]? = some so' → ∃ o, ops[i + 1 + k]? = some o ∧ OpRel P n ops o so' := fun k so' hk => by
   have := hl (k + 1) so' (by simpa using hk)
   rw [show i + (k + 1) = i + 1 + k by omega] at this
   exact this
  simp only [aops] at h
  split at h
  ·simp at h
  ·rename_i hw
   refine vQ (base := base) (fp := .z) hcf hxf (by simpa using ho) hrel hR hT (.inl ⟨hw, rfl, rfl⟩) fun C' a' k1 k2 k3 k4 k5 => ?_
   exact oA hcf hxf (by rw [k2]; exact h) hl' k3 k4 fun C2 a2 m1 m2 m3 m4 m5 => hQ C2 a2 (k1.trans m1) m2 m3 m4 (m5.trans k5)
  ·rename_i hw
   split at h
   ·simp at h
   ·rename_i v H1 fp hop
    split at h
    ·refine vQ hcf hxf (by simpa using ho) hrel hR hT (.inr ⟨hw, hop⟩) fun C' a' k1 k2 k3 k4 k5 => ?_
     exact oA hcf hxf (by rw [k2]; exact h) hl' k3 k4 fun C2 a2 m1 m2 m3 m4 m5 => hQ C2 a2 (k1.trans m1) m2 m3 m4 (m5.trans k5)
    ·simp at h
theorem lL {p q : Nat → Bool} {i : Nat} : ∀ {l : List Nat}, (∀ x ∈ l, q x = true → p x = true) → i ∈ l → p i = true → q i = false → l.countP q < l.countP p
 | [], _, hi, _, _ => by simp at hi
 | y :: l, h, hi, h1, h2 => by
  have hle : l.countP q ≤ l.countP p := List.countP_mono_left fun x hx => h x (by simp [hx])
  rcases Au.1 hi with rfl | hi
  ·simp [List.countP_cons, h1, h2]; omega
  ·have := lL (fun x hx => h x (by simp [hx])) hi h1 h2
   simp only [List.countP_cons]
   cases hq : q y with
   | false => simp; omega
   | true => simp [h y (by simp) hq]; omega
theorem mem_direct {o : Oper} {k : Nat} : k ∈ Rg o ↔ ∃ e ∈ o.after, Region.binds .any e = true ∧ e.on = k := by
 unfold Rg
 simp only [List.mem_filterMap, Array.mem_toList_iff, Option.ite_none_right_eq_some, Ae]
theorem Ahg (hcf : Pn P cf) (hxf : Vw P xf) {Q : Exit → Act → World → Prop} {l : List SOper} {bef : Nat → List Nat} {H : Heap} {Ts : Nat → Tmps} {Hs : Nat → Heap} {vs : Nat → AV} {fps : Nat → FP}
  (ht : Trace cf xf base l T H T' H' Ts Hs vs fps []) (hc : Checked l bef) (hlen : l.length = ops.size)
  (hl : ∀ (k : Nat) (o : Oper), ops[k]? = some o → ∃ so, l[k]? = some so ∧ OpRel P n ops o so)
  (hbef : ∀ (k : Nat) (o : Oper), ops[k]? = some o → ∀ j ∈ bef k, ∃ j' ∈ Rg o, j = j' ∨ j ∈ bef j')
  (hdir : ∀ (k : Nat) (o : Oper), ops[k]? = some o → ∀ j ∈ Rg o, j < k)
  (C0 : Ctx) (a0 : Act)
  (hQ : ∀ C' a', Evo C0 C' → C'.H = H' → Rel C' → TR C' n T' a'.tmps → a'.defers = a0.defers → Q .normal a' C'.w) :
  ∀ (fuel : Nat) (listed : Array Bool) (C : Ctx) (a : Act), (List.range ops.size).countP (fun k => !listed.getD k false) ≤ fuel → listed.size = ops.size →
   (∀ m, listed.getD m false = true → m < l.length → ∀ k ∈ bef m, listed.getD k false = true) → Evo C0 C → Rel C → a.defers = a0.defers →
   C.H = HD l Hs fps H (fun k => listed.getD k false) → TR C n (TD l vs T (fun k => listed.getD k false)) a.tmps → wpAny P .any ops Q fuel listed a C.w := by
 intro fuel
 have hend : ∀ (listed : Array Bool) (C : Ctx) (a : Act), Region.ready .any ops listed = [] → listed.size = ops.size → Evo C0 C → Rel C → a.defers = a0.defers →
   C.H = HD l Hs fps H (fun k => listed.getD k false) → TR C n (TD l vs T (fun k => listed.getD k false)) a.tmps → Q .normal a C.w := by
  intro listed C a hr hsz hE hR hd hH hT
  have hall : ∀ k, k < ops.size → listed.getD k false = true := by
   intro k
   induction k using Nat.strongRecOn with
   | ind k ih =>
    intro hk
    cases hg : listed.getD k false with
    | true => rfl
    | false =>
     exfalso
     have ho : ops[k]? = some ops[k] := Array.getElem?_eq_getElem hk
     have : k ∈ Region.ready .any ops listed := by
      rw [mem_ready]
      refine ⟨?_, ops[k], ho, fun e he hb => ?_⟩
      ·have : k < listed.size := by omega
       simpa [Array.getD, this] using hg
      ·have hlt := hdir k _ ho e.on (mem_direct.2 ⟨e, he, hb, rfl⟩)
       exact ih _ hlt (by omega)
     rw [hr] at this; simp at this
  have e1 : TD l vs T (fun k => listed.getD k false) = T' := by
   funext t
   rw [← ht.tn, wE ht t _ (Ao _)]
   unfold TD
   exact Hp fun k hk => by have h := hall k (by omega); show (listed.getD k false && _) = _; rw [h, Bool.true_and]
  have e2 : HD l Hs fps H (fun k => listed.getD k false) = H' := by
   funext j
   rw [← ht.hn, Aap ht hc j _ (Ao _)]
   unfold HD
   exact Hp fun k hk => by have h := hall k (by omega); show (listed.getD k false && _) = _; rw [h, Bool.true_and]
  rw [e1] at hT; rw [e2] at hH
  exact hQ C a hE hH hR hT hd
 induction fuel with
 | zero =>
  intro listed C a hcnt hsz hcl hE hR hd hH hT
  have hr : Region.ready .any ops listed = [] := by
   refine List.eq_nil_iff_forall_not_mem.2 fun k hk => ?_
   obtain ⟨k1, o, ho, _⟩ := mem_ready.1 hk
   have hk : k < ops.size := (Fe.1 ho).1
   have : 0 < (List.range ops.size).countP (fun k => !listed.getD k false) := List.countP_pos_iff.2 ⟨k, by simpa using hk, by
    have : k < listed.size := by omega
    simpa [Array.getD, this] using k1⟩
   omega
  exact ⟨hr, hend listed C a hr hsz hE hR hd hH hT⟩
 | succ fuel ih =>
  intro listed C a hcnt hsz hcl hE hR hd hH hT
  refine ⟨fun hr => hend listed C a hr hsz hE hR hd hH hT, fun i hi => ?_⟩
  obtain ⟨k1, o, ho, hall⟩ := mem_ready.1 hi
  have hio : i < ops.size := (Fe.1 ho).1
  have hif : listed.getD i false = false := by
   have : i < listed.size := by omega
   simpa [Array.getD, this] using k1
  obtain ⟨so, hso, hrel⟩ := hl i o ho
  have hup : ∀ k ∈ bef i, listed.getD k false = true := by
   intro k hk
   obtain ⟨j, hj, hjj⟩ := hbef i o ho k hk
   obtain ⟨e, he, hb, heq⟩ := mem_direct.1 hj
   have hjl : listed.getD j false = true := by rw [← heq]; exact hall e he hb
   rcases hjj with rfl | hjj
   ·exact hjl
   ·have := hdir i o ho j hj
    exact hcl j hjl (by omega) k hjj
  have hD' : ∀ k, (listed.setIfInBounds i true).getD k false = (listed.getD k false || k == i) := by
   intro k
   by_cases hki : k = i
   ·subst hki
    have : k < listed.size := by omega
    simp [Array.getD, this]
   ·rw [getD_set_ne false (Ne.symm hki)]
    have : (k == i) = false := by simpa using hki
    rw [this, cA]
  obtain ⟨s1, s2⟩ := zC ht hc (D := fun k => listed.getD k false) hso hif hup hcl (D' := fun k => (listed.setIfInBounds i true).getD k false) hD'
  rw [← hH] at s2
  refine vQ (H' := HD l Hs fps H (fun k => (listed.setIfInBounds i true).getD k false)) (base := base) (v := vs i) (fp := fps i) hcf hxf ho hrel hR hT ?_ fun C' a' m1 m2 m3 m4 m5 => ?_
  ·rcases s2 with ⟨q1, q2, q3⟩ | ⟨q1, q2⟩
   ·exact .inl ⟨q1, q2, q3⟩
   ·exact .inr ⟨q1, q2⟩
  ·refine ih (listed.setIfInBounds i true) C' a' ?_ (by simpa using hsz) ?_ (hE.trans m1) m3 (m5.trans hd) m2 (by rw [s1]; exact m4)
   ·have := lL (p := fun k => !listed.getD k false) (q := fun k => !(listed.setIfInBounds i true).getD k false) (i := i) (l := List.range ops.size)
     (fun x _ hx => by rw [hD' x] at hx; simp at hx ⊢; exact hx.1) (by simpa using hio) (by simpa using hif) (by rw [hD' i]; simp)
    omega
   ·intro m hm hml k hk
    rw [hD' m] at hm
    rw [hD' k]
    by_cases hmi : m = i
    ·subst hmi; rw [hup k hk]; rfl
    ·have : (m == i) = false := by simpa using hmi
     rw [this, cA] at hm
     rw [hcl m hm hml k hk]; rfl
end
end Go.AI
namespace Go.AI
def Ex.to : Ex → Exit
 | .normal => .normal
 | .exit id => .exit id
 | .ret => .ret
section
variable {P : Program} {cf : Cx} {xf : ExtF} {base fuel n : Nat}
theorem uU {l : List SOper} (h : Abo l = true) {i : Nat} {o : SOper} (ho : l[i]? = some o) : AI.laid o.op = true := by
 unfold Abo at h
 rw [Ij] at h
 have := h o (List.mem_of_getElem? ho)
 unfold AI.laid
 revert this
 cases o.op <;> simp
theorem yF (hm : P.follows .mixedOrders = true) (hcf : Pn P cf) (hxf : Vw P xf) {hs : Nat → Hint} {id : Nat} {ops : Array Oper} {draw : Bool} {l : List SOper} (hst : Ui P n hs ops draw = some l)
  {C : Ctx} {T T' : Tmps} {H' : Heap} {a : Act} {Q : Exit → Act → World → Prop} (h : aops cf xf base l [] T C.H = some (T', H')) (hR : Rel C) (hT : TR C n T a.tmps)
  (hQ : ∀ C' a', Evo C C' → C'.H = H' → Rel C' → TR C' n T' a'.tmps → a'.defers = a.defers → Q .normal a' C'.w) : (Code.region id ops draw).wp P Q a C.w := by
 unfold Ui at hst
 cases e1 : Qu P n hs ops 0 ops.toList with
 | none => simp [e1] at hst
 | some l0 =>
  obtain ⟨hlen, hrel⟩ := lI e1
  simp only [e1] at hst
  cases draw with
  | false =>
   simp at hst; subst hst
   refine wp_region ?_
   have hsz : ops.size = l0.length := by rw [hlen]; simp
   rw [hsz, List.range_eq_range']
   refine oA hcf hxf h (fun k so hk => ?_) hR hT hQ
   have hk' : k < ops.toList.length := by rw [← hlen]; exact (Dg.1 hk).1
   obtain ⟨so', m1, m2⟩ := hrel k ops.toList[k] (Ai hk')
   rw [hk] at m1; cases m1
   refine ⟨_, ?_, m2⟩
   simp at hk'
   simp [hk']
  | true =>
   simp only [if_true] at hst
   split at hst
   ·rename_i hok
    simp only [Bu] at hok
    obtain ⟨⟨hp, hld⟩, hdo⟩ := hok
    simp at hst; subst hst
    refine wp_region_any hm ?_
    obtain ⟨Ts, Hs, vs, fps, ht⟩ := iA h
    have hwl : (Mw (befs ops.toList []) l0 0 l0).length = ops.size := by rw [iQ, hlen]; simp
    have hget := fun k => iP (befs ops.toList []) l0 l0 0 k
    have hops : ∀ (k : Nat) (o : Oper), ops[k]? = some o → ops.toList[k]? = some o := fun k o h => by simpa using h
    obtain ⟨hE, hR'⟩ := Vi hR { C.w with drawn := C.w.drawn + 1 } rfl rfl rfl rfl
    have hch : Checked (Mw (befs ops.toList []) l0 0 l0) (fun i => (befs ops.toList []).getD i []) := by
     refine ⟨fun i o ho => uU hld ho, fun k i x y hki hx hy => ?_⟩
     have hil : i < (Mw (befs ops.toList []) l0 0 l0).length := (Dg.1 hy).1
     have hp' := hp
     unfold wW at hp'
     rw [Ij] at hp'
     have h1 := hp' i (by simpa using hil)
     rw [Ij] at h1
     have h2 := h1 k (by simpa using hki)
     rw [hx, hy] at h2
     simp only [Lc, List.contains_iff_mem] at h2
     by_cases hb : k ∈ (befs ops.toList []).getD i []
     ·exact .inl hb
     ·refine .inr ⟨h2.resolve_left hb, fun hw => ?_⟩
      rw [hget i] at hy
      rw [hget k] at hx
      simp only [Al] at hx hy
      obtain ⟨x0, hx0, rfl⟩ := hx
      obtain ⟨y0, hy0, rfl⟩ := hy
      simp only [unOf, Da, Ld, Kg, hx0, Bu, Qj]
      exact ⟨hki, by simpa using hb, hw⟩
    refine Ahg (n := n) (T := T) (T' := T') (H := C.H) (H' := H') (C0 := C) (a0 := a) (bef := fun i => (befs ops.toList []).getD i []) hcf hxf ht hch hwl ?_ ?_ ?_ hQ ops.size _ { C with w := { C.w with drawn := C.w.drawn + 1 } } a ?_ (by simp) ?_ hE hR' rfl ?_ ?_
    ·intro k o ho
     obtain ⟨so, m1, m2⟩ := hrel k o (hops k o ho)
     refine ⟨{ so with un := unOf (befs ops.toList []) l0 (0 + k) so.op }, ?_, ⟨m2.op, m2.guard, m2.dst, m2.lt⟩⟩
     rw [hget k, m1]; rfl
    ·intro k o ho j hj
     have := (lO ops.toList []).2 k o (hops k o ho)
     simp only [Dl, Da] at this
     simp only [this, mem_uniq, Nq, Ld, Au] at hj
     obtain ⟨k', ⟨m1, _⟩, m2⟩ := hj
     exact ⟨k', m1, m2⟩
    ·intro k o ho j hj
     have := lR hdo k o (hops k o ho) j hj
     omega
    ·have := List.countP_le_length (p := fun k => !(Array.replicate ops.size false).getD k false) (l := List.range ops.size)
     simpa using this
    ·intro m hm
     exfalso
     simp [Cv, Om] at hm
     split at hm <;> simp at hm
    ·have : (fun k => (Array.replicate ops.size false).getD k false) = fun _ => false := by
      funext k
      simp [Cv, Om]
      split <;> rfl
     rw [this]
     funext j
     unfold HD
     rw [Kt (i := 0) (Eg _) fun k _ _ => by simp]
     rfl
    ·have : (fun k => (Array.replicate ops.size false).getD k false) = fun _ => false := by
      funext k
      simp [Cv, Om]
      split <;> rfl
     rw [this]
     have h3 : TD (Mw (befs ops.toList []) l0 0 l0) vs T (fun _ => false) = T := by
      funext t
      unfold TD
      rw [Kt (i := 0) (Eg _) fun k _ _ => by simp]
      rfl
     rw [h3]
     exact hT.mono hE
   ·simp at hst
theorem Lk (hm : P.follows .mixedOrders = true) (hcf : Pn P cf) (hxf : Vw P xf) {hs : Aam} : ∀ (c : Code) {sc : SCode}, En P n hs c = some sc →
  ∀ {C : Ctx} {T T' : Tmps} {H' : Heap} {ex : Ex} {a : Act} {Q : Exit → Act → World → Prop}, Bb cf xf base fuel sc T C.H = some (ex, T', H') → Rel C → TR C n T a.tmps →
   (∀ C' a', Evo C C' → C'.H = H' → Rel C' → TR C' n T' a'.tmps → a'.defers = a.defers → Q ex.to a' C'.w) → c.wp P Q a C.w
 | .skip, sc, hst, C, T, T', H', ex, a, Q, h, hR, hT, hQ => by
  simp [En] at hst; subst hst
  simp [Bb] at h
  obtain ⟨rfl, rfl, rfl⟩ := h
  exact wp_skip (hQ C a (Evo.refl C) rfl hR hT rfl)
 | .label _, sc, hst, C, T, T', H', ex, a, Q, h, hR, hT, hQ => by
  simp [En] at hst; subst hst
  simp [Bb] at h
  obtain ⟨rfl, rfl, rfl⟩ := h
  exact wp_label (hQ C a (Evo.refl C) rfl hR hT rfl)
 | .scope b, sc, hst, C, T, T', H', ex, a, Q, h, hR, hT, hQ => by
  simp only [En] at hst
  refine wp_scope_straight (Lk hm hcf hxf b hst h hR hT fun C' a' m1 m2 m3 m4 m5 => ?_)
  have := hQ C' a' m1 m2 m3 m4 m5
  cases ex <;> simpa [Ex.to, Exit.noGoto] using this
 | .exit id, sc, hst, C, T, T', H', ex, a, Q, h, hR, hT, hQ => by
  simp [En] at hst; subst hst
  simp [Bb] at h
  obtain ⟨rfl, rfl, rfl⟩ := h
  exact wp_exit (hQ C a (Evo.refl C) rfl hR hT rfl)
 | .ret, sc, hst, C, T, T', H', ex, a, Q, h, hR, hT, hQ => by
  simp [En] at hst; subst hst
  simp [Bb] at h
  obtain ⟨rfl, rfl, rfl⟩ := h
  exact wp_ret (hQ C a (Evo.refl C) rfl hR hT rfl)
 | .region id ops draw, sc, hst, C, T, T', H', ex, a, Q, h, hR, hT, hQ => by
  simp only [En, Al] at hst
  obtain ⟨l, hl, rfl⟩ := hst
  simp only [Bb] at h
  split at h
  ·rename_i T1 H1 h1
   simp at h
   obtain ⟨rfl, rfl, rfl⟩ := h
   exact yF hm hcf hxf hl h1 hR hT hQ
  ·simp at h
 | .seq x y, sc, hst, C, T, T', H', ex, a, Q, h, hR, hT, hQ => by
  simp only [En] at hst
  split at hst
  ·rename_i sa sb h1 h2
   simp at hst; subst hst
   simp only [Bb] at h
   refine wp_seq ?_
   split at h
   ·rename_i T1 H1 h3
    refine Lk hm hcf hxf x h1 h3 hR hT fun C' a' m1 m2 m3 m4 m5 => ?_
    exact Lk hm hcf hxf y h2 (by rw [m2]; exact h) m3 m4 fun C2 a2 q1 q2 q3 q4 q5 => hQ C2 a2 (m1.trans q1) q2 q3 q4 (q5.trans m5)
   ·rename_i hne
    refine Lk hm hcf hxf x h1 h hR hT fun C' a' m1 m2 m3 m4 m5 => ?_
    have := hQ C' a' m1 m2 m3 m4 m5
    cases ex with
    | normal => exact absurd h (hne _ _)
    | exit id => exact this
    | ret => exact this
  ·simp at hst
 | .cond c x y, sc, hst, C, T, T', H', ex, a, Q, h, hR, hT, hQ => by
  simp only [En] at hst
  split at hst
  ·rename_i sx sa sb h0 h1 h2
   simp at hst; subst hst
   simp only [Bb] at h
   have hv := Ct hT h0
   split at h
   ·rename_i hb
    rw [hb] at hv
    exact wp_cond_true (by simpa [VR] using hv) (Lk hm hcf hxf x h1 h hR hT hQ)
   ·rename_i hb
    rw [hb] at hv
    exact wp_cond_false (by simpa [VR] using hv) (Lk hm hcf hxf y h2 h hR hT hQ)
   ·simp at h
  ·simp at hst
 | .block id b, sc, hst, C, T, T', H', ex, a, Q, h, hR, hT, hQ => by
  simp only [En, Al] at hst
  obtain ⟨sb, hb, rfl⟩ := hst
  simp only [Bb] at h
  refine wp_block ?_
  split at h
  ·rename_i i T1 H1 h1
   refine Lk hm hcf hxf b hb h1 hR hT fun C' a' m1 m2 m3 m4 m5 => ?_
   show (if i = id then _ else _)
   split at h
   ·rename_i hi
    simp at h
    obtain ⟨rfl, rfl, rfl⟩ := h
    rw [if_pos hi]
    exact hQ C' a' m1 m2 m3 m4 m5
   ·rename_i hi
    simp at h
    obtain ⟨rfl, rfl, rfl⟩ := h
    rw [if_neg hi]
    exact hQ C' a' m1 m2 m3 m4 m5
  ·rename_i hne
   refine Lk hm hcf hxf b hb h hR hT fun C' a' m1 m2 m3 m4 m5 => ?_
   have := hQ C' a' m1 m2 m3 m4 m5
   cases ex with
   | normal => exact this
   | exit id => exact absurd h (hne _ _ _)
   | ret => exact this
 | .loop b, sc, hst, C, T, T', H', ex, a, Q, h, hR, hT, hQ => by
  simp only [En, Al] at hst
  obtain ⟨sb, hb, rfl⟩ := hst
  simp only [Bb] at h
  refine wp_loop_rounds fuel ?_
  have key : ∀ (m : Nat) {C : Ctx} {T : Tmps} {a : Act}, Dm (Bb cf xf base fuel sb) m T C.H = some (ex, T', H') → Rel C → TR C n T a.tmps →
    (∀ C' a', Evo C C' → C'.H = H' → Rel C' → TR C' n T' a'.tmps → a'.defers = a.defers → Q ex.to a' C'.w) → Code.rounds P b Q m a C.w := by
   intro m
   induction m with
   | zero => intro C T a h; simp [Dm] at h
   | succ m ih =>
    intro C T a h hR hT hQ
    rw [rounds_succ]
    simp only [Dm] at h
    split at h
    ·rename_i T1 H1 h3
     refine Lk hm hcf hxf b hb h3 hR hT fun C' a' m1 m2 m3 m4 m5 => ?_
     exact ih (by rw [m2]; exact h) m3 m4 fun C2 a2 q1 q2 q3 q4 q5 => hQ C2 a2 (m1.trans q1) q2 q3 q4 (q5.trans m5)
    ·rename_i hne
     refine Lk hm hcf hxf b hb h hR hT fun C' a' m1 m2 m3 m4 m5 => ?_
     have := hQ C' a' m1 m2 m3 m4 m5
     cases ex with
     | normal => exact absurd h (hne _ _)
     | exit id => exact this
     | ret => exact this
  exact key fuel h hR hT hQ
end
end Go.AI
namespace Go.AI
section
variable {P : Program} {n : Nat}
theorem Abk {C : Ctx} {args : List AV} {vs : Array Value} (h : VRT C true true args vs.toList) (hle : args.length ≤ n) : TR C n (Qw args) (vs ++ Array.replicate (n - vs.size) undef) := by
 have hl := VRT.length h
 simp at hl
 refine ⟨by simp; omega, fun t => ?_⟩
 unfold Qw
 by_cases ht : t < args.length
 ·obtain ⟨v, h1, h2⟩ := VRT.get t h (Ai ht)
  have e1 : (vs ++ Array.replicate (n - vs.size) undef).getD t undef = v := by
   simp at h1
   rw [Cv, Array.getElem?_append_left (by omega), h1]; rfl
  have e2 : args.getD t .undef = args[t] := by simp [List.getD, ht]
  rw [e1, e2]; exact h2
 ·have e2 : args.getD t .undef = .undef := by simp [List.getD, ht]
  rw [e2]
  simp only [VR]
  rw [Cv, Array.getElem?_append_right (by omega), Om]
  split <;> rfl
theorem uE {C : Ctx} {T : Tmps} {tmps : Array Value} (hR : Rel C) (hT : TR C n T tmps) : ∀ {rs : List ResultVar} {srs : List SRes} {vs : List AV}, Nk P rs = some srs → srs.mapM (ares T C.H) = some vs →
  ∃ us : List Value, (∀ (k : Nat) (r : ResultVar), rs[k]? = some r → ∃ u, us[k]? = some u ∧ (match r with | .tmp t => (pure (tmps.getD t undef) : Sem Value) | .cell a t => do loadVar t (← asAddr (tmps.getD a undef))).run P C.w = .ok u C.w) ∧
   us.length = rs.length ∧ VRT C true true vs us
 | [], srs, vs, h, hm => by
  simp [Nk] at h; subst h
  simp at hm; subst hm
  exact ⟨[], fun k r hk => by simp at hk, rfl, by simp [VRT]⟩
 | .tmp t :: rs, srs, vs, h, hm => by
  simp only [Nk, Al] at h
  obtain ⟨l, h1, rfl⟩ := h
  simp only [pI, ares, Ac, Aa, Option.pure_def] at hm
  cases e1 : l.mapM (ares T C.H) with
  | none => rw [e1] at hm; simp at hm
  | some ws =>
   rw [e1] at hm
   simp at hm; subst hm
   obtain ⟨us, k1, k2, k3⟩ := uE hR hT h1 e1
   refine ⟨tmps.getD t undef :: us, fun k r hk => ?_, by simp [k2], ?_⟩
   ·cases k with
    | zero => simp at hk; subst hk; exact ⟨_, rfl, by simp⟩
    | succ k => exact k1 k r (by simpa using hk)
   ·simp only [VRT]
    exact ⟨_, _, rfl, hT.rel t, k3⟩
 | .cell a t :: rs, srs, vs, h, hm => by
  simp only [Nk] at h
  split at h
  ·rename_i kk l hk h1
   split at h
   ·rename_i hagg
    simp at h; subst h
    simp only [pI, Ac, Option.pure_def] at hm
    cases e0 : ares T C.H (.cell a kk (Gb P t)) with
    | none => rw [e0] at hm; simp at hm
    | some v0 =>
    rw [e0] at hm
    cases e1 : l.mapM (ares T C.H) with
    | none => rw [e1] at hm; simp at hm
    | some ws =>
     rw [e1] at hm
     simp at hm; subst hm
     obtain ⟨us, k1, k2, k3⟩ := uE hR hT h1 e1
     have hv := hT.rel a
     simp only [ares] at e0
     split at e0
     ·rename_i j g ver s i off hq
      rw [hq] at hv
      split at e0
      ·rename_i es hes
       split at e0
       ·rename_i e he
        split at e0
        ·rename_i hle
         simp at e0; subst e0
         obtain ⟨vs, hv', hrow, hvs⟩ := wK hR hes he hv
         have hl := VRL.length hvs
         simp at hl
         have hrun := Ml (P := P) C.w hk (Kj hk) (hrow.take kk) (by simp; omega) hagg
         have hvr := Ql hvs (k := kk) (agg := Gb P t) (by simp; omega) hagg
         refine ⟨(if Gb P t then .agg (vs.take kk).toArray else (vs.take kk).headD Go.undef) :: us, fun k r hkk => ?_, by simp [k2], ?_⟩
         ·cases k with
          | zero =>
           simp at hkk; subst hkk
           refine ⟨_, rfl, ?_⟩
           simp only [hv']
           simpa [asAddr] using hrun
          | succ k => exact k1 k r (by simpa using hkk)
         ·simp only [VRT]
          refine ⟨_, _, rfl, ?_, k3⟩
          simpa using hvr
        ·simp at e0
       ·simp at e0
      ·simp at e0
     ·simp at e0
   ·simp at h
  ·simp at h
theorem Wb {α : Type} {f : α → Sem Value} {w : World} : ∀ {xs : List α} {us : List Value}, us.length = xs.length → (∀ (k : Nat) (x : α), xs[k]? = some x → ∃ u, us[k]? = some u ∧ (f x).run P w = .ok u w) →
  (xs.mapM f).run P w = .ok us w
 | [], us, hl, _ => by
  simp at hl; subst hl
  simp
 | x :: xs, us, hl, h => by
  cases us with
  | nil => simp at hl
  | cons u us =>
   obtain ⟨u', h1, h2⟩ := h 0 x rfl
   simp at h1; subst h1
   have := Wb (xs := xs) (us := us) (by simpa using hl) fun k x hk => h (k + 1) x (by simpa using hk)
   simp [pI, h2, this]
theorem tH {fn : Func} {C : Ctx} {T : Tmps} {tmps : Array Value} {srs : List SRes} {v : AV} (hR : Rel C) (hT : TR C n T tmps) (hs : Nk P fn.results.toList = some srs) (h : Jb T C.H srs = some v) :
  ∃ v', (results fn tmps).run P C.w = .ok v' C.w ∧ VR C true true v v' := by
 cases e1 : srs.mapM (ares T C.H) with
 | none => simp [Jb, e1] at h
 | some vs =>
  obtain ⟨us, k1, k2, k3⟩ := uE hR hT hs e1
  have hlen := VRT.length k3
  refine ⟨if h : us.toArray.size = 1 then us.toArray[0] else .tuple us.toArray, ?_, ?_⟩
  ·unfold results
   simp only [Array.mapM_eq_mapM_toList]
   simp
   rw [Wb (us := us) k2 fun k x hk => ?_]
   ·simp
   ·obtain ⟨u, q1, q2⟩ := k1 k x hk
    exact ⟨u, q1, by cases x <;> simpa using q2⟩
  ·simp only [Jb, e1] at h
   split at h
   ·rename_i v0 hq
    simp at hq h
    subst hq; subst h
    simp only [VRT] at k3
    obtain ⟨u, us', rfl, h2, rfl⟩ := k3
    simpa using h2
   ·rename_i vs0 hne hq
    simp at hq h
    subst hq; subst h
    have : us.length ≠ 1 := by
     intro h1
     rw [hlen] at h1
     obtain ⟨v0, rfl⟩ := Qi.1 h1
     exact hne _ rfl
    simp only [List.size_toArray, this, dif_neg, not_false_eq_true, VR]
    exact ⟨_, rfl, by simpa using k3⟩
   ·simp_all
def Laid (P : Program) (B : Prog) : Prop := ∀ f fn', B f = some fn' → ∃ fn hs, P.funcs[f]? = some fn ∧ Us P hs fn = some fn' ∧ fn.name ≠ "runtime.NumGoroutine"
theorem Up (hm : P.follows .mixedOrders = true) {B : Prog} {xf : ExtF} {gf : Cx} (hB : Laid P B) (hxf : Vw P xf) (hgf : Pn P gf) : ∀ k, Pn P (Cj B xf gf k)
 | 0 => by
  intro C f base args v H' vs hR h
  simp [Cj] at h
 | k + 1 => by
  have ih := Up hm hB hxf hgf k
  intro C f base args v H' vs hR h hargs
  simp only [Cj] at h
  split at h
  ·exact hgf C f base args v H' vs hR h hargs
  ·rename_i fn' hf'
   obtain ⟨fn, hs, hfn, hst, hname⟩ := hB f fn' hf'
   unfold Us at hst
   split at hst
   ·rename_i c hbody
    split at hst
    ·rename_i code rs hc hrs
     split at hst
     ·rename_i hle
      simp at hst; subst hst
      refine ⟨⟨fn, hfn, by rw [hbody]; rfl, hname⟩, ?_⟩
      split at h
      ·rename_i hlen
       simp only at hlen h
       refine calls_of_wp hfn hbody ?_
       have hT := Abk (n := fn.ntmps) hargs (by omega)
       have fin : ∀ (ex : Ex) (T' : Tmps) (H1 : Heap), Bb (Cj B xf gf k) xf base k code (Qw args) C.H = some (ex, T', H1) → (ex = .normal ∨ ex = .ret) → (Jb T' H1 rs).map (fun v => (v, H1)) = some (v, H') →
         c.wp P (bodyPost P fn (Done C v H')) { tmps := vs ++ Array.replicate (fn.ntmps - vs.size) undef, defers := [] } C.w := by
        intro ex T' H1 h1 hex h2
        refine Lk hm ih hxf c hc h1 hR hT fun C' a' m1 m2 m3 m4 m5 => ?_
        simp only [Al, Ah] at h2
        obtain ⟨v0, h3, rfl, rfl⟩ := h2
        rw [← m2] at h3
        obtain ⟨v', h4, h5⟩ := tH m3 m4 hrs h3
        have hD : Done C v0 H1 (.returned v') C'.w := by
         have hC' : C' = ⟨C.F, C'.μ, H1, C'.w⟩ := by
          obtain ⟨F, μ, H, w⟩ := C'
          have := m1.F
          simp at this m2
          subst this; subst m2; rfl
         rw [hC'] at m1 m3 h5
         exact ⟨v', C'.μ, rfl, m1, m3, h5⟩
        rcases hex with rfl | rfl
        ·exact ⟨m5, v', h4, hD⟩
        ·exact ⟨m5, v', h4, hD⟩
       split at h
       ·rename_i T' H1 h1
        exact fin _ T' H1 h1 (.inl rfl) h
       ·rename_i T' H1 h1
        exact fin _ T' H1 h1 (.inr rfl) h
       ·simp at h
      ·simp at h
     ·simp at hst
    ·simp at hst
   ·simp at hst
end
end Go.AI
namespace Go.AI
def Adn : List (Nat × Nat × Hint) → Nat → Nat → Hint
 | [], _, _ => {}
 | (a, b, h) :: t, r, i => if a = r ∧ b = i then h else Adn t r i
def Bf (P : Program) (h : List (Nat × Nat × Hint)) (f : Func) : Type := {s : SFun // Us P (fun r i => Adn h r i) f = some s ∧ True}
def Bv {P : Program} {h : List (Nat × Nat × Hint)} {f : Func} {s : SFun} (e : Us P (fun r i => Adn h r i) f = some s ∧ True := by ((conv => arg 1; lhs; reduce); (dsimp only [Int.reduceOfNat, Int.reduceNegSucc]); exact ⟨rfl, trivial⟩)) : Bf P h f := ⟨s, e⟩
def Pp : SCode → List SCode
 | .seq a b => Pp a ++ Pp b
 | .cond _ a b => Pp a ++ Pp b
 | .block _ b => Pp b
 | .loop b => Pp b ++ [b]
 | _ => []
def Lp (c : SCode) (n : Nat) : Type := {b : SCode // (Pp c)[n]? = some b ∧ True}
def lpIt {c : SCode} {n : Nat} {b : SCode} (e : (Pp c)[n]? = some b ∧ True := by ((conv => arg 1; lhs; whnf); exact ⟨rfl, trivial⟩)) : Lp c n := ⟨b, e⟩
def look : List (Nat × SFun) → Nat → Option SFun
 | [], _ => none
 | (n, s) :: t, f => if f = n then some s else look t f
theorem Yv {P : Program} : Laid P (look []) := fun f fn h => by simp [look] at h
theorem An {P : Program} {n : Nat} {s : SFun} {t : List (Nat × SFun)} (h : ∃ fn hs, P.funcs[n]? = some fn ∧ Us P hs fn = some s ∧ fn.name ≠ "runtime.NumGoroutine") (ht : Laid P (look t)) : Laid P (look ((n, s) :: t)) := by
 intro f fn' hf
 simp only [look] at hf
 split at hf
 ·rename_i he
  subst he
  cases hf
  exact h
 ·exact ht f fn' hf
end Go.AI
namespace Go.AI
def W (r : XR) (Q : Ex → Tmps → Heap → Prop) : Prop := ∃ ex T H, r = some (ex, T, H) ∧ Q ex T H
def WO (r : Option (Tmps × Heap)) (Q : Tmps → Heap → Prop) : Prop := ∃ T H, r = some (T, H) ∧ Q T H
theorem W.mono {r : XR} {Q Q' : Ex → Tmps → Heap → Prop} (h : W r Q) (hq : ∀ ex T H, Q ex T H → Q' ex T H) : W r Q' :=
 let ⟨ex, T, H, h1, h2⟩ := h; ⟨ex, T, H, h1, hq _ _ _ h2⟩
def Then (A : Tmps → Heap → Prop) (Q : Ex → Tmps → Heap → Prop) : Ex → Tmps → Heap → Prop
 | .normal, T, H => A T H
 | ex, T, H => Q ex T H
def nF (id : Nat) (Q : Ex → Tmps → Heap → Prop) : Ex → Tmps → Heap → Prop
 | .exit i, T, H => if i = id then Q .normal T H else Q (.exit i) T H
 | ex, T, H => Q ex T H
section
variable {cf : Cx} {xf : ExtF} {base fuel : Nat} {T : Tmps} {H : Heap} {Q : Ex → Tmps → Heap → Prop} {QO : Tmps → Heap → Prop} {log : List FP}
theorem Agy (h : Q .normal T H) : W (Bb cf xf base fuel .skip T H) Q := ⟨_, _, _, rfl, h⟩
theorem Agh {id : Nat} (h : Q (.exit id) T H) : W (Bb cf xf base fuel (.exit id) T H) Q := ⟨_, _, _, rfl, h⟩
theorem Aic (h : Q .ret T H) : W (Bb cf xf base fuel .ret T H) Q := ⟨_, _, _, rfl, h⟩
theorem Ahu {a b : SCode} (h : W (Bb cf xf base fuel a T H) (Then (fun T H => W (Bb cf xf base fuel b T H) Q) Q)) : W (Bb cf xf base fuel (.seq a b) T H) Q := by
 obtain ⟨ex, T1, H1, h1, h2⟩ := h
 cases ex with
 | normal =>
  obtain ⟨ex2, T2, H2, h3, h4⟩ := h2
  exact ⟨ex2, T2, H2, by simp only [Bb, h1, h3], h4⟩
 | exit id => exact ⟨_, _, _, by simp only [Bb, h1], h2⟩
 | ret => exact ⟨_, _, _, by simp only [Bb, h1], h2⟩
theorem Agj {c : SArg} {a b : SCode} (hc : c.ev T = .bool true) (h : W (Bb cf xf base fuel a T H) Q) : W (Bb cf xf base fuel (.cond c a b) T H) Q := by
 obtain ⟨ex, T1, H1, h1, h2⟩ := h
 exact ⟨ex, T1, H1, by simp only [Bb, hc, h1], h2⟩
theorem Aew {c : SArg} {a b : SCode} (hc : c.ev T = .bool false) (h : W (Bb cf xf base fuel b T H) Q) : W (Bb cf xf base fuel (.cond c a b) T H) Q := by
 obtain ⟨ex, T1, H1, h1, h2⟩ := h
 exact ⟨ex, T1, H1, by simp only [Bb, hc, h1], h2⟩
theorem Aff {id : Nat} {b : SCode} (h : W (Bb cf xf base fuel b T H) (nF id Q)) : W (Bb cf xf base fuel (.block id b) T H) Q := by
 obtain ⟨ex, T1, H1, h1, h2⟩ := h
 cases ex with
 | normal => exact ⟨_, _, _, by simp only [Bb, h1], h2⟩
 | exit i =>
  simp only [nF] at h2
  by_cases hi : i = id
  ·rw [if_pos hi] at h2
   exact ⟨_, _, _, by simp only [Bb, h1, if_pos hi], h2⟩
  ·rw [if_neg hi] at h2
   exact ⟨_, _, _, by simp only [Bb, h1, if_neg hi], h2⟩
 | ret => exact ⟨_, _, _, by simp only [Bb, h1], h2⟩
theorem aY {b : SCode} (Inv : Nat → Tmps → Heap → Prop) (n : Nat) (h0 : Inv n T H) (hf : n < fuel)
  (hs : ∀ m T H, m ≤ n → Inv m T H → W (Bb cf xf base fuel b T H) (Then (fun T H => 0 < m ∧ Inv (m - 1) T H) Q)) : W (Bb cf xf base fuel (.loop b) T H) Q := by
 have key : ∀ (m f : Nat) (T : Tmps) (H : Heap), m ≤ n → m < f → Inv m T H → W (Dm (Bb cf xf base fuel b) f T H) Q := by
  intro m
  induction m with
  | zero =>
   intro f T H _ hf hi
   obtain ⟨ex, T1, H1, h1, h2⟩ := hs 0 T H (by omega) hi
   obtain ⟨f, rfl⟩ : ∃ g, f = g + 1 := ⟨f - 1, by omega⟩
   cases ex with
   | normal => exact absurd h2.1 (by omega)
   | exit id => exact ⟨_, _, _, by simp only [Dm, h1], h2⟩
   | ret => exact ⟨_, _, _, by simp only [Dm, h1], h2⟩
  | succ m ih =>
   intro f T H hn hf hi
   obtain ⟨ex, T1, H1, h1, h2⟩ := hs (m + 1) T H hn hi
   obtain ⟨f, rfl⟩ : ∃ g, f = g + 1 := ⟨f - 1, by omega⟩
   cases ex with
   | normal =>
    obtain ⟨ex, T2, H2, h3, h4⟩ := ih f T1 H1 (by omega) (by omega) (by simpa using h2.2)
    exact ⟨ex, T2, H2, by simp only [Dm, h1, h3], h4⟩
   | exit id => exact ⟨_, _, _, by simp only [Dm, h1], h2⟩
   | ret => exact ⟨_, _, _, by simp only [Dm, h1], h2⟩
 exact key n fuel T H (Ao _) hf h0
theorem Acn {ops : List SOper} (h : WO (aops cf xf base ops [] T H) (Q .normal)) : W (Bb cf xf base fuel (.region ops) T H) Q := by
 obtain ⟨T1, H1, h1, h2⟩ := h
 exact ⟨_, _, _, by simp only [Bb, h1], h2⟩
theorem Ahq (h : QO T H) : WO (aops cf xf base [] log T H) QO := ⟨_, _, rfl, h⟩
theorem Aq {o : SOper} {r : List SOper} {v : AV} {H' : Heap} {fp : FP} (hw : Af T o.guard = some true) (ho : aop cf xf base T H o.op = some (v, H', fp)) (hl : Av log fp o.un = true)
  (h : WO (aops cf xf base r (log ++ [fp]) (T.put o.dst v) H') QO) : WO (aops cf xf base (o :: r) log T H) QO := by
 obtain ⟨T1, H1, h1, h2⟩ := h
 exact ⟨T1, H1, by simp only [aops, hw, ho, hl, if_true, h1], h2⟩
theorem Acw {o : SOper} {r : List SOper} (hw : Af T o.guard = some false)
  (h : WO (aops cf xf base r (log ++ [.z]) (T.put o.dst .undef) H) QO) : WO (aops cf xf base (o :: r) log T H) QO := by
 obtain ⟨T1, H1, h1, h2⟩ := h
 exact ⟨T1, H1, by simp only [aops, hw, h1], h2⟩
theorem Aeo {o : SOper} {r : List SOper} {b : Bool} {H' : Heap} {fp : FP} (hw : Af T o.guard = some true) (ho : aop cf xf base T H o.op = some (.bool b, H', fp)) (hl : Av log fp o.un = true)
  (h1 : b = true → WO (aops cf xf base r (log ++ [fp]) (T.put o.dst (.bool true)) H') QO) (h2 : b = false → WO (aops cf xf base r (log ++ [fp]) (T.put o.dst (.bool false)) H') QO) :
  WO (aops cf xf base (o :: r) log T H) QO := by
 cases b with
 | true => exact Aq hw ho hl (h1 rfl)
 | false => exact Aq hw ho hl (h2 rfl)
end
def FnV (cf : Cx) (f : Nat) (args : List AV) (v : AV) : Prop := ∃ u Hc, cf f 0 args Heap.none = some (u, Hc) ∧ fz true deep Hc u = v
theorem sT {cf : Cx} {xf : ExtF} {base : Nat} {T : Tmps} {H : Heap} {f : Nat} {as : List SArg} {args : List AV} {v : AV} (hF : FnV cf f args v) (ha : (as.map (SArg.ev T)).map (fz false deep H) = args) :
  aop cf xf base T H (.call .pure f as) = some (v, H, ⟨(as.map (SArg.ev T)).flatMap (vis deep H), [], false⟩) := by
 obtain ⟨u, Hc, h1, rfl⟩ := hF
 simp only [aop, Fu, ha, h1, Ac, Aa]
theorem Yj {B : Prog} {xf : ExtF} {gf : Cx} {k f : Nat} {fn : SFun} {args : List AV} {v : AV} (hB : B f = some fn) (hl : args.length = fn.nparams)
  (h : W (Bb (Cj B xf gf k) xf 0 k fn.code (Qw args) Heap.none) (fun ex T H => (ex = .normal ∨ ex = .ret) ∧ ∃ u, Jb T H fn.results = some u ∧ fz true deep H u = v)) : FnV (Cj B xf gf (k + 1)) f args v := by
 obtain ⟨ex, T, H, h1, h2, u, h3, h4⟩ := h
 refine ⟨u, H, ?_, h4⟩
 rcases h2 with rfl | rfl
 ·simp only [Cj, hB, hl, if_true, h1, h3, Le]
 ·simp only [Cj, hB, hl, if_true, h1, h3, Le]
end Go.AI
namespace Go.AI
section
variable {cf : Cx} {xf : ExtF} {base fuel : Nat} {T : Tmps} {H : Heap} {Q : Ex → Tmps → Heap → Prop} {QO : Tmps → Heap → Prop} {log : List FP}
 {op : SOp} {g : Option (Nat × Bool)} {un : List Nat} {r : List SOper} {d : Nat} {H' : Heap} {fp : FP}
theorem ev_c {T : Tmps} (v : AV) : (SArg.c v).ev T = v := rfl
theorem wo_n (hw : Af T g = some false)
  (h : WO (aops cf xf base r (log ++ [.z]) (T.upd d .undef) H) QO) : WO (aops cf xf base (⟨some d, op, g, un⟩ :: r) log T H) QO := Acw hw h
theorem Aib (hw : Af T g = some false)
  (h : WO (aops cf xf base r (log ++ [.z]) T H) QO) : WO (aops cf xf base (⟨none, op, g, un⟩ :: r) log T H) QO := Acw hw h
theorem Uv {f : Nat} {as : List SArg} {args : List AV} {v : AV} (hF : FnV cf f args v) (hw : Af T g = some true) (ha : (as.map (SArg.ev T)).map (fz false deep H) = args)
  (hl : Av log ⟨(as.map (SArg.ev T)).flatMap (vis deep H), [], false⟩ un = true)
  (h : WO (aops cf xf base r (log ++ [⟨(as.map (SArg.ev T)).flatMap (vis deep H), [], false⟩]) (T.upd d v) H) QO) :
  WO (aops cf xf base (⟨some d, .call .pure f as, g, un⟩ :: r) log T H) QO := Aq hw (sT hF ha) hl h
theorem sV {f : Nat} {as : List SArg} {args : List AV} {b : Bool} (hF : FnV cf f args (.bool b)) (hw : Af T g = some true) (ha : (as.map (SArg.ev T)).map (fz false deep H) = args)
  (hl : Av log ⟨(as.map (SArg.ev T)).flatMap (vis deep H), [], false⟩ un = true)
  (h1 : b = true → WO (aops cf xf base r (log ++ [⟨(as.map (SArg.ev T)).flatMap (vis deep H), [], false⟩]) (T.upd d (.bool true)) H) QO)
  (h2 : b = false → WO (aops cf xf base r (log ++ [⟨(as.map (SArg.ev T)).flatMap (vis deep H), [], false⟩]) (T.upd d (.bool false)) H) QO) :
  WO (aops cf xf base (⟨some d, .call .pure f as, g, un⟩ :: r) log T H) QO := Aeo hw (sT hF ha) hl h1 h2
end
def u8 (c : UInt8) : AV := .int .u8 (c.toNat : Int)
def BL (l : List UInt8) : List AV := l.map u8
@[simp] theorem BL_length (l : List UInt8) : (BL l).length = l.length := by simp [BL]
@[simp] theorem BL_nil : BL [] = [] := rfl
theorem dV (c : UInt8) (l : List UInt8) : BL (c :: l) = u8 c :: BL l := rfl
theorem lC (a b : List UInt8) : BL (a ++ b) = BL a ++ BL b := by simp [BL]
theorem nL (a : List UInt8) (n : Nat) : (BL a).drop n = BL (a.drop n) := by simp [BL]
theorem mY (a : List UInt8) (n : Nat) : (BL a).take n = BL (a.take n) := by simp [BL]
theorem Abg (a : List UInt8) (n : Nat) : (BL a)[n]? = (a[n]?).map u8 := by simp [BL]
theorem Agr (a : List UInt8) (n : Nat) (c : UInt8) : (BL a).set n (u8 c) = BL (a.set n c) := by simp [BL]
theorem Js : ∀ l : List UInt8, Bq (BL l) = true
 | [] => rfl
 | c :: l => by simp [dV, Bq, u8, AV.norefs, Js l]
theorem Oi (n : Nat) : List.replicate n (AV.int .u8 0) = BL (List.replicate n 0) := by simp [BL, u8]
theorem Adl (out : Bool) (n : Nat) (H : Heap) (l : List UInt8) : (BL l).map (fz out (n + 1) H) = BL l := by
 induction l with
 | nil => rfl
 | cons c l ih => rw [dV, Bc, ih]; rfl
theorem Ph {out : Bool} {n : Nat} {H : Heap} {j g ver s off len : Nat} {cap : Option Nat} {es : List AV} (hr : H.row j g ver s = some es) (hle : off + len ≤ ver) :
  fz out (n + 1) H (.slc j g ver s off len cap) = .islc (!out) false s (((es.drop off).take len).map (fz out n H)) := by
 simp only [fz, hr, if_pos hle]
theorem mR {out : Bool} {n : Nat} {H : Heap} {j g ver s off len : Nat} {cap : Option Nat} {l : List UInt8} (hr : H.row j g ver s = some (BL l)) (hle : off + len ≤ ver) :
  fz out (n + 2) H (.slc j g ver s off len cap) = .islc (!out) false s (BL ((l.drop off).take len)) := by
 rw [Ph hr hle, nL, mY, Adl]
theorem Ek {H : Heap} {j g ver s : Nat} {ro : Bool} {es : List AV} (h : H j = ⟨g, ro, .row s es⟩) (hl : es.length = ver) : H.row j g ver s = some es := by
 unfold Heap.row
 rw [h]
 simp [hl]
theorem Aep {n : Nat} {H : Heap} {u : AV} (h : fz true (n + 1) H u = .bool true) : u = .bool true := by
 unfold fz at h
 split at h
 all_goals try (split at h)
 all_goals try (split at h)
 all_goals try (split at h)
 all_goals try (simp at h; done)
 all_goals exact h
def bAt (l : List UInt8) (i : Int) : UInt8 := l.getD i.toNat 0
section
variable {cf : Cx} {xf : ExtF} {base fuel : Nat} {T : Tmps} {H : Heap} {Q : Ex → Tmps → Heap → Prop} {QO : Tmps → Heap → Prop} {log : List FP}
 {op : SOp} {g : Option (Nat × Bool)} {un : List Nat} {r : List SOper} {d : Nat} {H' : Heap} {fp : FP} {t f : Bool} {l : List UInt8}
theorem Ahp {s : Nat} {x : SArg} (hx : x.ev T = .islc t f s (BL l)) (hw : Af T g = some true) (hl : Av log .z un = true)
  (h : WO (aops cf xf base r (log ++ [.z]) (T.upd d (.int .i64 l.length)) H) QO) : WO (aops cf xf base (⟨some d, .len x, g, un⟩ :: r) log T H) QO :=
 Aq (v := .int .i64 l.length) hw (by simp [aop, hx, rv]) hl h
theorem Afb {s : Nat} {x : SArg} (hx : x.ev T = .islc t f s []) (hw : Af T g = some true) (hl : Av log .z un = true)
  (h : WO (aops cf xf base r (log ++ [.z]) (T.upd d (.int .i64 0)) H) QO) : WO (aops cf xf base (⟨some d, .len x, g, un⟩ :: r) log T H) QO :=
 Aq (v := .int .i64 0) hw (by simp [aop, hx, rv]) hl h
theorem Afu {x i : SArg} {k : IntKind} {n : Int} (hx : x.ev T = .islc t f 1 (BL l)) (hi : i.ev T = .int k n) (h0 : 0 ≤ n) (h1 : n < l.length) (hw : Af T g = some true) (hl : Av log .z un = true)
  (h : WO (aops cf xf base r (log ++ [.z]) (T.upd d (.iptr t [.int .u8 (bAt l n).toNat])) H) QO) : WO (aops cf xf base (⟨some d, .iaddr 1 x i, g, un⟩ :: r) log T H) QO :=
 Aq (v := .iptr t [.int .u8 (bAt l n).toNat]) hw (by
  have : n.toNat < l.length := by omega
  simp [aop, hx, hi, rv, Fb, h0, Abg, this, u8, AV.cells, bAt]) hl h
theorem Ahz (v : AV) {x : SArg} (hx : x.ev T = v) (hw : Af T g = some true) (hl : Av log .z un = true)
  (h : WO (aops cf xf base r (log ++ [.z]) (T.upd d v) H) QO) : WO (aops cf xf base (⟨some d, .mv x, g, un⟩ :: r) log T H) QO :=
 Aq (v := v) hw (by simp [aop, hx, rv]) hl h
theorem Acz (v : AV) {c a b : SArg} (hc : c.ev T = .bool true) (hx : a.ev T = v) (hw : Af T g = some true) (hl : Av log .z un = true)
  (h : WO (aops cf xf base r (log ++ [.z]) (T.upd d v) H) QO) : WO (aops cf xf base (⟨some d, .pick c a b, g, un⟩ :: r) log T H) QO :=
 Aq (v := v) hw (by simp [aop, hc, hx, rv]) hl h
theorem Adr (v : AV) {c a b : SArg} (hc : c.ev T = .bool false) (hx : b.ev T = v) (hw : Af T g = some true) (hl : Av log .z un = true)
  (h : WO (aops cf xf base r (log ++ [.z]) (T.upd d v) H) QO) : WO (aops cf xf base (⟨some d, .pick c a b, g, un⟩ :: r) log T H) QO :=
 Aq (v := v) hw (by simp [aop, hc, hx, rv]) hl h
theorem wA (b : Bool) {x : SArg} (hx : x.ev T = .bool b) (hw : Af T g = some true) (hl : Av log .z un = true)
  (h : WO (aops cf xf base r (log ++ [.z]) (T.upd d (.bool !b)) H) QO) : WO (aops cf xf base (⟨some d, .un .not x, g, un⟩ :: r) log T H) QO :=
 Aq (v := .bool !b) hw (by simp [aop, aun, hx, rv]) hl h
theorem Aev {x : SArg} (hx : x.ev T = .bool true) (hw : Af T g = some true) (hl : Av log .z un = true)
  (h : WO (aops cf xf base r (log ++ [.z]) (T.upd d (.bool false)) H) QO) : WO (aops cf xf base (⟨some d, .un .not x, g, un⟩ :: r) log T H) QO := wA true hx hw hl h
theorem Afn {x : SArg} (hx : x.ev T = .bool false) (hw : Af T g = some true) (hl : Av log .z un = true)
  (h : WO (aops cf xf base r (log ++ [.z]) (T.upd d (.bool true)) H) QO) : WO (aops cf xf base (⟨some d, .un .not x, g, un⟩ :: r) log T H) QO := wA false hx hw hl h
theorem Agm (v : Bool) {neg : Bool} {x y : SArg} {a b : Bool} (hx : x.ev T = .bool a) (hy : y.ev T = .bool b) (hv : ((a == b) != neg) = v) (hw : Af T g = some true) (hl : Av log .z un = true)
  (h : WO (aops cf xf base r (log ++ [.z]) (T.upd d (.bool v)) H) QO) : WO (aops cf xf base (⟨some d, .eqb neg x y, g, un⟩ :: r) log T H) QO :=
 Aq (v := .bool v) hw (by simp [aop, hx, hy, rv, ← hv]) hl h
@[reducible] def cmpP : BinOp → Int → Int → Prop
 | .eql, a, b => a = b
 | .neq, a, b => a ≠ b
 | .lss, a, b => a < b
 | .leq, a, b => a ≤ b
 | .gtr, a, b => b < a
 | .geq, a, b => b ≤ a
 | _, _, _ => False
def gO : BinOp → Bool
 | .eql | .neq | .lss | .leq | .gtr | .geq => true
 | _ => false
theorem sQ {op : BinOp} (ho : gO op = true) {k : IntKind} {a b : Int} : (cmpP op a b → abin op (.int k a) (.int k b) = some (.bool true)) ∧ (¬ cmpP op a b → abin op (.int k a) (.int k b) = some (.bool false)) := by
 cases op <;> simp [gO] at ho <;> constructor <;> intro h <;> simp [cmpP] at h <;> simp [abin, h] <;> omega
theorem wV {op : BinOp} {x y : SArg} {k : IntKind} {a b : Int} (hc : gO op = true) (hx : x.ev T = .int k a) (hy : y.ev T = .int k b) (hp : cmpP op a b) (hw : Af T g = some true) (hl : Av log .z un = true)
  (h : WO (aops cf xf base r (log ++ [.z]) (T.upd d (.bool true)) H) QO) : WO (aops cf xf base (⟨some d, .bin op x y, g, un⟩ :: r) log T H) QO :=
 Aq (v := .bool true) hw (by simp only [aop, hx, hy, (sQ hc).1 hp, Aa, rv]) hl h
theorem wJ {op : BinOp} {x y : SArg} {k : IntKind} {a b : Int} (hc : gO op = true) (hx : x.ev T = .int k a) (hy : y.ev T = .int k b) (hp : ¬ cmpP op a b) (hw : Af T g = some true) (hl : Av log .z un = true)
  (h : WO (aops cf xf base r (log ++ [.z]) (T.upd d (.bool false)) H) QO) : WO (aops cf xf base (⟨some d, .bin op x y, g, un⟩ :: r) log T H) QO :=
 Aq (v := .bool false) hw (by simp only [aop, hx, hy, (sQ hc).2 hp, Aa, rv]) hl h
theorem Agg {op : BinOp} {x y : SArg} {k : IntKind} {a b : Int} (hc : gO op = true) (hx : x.ev T = .int k a) (hy : y.ev T = .int k b) (hw : Af T g = some true) (hl : Av log .z un = true)
  (h1 : cmpP op a b → WO (aops cf xf base r (log ++ [.z]) (T.upd d (.bool true)) H) QO) (h2 : ¬ cmpP op a b → WO (aops cf xf base r (log ++ [.z]) (T.upd d (.bool false)) H) QO) : WO (aops cf xf base (⟨some d, .bin op x y, g, un⟩ :: r) log T H) QO := by
 by_cases hp : cmpP op a b
 ·exact wV hc hx hy hp hw hl (h1 hp)
 ·exact wJ hc hx hy hp hw hl (h2 hp)
theorem Agc (v : AV) {op : BinOp} {x y : SArg} (hv : abin op (x.ev T) (y.ev T) = some v) (hw : Af T g = some true) (hl : Av log .z un = true)
  (h : WO (aops cf xf base r (log ++ [.z]) (T.upd d v) H) QO) : WO (aops cf xf base (⟨some d, .bin op x y, g, un⟩ :: r) log T H) QO :=
 Aq (v := v) hw (by simp [aop, hv, rv]) hl h
theorem Ahl {x : SArg} {k k' : IntKind} {a : Int} (hx : x.ev T = .int k a) (hw : Af T g = some true) (hl : Av log .z un = true)
  (h : WO (aops cf xf base r (log ++ [.z]) (T.upd d (.int k' (k'.wrap a))) H) QO) : WO (aops cf xf base (⟨some d, .cvi k' x, g, un⟩ :: r) log T H) QO :=
 Aq (v := .int k' (k'.wrap a)) hw (by simp [aop, hx, rv]) hl h
theorem Agi {site : Nat} (v : AV) {x : SArg} (hx : x.ev T = v) (hs : Dq v = true) (hw : Af T g = some true) (hl : Av log ⟨[], [base + site], false⟩ un = true)
  (h : WO (aops cf xf base r (log ++ [⟨[], [base + site], false⟩]) (T.upd d (.ptr (base + site) ((H (base + site)).gen + 1) 1 v.cells.length 0 0)) (H.newRow (base + site) v.cells.length [v])) QO) :
  WO (aops cf xf base (⟨some d, .box site x, g, un⟩ :: r) log T H) QO :=
 Aq (v := .ptr (base + site) ((H (base + site)).gen + 1) 1 v.cells.length 0 0) hw (by simp [aop, hx, hs]) hl h
theorem xL {site s : Nat} (hw : Af T g = some true) (hl : Av log ⟨[], [base + site], false⟩ un = true)
  (h : WO (aops cf xf base r (log ++ [⟨[], [base + site], false⟩]) (T.upd d (.slc (base + site) ((H (base + site)).gen + 1) 0 s 0 0 .none)) (H.newRow (base + site) s [])) QO) :
  WO (aops cf xf base (⟨some d, .nilrow site s, g, un⟩ :: r) log T H) QO :=
 Aq (v := .slc (base + site) ((H (base + site)).gen + 1) 0 s 0 0 .none) hw (by simp [aop]) hl h
theorem wM (v : AV) {k : Nat} {agg : Bool} {x : SArg} {j g0 ver s i off : Nat} {es : List AV} {e : AV} (hx : x.ev T = .ptr j g0 ver s i off) (hr : H.row j g0 ver s = some es) (he : es[i]? = some e) (hk : off + k ≤ e.cells.length)
  (hv : (if agg then AV.agg ((e.cells.drop off).take k) else ((e.cells.drop off).headD .undef)) = v) (hw : Af T g = some true) (hl : Av log ⟨[j], [], false⟩ un = true)
  (h : WO (aops cf xf base r (log ++ [⟨[j], [], false⟩]) (T.upd d v) H) QO) : WO (aops cf xf base (⟨some d, .load k agg x, g, un⟩ :: r) log T H) QO :=
 Aq (v := v) hw (by simp only [aop, hx, hr, he, if_pos hk, hv]) hl h
theorem Acq (v : AV) {k : Nat} {agg tt : Bool} {x : SArg} {cs : List AV} (hx : x.ev T = .iptr tt cs) (hk : k ≤ cs.length)
  (hv : (if agg then AV.agg (cs.take k) else cs.headD .undef) = v) (hw : Af T g = some true) (hl : Av log .z un = true)
  (h : WO (aops cf xf base r (log ++ [.z]) (T.upd d v) H) QO) : WO (aops cf xf base (⟨some d, .load k agg x, g, un⟩ :: r) log T H) QO :=
 Aq (v := v) hw (by simp only [aop, hx, if_pos hk, hv, rv]) hl h
theorem qU {k : Nat} {x y : SArg} {j g0 ver s i off : Nat} {es cs : List AV} {e v : AV} (hx : x.ev T = .ptr j g0 ver s i off) (hr : H.rowW j g0 ver s = some es) (he : es[i]? = some e) (hy : y.ev T = v) (hs : Dq v = true)
  (hcs : v.cells = cs) (hk : cs.length = k) (hle : off + k ≤ e.cells.length) (hw : Af T g = some true) (hl : Av log ⟨[j], [j], false⟩ un = true)
  (h : WO (aops cf xf base r (log ++ [⟨[j], [j], false⟩]) T (H.setRow j s (es.set i (e.rewrap (e.cells.take off ++ cs ++ e.cells.drop (off + k)))))) QO) :
  WO (aops cf xf base (⟨none, .store k x y, g, un⟩ :: r) log T H) QO :=
 Aq (v := .undef) hw (by subst hcs; simp only [aop, hx, hr, he, hy]; rw [if_pos ⟨hs, hk, hle⟩]) hl h
theorem Abl {o : Nat} {x : SArg} {j g0 ver s i off : Nat} (hx : x.ev T = .ptr j g0 ver s i off) (hw : Af T g = some true) (hl : Av log .z un = true)
  (h : WO (aops cf xf base r (log ++ [.z]) (T.upd d (.ptr j g0 ver s i (off + o))) H) QO) : WO (aops cf xf base (⟨some d, .faddr o x, g, un⟩ :: r) log T H) QO :=
 Aq (v := .ptr j g0 ver s i (off + o)) hw (by simp [aop, hx, rv]) hl h
theorem vK (v : AV) {i : Nat} {x : SArg} {vs : List AV} (hx : x.ev T = .tup vs) (hv : vs[i]? = some v) (hw : Af T g = some true) (hl : Av log .z un = true)
  (h : WO (aops cf xf base r (log ++ [.z]) (T.upd d v) H) QO) : WO (aops cf xf base (⟨some d, .extract x i, g, un⟩ :: r) log T H) QO :=
 Aq (v := v) hw (by simp [aop, hx, hv, rv]) hl h
theorem sG {v u : AV} {i : Nat} {x : SArg} {vs : List AV} (hx : x.ev T = .tup vs) (hv : vs[i]? = some u) (hu : u = v) (hw : Af T g = some true) (hl : Av log .z un = true)
  (h : WO (aops cf xf base r (log ++ [.z]) (T.upd d v) H) QO) : WO (aops cf xf base (⟨some d, .extract x i, g, un⟩ :: r) log T H) QO :=
 vK v hx (by rw [hv, hu]) hw hl h
theorem Acu (v : AV) {off k : Nat} {agg : Bool} {x : SArg} {cs : List AV} (hx : x.ev T = .agg cs) (hk : off + k ≤ cs.length) (hv : (if agg then AV.agg ((cs.drop off).take k) else ((cs.drop off).headD .undef)) = v)
  (hw : Af T g = some true) (hl : Av log .z un = true)
  (h : WO (aops cf xf base r (log ++ [.z]) (T.upd d v) H) QO) : WO (aops cf xf base (⟨some d, .field off k agg x, g, un⟩ :: r) log T H) QO :=
 Aq (v := v) hw (by simp only [aop, hx, if_pos hk, hv, rv]) hl h
theorem Afa {x : SArg} {j g0 ver s off len : Nat} {cap : Option Nat} (hx : x.ev T = .slc j g0 ver s off len cap) (hw : Af T g = some true) (hl : Av log .z un = true)
  (h : WO (aops cf xf base r (log ++ [.z]) (T.upd d (.int .i64 len)) H) QO) : WO (aops cf xf base (⟨some d, .len x, g, un⟩ :: r) log T H) QO :=
 Aq (v := .int .i64 len) hw (by simp [aop, hx, rv]) hl h
theorem pP (v : AV) {z : List AV} {ps : List (Nat × Nat × SArg)} {cs : List AV} (hc : Jf z (ps.map fun (o, k, x) => (o, k, x.ev T)) = some cs) (hv : AV.agg cs = v) (hw : Af T g = some true) (hl : Av log .z un = true)
  (h : WO (aops cf xf base r (log ++ [.z]) (T.upd d v) H) QO) : WO (aops cf xf base (⟨some d, .build z ps, g, un⟩ :: r) log T H) QO :=
 Aq (v := v) hw (by simp only [aop, hc, Ac, Aa, rv, hv]) hl h
theorem yN {site s n : Nat} {z : AV} {ps : List (Nat × SArg)} {es : List AV} (hz : z.cells.length = s) (hc : Je s (List.replicate n z) (ps.map fun (i, x) => (i, x.ev T)) = some es) (hw : Af T g = some true) (hl : Av log ⟨[], [base + site], false⟩ un = true)
  (h : WO (aops cf xf base r (log ++ [⟨[], [base + site], false⟩]) (T.upd d (.slc (base + site) ((H (base + site)).gen + 1) n s 0 n .none)) (H.newRow (base + site) s es)) QO) : WO (aops cf xf base (⟨some d, .buildS site s n z ps, g, un⟩ :: r) log T H) QO :=
 Aq (v := .slc (base + site) ((H (base + site)).gen + 1) n s 0 n .none) hw (by simp only [aop, hz, ne_eq, Mm, Bx, hc]) hl h
theorem Agf {x y : SArg} {a b : Int} (hx : x.ev T = .int .i64 a) (hy : y.ev T = .int .i64 b) (hf : -9223372036854775808 ≤ a + b ∧ a + b ≤ 9223372036854775807) (hw : Af T g = some true) (hl : Av log .z un = true)
  (h : WO (aops cf xf base r (log ++ [.z]) (T.upd d (.int .i64 (a + b))) H) QO) : WO (aops cf xf base (⟨some d, .bin .add x y, g, un⟩ :: r) log T H) QO :=
 Aq (v := .int .i64 (a + b)) hw (by simp [aop, hx, hy, rv, abin, IntWalk.i64_in _ hf]) hl h
theorem Ahs {x y : SArg} {a b : Int} (hx : x.ev T = .int .i64 a) (hy : y.ev T = .int .i64 b) (hf : -9223372036854775808 ≤ a - b ∧ a - b ≤ 9223372036854775807) (hw : Af T g = some true) (hl : Av log .z un = true)
  (h : WO (aops cf xf base r (log ++ [.z]) (T.upd d (.int .i64 (a - b))) H) QO) : WO (aops cf xf base (⟨some d, .bin .sub x y, g, un⟩ :: r) log T H) QO :=
 Aq (v := .int .i64 (a - b)) hw (by simp [aop, hx, hy, rv, abin, IntWalk.i64_in _ hf]) hl h
theorem Agu {x y : SArg} {a b : Int} (hx : x.ev T = .int .i64 a) (hy : y.ev T = .int .i64 b) (hf : -9223372036854775808 ≤ a * b ∧ a * b ≤ 9223372036854775807) (hw : Af T g = some true) (hl : Av log .z un = true)
  (h : WO (aops cf xf base r (log ++ [.z]) (T.upd d (.int .i64 (a * b))) H) QO) : WO (aops cf xf base (⟨some d, .bin .mul x y, g, un⟩ :: r) log T H) QO :=
 Aq (v := .int .i64 (a * b)) hw (by simp [aop, hx, hy, rv, abin, IntWalk.i64_in _ hf]) hl h
theorem Aez {x : SArg} {k : IntKind} {a : Int} (hx : x.ev T = .int k a) (hf : -9223372036854775808 ≤ a ∧ a ≤ 9223372036854775807) (hw : Af T g = some true) (hl : Av log .z un = true)
  (h : WO (aops cf xf base r (log ++ [.z]) (T.upd d (.int .i64 a)) H) QO) : WO (aops cf xf base (⟨some d, .cvi .i64 x, g, un⟩ :: r) log T H) QO :=
 Aq (v := .int .i64 a) hw (by simp [aop, hx, rv, IntWalk.i64_in _ hf]) hl h
theorem pX {x : SArg} {k : IntKind} {a : Int} (hx : x.ev T = .int k a) (hf : 0 ≤ a ∧ a ≤ 18446744073709551615) (hw : Af T g = some true) (hl : Av log .z un = true)
  (h : WO (aops cf xf base r (log ++ [.z]) (T.upd d (.int .u64 a)) H) QO) : WO (aops cf xf base (⟨some d, .cvi .u64 x, g, un⟩ :: r) log T H) QO :=
 Aq (v := .int .u64 a) hw (by simp [aop, hx, rv, IntWalk.u64_in _ hf]) hl h
theorem Agw {x : SArg} {k : IntKind} {a : Int} (hx : x.ev T = .int k a) (hw : Af T g = some true) (hl : Av log .z un = true)
  (h : WO (aops cf xf base r (log ++ [.z]) (T.upd d (.int .u64 (a % 18446744073709551616))) H) QO) : WO (aops cf xf base (⟨some d, .cvi .u64 x, g, un⟩ :: r) log T H) QO :=
 Aq (v := .int .u64 (a % 18446744073709551616)) hw (by simp [aop, hx, rv, IntKind.wrap, IntKind.bits, IntKind.signed]) hl h
theorem Aga {x y : SArg} {k : IntKind} {a b : Int} (hx : x.ev T = .int k a) (hy : y.ev T = .int k b) (ha : 0 ≤ a) (hb : 0 < b) (hw : Af T g = some true) (hl : Av log .z un = true)
  (h : WO (aops cf xf base r (log ++ [.z]) (T.upd d (.int k (a % b))) H) QO) : WO (aops cf xf base (⟨some d, .bin .rem x y, g, un⟩ :: r) log T H) QO :=
 Aq (v := .int k (a % b)) hw (by
  have : b ≠ 0 := by omega
  simp [aop, hx, hy, rv, abin, this, Int.tmod_eq_emod_of_nonneg ha]) hl h
theorem Ahj {site : Nat} {x y : SArg} {k k' : IntKind} {n : Int} (hx : x.ev T = .int k n) (hy : y.ev T = .int k' n) (h0 : 0 ≤ n) (h1 : n ≤ 68719476736) (hw : Af T g = some true) (hl : Av log ⟨[], [base + site], false⟩ un = true)
  (h : WO (aops cf xf base r (log ++ [⟨[], [base + site], false⟩]) (T.upd d (.slc (base + site) ((H (base + site)).gen + 1) n.toNat 1 0 n.toNat .none)) (H.newRow (base + site) 1 (BL (List.replicate n.toNat 0)))) QO) :
  WO (aops cf xf base (⟨some d, .mks site 1 (.int .u8 0) x y, g, un⟩ :: r) log T H) QO :=
 Aq (v := .slc (base + site) ((H (base + site)).gen + 1) n.toNat 1 0 n.toNat .none) (H' := H.newRow (base + site) 1 (BL (List.replicate n.toNat 0))) hw (by
  simp only [aop, hx, hy, Fb, if_pos h0, Ac, Aa]
  rw [if_pos ⟨Ao _, by simp [Gz]; omega, rfl⟩, Oi]) hl h
theorem rR {x y : SArg} {a b : Nat} (hx : x.ev T = .int .u32 a) (hy : y.ev T = .int .u32 b) (ha : a < 4294967296) (hb : b < 4294967296) (hw : Af T g = some true) (hl : Av log .z un = true)
  (h : WO (aops cf xf base r (log ++ [.z]) (T.upd d (.int .u32 (a ^^^ b : Nat))) H) QO) : WO (aops cf xf base (⟨some d, .bin .xor x y, g, un⟩ :: r) log T H) QO :=
 Aq (v := .int .u32 (a ^^^ b : Nat)) hw (by
  have h1 : (BitVec.ofInt 32 (a : Int)).toNat = a := by simp; omega
  have h2 : (BitVec.ofInt 32 (b : Int)).toNat = b := by simp; omega
  have h3 : a ^^^ b < 2 ^ 32 := Xr (by omega) (by omega)
  have h4 : (BitVec.ofInt IntKind.u32.bits (a : Int) ^^^ BitVec.ofInt IntKind.u32.bits (b : Int)).toNat = a ^^^ b := by
   show (BitVec.ofInt 32 (a : Int) ^^^ BitVec.ofInt 32 (b : Int)).toNat = a ^^^ b
   rw [BitVec.toNat_xor, h1, h2]
  simp only [aop, hx, hy, rv, abin, ne_eq, Mm, Bx, h4, Aa]
  rw [IntWalk.u32_in _ (by constructor <;> omega)]) hl h
theorem Afi {x : SArg} {a : Nat} {c : Int} (hx : x.ev T = .int .u32 a) (ha : a < 4294967296) (hc : 0 ≤ c ∧ c < 4294967296) (hw : Af T g = some true) (hl : Av log .z un = true)
  (h : WO (aops cf xf base r (log ++ [.z]) (T.upd d (.int .u32 (a ^^^ c.toNat : Nat))) H) QO) : WO (aops cf xf base (⟨some d, .bin .xor x (.c (.int .u32 c)), g, un⟩ :: r) log T H) QO :=
 rR (b := c.toNat) hx (by rw [ev_c]; congr 1; omega) ha (by omega) hw hl h
theorem rM {x : SArg} {a : Nat} (hx : x.ev T = .int .u32 a) (ha : a < 4294967296) (hw : Af T g = some true) (hl : Av log .z un = true)
  (h : WO (aops cf xf base r (log ++ [.z]) (T.upd d (.int .u32 (4294967295 - a : Nat))) H) QO) : WO (aops cf xf base (⟨some d, .un .xor x, g, un⟩ :: r) log T H) QO :=
 Aq (v := .int .u32 (4294967295 - a : Nat)) hw (by
  have h4 : (BitVec.ofInt IntKind.u32.bits (if IntKind.u32.signed then -1 else IntKind.u32.max) ^^^ BitVec.ofInt IntKind.u32.bits (a : Int)).toNat = 4294967295 - a := by
   show (BitVec.allOnes 32 ^^^ BitVec.ofInt 32 (a : Int)).toNat = 4294967295 - a
   rw [BitVec.allOnes_xor, BitVec.toNat_not]
   have h1 : (BitVec.ofInt 32 (a : Int)).toNat = a := by simp; omega
   rw [h1]
  simp only [aop, hx, rv, aun, h4, Aa]
  rw [IntWalk.u32_in _ (by constructor <;> omega)]) hl h
theorem Afc {x : SArg} {a : Nat} (hx : x.ev T = .int .u32 a) (ha : a < 4294967296) (hw : Af T g = some true) (hl : Av log .z un = true)
  (h : WO (aops cf xf base r (log ++ [.z]) (T.upd d (.int .u32 (a % 2 : Nat))) H) QO) : WO (aops cf xf base (⟨some d, .bin .and x (.c (.int .u32 1)), g, un⟩ :: r) log T H) QO :=
 Aq (v := .int .u32 (a % 2 : Nat)) hw (by
  have h4 : (BitVec.ofInt IntKind.u32.bits (a : Int) &&& BitVec.ofInt IntKind.u32.bits 1).toNat = a % 2 := by
   show (BitVec.ofInt 32 (a : Int) &&& BitVec.ofInt 32 1).toNat = a % 2
   have h1 : (BitVec.ofInt 32 (a : Int)).toNat = a := by simp; omega
   rw [BitVec.toNat_and, h1]
   exact Nat.and_one_is_mod a
  simp only [aop, hx, rv, abin, ev_c, ne_eq, Mm, Bx, h4, Aa]
  rw [IntWalk.u32_in _ (by constructor <;> omega)]) hl h
theorem Aey {x : SArg} {k : IntKind} {a : Nat} (hx : x.ev T = .int .u32 a) (ha : a < 4294967296) (hw : Af T g = some true) (hl : Av log .z un = true)
  (h : WO (aops cf xf base r (log ++ [.z]) (T.upd d (.int .u32 (a / 2 : Nat))) H) QO) : WO (aops cf xf base (⟨some d, .bin .shr x (.c (.int k 1)), g, un⟩ :: r) log T H) QO :=
 Aq (v := .int .u32 (a / 2 : Nat)) hw (by
  have h4 : (a : Int).fdiv (2 ^ min (Int.toNat 1) IntKind.u32.bits) = ((a / 2 : Nat) : Int) := by
   show (a : Int).fdiv 2 = _
   rw [Int.fdiv_eq_ediv_of_nonneg _ (by omega)]; omega
  simp only [aop, hx, rv, abin, ev_c, Aa]
  rw [if_neg (by omega)]
  rw [h4]; rfl) hl h
theorem wP {x : SArg} {k : IntKind} {a : Nat} (hx : x.ev T = .int k a) (ha : a < 4294967296) (hw : Af T g = some true) (hl : Av log .z un = true)
  (h : WO (aops cf xf base r (log ++ [.z]) (T.upd d (.int .u32 a)) H) QO) : WO (aops cf xf base (⟨some d, .cvi .u32 x, g, un⟩ :: r) log T H) QO :=
 Aq (v := .int .u32 a) hw (by simp [aop, hx, rv, IntWalk.u32_in (a : Int) (by constructor <;> omega)]) hl h
end
section
variable {cf : Cx} {xf : ExtF} {base : Nat} {T : Tmps} {H : Heap} {QO : Tmps → Heap → Prop} {log : List FP} {g : Option (Nat × Bool)} {un : List Nat} {r : List SOper} {d : Option Nat}
end
def Has (T : Tmps) : List (Nat × AV) → Prop
 | [] => True
 | (a, v) :: r => T a = v ∧ Has T r
def over (T : Tmps) : List (Nat × AV) → Tmps
 | [] => T
 | (a, v) :: r => (over T r).upd a v
theorem Has.eq {T : Tmps} : ∀ {ps : List (Nat × AV)}, Has T ps → T = over T ps
 | [], _ => rfl
 | (a, v) :: r, ⟨h1, h2⟩ => by
  have h3 := h2.eq
  funext i
  simp only [over, Tmps.upd_eq]
  by_cases h : i = a
  ·rw [if_pos h, h]; exact h1
  ·rw [if_neg h, ← h3]
end Go.AI
namespace Go.AI
open Go.ChangeShapes Go.WideShapes Go.RowKit
def fV (W : World) : Ctx := ⟨fun b => isGl b = true, fun _ => 0, Heap.none, W⟩
def GlAt (W : World) : Prop := ∀ b, isGl b = true → b < W.heap.size ∧ GlOk b W.heap[b]?
theorem yU {W : World} (hg : GlAt W) : Rel (fV W) where
 fsz b h := (hg b h).1
 gl b h := ⟨h, (hg b h).2⟩
 blk j := trivial
 inj i j h := by simp [fV, Heap.none, Blk.mut, Blk.live] at h
theorem xO (W : World) (b : Nat) : ¬ Own (fV W) b := by
 rintro ⟨j, h, _⟩
 simp [fV, Heap.none, Blk.mut, Blk.live] at h
theorem mU {W : World} {C' : Ctx} (h : Evo (fV W) C') : Below W.heap.size W C'.w :=
 ⟨h.os, h.tape, h.output, h.size, fun k hk => h.keep k hk (xO W k)⟩
theorem xI {P : Program} (hm : P.follows .mixedOrders = true) {B : Prog} {xf : ExtF} {gf : Cx} (hB : Laid P B) (hxf : Vw P xf) (hgf : Pn P gf) {k f : Nat} {args : List AV} {vs : Array Value} {W : World} {H' : Heap} (hg : GlAt W)
  (hargs : VRT (fV W) true true args vs.toList) (h : Cj B xf gf k f 0 args Heap.none = some (.bool true, H')) :
  Calls P f vs W fun e W' => e = .returned (.bool true) ∧ Below W.heap.size W W' := by
 refine ((Up hm hB hxf hgf k (fV W) f 0 args _ H' vs (yU hg) h hargs).2).mono ?_
 rintro e W' ⟨v', μ', rfl, hE, hR, hV⟩
 simp only [VR] at hV
 exact ⟨by rw [hV], mU hE⟩
def Rb (P : Program) (ts : List TypeId) : Bool := ts.all fun t => P.readableRec t && decide (t < P.types.size)
theorem Vu {H : Type} {enc : TypeId × Value → H} {P : Program} {W W' : World} (hl : laidOutB P = true) (hb : Below W.heap.size W W') {sp : Nat → Bool} :
  ∀ {ts : List TypeId} {vs : List Value} {ds : List (DataW H)} {ps : List MemPlace}, Rb P ts = true → DataW.TrodAll enc P W 0 (fun _ => true) true ts vs ds ps → (∀ p ∈ ps, p.block < W.heap.size) → (∀ p ∈ ps, sp p.block = true) →
  DataW.TrodAll enc P W' 0 sp true ts vs ds ps
 | [], vs, ds, ps, _, h, _, _ => by
  obtain ⟨rfl, rfl, rfl⟩ := trodAll_nil h
  exact rfl
 | t :: ts, vs, ds, ps, ht, h, hlt, hsp => by
  obtain ⟨v, vs', d, ds', p, q, rfl, rfl, rfl, h1, h2⟩ := trodAll_cons h
  simp only [Rb, sY, Bu, Dj] at ht
  exact ⟨p, q, WideElems.Trod_stays hl ht.1.1 ht.1.2 h1 (fun x hx => hb.same (hlt x (by simp [hx]))) (fun x hx => hsp x (by simp [hx])),
   Vu hl hb (by simpa [Rb] using ht.2) h2 (fun x hx => hlt x (by simp [hx])) (fun x hx => hsp x (by simp [hx])), rfl⟩
theorem Abs {H : Type} {enc : TypeId × Value → H} {P : Program} (hl : laidOutB P = true) {f : Func} {s : ChangeSpec} {fresh handsOn : Bool} {W W' : World} {args : Array Value} {ds gs : List (DataW H)} {before : List MemPlace} {tb : TypeId}
  (hW : DataW.Whole enc P f.params.toList s.vars false W args.toList ds gs before) (hv : s.vars = []) (hr : f.resultTypes = #[tb]) (htb : P.underlying tb = some .bool) (hts : Rb P f.params.toList = true)
  (hs : (s.fn H (ds ++ gs)) = { results := [.lit (.bool true)], args := ds }) (hb : Below W.heap.size W W') : s.post enc P f false fresh handsOn false W args (.bool true) W' := by
 obtain ⟨p, q, hA, hV, rfl, hfz, hnd⟩ := id hW
 have hlt := hW.lt
 rw [hv] at hV
 obtain ⟨rfl, rfl⟩ := trodVars_none hV
 simp only [Bt] at hs
 refine ⟨ds, [], p ++ [], [], p, [], hW, ?_, ?_, ?_, ?_, fun h => by cases h⟩
 ·rw [Bt, hs, hr]
  exact trodAll_mk1 (shut_bool htb true)
 ·rw [Bt, hs]
  exact Vu hl hb hts hA (fun x hx => hlt x (by simp [hx])) (fun x hx => by simpa using hlt x (by simp [hx]))
 ·rw [Bt, hs, hv]
  rfl
 ·exact hb.frame _
end Go.AI
namespace Go.AI
theorem W.out {r : XR} {Q : Ex → Tmps → Heap → Prop} (h : W r Q) : ∃ ex T H, r = some (ex, T, H) ∧ Q ex T H := h
theorem Heap.upd_same (H : Heap) (j : Nat) (b : Blk) : (H.upd j b) j = b := by simp [Heap.upd_eq]
theorem Heap.upd_upd (H : Heap) (j : Nat) (a b : Blk) : (H.upd j a).upd j b = H.upd j b := by
 funext i; simp only [Heap.upd_eq]; by_cases h : i = j <;> simp [h]
theorem Heap.upd_self {H : Heap} {j : Nat} {b : Blk} (h : H j = b) : H.upd j b = H := by
 funext i; simp only [Heap.upd_eq]; by_cases hi : i = j <;> simp [hi, h]
section
variable {cf : Cx} {xf : ExtF} {base fuel : Nat} {T : Tmps} {H : Heap} {Q : Ex → Tmps → Heap → Prop} {QO : Tmps → Heap → Prop} {log : List FP}
 {op : SOp} {g : Option (Nat × Bool)} {un : List Nat} {r : List SOper} {d : Nat} {H' : Heap} {fp : FP} {t f : Bool} {l : List UInt8}
theorem sU {l : List UInt8} (h : l ≠ []) : Fz (BL l) = false := by
 cases l with
 | nil => exact absurd rfl h
 | cons c l => rfl
theorem Ip {H : Heap} {j g ver s : Nat} {es : List AV} (h : H j = ⟨g, false, .row s es⟩) (hl : es.length = ver) : H.rowW j g ver s = some es := by
 unfold Heap.rowW
 rw [h]
 simp [hl]
theorem Gn {H : Heap} {j g s s' : Nat} {ro : Bool} {es es' : List AV} (h : H j = ⟨g, ro, .row s es⟩) : H.setRow j s' es' = H.upd j ⟨g, false, .row s' es'⟩ := by
 unfold Heap.setRow
 rw [h]
theorem Wm {H : Heap} {site j gn v : Nat} {ys : List UInt8} (hr : H j = ⟨gn, false, .row 1 (BL l)⟩) (hv : l.length = v) (hy : ys ≠ []) (hm : v + ys.length ≤ 68719476736) :
  Dc H site 1 (.slc j gn v 1 0 v .none) (BL ys) = some (.slc j gn (v + ys.length) 1 0 (v + ys.length) .none, H.upd j ⟨gn, false, .row 1 (BL (l ++ ys))⟩, ⟨[j], [j], false⟩) := by
 have hlen : 0 < ys.length := Fp.2 hy
 simp only [Dc, sU hy, Ap, Bx, Ip hr (by simpa using hv)]
 rw [if_pos ⟨trivial, by omega, by simpa [Gz] using hm⟩]
 rw [if_neg (by simp; omega)]
 simp only [BL_length]
 rw [if_pos ⟨trivial, trivial⟩, Gn hr, lC]
theorem Aen {site gn j v : Nat} {x y : SArg} {n : Int} (hx : x.ev T = .slc j gn v 1 0 v .none) (hy : y.ev T = .int .i64 n) (hr : H j = ⟨gn, false, .row 1 (BL l)⟩) (hv : l.length = v) (h0 : 0 < n) (hm : (v : Int) + n ≤ 68719476736)
  (hw : Af T g = some true) (hl : Av log ⟨[j], [j], false⟩ un = true)
  (h : WO (aops cf xf base r (log ++ [⟨[j], [j], false⟩]) (T.upd d (.slc j gn (v + n.toNat) 1 0 (v + n.toNat) .none)) (H.upd j ⟨gn, false, .row 1 (BL (l ++ List.replicate n.toNat 0))⟩)) QO) :
  WO (aops cf xf base (⟨some d, .appZ site 1 (.int .u8 0) x y, g, un⟩ :: r) log T H) QO :=
 Aq (v := .slc j gn (v + n.toNat) 1 0 (v + n.toNat) .none) (H' := H.upd j ⟨gn, false, .row 1 (BL (l ++ List.replicate n.toNat 0))⟩) (fp := ⟨[j], [j], false⟩) hw (by
  have h00 : 0 ≤ n := by omega
  simp only [aop, hx, hy, Fb, if_pos h00, Ac, Aa]
  rw [if_pos ⟨by simp [Gz]; omega, rfl, rfl⟩, Oi, Wm hr hv (by intro hh; have := Ay List.length hh; simp at this; omega) (by simp; omega)]
  simp) hl h
theorem Abq {site s : Nat} {x y : SArg} {n : Int} (hx : x.ev T = .islc t true s []) (hy : y.ev T = .int .i64 n) (h0 : 0 < n) (hm : n ≤ 68719476736)
  (hw : Af T g = some true) (hl : Av log ⟨[], [base + site], false⟩ un = true)
  (h : WO (aops cf xf base r (log ++ [⟨[], [base + site], false⟩]) (T.upd d (.slc (base + site) ((H (base + site)).gen + 1) n.toNat 1 0 n.toNat .none)) (H.newRow (base + site) 1 (BL (List.replicate n.toNat 0)))) QO) :
  WO (aops cf xf base (⟨some d, .appZ site 1 (.int .u8 0) x y, g, un⟩ :: r) log T H) QO :=
 Aq (v := .slc (base + site) ((H (base + site)).gen + 1) n.toNat 1 0 n.toNat .none) (H' := H.newRow (base + site) 1 (BL (List.replicate n.toNat 0))) (fp := ⟨[], [base + site], false⟩) hw (by
  have h00 : 0 ≤ n := by omega
  simp only [aop, hx, hy, Fb, if_pos h00, Ac, Aa]
  rw [if_pos ⟨by simp [Gz]; omega, rfl, rfl⟩, Oi]
  simp only [Dc, sU (l := List.replicate n.toNat 0) (by intro hh; have := Ay List.length hh; simp at this; omega), Ap, Bx]
  rw [if_pos ⟨trivial, rfl, by simp [Gz]; omega⟩]
  simp) hl h
theorem Agn {site gn j v s : Nat} {x y : SArg} {m : List UInt8} (hx : x.ev T = .slc j gn v 1 0 v .none) (hy : y.ev T = .islc t f s (BL m)) (hs : s = 1 ∨ m = []) (hr : H j = ⟨gn, false, .row 1 (BL l)⟩) (hv : l.length = v) (hm : v + m.length ≤ 68719476736)
  (hw : Af T g = some true) (hl : un = [])
  (h : ∀ fp, WO (aops cf xf base r (log ++ [fp]) (T.upd d (.slc j gn (v + m.length) 1 0 (v + m.length) .none)) (H.upd j ⟨gn, false, .row 1 (BL (l ++ m))⟩)) QO) :
  WO (aops cf xf base (⟨some d, .app site 1 x y, g, un⟩ :: r) log T H) QO := by
 subst hl
 by_cases hn : m = []
 ·subst hn
  have h2 := h .z
  simp only [Dl, El, Bt] at h2
  rw [Heap.upd_self hr] at h2
  exact Aq (v := .slc j gn v 1 0 v .none) (H' := H) (fp := .z) hw (by simp [aop, hx, hy, Gv, Ch, Fz, Du, Bq, Dc, FP.z]) rfl h2
 ·have hs1 : s = 1 := by rcases hs with h | h; exact h; exact absurd h hn
  subst hs1
  refine Aq (v := .slc j gn (v + m.length) 1 0 (v + m.length) .none) (H' := H.upd j ⟨gn, false, .row 1 (BL (l ++ m))⟩) (fp := ⟨[j], [j], false⟩) hw ?_ rfl (h _)
  simp only [aop, hx, hy, Gv, Ch, Du, Js, if_true, or_true, Ac, Aa]
  rw [Wm hr hv hn hm]
  rfl
theorem aW {s : Nat} {e : AV} {es : List AV} {x : SArg} (hx : x.ev T = .islc t f s (e :: es)) (hw : Af T g = some true) (hl : Av log .z un = true)
  (h : WO (aops cf xf base r (log ++ [.z]) (T.upd d (.bool false)) H) QO) : WO (aops cf xf base (⟨some d, .eqnil false x, g, un⟩ :: r) log T H) QO :=
 Aq (v := .bool false) (fp := .z) (H' := H) hw (by simp [aop, hx, rH, rv]) hl h
theorem Qr {s : Nat} (hw : Af T g = some true) (hl : Av log .z un = true)
  (h : WO (aops cf xf base r (log ++ [.z]) (T.upd d (.islc false true s [])) H) QO) : WO (aops cf xf base (⟨some d, .empty s, g, un⟩ :: r) log T H) QO :=
 Aq (v := .islc false true s []) (fp := .z) (H' := H) hw rfl hl h
theorem Tl {B : Prog} {gf : Cx} {k f : Nat} {fn : SFun} {args : List AV} {ex : Ex} {T' : Tmps} (hB : B f = some fn) (hl : args.length = fn.nparams) (h1 : Bb (Cj B xf gf k) xf base k fn.code (Qw args) H = some (ex, T', H')) (hex : ex = .normal ∨ ex = .ret) :
  Cj B xf gf (k + 1) f base args H = (Jb T' H' fn.results).map fun v => (v, H') := by
 rcases hex with rfl | rfl <;> simp only [Cj, hB, hl, if_true, h1]
theorem Ep {j gn v s off len : Nat} {ro : Bool} {cap : Option Nat} {x i : SArg} {k : IntKind} {n : Int} {es : List AV} (hx : x.ev T = .slc j gn v s off len cap) (hi : i.ev T = .int k n) (hr : H j = ⟨gn, ro, .row s es⟩) (hv : es.length = v)
  (h0 : 0 ≤ n) (h1 : n < len) (h2 : off + len ≤ v) (hw : Af T g = some true) (hl : Av log ⟨[j], [], false⟩ un = true)
  (h : WO (aops cf xf base r (log ++ [⟨[j], [], false⟩]) (T.upd d (.ptr j gn v s (off + n.toNat) 0)) H) QO) : WO (aops cf xf base (⟨some d, .iaddr s x i, g, un⟩ :: r) log T H) QO :=
 Aq (v := .ptr j gn v s (off + n.toNat) 0) (fp := ⟨[j], [], false⟩) hw (by
  simp only [aop, hx, hi, Fb, if_pos h0, Ac, Aa, Ek hr hv]
  rw [if_pos ⟨trivial, by omega, h2⟩]) hl h
theorem Ba {s : Nat} {x : SArg} {es : List AV} {n : Nat} (hx : x.ev T = .islc t f s es) (hn : es.length = n) (hw : Af T g = some true) (hl : Av log .z un = true)
  (h : WO (aops cf xf base r (log ++ [.z]) (T.upd d (.int .i64 n)) H) QO) : WO (aops cf xf base (⟨some d, .len x, g, un⟩ :: r) log T H) QO :=
 Aq (v := .int .i64 n) hw (by subst hn; simp [aop, hx, rv]) hl h
theorem Dv {es : List AV} {e : AV} {s : Nat} {x i : SArg} {k : IntKind} {n : Int} (hx : x.ev T = .islc t f s es) (hi : i.ev T = .int k n) (h0 : 0 ≤ n) (he : es[n.toNat]? = some e) (hw : Af T g = some true) (hl : Av log .z un = true)
  (h : WO (aops cf xf base r (log ++ [.z]) (T.upd d (.iptr t e.cells)) H) QO) : WO (aops cf xf base (⟨some d, .iaddr s x i, g, un⟩ :: r) log T H) QO :=
 Aq (v := .iptr t e.cells) hw (by simp [aop, hx, hi, rv, Fb, h0, he]) hl h
theorem xY {j gn v i : Nat} {x y : SArg} {w : Int} {c : UInt8} (hx : x.ev T = .ptr j gn v 1 i 0) (hy : y.ev T = .int .u8 w) (hc : w = c.toNat) (hr : H j = ⟨gn, false, .row 1 (BL l)⟩) (hv : l.length = v) (hi : i < v)
  (hw : Af T g = some true) (hl : Av log ⟨[j], [j], false⟩ un = true)
  (h : WO (aops cf xf base r (log ++ [⟨[j], [j], false⟩]) T (H.upd j ⟨gn, false, .row 1 (BL (l.set i c))⟩)) QO) :
  WO (aops cf xf base (⟨none, .store 1 x y, g, un⟩ :: r) log T H) QO :=
 Aq (v := .undef) (H' := H.upd j ⟨gn, false, .row 1 (BL (l.set i c))⟩) (fp := ⟨[j], [j], false⟩) hw (by
  subst hc hv
  have he : (BL l)[i]? = some (u8 l[i]) := by rw [Abg]; simp [hi]
  simp only [aop, hx, hy, Ip hr (BL_length l), he]
  rw [if_pos ⟨rfl, rfl, by simp [u8, AV.cells]⟩, Gn hr]
  have : (u8 l[i]).rewrap (List.take 0 (u8 l[i]).cells ++ (AV.int IntKind.u8 c.toNat).cells ++ List.drop (0 + 1) (u8 l[i]).cells) = u8 c := rfl
  rw [this, Agr]) hl h
theorem Lu {j gn v i s : Nat} {ro : Bool} {x : SArg} {es : List AV} {e : AV} (hx : x.ev T = .ptr j gn v s i 0) (hr : H j = ⟨gn, ro, .row s es⟩) (hv : es.length = v) (he : es[i]? = some e) (hc : e.cells = [e])
  (hw : Af T g = some true) (hl : Av log ⟨[j], [], false⟩ un = true)
  (h : WO (aops cf xf base r (log ++ [⟨[j], [], false⟩]) (T.upd d e) H) QO) : WO (aops cf xf base (⟨some d, .load 1 false x, g, un⟩ :: r) log T H) QO :=
 Aq (v := e) (fp := ⟨[j], [], false⟩) hw (by simp [aop, hx, Ek hr hv, he, hc]) hl h
theorem Agz {x y : SArg} {k k' : IntKind} {a b : Int} (hx : x.ev T = .int k a) (hy : y.ev T = .int k' b) (h0 : 0 ≤ b) (h1 : b.toNat ≤ k.bits) (hw : Af T g = some true) (hl : Av log .z un = true)
  (h : WO (aops cf xf base r (log ++ [.z]) (T.upd d (.int k (a / 2 ^ b.toNat))) H) QO) : WO (aops cf xf base (⟨some d, .bin .shr x y, g, un⟩ :: r) log T H) QO :=
 Aq (v := .int k (a / 2 ^ b.toNat)) hw (by
  have : ¬ b < 0 := by omega
  have h2 : (0 : Int) ≤ 2 ^ b.toNat := Int.pow_nonneg (by decide)
  simp [aop, hx, hy, rv, abin, this, Hx h1, Int.fdiv_eq_ediv_of_nonneg _ h2]) hl h
theorem Afm {x : SArg} {k : IntKind} {a : Int} (hx : x.ev T = .int k a) (hw : Af T g = some true) (hl : Av log .z un = true)
  (h : WO (aops cf xf base r (log ++ [.z]) (T.upd d (.int .u8 (a % 256))) H) QO) : WO (aops cf xf base (⟨some d, .cvi .u8 x, g, un⟩ :: r) log T H) QO :=
 Aq (v := .int .u8 (a % 256)) hw (by simp [aop, hx, rv, IntKind.wrap, IntKind.bits, IntKind.signed]) hl h
theorem Adq {x y : SArg} {k' : IntKind} {a : Nat} {b : Int} (hx : x.ev T = .int .u64 a) (hy : y.ev T = .int k' b) (h0 : 0 ≤ b ∧ b ≤ 64) (h1 : a * 2 ^ b.toNat < 18446744073709551616) (hw : Af T g = some true) (hl : Av log .z un = true)
  (h : WO (aops cf xf base r (log ++ [.z]) (T.upd d (.int .u64 (a * 2 ^ b.toNat : Nat))) H) QO) : WO (aops cf xf base (⟨some d, .bin .shl x y, g, un⟩ :: r) log T H) QO :=
 Aq (v := .int .u64 (a * 2 ^ b.toNat : Nat)) hw (by
  have h2 : ¬ b < 0 := by omega
  have h3 : min b.toNat 64 = b.toNat := Hx (by omega)
  have h4 : IntKind.u64.wrap ((a : Int) * 2 ^ b.toNat) = (a * 2 ^ b.toNat : Nat) := by
   have : ((a : Int) * 2 ^ b.toNat) = ((a * 2 ^ b.toNat : Nat) : Int) := by push_cast; rfl
   rw [this]
   exact IntWalk.u64_in _ ⟨by omega, by omega⟩
  simp only [aop, hx, hy, abin, IntKind.bits, if_neg h2, h3, h4, Aa, rv]) hl h
theorem Aab {x y : SArg} {a c i : Nat} (hx : x.ev T = .int .u64 a) (hy : y.ev T = .int .u64 (c * 2 ^ i : Nat)) (ha : a < 2 ^ i) (hb : c * 2 ^ i + a < 18446744073709551616) (hw : Af T g = some true) (hl : Av log .z un = true)
  (h : WO (aops cf xf base r (log ++ [.z]) (T.upd d (.int .u64 (c * 2 ^ i + a : Nat))) H) QO) : WO (aops cf xf base (⟨some d, .bin .or x y, g, un⟩ :: r) log T H) QO :=
 Aq (v := .int .u64 (c * 2 ^ i + a : Nat)) hw (by
  have h1 : a ||| (c * 2 ^ i) = c * 2 ^ i + a := by
   rw [Nat.or_comm, jC]
   exact (Nat.two_pow_add_eq_or_of_lt ha c).symm
  have h2 : (BitVec.ofInt 64 (a : Int) ||| BitVec.ofInt 64 ((c * 2 ^ i : Nat) : Int)).toNat = c * 2 ^ i + a := by
   rw [BitVec.toNat_or, BitVec.toNat_ofInt, BitVec.toNat_ofInt]
   have e1 : ((a : Int) % (2 ^ 64 : Nat)).toNat = a := by omega
   have e2 : (((c * 2 ^ i : Nat) : Int) % (2 ^ 64 : Nat)).toNat = c * 2 ^ i := by omega
   rw [e1, e2, h1]
  simp only [aop, hx, hy, abin, ne_eq, Mm, Bx, Aa, rv]
  rw [show (BitVec.ofInt IntKind.u64.bits (a : Int) ||| BitVec.ofInt IntKind.u64.bits ((c * 2 ^ i : Nat) : Int)).toNat = c * 2 ^ i + a from h2, IntWalk.u64_in _ ⟨by omega, by omega⟩]) hl h
theorem Gr {b fn : Nat} {as : List SArg} {args : List AV} {v : AV} (hF : cf fn (base + b) args H = some (v, H')) (ha : as.map (SArg.ev T) = args) (hw : Af T g = some true) (hl : Av log ⟨[], [], true⟩ un = true)
  (h : WO (aops cf xf base r (log ++ [⟨[], [], true⟩]) (T.upd d v) H') QO) : WO (aops cf xf base (⟨some d, .call (.inl b) fn as, g, un⟩ :: r) log T H) QO :=
 Aq (v := v) (fp := ⟨[], [], true⟩) hw (by simp [aop, Fu, ha, hF]) hl h
theorem optN {x : SArg} {k : IntKind} {n : Int} {m : Nat} (hx : x.ev T = .int k n) (h0 : 0 ≤ n) : (Ei T (some x)).map (·.getD m) = some n.toNat := by
 simp [Ei, hx, Fb, h0]
theorem Aih {x : SArg} {j gn v s off len : Nat} {cap : Option Nat} {es : List AV} (hx : x.ev T = .slc j gn v s off len cap) (hr : H j = ⟨gn, false, .row s es⟩) (hv : es.length = v) (h1 : off < v) (h2 : 0 < len) (hw : Af T g = some true) (hl : Av log ⟨[j], [j], false⟩ un = true)
  (h : WO (aops cf xf base r (log ++ [⟨[j], [j], false⟩]) (T.upd d (.slc j gn v s off len cap)) H) QO) : WO (aops cf xf base (⟨some d, .ss x, g, un⟩ :: r) log T H) QO :=
 Aq (v := .slc j gn v s off len cap) (H' := H) (fp := ⟨[j], [j], false⟩) hw (by
  simp only [aop, hx, Ip hr hv]
  rw [if_pos ⟨h1, h2⟩, Gn hr, Heap.upd_self hr]) hl h
theorem aR {x : SArg} {lo hi : Option SArg} {a b : Nat} {s' : Nat} (hx : x.ev T = .islc t f s' (BL l)) (hs : s' = 1 ∨ l = []) (hlo : (Ei T lo).map (·.getD 0) = some a) (hhi : (Ei T hi).map (·.getD l.length) = some b) (hab : a ≤ b) (hb : b ≤ l.length) (hw : Af T g = some true) (hl : Av log .z un = true)
  (h : WO (aops cf xf base r (log ++ [.z]) (T.upd d (.islc t (f && decide (b = l.length)) 1 (BL ((l.drop a).take (b - a))))) H) QO) : WO (aops cf xf base (⟨some d, .slice 1 x lo hi none, g, un⟩ :: r) log T H) QO :=
 Aq (v := .islc t (f && decide (b = l.length)) 1 (BL ((l.drop a).take (b - a)))) hw (by
  have hn : Fz (BL l) = true ∨ s' = 1 := by
   rcases hs with h | h
   ·exact .inr h
   ·subst h; exact .inl rfl
  simp only [Al] at hlo hhi
  obtain ⟨lo', e1, rfl⟩ := hlo
  obtain ⟨hi', e2, rfl⟩ := hhi
  have e3 : Ei T none = some none := rfl
  simp only [aop, e1, e2, e3, Ac, Aa, hx, Xo]
  rw [if_neg (fun hh => hh hn)]
  simp only [BL_length, Option.getD_none]
  rw [if_pos ⟨hab, hb, Ao _, fun _ => trivial⟩, nL, mY]
  simp [FP.z]) hl h
theorem xS {x y : SArg} {s' : Nat} {k : IntKind} {n : Int} (hx : x.ev T = .islc t f s' (BL l)) (hs : s' = 1 ∨ l = []) (hy : y.ev T = .int k n) (h0 : 0 ≤ n) (hb : n ≤ l.length) (hw : Af T g = some true) (hl : Av log .z un = true)
  (h : WO (aops cf xf base r (log ++ [.z]) (T.upd d (.islc t (f && decide (n.toNat = l.length)) 1 (BL (l.take n.toNat)))) H) QO) : WO (aops cf xf base (⟨some d, .slice 1 x none (some y) none, g, un⟩ :: r) log T H) QO :=
 aR (a := 0) (b := n.toNat) hx hs rfl (optN hy h0) (by omega) (by omega) hw hl (by simpa using h)
theorem xW {x y : SArg} {s' : Nat} {k : IntKind} {n : Int} (hx : x.ev T = .islc t f s' (BL l)) (hs : s' = 1 ∨ l = []) (hy : y.ev T = .int k n) (h0 : 0 ≤ n) (hb : n ≤ l.length) (hw : Af T g = some true) (hl : Av log .z un = true)
  (h : WO (aops cf xf base r (log ++ [.z]) (T.upd d (.islc t f 1 (BL (l.drop n.toNat)))) H) QO) : WO (aops cf xf base (⟨some d, .slice 1 x (some y) none none, g, un⟩ :: r) log T H) QO :=
 aR (a := n.toNat) (b := l.length) hx hs (optN hy h0) rfl (by omega) (by omega) hw hl (by
  have e : (l.drop n.toNat).take (l.length - n.toNat) = l.drop n.toNat := Aj (by simp)
  rw [e]; simpa using h)
theorem zA {x y z : SArg} {s' : Nat} {k k' : IntKind} {n m : Int} (hx : x.ev T = .islc t f s' (BL l)) (hs : s' = 1 ∨ l = []) (hy : y.ev T = .int k n) (hz : z.ev T = .int k' m) (h0 : 0 ≤ n) (h1 : n ≤ m) (hb : m ≤ l.length) (hw : Af T g = some true) (hl : Av log .z un = true)
  (h : WO (aops cf xf base r (log ++ [.z]) (T.upd d (.islc t (f && decide (m.toNat = l.length)) 1 (BL ((l.drop n.toNat).take (m.toNat - n.toNat))))) H) QO) : WO (aops cf xf base (⟨some d, .slice 1 x (some y) (some z) none, g, un⟩ :: r) log T H) QO :=
 aR (a := n.toNat) (b := m.toNat) hx hs (optN hy h0) (optN hz (by omega)) (by omega) (by omega) hw hl h
theorem Ju {x : SArg} {lo hi : Option SArg} {a b j gn v off len : Nat} {ro : Bool} {cap : Option Nat} {es : List AV} (hx : x.ev T = .slc j gn v 1 off len cap) (hr : H j = ⟨gn, ro, .row 1 es⟩) (hv : es.length = v)
  (hlo : (Ei T lo).map (·.getD 0) = some a) (hhi : (Ei T hi).map (·.getD len) = some b) (hab : a ≤ b) (hb : b ≤ cap.getD (v - off)) (hle : off + cap.getD (v - off) ≤ v) (hw : Af T g = some true) (hl : Av log ⟨[j], [], false⟩ un = true)
  (h : WO (aops cf xf base r (log ++ [⟨[j], [], false⟩]) (T.upd d (.slc j gn v 1 (off + a) (b - a) (cap.map (· - a)))) H) QO) : WO (aops cf xf base (⟨some d, .slice 1 x lo hi none, g, un⟩ :: r) log T H) QO :=
 Aq (v := .slc j gn v 1 (off + a) (b - a) (cap.map (· - a))) (fp := ⟨[j], [], false⟩) hw (by
  simp only [Al] at hlo hhi
  obtain ⟨lo', e1, rfl⟩ := hlo
  obtain ⟨hi', e2, rfl⟩ := hhi
  have e3 : Ei T none = some none := rfl
  simp only [aop, e1, e2, e3, Ac, Aa, hx, Xo, ne_eq, Mm, Bx, Ek hr hv, Option.getD_none]
  rw [if_pos ⟨hab, hb, Ao _, hle, fun _ => trivial⟩]) hl h
theorem tJ {x y : SArg} {k : IntKind} {n : Int} {j gn v off len : Nat} {ro : Bool} {cap : Option Nat} {es : List AV} (hx : x.ev T = .slc j gn v 1 off len cap) (hr : H j = ⟨gn, ro, .row 1 es⟩) (hv : es.length = v) (hy : y.ev T = .int k n) (h0 : 0 ≤ n)
  (hb : n.toNat ≤ cap.getD (v - off)) (hle : off + cap.getD (v - off) ≤ v) (hw : Af T g = some true) (hl : Av log ⟨[j], [], false⟩ un = true)
  (h : WO (aops cf xf base r (log ++ [⟨[j], [], false⟩]) (T.upd d (.slc j gn v 1 off n.toNat cap)) H) QO) : WO (aops cf xf base (⟨some d, .slice 1 x none (some y) none, g, un⟩ :: r) log T H) QO :=
 Ju (a := 0) (b := n.toNat) hx hr hv rfl (optN hy h0) (by omega) hb hle hw hl (by cases cap <;> simpa using h)
theorem Ahd {x y : SArg} {k : IntKind} {a b : Int} (hx : x.ev T = .int k a) (hy : y.ev T = .int k b) (hw : Af T g = some true) (hl : Av log .z un = true)
  (h : WO (aops cf xf base r (log ++ [.z]) (T.upd d (.int k (min a b))) H) QO) : WO (aops cf xf base (⟨some d, .mnmx false x y, g, un⟩ :: r) log T H) QO :=
 Aq (v := .int k (min a b)) hw (by
  simp only [aop, hx, hy, if_true, Ap, Bx, rv]
  congr 3
  by_cases h : b < a
  ·rw [if_pos h]; exact (Int.min_eq_right (by omega)).symm
  ·rw [if_neg h]; exact (Int.min_eq_left (by omega)).symm) hl h
theorem gU : ∀ l : List UInt8, Ng (BL l) = some l
 | [] => rfl
 | c :: l => by
  rw [dV]
  simp only [u8, Ng, gU l, Le]
  simp
theorem Agt {s : Nat} {x : SArg} (hx : x.ev T = .islc t f s (BL l)) (hs : s = 1 ∨ l = []) (hw : Af T g = some true) (hl : Av log .z un = true)
  (h : WO (aops cf xf base r (log ++ [.z]) (T.upd d (.str ⟨l.toArray⟩)) H) QO) : WO (aops cf xf base (⟨some d, .b2s x, g, un⟩ :: r) log T H) QO :=
 Aq (v := .str ⟨l.toArray⟩) hw (by
  have hn : Fz (BL l) = true ∨ s = 1 := by
   rcases hs with h | h
   ·exact .inr h
   ·subst h; exact .inl rfl
  simp only [aop, hx, uB, Ap, Bx, Ch, if_pos hn, Ac, Aa, gU]
  rfl) hl h
theorem kN {x y : SArg} {a b : ByteArray} (hx : x.ev T = .str a) (hy : y.ev T = .str b) (he : a = b) (hw : Af T g = some true) (hl : Av log .z un = true)
  (h : WO (aops cf xf base r (log ++ [.z]) (T.upd d (.bool false)) H) QO) : WO (aops cf xf base (⟨some d, .bin .neq x y, g, un⟩ :: r) log T H) QO :=
 Aq (v := .bool false) (fp := .z) (H' := H) hw (by subst he; simp [aop, hx, hy, abin, rv]) hl h
theorem Ib {b : SCode} (h : W (Dm (Bb cf xf base fuel b) fuel T H) Q) : W (Bb cf xf base fuel (.loop b) T H) Q := h
theorem Aei {body : Tmps → Heap → XR} {n : Nat} (h : W (body T H) (Then (fun T H => W (Dm body n T H) Q) Q)) : W (Dm body (n + 1) T H) Q := by
 obtain ⟨ex, T1, H1, h1, h2⟩ := h
 cases ex with
 | normal =>
  obtain ⟨ex, T2, H2, h3, h4⟩ := h2
  exact ⟨ex, T2, H2, by simp only [Dm, h1, h3], h4⟩
 | exit id => exact ⟨_, _, _, by simp only [Dm, h1], h2⟩
 | ret => exact ⟨_, _, _, by simp only [Dm, h1], h2⟩
end
end Go.AI
namespace Go.AI
open Go.ChangeShapes Go.WideShapes Go.RowKit
section
variable {H : Type} {enc : TypeId × Value → H} {P : Program} {W : World}
end
end Go.AI
namespace Go.AI
section
variable {cf : Cx} {xf : ExtF} {base fuel : Nat} {T : Tmps} {H : Heap} {Q : Ex → Tmps → Heap → Prop} {QO : Tmps → Heap → Prop} {log : List FP}
 {op : SOp} {g : Option (Nat × Bool)} {un : List Nat} {r : List SOper} {d : Nat} {H' : Heap} {fp : FP} {t f : Bool} {l : List UInt8}
theorem Mc (v : AV) {k : Nat} {agg ro : Bool} {x : SArg} {j g0 ver s i off : Nat} {es : List AV} {e : AV} (hx : x.ev T = .ptr j g0 ver s i off) (hr : H j = ⟨g0, ro, .row s es⟩) (hv0 : es.length = ver) (he : es[i]? = some e) (hk : off + k ≤ e.cells.length)
  (hv : (if agg then AV.agg ((e.cells.drop off).take k) else ((e.cells.drop off).headD .undef)) = v) (hw : Af T g = some true) (hl : Av log ⟨[j], [], false⟩ un = true)
  (h : WO (aops cf xf base r (log ++ [⟨[j], [], false⟩]) (T.upd d v) H) QO) : WO (aops cf xf base (⟨some d, .load k agg x, g, un⟩ :: r) log T H) QO :=
 wM v hx (Ek hr hv0) he hk hv hw hl h
theorem bH {k : Nat} {x y : SArg} {j g0 ver s i off : Nat} {es cs : List AV} {e v : AV} (hx : x.ev T = .ptr j g0 ver s i off) (hr : H j = ⟨g0, false, .row s es⟩) (hv0 : es.length = ver) (he : es[i]? = some e) (hy : y.ev T = v) (hs : Dq v = true)
  (hcs : v.cells = cs) (hk : cs.length = k) (hle : off + k ≤ e.cells.length) (hw : Af T g = some true) (hl : Av log ⟨[j], [j], false⟩ un = true)
  (h : WO (aops cf xf base r (log ++ [⟨[j], [j], false⟩]) T (H.upd j ⟨g0, false, .row s (es.set i (e.rewrap (e.cells.take off ++ cs ++ e.cells.drop (off + k))))⟩)) QO) :
  WO (aops cf xf base (⟨none, .store k x y, g, un⟩ :: r) log T H) QO :=
 qU hx (Ip hr hv0) he hy hs hcs hk hle hw hl (by rw [Gn hr]; exact h)
end
end Go.AI
namespace Go.AI
inductive Dec2 (p : Prop) : Bool → Prop
 | t (h : p) : Dec2 p true
 | f (h : ¬ p) : Dec2 p false
def Ahi : SCode → Bool
 | .cond .. | .loop _ => false
 | _ => true
def Ahx (cf : Cx) (xf : ExtF) (base fuel : Nat) : SCode → Tmps → Heap → (Ex → Tmps → Heap → Prop) → Prop
 | .skip, T, H, Q => Q .normal T H
 | .exit id, T, H, Q => Q (.exit id) T H
 | .ret, T, H, Q => Q .ret T H
 | .seq a b, T, H, Q => W (Bb cf xf base fuel a T H) (Then (fun T H => W (Bb cf xf base fuel b T H) Q) Q)
 | .block id b, T, H, Q => W (Bb cf xf base fuel b T H) (nF id Q)
 | .region ops, T, H, Q => WO (aops cf xf base ops [] T H) (Q .normal)
 | _, _, _, _ => False
section
variable {cf : Cx} {xf : ExtF} {base fuel : Nat} {T : Tmps} {H : Heap} {Q : Ex → Tmps → Heap → Prop} {QO : Tmps → Heap → Prop} {log : List FP}
 {op : SOp} {g : Option (Nat × Bool)} {un : List Nat} {r : List SOper} {d : Nat} {H' : Heap} {fp : FP} {t f : Bool} {l : List UInt8}
theorem q_s {c : SCode} {P : Prop} (k : P) (hs : Ahi c = true := by rfl) (e : Ahx cf xf base fuel c T H Q = P := by (conv => lhs; whnf)) : W (Bb cf xf base fuel c T H) Q := by
 subst e
 cases c with
 | skip => exact Agy k
 | exit id => exact Agh k
 | ret => exact Aic k
 | seq a b => exact Ahu k
 | block id b => exact Aff k
 | region ops => exact Acn k
 | cond c a b => cases hs
 | loop b => cases hs
theorem q_z {P : Prop} (k : P) (e : QO T H = P := by (conv => lhs; whnf)) : WO (aops cf xf base [] log T H) QO := Ahq (e ▸ k)
theorem q_b {c : SArg} {a b : SCode} {P : Prop} {v : Bool} (k : P) (hc : c.ev T = .bool v := by rfl) (e : cond v (W (Bb cf xf base fuel a T H) Q) (W (Bb cf xf base fuel b T H) Q) = P := by (conv => lhs; whnf)) :
  W (Bb cf xf base fuel (.cond c a b) T H) Q := by
 subst e
 cases v with
 | true => exact Agj hc k
 | false => exact Aew hc k
theorem q_n (h : WO (aops cf xf base r (log ++ [.z]) (T.upd d .undef) H) QO) (hw : Af T g = some false := by rfl) : WO (aops cf xf base (⟨some d, op, g, un⟩ :: r) log T H) QO := wo_n hw h
theorem q_nn (h : WO (aops cf xf base r (log ++ [.z]) T H) QO) (hw : Af T g = some false := by rfl) : WO (aops cf xf base (⟨none, op, g, un⟩ :: r) log T H) QO := Aib hw h
theorem q_mv {x : SArg} {v : AV} (h : WO (aops cf xf base r (log ++ [.z]) (T.upd d v) H) QO) (hx : x.ev T = v := by (conv => lhs; whnf)) (hw : Af T g = some true := by rfl) (hl : Av log .z un = true := by rfl) :
  WO (aops cf xf base (⟨some d, .mv x, g, un⟩ :: r) log T H) QO := Ahz v hx hw hl h
theorem mT {o : Nat} {x : SArg} {j g0 ver s i off : Nat} (h : WO (aops cf xf base r (log ++ [.z]) (T.upd d (.ptr j g0 ver s i (off + o))) H) QO) (hx : x.ev T = .ptr j g0 ver s i off := by rfl) (hw : Af T g = some true := by rfl) (hl : Av log .z un = true := by rfl) :
  WO (aops cf xf base (⟨some d, .faddr o x, g, un⟩ :: r) log T H) QO := Abl hx hw hl h
theorem Lh {v : AV} {k : Nat} {agg : Bool} {x : SArg} {j g0 ver s i off : Nat} {es : List AV} {e : AV} (h : WO (aops cf xf base r (log ++ [⟨[j], [], false⟩]) (T.upd d v) H) QO) (hx : x.ev T = .ptr j g0 ver s i off := by rfl) (hr : H.row j g0 ver s = some es := by rfl)
  (he : es[i]? = some e := by rfl) (hk : off + k ≤ e.cells.length := by exact Ce rfl) (hv : (if agg then AV.agg ((e.cells.drop off).take k) else ((e.cells.drop off).headD .undef)) = v := by (conv => lhs; whnf)) (hw : Af T g = some true := by rfl)
  (hl : Av log ⟨[j], [], false⟩ un = true := by rfl) : WO (aops cf xf base (⟨some d, .load k agg x, g, un⟩ :: r) log T H) QO := wM v hx hr he hk hv hw hl h
theorem Bj {v : AV} {k : Nat} {agg ro : Bool} {x : SArg} {j g0 ver s i off : Nat} {es : List AV} {e : AV} (h : WO (aops cf xf base r (log ++ [⟨[j], [], false⟩]) (T.upd d v) H) QO) (hx : x.ev T = .ptr j g0 ver s i off := by rfl) (hr : H j = ⟨g0, ro, .row s es⟩ := by rfl)
  (hv0 : es.length = ver := by rfl) (he : es[i]? = some e := by rfl) (hk : off + k ≤ e.cells.length := by exact Ce rfl) (hv : (if agg then AV.agg ((e.cells.drop off).take k) else ((e.cells.drop off).headD .undef)) = v := by (conv => lhs; whnf))
  (hw : Af T g = some true := by rfl) (hl : Av log ⟨[j], [], false⟩ un = true := by rfl) : WO (aops cf xf base (⟨some d, .load k agg x, g, un⟩ :: r) log T H) QO := Mc v hx hr hv0 he hk hv hw hl h
theorem Cr {k : Nat} {x y : SArg} {j g0 ver s i off : Nat} {es cs : List AV} {e v : AV} (h : WO (aops cf xf base r (log ++ [⟨[j], [j], false⟩]) T (H.upd j ⟨g0, false, .row s (es.set i (e.rewrap (e.cells.take off ++ cs ++ e.cells.drop (off + k))))⟩)) QO)
  (hx : x.ev T = .ptr j g0 ver s i off := by rfl) (hr : H j = ⟨g0, false, .row s es⟩ := by rfl) (hv0 : es.length = ver := by rfl) (he : es[i]? = some e := by rfl) (hy : y.ev T = v := by rfl) (hs : Dq v = true := by rfl) (hcs : v.cells = cs := by rfl) (hk : cs.length = k := by rfl)
  (hle : off + k ≤ e.cells.length := by exact Ce rfl) (hw : Af T g = some true := by rfl) (hl : Av log ⟨[j], [j], false⟩ un = true := by rfl) : WO (aops cf xf base (⟨none, .store k x y, g, un⟩ :: r) log T H) QO :=
 bH hx hr hv0 he hy hs hcs hk hle hw hl h
theorem Gp {v : AV} {k : Nat} {agg tt : Bool} {x : SArg} {cs : List AV} (h : WO (aops cf xf base r (log ++ [.z]) (T.upd d v) H) QO) (hx : x.ev T = .iptr tt cs := by rfl) (hk : k ≤ cs.length := by exact Ce rfl)
  (hv : (if agg then AV.agg (cs.take k) else cs.headD .undef) = v := by (conv => lhs; whnf)) (hw : Af T g = some true := by rfl) (hl : Av log .z un = true := by rfl) : WO (aops cf xf base (⟨some d, .load k agg x, g, un⟩ :: r) log T H) QO := Acq v hx hk hv hw hl h
theorem Ky {op : BinOp} {x y : SArg} {k : IntKind} {a b : Int} {v : Bool} (h : WO (aops cf xf base r (log ++ [.z]) (T.upd d (.bool v)) H) QO) (hc : gO op = true := by rfl) (hx : x.ev T = .int k a := by rfl) (hy : y.ev T = .int k b := by rfl)
  (hp : Dec2 (cmpP op a b) v := by first | (refine Go.AI.Dec2.t ?_; first | (simp only [Go.AI.cmpP]; done) | (simp only [Go.AI.cmpP]; omega)) | (refine Go.AI.Dec2.f ?_; first | (simp only [Go.AI.cmpP]; done) | (simp only [Go.AI.cmpP]; omega))) (hw : Af T g = some true := by rfl)
  (hl : Av log .z un = true := by rfl) : WO (aops cf xf base (⟨some d, .bin op x y, g, un⟩ :: r) log T H) QO := by
 cases hp with
 | t hp => exact wV hc hx hy hp hw hl h
 | f hp => exact wJ hc hx hy hp hw hl h
theorem Ab {op : BinOp} {x y : SArg} {k : IntKind} {a b : Int} (h1 : cmpP op a b → WO (aops cf xf base r (log ++ [.z]) (T.upd d (.bool true)) H) QO) (h2 : ¬ cmpP op a b → WO (aops cf xf base r (log ++ [.z]) (T.upd d (.bool false)) H) QO)
  (hc : gO op = true := by rfl) (hx : x.ev T = .int k a := by rfl) (hy : y.ev T = .int k b := by rfl) (hw : Af T g = some true := by rfl) (hl : Av log .z un = true := by rfl) :
  WO (aops cf xf base (⟨some d, .bin op x y, g, un⟩ :: r) log T H) QO := Agg hc hx hy hw hl h1 h2
theorem Np {x y : SArg} {a b : Int} (h : WO (aops cf xf base r (log ++ [.z]) (T.upd d (.int .i64 (a + b))) H) QO) (hx : x.ev T = .int .i64 a := by rfl) (hy : y.ev T = .int .i64 b := by rfl) (hf : -9223372036854775808 ≤ a + b ∧ a + b ≤ 9223372036854775807 := by omega)
  (hw : Af T g = some true := by rfl) (hl : Av log .z un = true := by rfl) : WO (aops cf xf base (⟨some d, .bin .add x y, g, un⟩ :: r) log T H) QO := Agf hx hy hf hw hl h
theorem pN {x y : SArg} {a b : Int} (h : WO (aops cf xf base r (log ++ [.z]) (T.upd d (.int .i64 (a - b))) H) QO) (hx : x.ev T = .int .i64 a := by rfl) (hy : y.ev T = .int .i64 b := by rfl) (hf : -9223372036854775808 ≤ a - b ∧ a - b ≤ 9223372036854775807 := by omega)
  (hw : Af T g = some true := by rfl) (hl : Av log .z un = true := by rfl) : WO (aops cf xf base (⟨some d, .bin .sub x y, g, un⟩ :: r) log T H) QO := Ahs hx hy hf hw hl h
theorem Vx {x y : SArg} {a b : Int} (h : WO (aops cf xf base r (log ++ [.z]) (T.upd d (.int .i64 (a * b))) H) QO) (hx : x.ev T = .int .i64 a := by rfl) (hy : y.ev T = .int .i64 b := by rfl) (hf : -9223372036854775808 ≤ a * b ∧ a * b ≤ 9223372036854775807 := by omega)
  (hw : Af T g = some true := by rfl) (hl : Av log .z un = true := by rfl) : WO (aops cf xf base (⟨some d, .bin .mul x y, g, un⟩ :: r) log T H) QO := Agu hx hy hf hw hl h
theorem Aaj {x y : SArg} {k : IntKind} {a b : Int} (h : WO (aops cf xf base r (log ++ [.z]) (T.upd d (.int k (a % b))) H) QO) (hx : x.ev T = .int k a := by rfl) (hy : y.ev T = .int k b := by rfl) (ha : 0 ≤ a := by omega) (hb : 0 < b := by omega)
  (hw : Af T g = some true := by rfl) (hl : Av log .z un = true := by rfl) : WO (aops cf xf base (⟨some d, .bin .rem x y, g, un⟩ :: r) log T H) QO := Aga hx hy ha hb hw hl h
theorem Ags {x y : SArg} {a b : Int} (hx : x.ev T = .int .i64 a) (hy : y.ev T = .int .i64 b) (ha : 0 ≤ a ∧ a ≤ 9223372036854775807) (hb : 0 < b) (hw : Af T g = some true) (hl : Av log .z un = true)
  (h : WO (aops cf xf base r (log ++ [.z]) (T.upd d (.int .i64 (a / b))) H) QO) : WO (aops cf xf base (⟨some d, .bin .quo x y, g, un⟩ :: r) log T H) QO :=
 Aq (v := .int .i64 (a / b)) hw (by
  have h0 : b ≠ 0 := by omega
  have h1 : a.tdiv b = a / b := Int.tdiv_eq_ediv_of_nonneg ha.1
  have h2 : 0 ≤ a / b := Int.ediv_nonneg ha.1 (by omega)
  have h3 : a / b ≤ a := Int.ediv_le_self b ha.1
  simp [aop, hx, hy, rv, abin, h0, h1, IntWalk.i64_in (a / b) ⟨by omega, by omega⟩]) hl h
theorem Acx {x y : SArg} {a b : Int} (h : WO (aops cf xf base r (log ++ [.z]) (T.upd d (.int .i64 (a / b))) H) QO) (hx : x.ev T = .int .i64 a := by rfl) (hy : y.ev T = .int .i64 b := by rfl) (ha : 0 ≤ a ∧ a ≤ 9223372036854775807 := by omega) (hb : 0 < b := by omega)
  (hw : Af T g = some true := by rfl) (hl : Av log .z un = true := by rfl) : WO (aops cf xf base (⟨some d, .bin .quo x y, g, un⟩ :: r) log T H) QO := Ags hx hy ha hb hw hl h
theorem Sm {op : BinOp} {x y : SArg} {k : IntKind} {n : Int} (h : WO (aops cf xf base r (log ++ [.z]) (T.upd d (.int k n)) H) QO) (hv : abin op (x.ev T) (y.ev T) = some (.int k n) := by rfl) (hw : Af T g = some true := by rfl) (hl : Av log .z un = true := by rfl) :
  WO (aops cf xf base (⟨some d, .bin op x y, g, un⟩ :: r) log T H) QO := Agc _ hv hw hl h
theorem Rr {c a b : SArg} {v : AV} (h : WO (aops cf xf base r (log ++ [.z]) (T.upd d v) H) QO) (hc : c.ev T = .bool true := by rfl) (hx : a.ev T = v := by (conv => lhs; whnf)) (hw : Af T g = some true := by rfl) (hl : Av log .z un = true := by rfl) :
  WO (aops cf xf base (⟨some d, .pick c a b, g, un⟩ :: r) log T H) QO := Acz v hc hx hw hl h
theorem Rm {c a b : SArg} {v : AV} (h : WO (aops cf xf base r (log ++ [.z]) (T.upd d v) H) QO) (hc : c.ev T = .bool false := by rfl) (hx : b.ev T = v := by (conv => lhs; whnf)) (hw : Af T g = some true := by rfl) (hl : Av log .z un = true := by rfl) :
  WO (aops cf xf base (⟨some d, .pick c a b, g, un⟩ :: r) log T H) QO := Adr v hc hx hw hl h
theorem Ty {x : SArg} (h : WO (aops cf xf base r (log ++ [.z]) (T.upd d (.bool false)) H) QO) (hx : x.ev T = .bool true := by rfl) (hw : Af T g = some true := by rfl) (hl : Av log .z un = true := by rfl) :
  WO (aops cf xf base (⟨some d, .un .not x, g, un⟩ :: r) log T H) QO := Aev hx hw hl h
theorem Tt {x : SArg} (h : WO (aops cf xf base r (log ++ [.z]) (T.upd d (.bool true)) H) QO) (hx : x.ev T = .bool false := by rfl) (hw : Af T g = some true := by rfl) (hl : Av log .z un = true := by rfl) :
  WO (aops cf xf base (⟨some d, .un .not x, g, un⟩ :: r) log T H) QO := Afn hx hw hl h
theorem hJ {s : Nat} {x : SArg} (h : WO (aops cf xf base r (log ++ [.z]) (T.upd d (.int .i64 l.length)) H) QO) (hx : x.ev T = .islc t f s (BL l) := by rfl) (hw : Af T g = some true := by rfl) (hl : Av log .z un = true := by rfl) :
  WO (aops cf xf base (⟨some d, .len x, g, un⟩ :: r) log T H) QO := Ahp hx hw hl h
theorem Hk {x : SArg} {j g0 ver s off len : Nat} {cap : Option Nat} (h : WO (aops cf xf base r (log ++ [.z]) (T.upd d (.int .i64 len)) H) QO) (hx : x.ev T = .slc j g0 ver s off len cap := by rfl) (hw : Af T g = some true := by rfl) (hl : Av log .z un = true := by rfl) :
  WO (aops cf xf base (⟨some d, .len x, g, un⟩ :: r) log T H) QO := Afa hx hw hl h
theorem Ws {s : Nat} {x : SArg} (h : WO (aops cf xf base r (log ++ [.z]) (T.upd d (.int .i64 0)) H) QO) (hx : x.ev T = .islc t f s [] := by rfl) (hw : Af T g = some true := by rfl) (hl : Av log .z un = true := by rfl) :
  WO (aops cf xf base (⟨some d, .len x, g, un⟩ :: r) log T H) QO := Afb hx hw hl h
theorem gC {x : SArg} {b : ByteArray} (h : WO (aops cf xf base r (log ++ [.z]) (T.upd d (.int .i64 b.size)) H) QO) (hx : x.ev T = .str b := by rfl) (hw : Af T g = some true := by rfl) (hl : Av log .z un = true := by rfl) :
  WO (aops cf xf base (⟨some d, .lenS x, g, un⟩ :: r) log T H) QO := Aq (v := .int .i64 b.size) hw (by simp [aop, hx, rv]) hl h
theorem q_ex {v u : AV} {i : Nat} {x : SArg} {vs : List AV} (h : WO (aops cf xf base r (log ++ [.z]) (T.upd d v) H) QO) (hx : x.ev T = .tup vs := by rfl) (hv : vs[i]? = some u := by rfl) (hu : u = v := by (conv => lhs; whnf)) (hw : Af T g = some true := by rfl)
  (hl : Av log .z un = true := by rfl) : WO (aops cf xf base (⟨some d, .extract x i, g, un⟩ :: r) log T H) QO := sG hx hv hu hw hl h
theorem Ru {k : Nat} {x y : SArg} {j g0 ver s i off : Nat} {es cs : List AV} {e v : AV} (h : WO (aops cf xf base r (log ++ [⟨[j], [j], false⟩]) T (H.setRow j s (es.set i (e.rewrap (e.cells.take off ++ cs ++ e.cells.drop (off + k)))))) QO)
  (hx : x.ev T = .ptr j g0 ver s i off := by rfl) (hr : H.rowW j g0 ver s = some es := by rfl) (he : es[i]? = some e := by rfl) (hy : y.ev T = v := by rfl) (hs : Dq v = true := by rfl) (hcs : v.cells = cs := by rfl) (hk : cs.length = k := by rfl)
  (hle : off + k ≤ e.cells.length := by exact Ce rfl) (hw : Af T g = some true := by rfl) (hl : Av log ⟨[j], [j], false⟩ un = true := by rfl) : WO (aops cf xf base (⟨none, .store k x y, g, un⟩ :: r) log T H) QO :=
 qU hx hr he hy hs hcs hk hle hw hl h
theorem Iz {site : Nat} {x : SArg} {v : AV} (h : WO (aops cf xf base r (log ++ [⟨[], [base + site], false⟩]) (T.upd d (.ptr (base + site) ((H (base + site)).gen + 1) 1 v.cells.length 0 0)) (H.newRow (base + site) v.cells.length [v])) QO)
  (hx : x.ev T = v := by (conv => lhs; whnf)) (hs : Dq v = true := by rfl) (hw : Af T g = some true := by rfl) (hl : Av log ⟨[], [base + site], false⟩ un = true := by rfl) : WO (aops cf xf base (⟨some d, .box site x, g, un⟩ :: r) log T H) QO :=
 Agi v hx hs hw hl h
theorem Aau {v : Bool} {neg : Bool} {x y : SArg} {a b : Bool} (h : WO (aops cf xf base r (log ++ [.z]) (T.upd d (.bool v)) H) QO) (hx : x.ev T = .bool a := by rfl) (hy : y.ev T = .bool b := by rfl) (hv : ((a == b) != neg) = v := by (conv => lhs; whnf))
  (hw : Af T g = some true := by rfl) (hl : Av log .z un = true := by rfl) : WO (aops cf xf base (⟨some d, .eqb neg x y, g, un⟩ :: r) log T H) QO := Agm v hx hy hv hw hl h
theorem Tg {x : SArg} {k : IntKind} {a : Int} (h : WO (aops cf xf base r (log ++ [.z]) (T.upd d (.int .i64 a)) H) QO) (hx : x.ev T = .int k a := by rfl) (hf : -9223372036854775808 ≤ a ∧ a ≤ 9223372036854775807 := by omega) (hw : Af T g = some true := by rfl)
  (hl : Av log .z un = true := by rfl) : WO (aops cf xf base (⟨some d, .cvi .i64 x, g, un⟩ :: r) log T H) QO := Aez hx hf hw hl h
theorem Nf {x : SArg} {k : IntKind} {a : Int} (h : WO (aops cf xf base r (log ++ [.z]) (T.upd d (.int .u64 a)) H) QO) (hx : x.ev T = .int k a := by rfl) (hf : 0 ≤ a ∧ a ≤ 18446744073709551615 := by omega) (hw : Af T g = some true := by rfl)
  (hl : Av log .z un = true := by rfl) : WO (aops cf xf base (⟨some d, .cvi .u64 x, g, un⟩ :: r) log T H) QO := pX hx hf hw hl h
theorem Vp {x : SArg} {k : IntKind} {a : Int} (h : WO (aops cf xf base r (log ++ [.z]) (T.upd d (.int .u64 (a % 18446744073709551616))) H) QO) (hx : x.ev T = .int k a := by rfl) (hw : Af T g = some true := by rfl) (hl : Av log .z un = true := by rfl) :
  WO (aops cf xf base (⟨some d, .cvi .u64 x, g, un⟩ :: r) log T H) QO := Agw hx hw hl h
theorem Pi {x : SArg} {k k' : IntKind} {a : Int} (h : WO (aops cf xf base r (log ++ [.z]) (T.upd d (.int k' (k'.wrap a))) H) QO) (hx : x.ev T = .int k a := by rfl) (hw : Af T g = some true := by rfl) (hl : Av log .z un = true := by rfl) :
  WO (aops cf xf base (⟨some d, .cvi k' x, g, un⟩ :: r) log T H) QO := Ahl hx hw hl h
theorem q_at {x i : SArg} {k : IntKind} {n : Int} (h : WO (aops cf xf base r (log ++ [.z]) (T.upd d (.iptr t [.int .u8 (bAt l n).toNat])) H) QO) (hx : x.ev T = .islc t f 1 (BL l) := by rfl) (hi : i.ev T = .int k n := by rfl) (h0 : 0 ≤ n := by omega) (h1 : n < l.length := by omega)
  (hw : Af T g = some true := by rfl) (hl : Av log .z un = true := by rfl) : WO (aops cf xf base (⟨some d, .iaddr 1 x i, g, un⟩ :: r) log T H) QO := Afu hx hi h0 h1 hw hl h
theorem oI {v : AV} {off k : Nat} {agg : Bool} {x : SArg} {cs : List AV} (h : WO (aops cf xf base r (log ++ [.z]) (T.upd d v) H) QO) (hx : x.ev T = .agg cs := by rfl) (hk : off + k ≤ cs.length := by exact Ce rfl)
  (hv : (if agg then AV.agg ((cs.drop off).take k) else ((cs.drop off).headD .undef)) = v := by (conv => lhs; whnf)) (hw : Af T g = some true := by rfl) (hl : Av log .z un = true := by rfl) : WO (aops cf xf base (⟨some d, .field off k agg x, g, un⟩ :: r) log T H) QO :=
 Acu v hx hk hv hw hl h
theorem Qv {site s : Nat} (h : WO (aops cf xf base r (log ++ [⟨[], [base + site], false⟩]) (T.upd d (.slc (base + site) ((H (base + site)).gen + 1) 0 s 0 0 .none)) (H.newRow (base + site) s [])) QO) (hw : Af T g = some true := by rfl)
  (hl : Av log ⟨[], [base + site], false⟩ un = true := by rfl) : WO (aops cf xf base (⟨some d, .nilrow site s, g, un⟩ :: r) log T H) QO := xL hw hl h
theorem Ic {z : List AV} {ps : List (Nat × Nat × SArg)} {cs : List AV} (h : WO (aops cf xf base r (log ++ [.z]) (T.upd d (.agg cs)) H) QO) (hc : Jf z (ps.map fun (o, k, x) => (o, k, x.ev T)) = some cs := by rfl) (hw : Af T g = some true := by rfl)
  (hl : Av log .z un = true := by rfl) : WO (aops cf xf base (⟨some d, .build z ps, g, un⟩ :: r) log T H) QO := pP _ hc rfl hw hl h
theorem Mf {site s n : Nat} {z : AV} {ps : List (Nat × SArg)} {es : List AV}
  (h : WO (aops cf xf base r (log ++ [⟨[], [base + site], false⟩]) (T.upd d (.slc (base + site) ((H (base + site)).gen + 1) n s 0 n .none)) (H.newRow (base + site) s es)) QO) (hz : z.cells.length = s := by rfl)
  (hc : Je s (List.replicate n z) (ps.map fun (i, x) => (i, x.ev T)) = some es := by rfl) (hw : Af T g = some true := by rfl) (hl : Av log ⟨[], [base + site], false⟩ un = true := by rfl) : WO (aops cf xf base (⟨some d, .buildS site s n z ps, g, un⟩ :: r) log T H) QO :=
 yN hz hc hw hl h
theorem q_mn {x y : SArg} {k : IntKind} {a b : Int} (h : WO (aops cf xf base r (log ++ [.z]) (T.upd d (.int k (min a b))) H) QO) (hx : x.ev T = .int k a := by rfl) (hy : y.ev T = .int k b := by rfl) (hw : Af T g = some true := by rfl)
  (hl : Av log .z un = true := by rfl) : WO (aops cf xf base (⟨some d, .mnmx false x y, g, un⟩ :: r) log T H) QO := Ahd hx hy hw hl h
theorem q_mx {x y : SArg} {k : IntKind} {a b : Int} (h : WO (aops cf xf base r (log ++ [.z]) (T.upd d (.int k (max a b))) H) QO) (hx : x.ev T = .int k a := by rfl) (hy : y.ev T = .int k b := by rfl) (hw : Af T g = some true := by rfl)
  (hl : Av log .z un = true := by rfl) : WO (aops cf xf base (⟨some d, .mnmx true x y, g, un⟩ :: r) log T H) QO :=
 Aq (v := .int k (max a b)) hw (by
  simp only [aop, hx, hy, if_true, rv]
  congr 3
  by_cases h : a < b
  ·rw [if_pos h]; exact (Int.max_eq_right (by omega)).symm
  ·rw [if_neg h]; exact (Int.max_eq_left (by omega)).symm) hl h
theorem uC {site gn j v : Nat} {x y : SArg} {n : Int} (h : WO (aops cf xf base r (log ++ [⟨[j], [j], false⟩]) (T.upd d (.slc j gn (v + n.toNat) 1 0 (v + n.toNat) .none)) (H.upd j ⟨gn, false, .row 1 (BL (l ++ List.replicate n.toNat 0))⟩)) QO)
  (hx : x.ev T = .slc j gn v 1 0 v .none := by rfl) (hy : y.ev T = .int .i64 n := by rfl) (hr : H j = ⟨gn, false, .row 1 (BL l)⟩ := by (first | rfl | exact Go.AI.Heap.upd_same _ _ _)) (hv : l.length = v := by (first | rfl | (simp; omega))) (h0 : 0 < n := by omega)
  (hm : (v : Int) + n ≤ 68719476736 := by omega) (hw : Af T g = some true := by rfl) (hl : Av log ⟨[j], [j], false⟩ un = true := by rfl) : WO (aops cf xf base (⟨some d, .appZ site 1 (.int .u8 0) x y, g, un⟩ :: r) log T H) QO :=
 Aen hx hy hr hv h0 hm hw hl h
theorem oV {site s : Nat} {x y : SArg} {n : Int}
  (h : WO (aops cf xf base r (log ++ [⟨[], [base + site], false⟩]) (T.upd d (.slc (base + site) ((H (base + site)).gen + 1) n.toNat 1 0 n.toNat .none)) (H.newRow (base + site) 1 (BL (List.replicate n.toNat 0)))) QO)
  (hx : x.ev T = .islc t true s [] := by rfl) (hy : y.ev T = .int .i64 n := by rfl) (h0 : 0 < n := by omega) (hm : n ≤ 68719476736 := by omega) (hw : Af T g = some true := by rfl) (hl : Av log ⟨[], [base + site], false⟩ un = true := by rfl) :
  WO (aops cf xf base (⟨some d, .appZ site 1 (.int .u8 0) x y, g, un⟩ :: r) log T H) QO := Abq hx hy h0 hm hw hl h
theorem Ax {site gn j v s : Nat} {x y : SArg} {m : List UInt8} (h : ∀ fp, WO (aops cf xf base r (log ++ [fp]) (T.upd d (.slc j gn (v + m.length) 1 0 (v + m.length) .none)) (H.upd j ⟨gn, false, .row 1 (BL (l ++ m))⟩)) QO)
  (hx : x.ev T = .slc j gn v 1 0 v .none := by rfl) (hy : y.ev T = .islc t f s (BL m) := by rfl) (hs : s = 1 ∨ m = [] := by (first | exact Or.inl rfl | exact Or.inr rfl | assumption)) (hr : H j = ⟨gn, false, .row 1 (BL l)⟩ := by (first | rfl | exact Go.AI.Heap.upd_same _ _ _))
  (hv : l.length = v := by (first | rfl | (simp; omega))) (hm : v + m.length ≤ 68719476736 := by (first | omega | (simp; omega))) (hw : Af T g = some true := by rfl) (hl : un = [] := by rfl) :
  WO (aops cf xf base (⟨some d, .app site 1 x y, g, un⟩ :: r) log T H) QO := Agn hx hy hs hr hv hm hw hl h
theorem Adi {s : Nat} {x : SArg} (h : WO (aops cf xf base r (log ++ [.z]) (T.upd d (.str ⟨l.toArray⟩)) H) QO) (hx : x.ev T = .islc t f s (BL l) := by rfl) (hs : s = 1 ∨ l = [] := by (first | exact Or.inl rfl | exact Or.inr rfl | assumption)) (hw : Af T g = some true := by rfl)
  (hl : Av log .z un = true := by rfl) : WO (aops cf xf base (⟨some d, .b2s x, g, un⟩ :: r) log T H) QO := Agt hx hs hw hl h
theorem q_ss {x : SArg} {j gn v s off len : Nat} {cap : Option Nat} {es : List AV} (h : WO (aops cf xf base r (log ++ [⟨[j], [j], false⟩]) (T.upd d (.slc j gn v s off len cap)) H) QO) (hx : x.ev T = .slc j gn v s off len cap := by rfl) (hr : H j = ⟨gn, false, .row s es⟩ := by rfl)
  (hv : es.length = v := by rfl) (h1 : off < v := by decide) (h2 : 0 < len := by decide) (hw : Af T g = some true := by rfl) (hl : Av log ⟨[j], [j], false⟩ un = true := by rfl) : WO (aops cf xf base (⟨some d, .ss x, g, un⟩ :: r) log T H) QO :=
 Aih hx hr hv h1 h2 hw hl h
theorem Aav {site : Nat} {x y : SArg} {k k' : IntKind} {n : Int} (h : WO (aops cf xf base r (log ++ [⟨[], [base + site], false⟩]) (T.upd d (.slc (base + site) ((H (base + site)).gen + 1) n.toNat 1 0 n.toNat .none)) (H.newRow (base + site) 1 (BL (List.replicate n.toNat 0)))) QO)
  (hx : x.ev T = .int k n := by rfl) (hy : y.ev T = .int k' n := by rfl) (h0 : 0 ≤ n := by omega) (h1 : n ≤ 68719476736 := by omega) (hw : Af T g = some true := by rfl) (hl : Av log ⟨[], [base + site], false⟩ un = true := by rfl) :
  WO (aops cf xf base (⟨some d, .mks site 1 (.int .u8 0) x y, g, un⟩ :: r) log T H) QO := Ahj hx hy h0 h1 hw hl h
theorem Ad {fn : Nat} {as : List SArg} {args : List AV} {v : AV} (hF : FnV cf fn args v) (h : WO (aops cf xf base r (log ++ [⟨(as.map (SArg.ev T)).flatMap (vis deep H), [], false⟩]) (T.upd d v) H) QO) (hw : Af T g = some true := by rfl)
  (ha : (as.map (SArg.ev T)).map (fz false deep H) = args := by rfl) (hl : Av log ⟨(as.map (SArg.ev T)).flatMap (vis deep H), [], false⟩ un = true := by rfl) : WO (aops cf xf base (⟨some d, .call .pure fn as, g, un⟩ :: r) log T H) QO := Uv hF hw ha hl h
theorem Ag {fn : Nat} {as : List SArg} {args : List AV} {b : Bool} (hF : FnV cf fn args (.bool b)) (h1 : b = true → WO (aops cf xf base r (log ++ [⟨(as.map (SArg.ev T)).flatMap (vis deep H), [], false⟩]) (T.upd d (.bool true)) H) QO)
  (h2 : b = false → WO (aops cf xf base r (log ++ [⟨(as.map (SArg.ev T)).flatMap (vis deep H), [], false⟩]) (T.upd d (.bool false)) H) QO) (hw : Af T g = some true := by rfl)
  (ha : (as.map (SArg.ev T)).map (fz false deep H) = args := by rfl) (hl : Av log ⟨(as.map (SArg.ev T)).flatMap (vis deep H), [], false⟩ un = true := by rfl) : WO (aops cf xf base (⟨some d, .call .pure fn as, g, un⟩ :: r) log T H) QO := sV hF hw ha hl h1 h2
theorem Yw {x y : SArg} {s' : Nat} {k : IntKind} {n : Int} (h : WO (aops cf xf base r (log ++ [.z]) (T.upd d (.islc t (f && decide (n.toNat = l.length)) 1 (BL (l.take n.toNat)))) H) QO) (hx : x.ev T = .islc t f s' (BL l) := by rfl)
  (hs : s' = 1 ∨ l = [] := by (first | exact Or.inl rfl | exact Or.inr rfl | assumption)) (hy : y.ev T = .int k n := by rfl) (h0 : 0 ≤ n := by omega) (hb : n ≤ l.length := by omega) (hw : Af T g = some true := by rfl) (hl : Av log .z un = true := by rfl) :
  WO (aops cf xf base (⟨some d, .slice 1 x none (some y) none, g, un⟩ :: r) log T H) QO := xS hx hs hy h0 hb hw hl h
theorem Zc {x y : SArg} {s' : Nat} {k : IntKind} {n : Int} (h : WO (aops cf xf base r (log ++ [.z]) (T.upd d (.islc t f 1 (BL (l.drop n.toNat)))) H) QO) (hx : x.ev T = .islc t f s' (BL l) := by rfl)
  (hs : s' = 1 ∨ l = [] := by (first | exact Or.inl rfl | exact Or.inr rfl | assumption)) (hy : y.ev T = .int k n := by rfl) (h0 : 0 ≤ n := by omega) (hb : n ≤ l.length := by omega) (hw : Af T g = some true := by rfl) (hl : Av log .z un = true := by rfl) :
  WO (aops cf xf base (⟨some d, .slice 1 x (some y) none none, g, un⟩ :: r) log T H) QO := xW hx hs hy h0 hb hw hl h
theorem Yr {x y z : SArg} {s' : Nat} {k k' : IntKind} {n m : Int} (h : WO (aops cf xf base r (log ++ [.z]) (T.upd d (.islc t (f && decide (m.toNat = l.length)) 1 (BL ((l.drop n.toNat).take (m.toNat - n.toNat))))) H) QO) (hx : x.ev T = .islc t f s' (BL l) := by rfl)
  (hs : s' = 1 ∨ l = [] := by (first | exact Or.inl rfl | exact Or.inr rfl | assumption)) (hy : y.ev T = .int k n := by rfl) (hz : z.ev T = .int k' m := by rfl) (h0 : 0 ≤ n := by omega) (h1 : n ≤ m := by omega) (hb : m ≤ l.length := by omega) (hw : Af T g = some true := by rfl)
  (hl : Av log .z un = true := by rfl) : WO (aops cf xf base (⟨some d, .slice 1 x (some y) (some z) none, g, un⟩ :: r) log T H) QO := zA hx hs hy hz h0 h1 hb hw hl h
end
end Go.AI
set_option maxRecDepth 10000
set_option maxHeartbeats 4000000
namespace Go.AI
theorem Fx {cf : Cx} {xf : ExtF} {base fuel : Nat} {T : Tmps} {H : Heap} {Q : Ex → Tmps → Heap → Prop} {b : SCode} (n : Nat) (Inv : Nat → Tmps → Heap → Prop) (h0 : Inv 0 T H) (hf : n < fuel)
  (hs : ∀ i T H, i ≤ n → Inv i T H → W (Bb cf xf base fuel b T H) (Then (fun T H => i < n ∧ Inv (i + 1) T H) Q)) : W (Bb cf xf base fuel (.loop b) T H) Q := by
 refine aY (fun m T H => m ≤ n ∧ Inv (n - m) T H) n ⟨Ao _, by simpa using h0⟩ hf ?_
 rintro m T H hm ⟨_, hi⟩
 refine (hs (n - m) T H (by omega) hi).mono ?_
 intro ex T H h
 cases ex with
 | normal =>
  obtain ⟨h1, h2⟩ := h
  exact ⟨by omega, by omega, by rwa [show n - (m - 1) = n - m + 1 by omega]⟩
 | exit id => exact h
 | ret => exact h
section
variable {cf : Cx} {xf : ExtF} {base : Nat} {T : Tmps} {H : Heap} {QO : Tmps → Heap → Prop} {log : List FP} {g : Option (Nat × Bool)} {un : List Nat} {r : List SOper} {d : Nat} {t f : Bool}
theorem xQ {f : Nat} {x : SArg} {caps : List AV} {xs : List SArg} {args : List AV} {v : AV} (hF : FnV cf f args v) (hx : x.ev T = .fn f caps) (ha : (xs.map (SArg.ev T) ++ caps).map (fz false deep H) = args) :
  aop cf xf base T H (.callv .pure x xs) = some (v, H, ⟨(xs.map (SArg.ev T) ++ caps).flatMap (vis deep H), [], false⟩) := by
 obtain ⟨u, Hc, h1, rfl⟩ := hF
 simp only [aop, hx, Fu, ha, h1, Ac, Aa]
theorem Vd {f : Nat} {x : SArg} {caps : List AV} {xs : List SArg} {args : List AV} {v : AV} (hF : FnV cf f args v) (h : WO (aops cf xf base r (log ++ [⟨(xs.map (SArg.ev T) ++ caps).flatMap (vis deep H), [], false⟩]) (T.upd d v) H) QO) (hx : x.ev T = .fn f caps := by rfl)
  (hw : Af T g = some true := by rfl) (ha : (xs.map (SArg.ev T) ++ caps).map (fz false deep H) = args := by rfl) (hl : Av log ⟨(xs.map (SArg.ev T) ++ caps).flatMap (vis deep H), [], false⟩ un = true := by rfl) :
  WO (aops cf xf base (⟨some d, .callv .pure x xs, g, un⟩ :: r) log T H) QO := Aq hw (xQ hF hx ha) hl h
theorem Qp {tt : Bool} {o : Nat} {x : SArg} {cs : List AV} (h : WO (aops cf xf base r (log ++ [.z]) (T.upd d (.iptr tt (cs.drop o))) H) QO) (hx : x.ev T = .iptr tt cs := by rfl) (hk : o ≤ cs.length := by exact Ce rfl) (hw : Af T g = some true := by rfl)
  (hl : Av log .z un = true := by rfl) : WO (aops cf xf base (⟨some d, .faddr o x, g, un⟩ :: r) log T H) QO := Aq (v := .iptr tt (cs.drop o)) hw (by simp only [aop, hx, if_pos hk, rv]) hl h
theorem Pa {site j2 g2 s' s : Nat} {ro : Bool} {x y : SArg} {e : AV} {cap2 : Option Nat} (hx : x.ev T = .islc t true s' []) (hy : y.ev T = .slc j2 g2 1 s 0 1 cap2) (h2 : H j2 = ⟨g2, ro, .row s [e]⟩) (he : e.norefs = true)
  (hw : Af T g = some true) (hl : un = [])
  (h : ∀ fp, WO (aops cf xf base r (log ++ [fp]) (T.upd d (.slc (base + site) ((H (base + site)).gen + 1) 1 s 0 1 .none)) (H.newRow (base + site) s [e])) QO) :
  WO (aops cf xf base (⟨some d, .app site s x y, g, un⟩ :: r) log T H) QO := by
 subst hl
 refine Aq (v := .slc (base + site) ((H (base + site)).gen + 1) 1 s 0 1 .none) (H' := H.newRow (base + site) s [e]) (fp := ⟨[j2] ++ [] ++ [], [] ++ [base + site], false⟩) hw ?_ rfl (h _)
 have e1 : Ch H s (.slc j2 g2 1 s 0 1 cap2) = some ([e], [j2]) := by
  simp [Ch, Ek (ver := 1) h2 rfl]
 have e2 : Du H [e] = some ([e], H, []) := by simp [Du, Bq, he]
 simp only [aop, hx, hy, Gv, e1, e2, Ac, Aa]
 simp only [Dc, Fz, Ap, Bx]
 rw [if_pos (by simp [Gz])]
 simp only [Aa]
 rfl
theorem It {site gn j v j2 g2 s : Nat} {ro : Bool} {x y : SArg} {es : List AV} {e : AV} {cap2 : Option Nat} (hx : x.ev T = .slc j gn v s 0 v .none) (hy : y.ev T = .slc j2 g2 1 s 0 1 cap2) (h2 : H j2 = ⟨g2, ro, .row s [e]⟩) (hr : H j = ⟨gn, false, .row s es⟩) (hv : es.length = v) (he : e.norefs = true) (hm : v + 1 ≤ 68719476736)
  (hw : Af T g = some true) (hl : un = [])
  (h : ∀ fp, WO (aops cf xf base r (log ++ [fp]) (T.upd d (.slc j gn (v + 1) s 0 (v + 1) .none)) (H.upd j ⟨gn, false, .row s (es ++ [e])⟩)) QO) :
  WO (aops cf xf base (⟨some d, .app site s x y, g, un⟩ :: r) log T H) QO := by
 subst hl
 refine Aq (v := .slc j gn (v + 1) s 0 (v + 1) .none) (H' := H.upd j ⟨gn, false, .row s (es ++ [e])⟩) (fp := ⟨[j2] ++ [] ++ [j], [] ++ [j], false⟩) hw ?_ rfl (h _)
 have e1 : Ch H s (.slc j2 g2 1 s 0 1 cap2) = some ([e], [j2]) := by
  simp [Ch, Ek (ver := 1) h2 rfl]
 have e2 : Du H [e] = some ([e], H, []) := by simp [Du, Bq, he]
 simp only [aop, hx, hy, Gv, e1, e2, Ac, Aa]
 simp only [Dc, Fz, Ap, Bx, Ip hr hv]
 rw [if_pos ⟨trivial, by omega, by simpa [Gz] using hm⟩]
 rw [if_neg (by simp)]
 simp only [Aa, As, Dl, Da]
 rw [if_pos ⟨trivial, trivial⟩, Gn hr]
 rfl
theorem Ej {x : SArg} {j g0 ver s i off : Nat} (h : WO (aops cf xf base r (log ++ [.z]) (T.upd d (.ptr j g0 ver s i off)) H) QO) (hx : x.ev T = .ptr j g0 ver s i off := by rfl) (hw : Af T g = some true := by rfl) (hl : Av log .z un = true := by rfl) :
  WO (aops cf xf base (⟨some d, .nilc x, g, un⟩ :: r) log T H) QO := Aq (v := .ptr j g0 ver s i off) hw (by simp [aop, hx, rv]) hl h
theorem uW {B : Prog} {gf : Cx} {k fi : Nat} {fn : SFun} {args : List AV} {R : AV → Heap → Prop} (hB : B fi = some fn) (hl : args.length = fn.nparams)
  (h : W (Bb (Cj B xf gf k) xf base k fn.code (Qw args) H) (fun ex T H => (ex = .normal ∨ ex = .ret) ∧ ∃ u, Jb T H fn.results = some u ∧ R u H)) : ∃ u H', Cj B xf gf (k + 1) fi base args H = some (u, H') ∧ R u H' := by
 obtain ⟨ex, T, H', h1, h2, u, h3, h4⟩ := h
 exact ⟨u, H', by rw [Tl hB hl h1 h2, h3]; rfl, h4⟩
theorem Ff {x : SArg} {lo hi : Option SArg} {a b n s s' : Nat} {es : List AV} (hx : x.ev T = .islc t f s' es) (hs : s' = s ∨ es = []) (hn : es.length = n) (hlo : (Ei T lo).map (·.getD 0) = some a) (hhi : (Ei T hi).map (·.getD n) = some b) (hab : a ≤ b) (hb : b ≤ n)
  (hw : Af T g = some true) (hl : Av log .z un = true)
  (h : WO (aops cf xf base r (log ++ [.z]) (T.upd d (.islc t (f && decide (b = n)) s ((es.drop a).take (b - a)))) H) QO) : WO (aops cf xf base (⟨some d, .slice s x lo hi none, g, un⟩ :: r) log T H) QO :=
 Aq (v := .islc t (f && decide (b = n)) s ((es.drop a).take (b - a))) hw (by
  subst hn
  have hn : Fz es = true ∨ s' = s := by
   rcases hs with h | h
   ·exact .inr h
   ·subst h; exact .inl rfl
  simp only [Al] at hlo hhi
  obtain ⟨lo', e1, rfl⟩ := hlo
  obtain ⟨hi', e2, rfl⟩ := hhi
  have e3 : Ei T none = some none := rfl
  simp only [aop, e1, e2, e3, Ac, Aa, hx, Xo]
  rw [if_neg (fun hh => hh hn)]
  simp only [Option.getD_none]
  rw [if_pos ⟨hab, hb, Ao _, fun _ => trivial⟩]
  simp [FP.z]) hl h
theorem Og {b fn : Nat} {xs : List SArg} {args : List AV} {R : AV → Heap → Prop} (hF : ∃ u H', cf fn (base + b) args H = some (u, H') ∧ R u H') (ha : xs.map (SArg.ev T) = args) (hw : Af T g = some true) (hl : Av log ⟨[], [], true⟩ un = true)
  (h : ∀ u H', R u H' → WO (aops cf xf base r (log ++ [⟨[], [], true⟩]) (T.upd d u) H') QO) : WO (aops cf xf base (⟨some d, .call (.inl b) fn xs, g, un⟩ :: r) log T H) QO := by
 obtain ⟨u, H', h1, h2⟩ := hF
 exact Gr h1 ha hw hl (h u H' h2)
theorem Afv {x i : SArg} {j gn v s off len : Nat} {ro : Bool} {cap : Option Nat} {k : IntKind} {n : Int} {es : List AV} (h : WO (aops cf xf base r (log ++ [⟨[j], [], false⟩]) (T.upd d (.ptr j gn v s (off + n.toNat) 0)) H) QO) (hx : x.ev T = .slc j gn v s off len cap := by rfl)
  (hi : i.ev T = .int k n := by rfl) (hr : H j = ⟨gn, ro, .row s es⟩ := by rfl) (hv : es.length = v := by rfl) (h0 : 0 ≤ n := by omega) (h1 : n < len := by omega) (h2 : off + len ≤ v := by omega) (hw : Af T g = some true := by rfl) (hl : Av log ⟨[j], [], false⟩ un = true := by rfl) :
  WO (aops cf xf base (⟨some d, .iaddr s x i, g, un⟩ :: r) log T H) QO := Ep hx hi hr hv h0 h1 h2 hw hl h
def FnFG (cf : Cx) (fn : Nat) (args : List AV) (s : Nat) (es : List AV) : Prop := ∃ j gn Hc, cf fn 0 args Heap.none = some (.slc j gn es.length s 0 es.length .none, Hc) ∧ Hc j = ⟨gn, false, .row s es⟩ ∧ Bq es = true ∧ es.map (fz true deep Hc) = es
theorem aB {site fn s n : Nat} {xs : List SArg} {args es : List AV} (hF : FnFG cf fn args s es) (hn : es.length = n) (hw : Af T g = some true) (ha : (xs.map (SArg.ev T)).map (fz false deep H) = args)
  (hl : Av log ⟨(xs.map (SArg.ev T)).flatMap (vis deep H), [base + site], false⟩ un = true)
  (h : WO (aops cf xf base r (log ++ [⟨(xs.map (SArg.ev T)).flatMap (vis deep H), [base + site], false⟩]) (T.upd d (.slc (base + site) ((H (base + site)).gen + 1) n s 0 n .none)) (H.newRow (base + site) s es)) QO) :
  WO (aops cf xf base (⟨some d, .call (.fresh site) fn xs, g, un⟩ :: r) log T H) QO := by
 obtain ⟨j, gn, Hc, h1, h2, h3, h4⟩ := hF
 subst hn
 refine Aq (v := .slc (base + site) ((H (base + site)).gen + 1) es.length s 0 es.length .none) (H' := H.newRow (base + site) s es) (fp := ⟨(xs.map (SArg.ev T)).flatMap (vis deep H), [base + site], false⟩) hw ?_ hl h
 simp only [aop, Fu, ha, h1, Ac, Aa, Mk, Lr, Ip h2 rfl]
 rw [if_pos ⟨h3, rfl⟩, h4]
 rfl
theorem gV {site s s' : Nat} {t' : Bool} {x y : SArg} {es : List AV} (hx : x.ev T = .islc t true s' []) (hy : y.ev T = .islc t' f s es) (hn : es ≠ []) (hr : Bq es = true) (hm : es.length ≤ 68719476736)
  (hw : Af T g = some true) (hl : Av log ⟨[], [base + site], false⟩ un = true)
  (h : WO (aops cf xf base r (log ++ [⟨[], [base + site], false⟩]) (T.upd d (.slc (base + site) ((H (base + site)).gen + 1) es.length s 0 es.length .none)) (H.newRow (base + site) s es)) QO) :
  WO (aops cf xf base (⟨some d, .app site s x y, g, un⟩ :: r) log T H) QO :=
 Aq (v := .slc (base + site) ((H (base + site)).gen + 1) es.length s 0 es.length .none) (H' := H.newRow (base + site) s es) (fp := ⟨[], [base + site], false⟩) hw (by
  have hne : Fz es = false := by cases es with
   | nil => exact absurd rfl hn
   | cons _ _ => rfl
  simp only [aop, hx, hy, Gv, Ch, Du, hr, if_true, or_true, Ac, Aa]
  simp only [Dc, hne, Ap, Bx]
  rw [if_pos ⟨trivial, rfl, by simpa [Gz] using hm⟩]
  simp) hl h
theorem dY {α : Type} [Inhabited α] (enc : α → AV) (l : List α) {i : Nat} (h : i < l.length) : (l.map enc)[i]? = some (enc (l.getD i default)) := by
 simp [h]
theorem Aal {α : Type} [Inhabited α] {enc : α → AV} {l : List α} {s : Nat} {x i : SArg} {k : IntKind} {n : Int} (h : WO (aops cf xf base r (log ++ [.z]) (T.upd d (.iptr t (enc (l.getD n.toNat default)).cells)) H) QO) (hx : x.ev T = .islc t f s (l.map enc) := by rfl)
  (hi : i.ev T = .int k n := by rfl) (h0 : 0 ≤ n := by omega) (h1 : n < l.length := by omega) (hw : Af T g = some true := by rfl) (hl : Av log .z un = true := by rfl) : WO (aops cf xf base (⟨some d, .iaddr s x i, g, un⟩ :: r) log T H) QO :=
 Aq (v := .iptr t (enc (l.getD n.toNat default)).cells) hw (by
  have e : Fb (.int k n) = some n.toNat := by simp [Fb, h0]
  simp only [aop, hx, hi, e, Ac, Aa, dY enc l (show n.toNat < l.length by omega)]
  simp [rv]) hl h
theorem vG {α : Type} {enc : α → AV} {l : List α} {s : Nat} {x : SArg} (h : WO (aops cf xf base r (log ++ [.z]) (T.upd d (.int .i64 l.length)) H) QO) (hx : x.ev T = .islc t f s (l.map enc) := by rfl) (hw : Af T g = some true := by rfl) (hl : Av log .z un = true := by rfl) :
  WO (aops cf xf base (⟨some d, .len x, g, un⟩ :: r) log T H) QO := Aq (v := .int .i64 l.length) hw (by simp [aop, hx, rv]) hl h
theorem Gx {α : Type} [Inhabited α] {enc : α → AV} {l : List α} {v : AV} {k j g0 ver s i : Nat} {agg ro : Bool} {x : SArg} (h : WO (aops cf xf base r (log ++ [⟨[j], [], false⟩]) (T.upd d v) H) QO) (hx : x.ev T = .ptr j g0 ver s i 0 := by rfl) (hr : H j = ⟨g0, ro, .row s (l.map enc)⟩ := by rfl)
  (hv0 : l.length = ver := by rfl) (hi : i < l.length := by omega) (hk : k ≤ (enc (l.getD i default)).cells.length := by exact Ce rfl) (hv : (if agg then AV.agg ((enc (l.getD i default)).cells.take k) else ((enc (l.getD i default)).cells.headD .undef)) = v := by (conv => lhs; whnf))
  (hw : Af T g = some true := by rfl) (hl : Av log ⟨[j], [], false⟩ un = true := by rfl) : WO (aops cf xf base (⟨some d, .load k agg x, g, un⟩ :: r) log T H) QO :=
 Mc v hx hr (by simpa using hv0) (dY enc l hi) (by simpa using hk) (by simpa using hv) hw hl h
theorem Ho {α : Type} [Inhabited α] {enc : α → AV} {l : List α} {a : α} {j g0 ver i : Nat} {x y : SArg} (h : WO (aops cf xf base r (log ++ [⟨[j], [j], false⟩]) T (H.upd j ⟨g0, false, .row 1 ((l.set i a).map enc)⟩)) QO) (hx : x.ev T = .ptr j g0 ver 1 i 0 := by rfl) (hr : H j = ⟨g0, false, .row 1 (l.map enc)⟩ := by rfl)
  (hv0 : l.length = ver := by rfl) (hi : i < l.length := by omega) (hy : y.ev T = enc a := by rfl) (hs : ∀ a, Dq (enc a) = true := by exact fun _ => rfl) (hc : ∀ a, (enc a).cells = [enc a] := by exact fun _ => rfl) (hrw : ∀ e cs, (enc e).rewrap cs = cs.headD .undef := by exact fun _ _ => rfl)
  (hw : Af T g = some true := by rfl) (hl : Av log ⟨[j], [j], false⟩ un = true := by rfl) : WO (aops cf xf base (⟨none, .store 1 x y, g, un⟩ :: r) log T H) QO := by
 refine bH hx hr (by simpa using hv0) (dY enc l hi) hy (hs a) (hc a) rfl (by rw [hc]; exact Ao _) hw hl ?_
 rw [hrw, hc]
 show WO (aops cf xf base r _ T (H.upd j ⟨g0, false, .row 1 ((l.map enc).set i (enc a))⟩)) QO
 rw [← List.map_set]
 exact h
theorem Acm {j gn v : Nat} {x y : SArg} {m l : List UInt8} (hx : x.ev T = .slc j gn v 1 0 v .none) (hy : y.ev T = .str ⟨m.toArray⟩) (hr : H j = ⟨gn, false, .row 1 (BL l)⟩) (hv : l.length = v) (hm : m.length ≤ v)
  (hw : Af T g = some true) (hl : Av log ⟨[j], [j], false⟩ un = true)
  (h : WO (aops cf xf base r (log ++ [⟨[j], [j], false⟩]) (T.upd d (.int .i64 m.length)) (H.upd j ⟨gn, false, .row 1 (BL (m ++ l.drop m.length))⟩)) QO) : WO (aops cf xf base (⟨some d, .copy 1 x y, g, un⟩ :: r) log T H) QO :=
 Aq (v := .int .i64 m.length) (H' := H.upd j ⟨gn, false, .row 1 (BL (m ++ l.drop m.length))⟩) (fp := ⟨[j], [j], false⟩) hw (by
  have hr2 : H.rowW j gn v 1 = some (BL l) := Ip hr (by simpa using hv)
  have e : m.map (fun c => AV.int .u8 (c.toNat : Int)) = BL m := rfl
  simp only [aop, kS, hy, Ch, if_true, Ac, Aa, hx, e, Js, Jq, Ap, Bx, hr2, true_and]
  rw [if_pos (by omega)]
  have e2 : min (BL m).length v = m.length := by simp; omega
  rw [e2, Ix, Dk, Da, mY, nL, Bp, ← lC, Gn hr]) hl h
theorem Adm {x y : SArg} {a b : List UInt8} (hx : x.ev T = .str ⟨a.toArray⟩) (hy : y.ev T = .str ⟨b.toArray⟩) (hn : a ≠ b) (hw : Af T g = some true) (hl : Av log .z un = true)
  (h : WO (aops cf xf base r (log ++ [.z]) (T.upd d (.bool true)) H) QO) : WO (aops cf xf base (⟨some d, .bin .neq x y, g, un⟩ :: r) log T H) QO :=
 Aq (v := .bool true) hw (by
  have e : ((⟨a.toArray⟩ : ByteArray).toList == (⟨b.toArray⟩ : ByteArray).toList) = false := by
   rw [beq_eq_false_iff_ne, ByteArray.toList_eq, ByteArray.toList_eq]
   simpa using hn
  simp [aop, hx, hy, abin, e, rv, hn]) hl h
theorem Vg {fn : Nat} {xs : List SArg} {args : List AV} {p : Prop} [Decidable p] (hF : FnV cf fn args (.bool (decide p))) (h1 : p → WO (aops cf xf base r (log ++ [⟨(xs.map (SArg.ev T)).flatMap (vis deep H), [], false⟩]) (T.upd d (.bool true)) H) QO)
  (h2 : ¬ p → WO (aops cf xf base r (log ++ [⟨(xs.map (SArg.ev T)).flatMap (vis deep H), [], false⟩]) (T.upd d (.bool false)) H) QO) (hw : Af T g = some true := by rfl)
  (ha : (xs.map (SArg.ev T)).map (fz false deep H) = args := by rfl) (hl : Av log ⟨(xs.map (SArg.ev T)).flatMap (vis deep H), [], false⟩ un = true := by rfl) : WO (aops cf xf base (⟨some d, .call .pure fn xs, g, un⟩ :: r) log T H) QO :=
 sV hF hw ha hl (fun h => h1 (Jj h)) (fun h => h2 (of_decide_eq_false h))
theorem vF {site : Nat} {x : SArg} {v : AV} (h : WO (aops cf xf base r (log ++ [⟨[], [base + site], false⟩]) (T.upd d (.ptr (base + site) ((H (base + site)).gen + 1) v.cells.length 1 0 0)) (H.newRow (base + site) 1 v.cells)) QO)
  (hx : x.ev T = v := by (conv => lhs; whnf)) (hs : Dq v = true := by rfl) (hn : Fz v.cells = false := by rfl) (hw : Af T g = some true := by rfl) (hl : Av log ⟨[], [base + site], false⟩ un = true := by rfl) : WO (aops cf xf base (⟨some d, .boxF site x, g, un⟩ :: r) log T H) QO :=
 Aq (v := .ptr (base + site) ((H (base + site)).gen + 1) v.cells.length 1 0 0) (H' := H.newRow (base + site) 1 v.cells) (fp := ⟨[], [base + site], false⟩) hw (by simp [aop, hx, hs, hn]) hl h
theorem lK {k j g0 : Nat} {x y : SArg} {es cs : List AV} {e v : AV} (hx : x.ev T = .ptr j g0 k 1 0 0) (hr : H j = ⟨g0, false, .row 1 es⟩) (hv0 : es.length = k) (he : es[0]? = some e) (h1 : e.cells.length < k) (hy : y.ev T = v) (hs : Dq v = true) (hcs : v.cells = cs) (hk : cs.length = k)
  (hw : Af T g = some true) (hl : Av log ⟨[j], [j], false⟩ un = true) (h : WO (aops cf xf base r (log ++ [⟨[j], [j], false⟩]) T (H.upd j ⟨g0, false, .row 1 cs⟩)) QO) : WO (aops cf xf base (⟨none, .store k x y, g, un⟩ :: r) log T H) QO :=
 Aq (v := .undef) (H' := H.upd j ⟨g0, false, .row 1 cs⟩) (fp := ⟨[j], [j], false⟩) hw (by
  subst hcs
  simp only [aop, hx, Ip hr hv0, he, hy, hs, hk, Da]
  rw [if_neg (by omega), if_pos ⟨trivial, trivial, trivial, by omega⟩]
  rw [Ix, Dk, Bm (by omega), Bt, Gn hr]) hl h
theorem sF {k j g0 : Nat} {ro : Bool} {x : SArg} {es : List AV} {e : AV} (hx : x.ev T = .ptr j g0 k 1 0 0) (hr : H j = ⟨g0, ro, .row 1 es⟩) (hv0 : es.length = k) (he : es[0]? = some e) (h1 : e.cells.length < k) (hf : es.flatMap AV.cells = es)
  (hw : Af T g = some true) (hl : Av log ⟨[j], [], false⟩ un = true) (h : WO (aops cf xf base r (log ++ [⟨[j], [], false⟩]) (T.upd d (.agg es)) H) QO) : WO (aops cf xf base (⟨some d, .load k true x, g, un⟩ :: r) log T H) QO :=
 Aq (v := .agg es) (H' := H) (fp := ⟨[j], [], false⟩) hw (by
  simp only [aop, hx, Ek hr hv0, he, Da]
  rw [if_neg (by omega), if_pos ⟨trivial, by omega⟩]
  simp only [Cc, hf, if_true]
  rw [Aj (by omega)]) hl h
theorem bQ {n j g0 ver i off : Nat} {x : SArg} (h : WO (aops cf xf base r (log ++ [.z]) (T.upd d (.slc j g0 ver 1 (i + off) n (some n))) H) QO) (hx : x.ev T = .ptr j g0 ver 1 i off := by rfl) (h0 : 0 < n := by decide) (h1 : i + off + n ≤ ver := by (exact Ce rfl))
  (hw : Af T g = some true := by rfl) (hl : Av log .z un = true := by rfl) : WO (aops cf xf base (⟨some d, .slcArr n x, g, un⟩ :: r) log T H) QO :=
 Aq (v := .slc j g0 ver 1 (i + off) n (some n)) hw (by simp only [aop, hx]; rw [if_pos ⟨trivial, h0, h1⟩]; rfl) hl h
theorem Zd {j gn v off len s s' : Nat} {cap : Option Nat} {x y : SArg} {m es : List AV} (hx : x.ev T = .slc j gn v s off len cap) (hy : y.ev T = .islc t f s' m) (hs : s' = s ∨ m = []) (hn : Bq m = true) (hr : H j = ⟨gn, false, .row s es⟩) (hv : es.length = v) (ho : off + len ≤ v) (hm : m.length = len)
  (hw : Af T g = some true) (hl : Av log ⟨[j], [j], false⟩ un = true)
  (h : WO (aops cf xf base r (log ++ [⟨[j], [j], false⟩]) (T.upd d (.int .i64 len)) (H.upd j ⟨gn, false, .row s (es.take off ++ m ++ es.drop (off + len))⟩)) QO) : WO (aops cf xf base (⟨some d, .copy s x y, g, un⟩ :: r) log T H) QO :=
 Aq (v := .int .i64 len) (H' := H.upd j ⟨gn, false, .row s (es.take off ++ m ++ es.drop (off + len))⟩) (fp := ⟨[j], [j], false⟩) hw (by
  subst hm
  have hs2 : Fz m = true ∨ s' = s := by
   rcases hs with h | h
   ·exact .inr h
   ·subst h; exact .inl rfl
  simp only [aop, kS, hy, Ch, hs2, if_true, Ac, Aa, hx, hn, Jq, Ap, Bx, Ip hr hv, true_and]
  rw [if_pos ho, Nat.min_self, Bp, Gn hr]) hl h
theorem dW {α : Type} [Inhabited α] {enc : α → AV} {l : List α} {n : Nat} {x i : SArg} {k : IntKind} {m : Int} (h : WO (aops cf xf base r (log ++ [.z]) (T.upd d (enc (l.getD m.toNat default))) H) QO) (hx : x.ev T = .agg (l.map enc) := by rfl) (hi : i.ev T = .int k m := by rfl) (hn : l.length = n := by assumption)
  (h0 : 0 ≤ m := by omega) (h1 : m < l.length := by omega) (hw : Af T g = some true := by rfl) (hl : Av log .z un = true := by rfl) : WO (aops cf xf base (⟨some d, .indexA n 1 false x i, g, un⟩ :: r) log T H) QO :=
 Aq (v := enc (l.getD m.toNat default)) hw (by
  have e : Fb (.int k m) = some m.toNat := by simp [Fb, h0]
  have hlt : m.toNat < l.length := by omega
  simp only [aop, hi, e, hx, Ac, Aa]
  rw [if_neg (by omega), if_pos (by simp; omega)]
  simp [rv, hlt]) hl h
theorem Afs {es : List AV} {e : AV} {s : Nat} {x i : SArg} {k : IntKind} {n : Int} (h : WO (aops cf xf base r (log ++ [.z]) (T.upd d (.iptr t e.cells)) H) QO) (hx : x.ev T = .islc t f s es := by rfl) (hi : i.ev T = .int k n := by rfl) (h0 : 0 ≤ n := by decide)
  (he : es[n.toNat]? = some e := by rfl) (hw : Af T g = some true := by rfl) (hl : Av log .z un = true := by rfl) : WO (aops cf xf base (⟨some d, .iaddr s x i, g, un⟩ :: r) log T H) QO := Dv hx hi h0 he hw hl h
theorem Ll {z : List AV} (h : WO (aops cf xf base r (log ++ [.z]) (T.upd d (.agg z)) H) QO) (hw : Af T g = some true := by rfl) (hl : Av log .z un = true := by rfl) : WO (aops cf xf base (⟨some d, .build z [], g, un⟩ :: r) log T H) QO := pP _ rfl rfl hw hl h
theorem Jh {α : Type} [Inhabited α] {enc : α → AV} {l : List α} {n : Nat} {x i : SArg} {k : IntKind} {m : Int} (e : α) (hx : x.ev T = .agg (l.map enc)) (hi : i.ev T = .int k m) (hn : l.length = n) (h0 : 0 ≤ m) (h1 : m < l.length) (he : l.getD m.toNat default = e)
  (hw : Af T g = some true) (hl : Av log .z un = true) (h : WO (aops cf xf base r (log ++ [.z]) (T.upd d (enc e)) H) QO) : WO (aops cf xf base (⟨some d, .indexA n 1 false x i, g, un⟩ :: r) log T H) QO := by
 subst he
 exact dW h hx hi hn h0 h1 hw hl
theorem Iu {α : Type} [Inhabited α] {enc : α → AV} {l : List α} {s : Nat} {x i : SArg} {k : IntKind} {n : Int} (e : α) (hx : x.ev T = .islc t f s (l.map enc)) (hi : i.ev T = .int k n) (h0 : 0 ≤ n) (h1 : n < l.length) (he : l.getD n.toNat default = e)
  (hw : Af T g = some true) (hl : Av log .z un = true) (h : WO (aops cf xf base r (log ++ [.z]) (T.upd d (.iptr t (enc e).cells)) H) QO) : WO (aops cf xf base (⟨some d, .iaddr s x i, g, un⟩ :: r) log T H) QO := by
 subst he
 exact Aal h hx hi h0 h1 hw hl
theorem Vb {site j2 g2 s' s : Nat} {ro : Bool} {x y : SArg} {e : AV} {cap2 : Option Nat} (hx : x.ev T = .islc t true s' []) (hy : y.ev T = .slc j2 g2 1 s 0 1 cap2) (h2 : H j2 = ⟨g2, ro, .row s [e]⟩) (he : e.norefs = true)
  (hw : Af T g = some true) (hl : un = [])
  (h : WO (aops cf xf base r (log ++ [⟨[j2], [base + site], false⟩]) (T.upd d (.slc (base + site) ((H (base + site)).gen + 1) 1 s 0 1 .none)) (H.newRow (base + site) s [e])) QO) :
  WO (aops cf xf base (⟨some d, .app site s x y, g, un⟩ :: r) log T H) QO := by
 subst hl
 refine Aq (v := .slc (base + site) ((H (base + site)).gen + 1) 1 s 0 1 .none) (H' := H.newRow (base + site) s [e]) (fp := ⟨[j2] ++ [] ++ [], [] ++ [base + site], false⟩) hw ?_ rfl h
 have e1 : Ch H s (.slc j2 g2 1 s 0 1 cap2) = some ([e], [j2]) := by
  simp [Ch, Ek (ver := 1) h2 rfl]
 have e2 : Du H [e] = some ([e], H, []) := by simp [Du, Bq, he]
 simp only [aop, hx, hy, Gv, e1, e2, Ac, Aa]
 simp only [Dc, Fz, Ap, Bx]
 rw [if_pos (by simp [Gz])]
 simp only [Aa]
 rfl
theorem Xz {site gn j v j2 g2 s : Nat} {ro : Bool} {x y : SArg} {es : List AV} {e : AV} {cap2 : Option Nat} (hx : x.ev T = .slc j gn v s 0 v .none) (hy : y.ev T = .slc j2 g2 1 s 0 1 cap2) (h2 : H j2 = ⟨g2, ro, .row s [e]⟩) (hr : H j = ⟨gn, false, .row s es⟩) (hv : es.length = v) (he : e.norefs = true) (hm : v + 1 ≤ 68719476736)
  (hw : Af T g = some true) (hl : un = [])
  (h : WO (aops cf xf base r (log ++ [⟨[j2, j], [j], false⟩]) (T.upd d (.slc j gn (v + 1) s 0 (v + 1) .none)) (H.upd j ⟨gn, false, .row s (es ++ [e])⟩)) QO) :
  WO (aops cf xf base (⟨some d, .app site s x y, g, un⟩ :: r) log T H) QO := by
 subst hl
 refine Aq (v := .slc j gn (v + 1) s 0 (v + 1) .none) (H' := H.upd j ⟨gn, false, .row s (es ++ [e])⟩) (fp := ⟨[j2] ++ [] ++ [j], [] ++ [j], false⟩) hw ?_ rfl h
 have e1 : Ch H s (.slc j2 g2 1 s 0 1 cap2) = some ([e], [j2]) := by
  simp [Ch, Ek (ver := 1) h2 rfl]
 have e2 : Du H [e] = some ([e], H, []) := by simp [Du, Bq, he]
 simp only [aop, hx, hy, Gv, e1, e2, Ac, Aa]
 simp only [Dc, Fz, Ap, Bx, Ip hr hv]
 rw [if_pos ⟨trivial, by omega, by simpa [Gz] using hm⟩]
 rw [if_neg (by simp)]
 simp only [Aa, As, Dl, Da]
 rw [if_pos ⟨trivial, trivial⟩, Gn hr]
 rfl
theorem Dh {x : SArg} {tt : Bool} {cs : List AV} (h : WO (aops cf xf base r (log ++ [.z]) (T.upd d (.iptr tt cs)) H) QO) (hx : x.ev T = .iptr tt cs := by rfl) (hw : Af T g = some true := by rfl) (hl : Av log .z un = true := by rfl) :
  WO (aops cf xf base (⟨some d, .nilc x, g, un⟩ :: r) log T H) QO := Aq (v := .iptr tt cs) hw (by simp [aop, hx, rv]) hl h
theorem uY {fn : Nat} {xs : List SArg} (h : WO (aops cf xf base r (log ++ [.z]) (T.upd d (.fn fn (xs.map (SArg.ev T)))) H) QO) (hw : Af T g = some true := by rfl) (hl : Av log .z un = true := by rfl) : WO (aops cf xf base (⟨some d, .mkfn fn xs, g, un⟩ :: r) log T H) QO :=
 Aq (v := .fn fn (xs.map (SArg.ev T))) hw (by simp [aop, rv]) hl h
end
theorem qS {G G' : Prop} (h : G') (hs : G' → G := by (intro h; first | exact q_s h | exact q_z h | exact q_b h)) : G := hs h
theorem qN {G G' : Prop} (h : G') (hs : G' → G := by (intro h; first | exact q_n h | exact q_nn h)) : G := hs h
theorem qQ {G G' : Prop} (h : G') (hs : G' → G := by (intro h; first | exact q_s h | exact q_z h | exact q_b h | exact q_mv h | exact q_ex h | exact Ky h | exact mT h | exact Qp h | exact Lh h | exact Gp h | exact Bj h | exact q_at h | exact Rr h | exact Rm h | exact hJ h | exact Hk h | exact Ws h | exact Np h | exact pN h | exact Vx h | exact Ty h | exact Tt h | exact Iz h | exact Ru h | exact Cr h | exact oI h | exact Ej h | exact Dh h | exact Ll h | exact Ic h | exact Yw h | exact Zc h | exact Aaj h | exact Acx h | exact Sm h | exact gC h | exact vF h | exact uY h | exact bQ h | exact Aau h | exact Tg h | exact Nf h | exact Vp h | exact Pi h | exact Qv h | exact Mf h | exact q_mn h | exact q_mx h | exact uC h | exact oV h | exact Adi h | exact q_ss h | exact Aav h | exact Gx h | exact vG h | exact Ho h | exact Yr h | exact dW h | exact Aal h | exact Afs h | exact Afv h)) : G := hs h
theorem qQb {G G' : Prop} (h : G') (hs : G' → G := by (intro h; first | exact q_s h | exact q_z h | exact q_b h | exact q_mv h | exact q_ex h | exact Ky h | exact mT h | exact Qp h | exact Lh h | exact Gp h | exact Bj h | exact q_at h | exact Rr h | exact Rm h | exact hJ h | exact Hk h | exact Ws h | exact Np h | exact pN h | exact Vx h | exact Ty h | exact Tt h | exact Iz h | exact Ru h | exact Cr h | exact oI h | exact Ej h | exact Dh h | exact Ll h | exact Ic h | exact Yw h | exact Zc h | exact Aaj h | exact Acx h | exact gC h | exact vF h | exact uY h | exact bQ h | exact Aau h | exact Tg h | exact Nf h | exact Vp h | exact Pi h | exact Qv h | exact Mf h | exact q_mn h | exact q_mx h | exact uC h | exact oV h | exact Adi h | exact q_ss h | exact Aav h | exact Gx h | exact vG h | exact Ho h | exact Yr h | exact dW h | exact Aal h | exact Afs h | exact Afv h)) : G := hs h
theorem qQba {G G' : Prop} (h : G') (hs : G' → G := by (intro h; first | exact q_s h | exact q_z h | exact q_b h | exact q_mv h | exact q_ex h | exact Ky h | exact mT h | exact Qp h | exact Lh h | exact Gp h | exact Bj h | exact Rr h | exact Rm h | exact hJ h | exact Hk h | exact Ws h | exact Np h | exact pN h | exact Vx h | exact Ty h | exact Tt h | exact Iz h | exact Ru h | exact Cr h | exact oI h | exact Ej h | exact Dh h | exact Ll h | exact Ic h | exact Yw h | exact Zc h | exact Aaj h | exact Acx h | exact gC h | exact vF h | exact uY h | exact bQ h | exact Aau h | exact Tg h | exact Nf h | exact Vp h | exact Pi h | exact Qv h | exact Mf h | exact q_mn h | exact q_mx h | exact uC h | exact oV h | exact Adi h | exact q_ss h | exact Aav h | exact Gx h | exact vG h | exact Ho h | exact Yr h | exact dW h)) : G := hs h
end Go.AI
