/- A region. -/
import Derived.Test.YtoanjhiojpgioaaA17
set_option linter.unusedSimpArgs false
set_option linter.unusedVariables false
namespace Go.AI

/-- An operation and what it is laid as. -/
structure OpRel (P : Program) (n : Nat) (ops : Array Oper) (o : Oper) (so : SOper) : Prop where
  op : ∃ h, stripOp P h o = some so.op
  guard : guardOf ops o.guard = some so.guard
  dst : so.dst = o.dst
  lt : o.dst.all (· < n) = true

theorem strip_rel {P : Program} {n : Nat} {hs : Nat → Hint} {ops : Array Oper} : ∀ {l : List Oper} {i : Nat} {sl : List SOper}, stripOps P n hs ops i l = some sl →
    sl.length = l.length ∧ ∀ (k : Nat) (o : Oper), l[k]? = some o → ∃ so, sl[k]? = some so ∧ OpRel P n ops o so
  | [], i, sl, h => by
    simp [stripOps] at h; subst h
    exact ⟨rfl, fun k o h => by simp at h⟩
  | o :: r, i, sl, h => by
    simp only [stripOps] at h
    split at h
    · rename_i op g l h1 h2 h3
      split at h
      · rename_i hd
        simp at h; subst h
        obtain ⟨k1, k2⟩ := strip_rel h3
        refine ⟨by simp [k1], fun k o' ho => ?_⟩
        cases k with
        | zero => simp at ho; subst ho; exact ⟨_, rfl, ⟨_, h1⟩, h2, rfl, hd⟩
        | succ k => exact k2 k o' ho
      · simp at h
    · simp at h

theorem withUn_get (bef : List (List Nat)) (all : List SOper) : ∀ (l : List SOper) (i k : Nat), (withUn bef all i l)[k]? = (l[k]?).map fun o => { o with un := unOf bef all (i + k) o.op }
  | [], i, k => by simp [withUn]
  | o :: r, i, 0 => by simp [withUn]
  | o :: r, i, k + 1 => by
    simp only [withUn, List.getElem?_cons_succ, withUn_get bef all r (i + 1) k]
    congr 1; funext o; rw [show i + 1 + k = i + (k + 1) by omega]

theorem withUn_len (bef : List (List Nat)) (all : List SOper) : ∀ (l : List SOper) (i : Nat), (withUn bef all i l).length = l.length
  | [], i => by simp [withUn]
  | o :: r, i => by simp [withUn, withUn_len bef all r]

theorem befs_spec : ∀ (l : List Oper) (acc : List (List Nat)), (∀ k, k < acc.length → (befs l acc).getD k [] = acc.getD k []) ∧
    ∀ (k : Nat) (o : Oper), l[k]? = some o → (befs l acc).getD (acc.length + k) [] = ((direct o).filter (· < acc.length + k)).flatMap fun k' => k' :: (befs l acc).getD k' []
  | [], acc => by
    exact ⟨fun k _ => rfl, fun k o h => by simp at h⟩
  | o :: r, acc => by
    simp only [befs]
    generalize hx : ((direct o).filter (· < acc.length)).flatMap (fun k => k :: acc.getD k []) = x
    obtain ⟨h1, h2⟩ := befs_spec r (acc ++ [x])
    have h1' : ∀ k, k < acc.length → (befs r (acc ++ [x])).getD k [] = acc.getD k [] := fun k hk => by
      rw [h1 k (by simp; omega)]
      simp [List.getD, List.getElem?_append_left hk]
    refine ⟨h1', fun k o' ho => ?_⟩
    cases k with
    | zero =>
      simp at ho; subst ho
      rw [h1 (acc.length + 0) (by simp)]
      have : (acc ++ [x]).getD (acc.length + 0) [] = x := by simp [List.getD]
      refine this.trans (hx.symm.trans ?_)
      simp only [Nat.add_zero, List.flatMap_def]
      congr 1
      refine List.map_congr_left fun k' hk' => ?_
      rw [h1' k' (by have := (List.mem_filter.1 hk').2; simpa using this)]
    | succ k =>
      simp at ho
      have := h2 k o' ho
      simp only [List.length_append, List.length_cons, List.length_nil, Nat.zero_add] at this
      rw [show acc.length + 1 + k = acc.length + (k + 1) by omega] at this
      exact this

theorem direct_lt : ∀ {l : List Oper} {i : Nat}, directOk l i = true → ∀ (k : Nat) (o : Oper), l[k]? = some o → ∀ j ∈ direct o, j < i + k
  | [], i, _, k, o, ho => by simp at ho
  | o :: r, i, h, k, o', ho => by
    simp only [directOk, Bool.and_eq_true, List.all_eq_true, decide_eq_true_eq] at h
    cases k with
    | zero => simp at ho; subst ho; exact h.1
    | succ k => intro j hj; have := direct_lt h.2 k o' ho j hj; omega

section
variable {P : Program} {C : Ctx} {n : Nat} {T T' : Tmps} {cf : CallF} {xf : ExtF} {base : Nat} {H' : Heap} {ops : Array Oper} {o : Oper} {so : SOper} {a : Act}

theorem wanted_ok (hg : guardOf ops o.guard = some so.guard) (hT : TR C n T a.tmps) {b : Bool} (h : awanted T so.guard = some b) : Region.wanted o (yielded ops a.tmps) = b := by
  unfold Region.wanted
  cases hgu : o.guard with
  | none =>
    rw [hgu] at hg
    simp [guardOf] at hg
    rw [← hg] at h
    simp [awanted] at h
    simp [h]
  | some g =>
    obtain ⟨j, want⟩ := g
    rw [hgu] at hg
    simp only [guardOf] at hg
    split at hg
    · rename_i d hd
      simp at hg
      rw [← hg] at h
      simp only [awanted] at h
      have hv := hT.rel d
      simp only [yielded, hd]
      split at h
      · rename_i c hc
        rw [hc] at hv
        simp only [VR] at hv
        have : a.tmps[d]? = some (.bool c) := by
          cases hx : a.tmps[d]? with
          | none => simp [Array.getD_eq_getD_getElem?, hx, Go.undef] at hv
          | some u => simp [Array.getD_eq_getD_getElem?, hx] at hv; rw [hv]
        simp at h; subst h
        simp [this]
      · rename_i hc
        rw [hc] at hv
        simp only [VR] at hv
        simp at h; subst h
        cases hx : a.tmps[d]? with
        | none => simp [hx]
        | some u =>
          simp [Array.getD_eq_getD_getElem?, hx, Go.undef] at hv
          subst hv; simp [hx]
      · simp at h
    · simp at hg

theorem one_op (hcf : FunOk P cf) (hxf : ExtOk P xf) {i : Nat} (hi : ops[i]? = some o) (ho : OpRel P n ops o so) (hR : Rel C) (hT : TR C n T a.tmps) {v : AV} {fp : FP}
    (h : (awanted T so.guard = some false ∧ v = .undef ∧ H' = C.H) ∨ (awanted T so.guard = some true ∧ aop cf xf base T C.H so.op = some (v, H', fp)))
    {K : Act → World → Prop} {Q : Exit → Act → World → Prop}
    (hK : ∀ C' a', Evo C C' → C'.H = H' → Rel C' → TR C' n (T.put so.dst v) a'.tmps → a'.defers = a.defers → K a' C'.w) : wpOp P ops Q i K a C.w := by
  unfold wpOp
  simp only [hi]
  have hdef : ∀ v', (a.put o.dst v').defers = a.defers := fun v' => by cases o.dst <;> rfl
  have hlt : so.dst.all (· < n) = true := by rw [ho.dst]; exact ho.lt
  rcases h with ⟨h1, rfl, rfl⟩ | ⟨h1, h2⟩
  · rw [wanted_ok ho.guard hT h1]
    simp only [Bool.false_eq_true, if_false]
    refine hK C _ (Evo.refl C) rfl hR ?_ (hdef _)
    rw [← ho.dst]
    exact hT.put so.dst hlt (by simp [VR])
  · rw [wanted_ok ho.guard hT h1]
    simp only [if_true]
    obtain ⟨hh, hs⟩ := ho.op
    refine .inl (oper_upon hcf hxf hs hR hT h2 fun v' μ' w' k1 k2 k3 => ?_)
    refine hK _ _ k1 rfl k2 ?_ (hdef _)
    rw [← ho.dst]
    exact (hT.mono k1).put so.dst hlt k3

/-- In the order of the text. -/
theorem list_ok (hcf : FunOk P cf) (hxf : ExtOk P xf) {Q : Exit → Act → World → Prop} : ∀ {l : List SOper} {log : List FP} {i : Nat} {C : Ctx} {T : Tmps} {a : Act},
    aops cf xf base l log T C.H = some (T', H') → (∀ (k : Nat) (so : SOper), l[k]? = some so → ∃ o, ops[i + k]? = some o ∧ OpRel P n ops o so) → Rel C → TR C n T a.tmps →
    (∀ C' a', Evo C C' → C'.H = H' → Rel C' → TR C' n T' a'.tmps → a'.defers = a.defers → Q .normal a' C'.w) → wpOps P ops Q (List.range' i l.length) a C.w
  | [], log, i, C, T, a, h, hl, hR, hT, hQ => by
    simp [aops] at h
    obtain ⟨rfl, rfl⟩ := h
    simp [wpOps]
    exact hQ C a (Evo.refl C) rfl hR hT rfl
  | so :: l, log, i, C, T, a, h, hl, hR, hT, hQ => by
    obtain ⟨o, ho, hrel⟩ := hl 0 so rfl
    simp only [List.length_cons, List.range'_succ, wpOps_cons]
    have hl' : ∀ (k : Nat) (so' : SOper), l[k]? = some so' → ∃ o, ops[i + 1 + k]? = some o ∧ OpRel P n ops o so' := fun k so' hk => by
      have := hl (k + 1) so' (by simpa using hk)
      rw [show i + (k + 1) = i + 1 + k by omega] at this
      exact this
    simp only [aops] at h
    split at h
    · simp at h
    · rename_i hw
      refine one_op (base := base) (fp := .z) hcf hxf (by simpa using ho) hrel hR hT (.inl ⟨hw, rfl, rfl⟩) fun C' a' k1 k2 k3 k4 k5 => ?_
      exact list_ok hcf hxf (by rw [k2]; exact h) hl' k3 k4 fun C2 a2 m1 m2 m3 m4 m5 => hQ C2 a2 (k1.trans m1) m2 m3 m4 (m5.trans k5)
    · rename_i hw
      split at h
      · simp at h
      · rename_i v H1 fp hop
        split at h
        · refine one_op hcf hxf (by simpa using ho) hrel hR hT (.inr ⟨hw, hop⟩) fun C' a' k1 k2 k3 k4 k5 => ?_
          exact list_ok hcf hxf (by rw [k2]; exact h) hl' k3 k4 fun C2 a2 m1 m2 m3 m4 m5 => hQ C2 a2 (k1.trans m1) m2 m3 m4 (m5.trans k5)
        · simp at h

theorem countP_lt {p q : Nat → Bool} {i : Nat} : ∀ {l : List Nat}, (∀ x ∈ l, q x = true → p x = true) → i ∈ l → p i = true → q i = false → l.countP q < l.countP p
  | [], _, hi, _, _ => by simp at hi
  | y :: l, h, hi, h1, h2 => by
    have hle : l.countP q ≤ l.countP p := List.countP_mono_left fun x hx => h x (by simp [hx])
    rcases List.mem_cons.1 hi with rfl | hi
    · simp [List.countP_cons, h1, h2]; omega
    · have := countP_lt (fun x hx => h x (by simp [hx])) hi h1 h2
      simp only [List.countP_cons]
      cases hq : q y with
      | false => simp; omega
      | true => simp [h y (by simp) hq]; omega

theorem mem_direct {o : Oper} {k : Nat} : k ∈ direct o ↔ ∃ e ∈ o.after, Region.binds .any e = true ∧ e.on = k := by
  unfold direct
  simp only [List.mem_filterMap, Array.mem_toList_iff, Option.ite_none_right_eq_some, Option.some.injEq]

/-- In whatever order. -/
theorem any_ok (hcf : FunOk P cf) (hxf : ExtOk P xf) {Q : Exit → Act → World → Prop} {l : List SOper} {bef : Nat → List Nat} {H : Heap} {Ts : Nat → Tmps} {Hs : Nat → Heap} {vs : Nat → AV} {fps : Nat → FP}
    (ht : Trace cf xf base l T H T' H' Ts Hs vs fps []) (hc : Checked l bef) (hlen : l.length = ops.size)
    (hl : ∀ (k : Nat) (o : Oper), ops[k]? = some o → ∃ so, l[k]? = some so ∧ OpRel P n ops o so)
    (hbef : ∀ (k : Nat) (o : Oper), ops[k]? = some o → ∀ j ∈ bef k, ∃ j' ∈ direct o, j = j' ∨ j ∈ bef j')
    (hdir : ∀ (k : Nat) (o : Oper), ops[k]? = some o → ∀ j ∈ direct o, j < k)
    (C0 : Ctx) (a0 : Act)
    (hQ : ∀ C' a', Evo C0 C' → C'.H = H' → Rel C' → TR C' n T' a'.tmps → a'.defers = a0.defers → Q .normal a' C'.w) :
    ∀ (fuel : Nat) (listed : Array Bool) (C : Ctx) (a : Act), (List.range ops.size).countP (fun k => !listed.getD k false) ≤ fuel → listed.size = ops.size →
      (∀ m, listed.getD m false = true → m < l.length → ∀ k ∈ bef m, listed.getD k false = true) → Evo C0 C → Rel C → a.defers = a0.defers →
      C.H = HD l Hs fps H (fun k => listed.getD k false) → TR C n (TD l vs T (fun k => listed.getD k false)) a.tmps → wpAny P .any ops Q fuel listed a C.w := by
  intro fuel
  -- when nothing is left
  have hend : ∀ (listed : Array Bool) (C : Ctx) (a : Act), Region.ready .any ops listed = [] → listed.size = ops.size → Evo C0 C → Rel C → a.defers = a0.defers →
      C.H = HD l Hs fps H (fun k => listed.getD k false) → TR C n (TD l vs T (fun k => listed.getD k false)) a.tmps → Q .normal a C.w := by
    intro listed C a hr hsz hE hR hd hH hT
    have hall : ∀ k, k < ops.size → listed.getD k false = true := by
      intro k
      induction k using Nat.strongRecOn with
      | ind k ih =>
        intro hk
        cases hg : listed.getD k false with
        | true => rfl
        | false =>
          exfalso
          have ho : ops[k]? = some ops[k] := Array.getElem?_eq_getElem hk
          have : k ∈ Region.ready .any ops listed := by
            rw [mem_ready]
            refine ⟨?_, ops[k], ho, fun e he hb => ?_⟩
            · have : k < listed.size := by omega
              simpa [Array.getD, this] using hg
            · have hlt := hdir k _ ho e.on (mem_direct.2 ⟨e, he, hb, rfl⟩)
              exact ih _ hlt (by omega)
          rw [hr] at this; simp at this
    have e1 : TD l vs T (fun k => listed.getD k false) = T' := by
      funext t
      rw [← ht.tn, Ts_eq ht t _ (Nat.le_refl _)]
      unfold TD
      exact lastW_congr fun k hk => by have h := hall k (by omega); show (listed.getD k false && _) = _; rw [h, Bool.true_and]
    have e2 : HD l Hs fps H (fun k => listed.getD k false) = H' := by
      funext j
      rw [← ht.hn, Hs_eq ht hc j _ (Nat.le_refl _)]
      unfold HD
      exact lastW_congr fun k hk => by have h := hall k (by omega); show (listed.getD k false && _) = _; rw [h, Bool.true_and]
    rw [e1] at hT; rw [e2] at hH
    exact hQ C a hE hH hR hT hd
  induction fuel with
  | zero =>
    intro listed C a hcnt hsz hcl hE hR hd hH hT
    have hr : Region.ready .any ops listed = [] := by
      refine List.eq_nil_iff_forall_not_mem.2 fun k hk => ?_
      obtain ⟨k1, o, ho, _⟩ := mem_ready.1 hk
      have hk : k < ops.size := (Array.getElem?_eq_some_iff.1 ho).1
      have : 0 < (List.range ops.size).countP (fun k => !listed.getD k false) := List.countP_pos_iff.2 ⟨k, by simpa using hk, by
        have : k < listed.size := by omega
        simpa [Array.getD, this] using k1⟩
      omega
    exact ⟨hr, hend listed C a hr hsz hE hR hd hH hT⟩
  | succ fuel ih =>
    intro listed C a hcnt hsz hcl hE hR hd hH hT
    refine ⟨fun hr => hend listed C a hr hsz hE hR hd hH hT, fun i hi => ?_⟩
    obtain ⟨k1, o, ho, hall⟩ := mem_ready.1 hi
    have hio : i < ops.size := (Array.getElem?_eq_some_iff.1 ho).1
    have hif : listed.getD i false = false := by
      have : i < listed.size := by omega
      simpa [Array.getD, this] using k1
    obtain ⟨so, hso, hrel⟩ := hl i o ho
    have hup : ∀ k ∈ bef i, listed.getD k false = true := by
      intro k hk
      obtain ⟨j, hj, hjj⟩ := hbef i o ho k hk
      obtain ⟨e, he, hb, heq⟩ := mem_direct.1 hj
      have hjl : listed.getD j false = true := by rw [← heq]; exact hall e he hb
      rcases hjj with rfl | hjj
      · exact hjl
      · have := hdir i o ho j hj
        exact hcl j hjl (by omega) k hjj
    have hD' : ∀ k, (listed.setIfInBounds i true).getD k false = (listed.getD k false || k == i) := by
      intro k
      by_cases hki : k = i
      · subst hki
        have : k < listed.size := by omega
        simp [Array.getD, this]
      · rw [getD_set_ne false (Ne.symm hki)]
        have : (k == i) = false := by simpa using hki
        rw [this, Bool.or_false]
    obtain ⟨s1, s2⟩ := perm_step ht hc (D := fun k => listed.getD k false) hso hif hup hcl (D' := fun k => (listed.setIfInBounds i true).getD k false) hD'
    rw [← hH] at s2
    refine one_op (H' := HD l Hs fps H (fun k => (listed.setIfInBounds i true).getD k false)) (base := base) (v := vs i) (fp := fps i) hcf hxf ho hrel hR hT ?_ fun C' a' m1 m2 m3 m4 m5 => ?_
    · rcases s2 with ⟨q1, q2, q3⟩ | ⟨q1, q2⟩
      · exact .inl ⟨q1, q2, q3⟩
      · exact .inr ⟨q1, q2⟩
    · refine ih (listed.setIfInBounds i true) C' a' ?_ (by simpa using hsz) ?_ (hE.trans m1) m3 (m5.trans hd) m2 (by rw [s1]; exact m4)
      · have := countP_lt (p := fun k => !listed.getD k false) (q := fun k => !(listed.setIfInBounds i true).getD k false) (i := i) (l := List.range ops.size)
          (fun x _ hx => by rw [hD' x] at hx; simp at hx ⊢; exact hx.1) (by simpa using hio) (by simpa using hif) (by rw [hD' i]; simp)
        omega
      · intro m hm hml k hk
        rw [hD' m] at hm
        rw [hD' k]
        by_cases hmi : m = i
        · subst hmi; rw [hup k hk]; rfl
        · have : (m == i) = false := by simpa using hmi
          rw [this, Bool.or_false] at hm
          rw [hcl m hm hml k hk]; rfl

end

end Go.AI
