/- Code. -/
import Derived.Test.YtoanjhiojpgioaaA18
import Derived.LoopN
set_option linter.unusedSimpArgs false
set_option linter.unusedVariables false
namespace Go.AI

def Ex.to : Ex → Exit
  | .normal => .normal
  | .exit id => .exit id
  | .ret => .ret

section
variable {P : Program} {cf : CallF} {xf : ExtF} {base fuel n : Nat}

theorem laidL_laid {l : List SOper} (h : laidL l = true) {i : Nat} {o : SOper} (ho : l[i]? = some o) : AI.laid o.op = true := by
  unfold laidL at h
  rw [List.all_eq_true] at h
  have := h o (List.mem_of_getElem? ho)
  unfold AI.laid
  revert this
  cases o.op <;> simp

theorem region_ok (hm : P.follows .mixedOrders = true) (hcf : FunOk P cf) (hxf : ExtOk P xf) {hs : Nat → Hint} {id : Nat} {ops : Array Oper} {draw : Bool} {l : List SOper} (hst : stripRegion P n hs ops draw = some l)
    {C : Ctx} {T T' : Tmps} {H' : Heap} {a : Act} {Q : Exit → Act → World → Prop} (h : aops cf xf base l [] T C.H = some (T', H')) (hR : Rel C) (hT : TR C n T a.tmps)
    (hQ : ∀ C' a', Evo C C' → C'.H = H' → Rel C' → TR C' n T' a'.tmps → a'.defers = a.defers → Q .normal a' C'.w) : (Code.region id ops draw).wp P Q a C.w := by
  unfold stripRegion at hst
  cases e1 : stripOps P n hs ops 0 ops.toList with
  | none => simp [e1] at hst
  | some l0 =>
    obtain ⟨hlen, hrel⟩ := strip_rel e1
    simp only [e1] at hst
    cases draw with
    | false =>
      simp at hst; subst hst
      refine wp_region ?_
      have hsz : ops.size = l0.length := by rw [hlen]; simp
      rw [hsz, List.range_eq_range']
      refine list_ok hcf hxf h (fun k so hk => ?_) hR hT hQ
      have hk' : k < ops.toList.length := by rw [← hlen]; exact (List.getElem?_eq_some_iff.1 hk).1
      obtain ⟨so', m1, m2⟩ := hrel k ops.toList[k] (List.getElem?_eq_getElem hk')
      rw [hk] at m1; cases m1
      refine ⟨_, ?_, m2⟩
      simp at hk'
      simp [hk']
    | true =>
      simp only [if_true] at hst
      split at hst
      · rename_i hok
        simp only [Bool.and_eq_true] at hok
        obtain ⟨⟨hp, hld⟩, hdo⟩ := hok
        simp at hst; subst hst
        refine wp_region_any hm ?_
        obtain ⟨Ts, Hs, vs, fps, ht⟩ := aops_trace h
        have hwl : (withUn (befs ops.toList []) l0 0 l0).length = ops.size := by rw [withUn_len, hlen]; simp
        have hget := fun k => withUn_get (befs ops.toList []) l0 l0 0 k
        have hops : ∀ (k : Nat) (o : Oper), ops[k]? = some o → ops.toList[k]? = some o := fun k o h => by simpa using h
        obtain ⟨hE, hR'⟩ := same_heap hR { C.w with drawn := C.w.drawn + 1 } rfl rfl rfl rfl
        have hch : Checked (withUn (befs ops.toList []) l0 0 l0) (fun i => (befs ops.toList []).getD i []) := by
          refine ⟨fun i o ho => laidL_laid hld ho, fun k i x y hki hx hy => ?_⟩
          have hil : i < (withUn (befs ops.toList []) l0 0 l0).length := (List.getElem?_eq_some_iff.1 hy).1
          have hp' := hp
          unfold pairsOk at hp'
          rw [List.all_eq_true] at hp'
          have h1 := hp' i (by simpa using hil)
          rw [List.all_eq_true] at h1
          have h2 := h1 k (by simpa using hki)
          rw [hx, hy] at h2
          simp only [Bool.or_eq_true, List.contains_iff_mem] at h2
          by_cases hb : k ∈ (befs ops.toList []).getD i []
          · exact .inl hb
          · refine .inr ⟨h2.resolve_left hb, fun hw => ?_⟩
            rw [hget i] at hy
            rw [hget k] at hx
            simp only [Option.map_eq_some_iff] at hx hy
            obtain ⟨x0, hx0, rfl⟩ := hx
            obtain ⟨y0, hy0, rfl⟩ := hy
            simp only [unOf, Nat.zero_add, List.mem_filter, List.mem_range, hx0, Bool.and_eq_true, Bool.not_eq_true']
            exact ⟨hki, by simpa using hb, hw⟩
        refine any_ok (n := n) (T := T) (T' := T') (H := C.H) (H' := H') (C0 := C) (a0 := a) (bef := fun i => (befs ops.toList []).getD i []) hcf hxf ht hch hwl ?_ ?_ ?_ hQ ops.size _ { C with w := { C.w with drawn := C.w.drawn + 1 } } a ?_ (by simp) ?_ hE hR' rfl ?_ ?_
        · intro k o ho
          obtain ⟨so, m1, m2⟩ := hrel k o (hops k o ho)
          refine ⟨{ so with un := unOf (befs ops.toList []) l0 (0 + k) so.op }, ?_, ⟨m2.op, m2.guard, m2.dst, m2.lt⟩⟩
          rw [hget k, m1]; rfl
        · intro k o ho j hj
          have := (befs_spec ops.toList []).2 k o (hops k o ho)
          simp only [List.length_nil, Nat.zero_add] at this
          simp only [this, List.mem_flatMap, List.mem_filter, List.mem_cons] at hj
          obtain ⟨k', ⟨m1, _⟩, m2⟩ := hj
          exact ⟨k', m1, m2⟩
        · intro k o ho j hj
          have := direct_lt hdo k o (hops k o ho) j hj
          omega
        · have := List.countP_le_length (p := fun k => !(Array.replicate ops.size false).getD k false) (l := List.range ops.size)
          simpa using this
        · intro m hm
          exfalso
          simp [Array.getD_eq_getD_getElem?, Array.getElem?_replicate] at hm
          split at hm <;> simp at hm
        · have : (fun k => (Array.replicate ops.size false).getD k false) = fun _ => false := by
            funext k
            simp [Array.getD_eq_getD_getElem?, Array.getElem?_replicate]
            split <;> rfl
          rw [this]
          funext j
          unfold HD
          rw [lastW_none (i := 0) (Nat.zero_le _) fun k _ _ => by simp]
          rfl
        · have : (fun k => (Array.replicate ops.size false).getD k false) = fun _ => false := by
            funext k
            simp [Array.getD_eq_getD_getElem?, Array.getElem?_replicate]
            split <;> rfl
          rw [this]
          have h3 : TD (withUn (befs ops.toList []) l0 0 l0) vs T (fun _ => false) = T := by
            funext t
            unfold TD
            rw [lastW_none (i := 0) (Nat.zero_le _) fun k _ _ => by simp]
            rfl
          rw [h3]
          exact hT.mono hE
      · simp at hst

theorem code_ok (hm : P.follows .mixedOrders = true) (hcf : FunOk P cf) (hxf : ExtOk P xf) {hs : Hints} : ∀ (c : Code) {sc : SCode}, stripCode P n hs c = some sc →
    ∀ {C : Ctx} {T T' : Tmps} {H' : Heap} {ex : Ex} {a : Act} {Q : Exit → Act → World → Prop}, aexec cf xf base fuel sc T C.H = some (ex, T', H') → Rel C → TR C n T a.tmps →
      (∀ C' a', Evo C C' → C'.H = H' → Rel C' → TR C' n T' a'.tmps → a'.defers = a.defers → Q ex.to a' C'.w) → c.wp P Q a C.w
  | .skip, sc, hst, C, T, T', H', ex, a, Q, h, hR, hT, hQ => by
    simp [stripCode] at hst; subst hst
    simp [aexec] at h
    obtain ⟨rfl, rfl, rfl⟩ := h
    exact wp_skip (hQ C a (Evo.refl C) rfl hR hT rfl)
  | .label _, sc, hst, C, T, T', H', ex, a, Q, h, hR, hT, hQ => by
    simp [stripCode] at hst; subst hst
    simp [aexec] at h
    obtain ⟨rfl, rfl, rfl⟩ := h
    exact wp_label (hQ C a (Evo.refl C) rfl hR hT rfl)
  | .exit id, sc, hst, C, T, T', H', ex, a, Q, h, hR, hT, hQ => by
    simp [stripCode] at hst; subst hst
    simp [aexec] at h
    obtain ⟨rfl, rfl, rfl⟩ := h
    exact wp_exit (hQ C a (Evo.refl C) rfl hR hT rfl)
  | .ret, sc, hst, C, T, T', H', ex, a, Q, h, hR, hT, hQ => by
    simp [stripCode] at hst; subst hst
    simp [aexec] at h
    obtain ⟨rfl, rfl, rfl⟩ := h
    exact wp_ret (hQ C a (Evo.refl C) rfl hR hT rfl)
  | .region id ops draw, sc, hst, C, T, T', H', ex, a, Q, h, hR, hT, hQ => by
    simp only [stripCode, Option.map_eq_some_iff] at hst
    obtain ⟨l, hl, rfl⟩ := hst
    simp only [aexec] at h
    split at h
    · rename_i T1 H1 h1
      simp at h
      obtain ⟨rfl, rfl, rfl⟩ := h
      exact region_ok hm hcf hxf hl h1 hR hT hQ
    · simp at h
  | .seq x y, sc, hst, C, T, T', H', ex, a, Q, h, hR, hT, hQ => by
    simp only [stripCode] at hst
    split at hst
    · rename_i sa sb h1 h2
      simp at hst; subst hst
      simp only [aexec] at h
      refine wp_seq ?_
      split at h
      · rename_i T1 H1 h3
        refine code_ok hm hcf hxf x h1 h3 hR hT fun C' a' m1 m2 m3 m4 m5 => ?_
        exact code_ok hm hcf hxf y h2 (by rw [m2]; exact h) m3 m4 fun C2 a2 q1 q2 q3 q4 q5 => hQ C2 a2 (m1.trans q1) q2 q3 q4 (q5.trans m5)
      · rename_i hne
        refine code_ok hm hcf hxf x h1 h hR hT fun C' a' m1 m2 m3 m4 m5 => ?_
        have := hQ C' a' m1 m2 m3 m4 m5
        cases ex with
        | normal => exact absurd h (hne _ _)
        | exit id => exact this
        | ret => exact this
    · simp at hst
  | .cond c x y, sc, hst, C, T, T', H', ex, a, Q, h, hR, hT, hQ => by
    simp only [stripCode] at hst
    split at hst
    · rename_i sx sa sb h0 h1 h2
      simp at hst; subst hst
      simp only [aexec] at h
      have hv := VR_arg hT h0
      split at h
      · rename_i hb
        rw [hb] at hv
        exact wp_cond_true (by simpa [VR] using hv) (code_ok hm hcf hxf x h1 h hR hT hQ)
      · rename_i hb
        rw [hb] at hv
        exact wp_cond_false (by simpa [VR] using hv) (code_ok hm hcf hxf y h2 h hR hT hQ)
      · simp at h
    · simp at hst
  | .block id b, sc, hst, C, T, T', H', ex, a, Q, h, hR, hT, hQ => by
    simp only [stripCode, Option.map_eq_some_iff] at hst
    obtain ⟨sb, hb, rfl⟩ := hst
    simp only [aexec] at h
    refine wp_block ?_
    split at h
    · rename_i i T1 H1 h1
      refine code_ok hm hcf hxf b hb h1 hR hT fun C' a' m1 m2 m3 m4 m5 => ?_
      show (if i = id then _ else _)
      split at h
      · rename_i hi
        simp at h
        obtain ⟨rfl, rfl, rfl⟩ := h
        rw [if_pos hi]
        exact hQ C' a' m1 m2 m3 m4 m5
      · rename_i hi
        simp at h
        obtain ⟨rfl, rfl, rfl⟩ := h
        rw [if_neg hi]
        exact hQ C' a' m1 m2 m3 m4 m5
    · rename_i hne
      refine code_ok hm hcf hxf b hb h hR hT fun C' a' m1 m2 m3 m4 m5 => ?_
      have := hQ C' a' m1 m2 m3 m4 m5
      cases ex with
      | normal => exact this
      | exit id => exact absurd h (hne _ _ _)
      | ret => exact this
  | .loop b, sc, hst, C, T, T', H', ex, a, Q, h, hR, hT, hQ => by
    simp only [stripCode, Option.map_eq_some_iff] at hst
    obtain ⟨sb, hb, rfl⟩ := hst
    simp only [aexec] at h
    refine wp_loop_rounds fuel ?_
    have key : ∀ (m : Nat) {C : Ctx} {T : Tmps} {a : Act}, aiter (aexec cf xf base fuel sb) m T C.H = some (ex, T', H') → Rel C → TR C n T a.tmps →
        (∀ C' a', Evo C C' → C'.H = H' → Rel C' → TR C' n T' a'.tmps → a'.defers = a.defers → Q ex.to a' C'.w) → Code.rounds P b Q m a C.w := by
      intro m
      induction m with
      | zero => intro C T a h; simp [aiter] at h
      | succ m ih =>
        intro C T a h hR hT hQ
        rw [rounds_succ]
        simp only [aiter] at h
        split at h
        · rename_i T1 H1 h3
          refine code_ok hm hcf hxf b hb h3 hR hT fun C' a' m1 m2 m3 m4 m5 => ?_
          exact ih (by rw [m2]; exact h) m3 m4 fun C2 a2 q1 q2 q3 q4 q5 => hQ C2 a2 (m1.trans q1) q2 q3 q4 (q5.trans m5)
        · rename_i hne
          refine code_ok hm hcf hxf b hb h hR hT fun C' a' m1 m2 m3 m4 m5 => ?_
          have := hQ C' a' m1 m2 m3 m4 m5
          cases ex with
          | normal => exact absurd h (hne _ _)
          | exit id => exact this
          | ret => exact this
    exact key fuel h hR hT hQ

end
end Go.AI
