/- Every operation that calls nothing. -/
import Derived.Test.YtoanjhiojpgioaaA10
set_option linter.unusedSimpArgs false
set_option linter.unusedVariables false
namespace Go.AI
section ops
variable {P : Program} {o : Oper} {a : Act} {C : Ctx} {n : Nat} {T : Tmps} {cf : CallF} {xf : ExtF} {base : Nat} {v : AV} {H' : Heap} {fp : FP}

def isCall : SOp → Bool
  | .call .. | .callv .. => true
  | _ => false

theorem builtin_ok {h : Hint} {b : Builtin} {c : Call} {sop : SOp} (ho : o.op = .call c) (hc : c.callee = .builtin b) (hs : stripBuiltin P h b c.argTypes.toList c.args.toList = some sop) (hR : Rel C) (hT : TR C n T a.tmps)
    (hop : aop cf xf base T C.H sop = some (v, H', fp)) : StepOk P o a C v H' := by
  have arr1 : ∀ {α : Type} {xs : Array α} {x : α}, xs.toList = [x] → xs = #[x] := fun h => Array.ext' (by simpa using h)
  have arr2 : ∀ {α : Type} {xs : Array α} {x y : α}, xs.toList = [x, y] → xs = #[x, y] := fun h => Array.ext' (by simpa using h)
  unfold stripBuiltin at hs
  split at hs
  · rename_i t x h1 h2
    split at hs
    · rename_i e hu
      simp only [Option.map_eq_some_iff] at hs
      obtain ⟨sx, hx, rfl⟩ := hs
      exact ok_len ho hc (arr1 h1) (arr1 h2) hR hT hx hu hop
    · rename_i hu
      simp only [Option.map_eq_some_iff] at hs
      obtain ⟨sx, hx, rfl⟩ := hs
      exact ok_lenS ho hc (arr1 h1) (arr1 h2) hR hT hx hu hop
    · rename_i m e hu
      simp at hs; subst hs
      exact ok_lenA ho hc (arr1 h1) (arr1 h2) hR hu hop
    · simp at hs
  · rename_i t x h1 h2
    split at hs
    · rename_i e hu
      simp only [Option.map_eq_some_iff] at hs
      obtain ⟨sx, hx, rfl⟩ := hs
      exact ok_cap ho hc (arr1 h1) (arr1 h2) hR hT hx hu hop
    · simp at hs
  · rename_i t u x y h1 h2
    split at hs
    · rename_i e he
      split at hs
      · rename_i s z hi
        split at hs
        · rename_i sx sy hx hy
          split at hs
          · rename_i k hu
            simp at hs; subst hs
            exact ok_appZ ho hc (arr2 h1) (arr2 h2) he hi (by simp [isInt, hu]) hR hT hx hy hop
          · rename_i e' hu
            simp at hs; subst hs
            exact ok_app ho hc (arr2 h1) (arr2 h2) he hi (.inl ⟨e', hu⟩) hR hT hx hy hop
          · rename_i hu
            simp at hs; subst hs
            exact ok_app ho hc (arr2 h1) (arr2 h2) he hi (.inr hu) hR hT hx hy hop
          · simp at hs
        · simp at hs
      · simp at hs
    · simp at hs
  · rename_i t1 t2 x y h1 h2
    split at hs
    · rename_i sx sy hx hy
      simp at hs; subst hs
      exact ok_mnmx (mx := false) ho hc (arr2 h2) hR hT hx hy hop
    · simp at hs
  · rename_i t1 t2 x y h1 h2
    split at hs
    · rename_i sx sy hx hy
      simp at hs; subst hs
      exact ok_mnmx (mx := true) ho hc (arr2 h2) hR hT hx hy hop
    · simp at hs
  · simp at hs

theorem op_ok {h : Hint} {sop : SOp} (hs : stripOp P h o = some sop) (hnc : isCall sop = false) (hR : Rel C) (hT : TR C n T a.tmps)
    (hop : aop cf xf base T C.H sop = some (v, H', fp)) : StepOk P o a C v H' := by
  unfold stripOp at hs
  split at hs
  case h_1 x ho =>
    simp only [Option.map_eq_some_iff] at hs
    obtain ⟨sx, hx, rfl⟩ := hs
    exact ok_mv (.inl ho) hR hT hx hop
  case h_2 x ho =>
    split at hs
    · rename_i hn
      simp only [Bool.and_eq_true] at hn
      split at hs
      · split at hs
        · simp at hs; subst hs
          exact ok_nilrow ho hn.2 hR hop
        · simp at hs
      · simp at hs
    · simp only [Option.map_eq_some_iff] at hs
      obtain ⟨sx, hx, rfl⟩ := hs
      exact ok_mv (.inr ho) hR hT hx hop
  case h_3 c x y ho =>
    split at hs
    · rename_i h1 h2 h3
      simp at hs; subst hs
      exact ok_pick ho hR hT h1 h2 h3 hop
    · simp at hs
  case h_4 e ho =>
    simp only [Option.map_eq_some_iff] at hs
    obtain ⟨z, hz, rfl⟩ := hs
    exact ok_box_alloc ho hz hR hop
  case h_5 e x ho =>
    simp only [Option.map_eq_some_iff] at hs
    obtain ⟨sx, hx, rfl⟩ := hs
    exact ok_box_box ho hR hT hx hop
  case h_6 t parts ho =>
    split at hs
    · rename_i z hz
      split at hs
      · rename_i places hp
        simp only [Option.map_eq_some_iff] at hs
        obtain ⟨sp, hsp, rfl⟩ := hs
        exact ok_build ho hz hp hsp hR hT hop
      · split at hs
        · rename_i m e hu
          split at hs
          · rename_i hc
            simp at hs; subst hs
            exact ok_buildA ho hz hu hc.1 hc.2 hR hop
          · simp at hs
        · simp at hs
    · simp at hs
  case h_7 t m parts ho =>
    split at hs
    · rename_i e he
      split at hs
      · rename_i s z hi
        split at hs
        · rename_i hc
          simp only [Option.map_eq_some_iff] at hs
          obtain ⟨sp, hsp, rfl⟩ := hs
          exact ok_buildS ho he hi hc.1 hc.2 hsp hR hT hop
        · split at hs
          · rename_i hc
            simp at hs; subst hs
            obtain ⟨rfl, hp⟩ := hc
            exact ok_empty ho he hi hp hR hop
          · simp at hs
      · simp at hs
    · simp at hs
  case h_8 t x ho =>
    split at hs
    · rename_i k sx hk hx
      split at hs
      · rename_i h1
        simp at hs; subst hs
        exact ok_load ho hR hT hx hk h1 hop
      · simp at hs
    · simp at hs
  case h_9 t x y ho =>
    split at hs
    · rename_i k sx sy hk hx hy
      simp at hs; subst hs
      exact ok_store ho hR hT hx hy hk hop
    · simp at hs
  case h_10 x ho =>
    simp only [Option.map_eq_some_iff] at hs
    obtain ⟨sx, hx, rfl⟩ := hs
    exact ok_nilc ho hR hT hx hop
  case h_11 op t x y yt ho =>
    split at hs
    · rename_i neg hm
      have hop2 : op = if neg then BinOp.neq else .eql := by
        cases op <;> simp [isEq] at hm <;> subst hm <;> rfl
      split at hs
      · split at hs
        · rename_i sx sy hx hy
          simp at hs; subst hs
          exact ok_bin ho hR hT hx hy hop
        · simp at hs
      · split at hs
        · rename_i sx sy hx hy
          simp at hs; subst hs
          exact ok_bin ho hR hT hx hy hop
        · simp at hs
      · rename_i hu
        split at hs
        · rename_i sx sy hx hy
          simp at hs; subst hs
          exact ok_eqb ho hop2 hu hR hT hx hy hop
        · simp at hs
      · rename_i e hu
        split at hs
        · rename_i hn
          simp only [Option.map_eq_some_iff] at hs
          obtain ⟨sx, hx, rfl⟩ := hs
          exact ok_eqnil ho hop2 hn hu hR hT hx hop
        · simp at hs
      · simp at hs
    · split at hs
      · rename_i sx sy hx hy
        simp at hs; subst hs
        exact ok_bin ho hR hT hx hy hop
      · simp at hs
  case h_12 op t x ho =>
    simp only [Option.map_eq_some_iff] at hs
    obtain ⟨sx, hx, rfl⟩ := hs
    exact ok_un ho hR hT hx hop
  case h_13 s d x ho =>
    split at hs
    · rename_i k0 k sx h1 h2 hx
      simp at hs; subst hs
      exact ok_cvi ho h1 h2 hR hT hx hop
    · rename_i e sx h1 h2 hx
      split at hs
      · rename_i hc
        simp at hs; subst hs
        exact ok_s2b ho h1 h2 hc.1 hR hT hx hop
      · simp at hs
    · rename_i e sx h1 h2 hx
      split at hs
      · rename_i hc
        simp at hs; subst hs
        exact ok_b2s ho h1 h2 hc hR hT hx hop
      · simp at hs
    · rename_i e0 e sx h1 h2 hx
      split at hs
      · rename_i hc
        simp at hs; subst hs
        exact ok_ss ho h1 h2 hc.1 hc.2 hR hT hx hop
      · simp at hs
    · simp at hs
  case h_14 f first caps ho =>
    split at hs
    · rename_i hf
      simp only [Option.map_eq_some_iff] at hs
      obtain ⟨sc, hc, rfl⟩ := hs
      exact ok_mkfn ho hf hR hT hc hop
    · simp at hs
  case h_15 t l c ho =>
    split at hs
    · rename_i e he
      split at hs
      · rename_i s z hi
        split at hs
        · rename_i sl sc hl hc
          simp at hs; subst hs
          exact ok_mks ho he hi hR hT hl hc hop
        · simp at hs
      · simp at hs
    · simp at hs
  case h_16 t x lo hi mx ho =>
    split at hs
    · rename_i sx slo shi smx hx h1 h2 h3
      split at hs
      · rename_i e hu
        split at hs
        · rename_i s hk
          simp at hs; subst hs
          exact ok_slice ho hu hk hR hT hx h1 h2 h3 hop
        · simp at hs
      · rename_i hu
        split at hs
        · rename_i hm
          simp at hs; subst hs
          have hm' : mx = none := by
            cases mx with
            | none => rfl
            | some q => simp [sopt] at h3; obtain ⟨_, _, rfl⟩ := h3; simp at hm
          exact ok_slcStr ho hu hm' hR hT hx h1 h2 hop
        · simp at hs
      · rename_i m e hu
        split at hs
        · rename_i hm
          simp at hs; subst hs
          obtain ⟨m1, m2, m3, m4⟩ := hm
          have none_of : ∀ {q : Option Operand} {sq : Option SArg}, sopt q = some sq → sq.isNone = true → q = none := by
            intro q sq h1 h2
            cases q with
            | none => rfl
            | some q => simp [sopt] at h1; obtain ⟨_, _, rfl⟩ := h1; simp at h2
          exact ok_slcArr ho hu (none_of h1 m1) (none_of h2 m2) (none_of h3 m3) m4 hR hT hx hop
        · simp at hs
      · simp at hs
    · simp at hs
  case h_17 t x f ho =>
    split at hs
    · rename_i off k b sx hf hx
      simp at hs; subst hs
      exact ok_faddr ho hf hR hT hx hop
    · simp at hs
  case h_18 t x f ho =>
    split at hs
    · rename_i off k b sx hf hx
      split at hs
      · rename_i h1
        simp at hs; subst hs
        exact ok_field ho hf h1 hR hT hx hop
      · simp at hs
    · simp at hs
  case h_19 t x i ho =>
    split at hs
    · rename_i sx si hx hi
      split at hs
      · rename_i e hu
        split at hs
        · rename_i s hk
          simp at hs; subst hs
          exact ok_iaddr ho hu hk hR hT hx hi hop
        · simp at hs
      · rename_i m e hu
        split at hs
        · rename_i s hk
          simp at hs; subst hs
          exact ok_iaddrA ho hu hk hR hT hx hi hop
        · simp at hs
      · simp at hs
    · simp at hs
  case h_20 t x i ho =>
    split at hs
    · rename_i sx si hx hi
      split at hs
      · rename_i hu
        simp at hs; subst hs
        exact ok_indexS ho hu hR hT hx hi hop
      · rename_i m e hu
        split at hs
        · rename_i s hk
          split at hs
          · rename_i h1
            simp at hs; subst hs
            exact ok_indexA ho hu hk h1 hR hT hx hi hop
          · simp at hs
        · simp at hs
      · simp at hs
    · simp at hs
  case h_21 x i ho =>
    simp only [Option.map_eq_some_iff] at hs
    obtain ⟨sx, hx, rfl⟩ := hs
    exact ok_extract ho hR hT hx hop
  case h_22 c ho =>
    split at hs
    · rename_i b hc
      exact builtin_ok ho hc hs hR hT hop
    · split at hs
      · split at hs
        · simp only [Option.map_eq_some_iff] at hs
          obtain ⟨_, _, rfl⟩ := hs
          simp [isCall] at hnc
        · simp at hs
      · simp at hs
    · simp only [Option.map_eq_some_iff] at hs
      obtain ⟨_, _, rfl⟩ := hs
      simp [isCall] at hnc
    · simp at hs
  all_goals simp at hs
end ops
end Go.AI
