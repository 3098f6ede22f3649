/- Steps of the interpreter, one by one. -/
import Derived.Test.YtoanjhiojpgioaaA21
set_option linter.unusedSimpArgs false
set_option linter.unusedVariables false
namespace Go.AI

/-- Code comes to an end, and then: -/
def W (r : XR) (Q : Ex → Tmps → Heap → Prop) : Prop := ∃ ex T H, r = some (ex, T, H) ∧ Q ex T H
def WO (r : Option (Tmps × Heap)) (Q : Tmps → Heap → Prop) : Prop := ∃ T H, r = some (T, H) ∧ Q T H

theorem W.mono {r : XR} {Q Q' : Ex → Tmps → Heap → Prop} (h : W r Q) (hq : ∀ ex T H, Q ex T H → Q' ex T H) : W r Q' :=
  let ⟨ex, T, H, h1, h2⟩ := h; ⟨ex, T, H, h1, hq _ _ _ h2⟩

def Then (A : Tmps → Heap → Prop) (Q : Ex → Tmps → Heap → Prop) : Ex → Tmps → Heap → Prop
  | .normal, T, H => A T H
  | ex, T, H => Q ex T H

def InBlock (id : Nat) (Q : Ex → Tmps → Heap → Prop) : Ex → Tmps → Heap → Prop
  | .exit i, T, H => if i = id then Q .normal T H else Q (.exit i) T H
  | ex, T, H => Q ex T H

section
variable {cf : CallF} {xf : ExtF} {base fuel : Nat} {T : Tmps} {H : Heap} {Q : Ex → Tmps → Heap → Prop} {QO : Tmps → Heap → Prop} {log : List FP}

theorem w_skip (h : Q .normal T H) : W (aexec cf xf base fuel .skip T H) Q := ⟨_, _, _, rfl, h⟩
theorem w_exit {id : Nat} (h : Q (.exit id) T H) : W (aexec cf xf base fuel (.exit id) T H) Q := ⟨_, _, _, rfl, h⟩
theorem w_ret (h : Q .ret T H) : W (aexec cf xf base fuel .ret T H) Q := ⟨_, _, _, rfl, h⟩

theorem w_seq {a b : SCode} (h : W (aexec cf xf base fuel a T H) (Then (fun T H => W (aexec cf xf base fuel b T H) Q) Q)) : W (aexec cf xf base fuel (.seq a b) T H) Q := by
  obtain ⟨ex, T1, H1, h1, h2⟩ := h
  cases ex with
  | normal =>
    obtain ⟨ex2, T2, H2, h3, h4⟩ := h2
    exact ⟨ex2, T2, H2, by simp only [aexec, h1, h3], h4⟩
  | exit id => exact ⟨_, _, _, by simp only [aexec, h1], h2⟩
  | ret => exact ⟨_, _, _, by simp only [aexec, h1], h2⟩

theorem w_true {c : SArg} {a b : SCode} (hc : c.ev T = .bool true) (h : W (aexec cf xf base fuel a T H) Q) : W (aexec cf xf base fuel (.cond c a b) T H) Q := by
  obtain ⟨ex, T1, H1, h1, h2⟩ := h
  exact ⟨ex, T1, H1, by simp only [aexec, hc, h1], h2⟩
theorem w_false {c : SArg} {a b : SCode} (hc : c.ev T = .bool false) (h : W (aexec cf xf base fuel b T H) Q) : W (aexec cf xf base fuel (.cond c a b) T H) Q := by
  obtain ⟨ex, T1, H1, h1, h2⟩ := h
  exact ⟨ex, T1, H1, by simp only [aexec, hc, h1], h2⟩

theorem w_block {id : Nat} {b : SCode} (h : W (aexec cf xf base fuel b T H) (InBlock id Q)) : W (aexec cf xf base fuel (.block id b) T H) Q := by
  obtain ⟨ex, T1, H1, h1, h2⟩ := h
  cases ex with
  | normal => exact ⟨_, _, _, by simp only [aexec, h1], h2⟩
  | exit i =>
    simp only [InBlock] at h2
    by_cases hi : i = id
    · rw [if_pos hi] at h2
      exact ⟨_, _, _, by simp only [aexec, h1, if_pos hi], h2⟩
    · rw [if_neg hi] at h2
      exact ⟨_, _, _, by simp only [aexec, h1, if_neg hi], h2⟩
  | ret => exact ⟨_, _, _, by simp only [aexec, h1], h2⟩

/-- A loop: 'Inv m': at most m rounds more. -/
theorem w_loop {b : SCode} (Inv : Nat → Tmps → Heap → Prop) (n : Nat) (h0 : Inv n T H) (hf : n < fuel)
    (hs : ∀ m T H, m ≤ n → Inv m T H → W (aexec cf xf base fuel b T H) (Then (fun T H => 0 < m ∧ Inv (m - 1) T H) Q)) : W (aexec cf xf base fuel (.loop b) T H) Q := by
  have key : ∀ (m f : Nat) (T : Tmps) (H : Heap), m ≤ n → m < f → Inv m T H → W (aiter (aexec cf xf base fuel b) f T H) Q := by
    intro m
    induction m with
    | zero =>
      intro f T H _ hf hi
      obtain ⟨ex, T1, H1, h1, h2⟩ := hs 0 T H (by omega) hi
      obtain ⟨f, rfl⟩ : ∃ g, f = g + 1 := ⟨f - 1, by omega⟩
      cases ex with
      | normal => exact absurd h2.1 (by omega)
      | exit id => exact ⟨_, _, _, by simp only [aiter, h1], h2⟩
      | ret => exact ⟨_, _, _, by simp only [aiter, h1], h2⟩
    | succ m ih =>
      intro f T H hn hf hi
      obtain ⟨ex, T1, H1, h1, h2⟩ := hs (m + 1) T H hn hi
      obtain ⟨f, rfl⟩ : ∃ g, f = g + 1 := ⟨f - 1, by omega⟩
      cases ex with
      | normal =>
        obtain ⟨ex, T2, H2, h3, h4⟩ := ih f T1 H1 (by omega) (by omega) (by simpa using h2.2)
        exact ⟨ex, T2, H2, by simp only [aiter, h1, h3], h4⟩
      | exit id => exact ⟨_, _, _, by simp only [aiter, h1], h2⟩
      | ret => exact ⟨_, _, _, by simp only [aiter, h1], h2⟩
  exact key n fuel T H (Nat.le_refl _) hf h0

theorem w_region {ops : List SOper} (h : WO (aops cf xf base ops [] T H) (Q .normal)) : W (aexec cf xf base fuel (.region ops) T H) Q := by
  obtain ⟨T1, H1, h1, h2⟩ := h
  exact ⟨_, _, _, by simp only [aexec, h1], h2⟩

theorem wo_nil (h : QO T H) : WO (aops cf xf base [] log T H) QO := ⟨_, _, rfl, h⟩

/-- One that is wanted. -/
theorem wo_step {o : SOper} {r : List SOper} {v : AV} {H' : Heap} {fp : FP} (hw : awanted T o.guard = some true) (ho : aop cf xf base T H o.op = some (v, H', fp)) (hl : logOk log fp o.un = true)
    (h : WO (aops cf xf base r (log ++ [fp]) (T.put o.dst v) H') QO) : WO (aops cf xf base (o :: r) log T H) QO := by
  obtain ⟨T1, H1, h1, h2⟩ := h
  exact ⟨T1, H1, by simp only [aops, hw, ho, hl, if_true, h1], h2⟩

theorem wo_not {o : SOper} {r : List SOper} (hw : awanted T o.guard = some false)
    (h : WO (aops cf xf base r (log ++ [.z]) (T.put o.dst .undef) H) QO) : WO (aops cf xf base (o :: r) log T H) QO := by
  obtain ⟨T1, H1, h1, h2⟩ := h
  exact ⟨T1, H1, by simp only [aops, hw, h1], h2⟩

/-- One that answers a truth: two ways on. -/
theorem wo_bool {o : SOper} {r : List SOper} {b : Bool} {H' : Heap} {fp : FP} (hw : awanted T o.guard = some true) (ho : aop cf xf base T H o.op = some (.bool b, H', fp)) (hl : logOk log fp o.un = true)
    (h1 : b = true → WO (aops cf xf base r (log ++ [fp]) (T.put o.dst (.bool true)) H') QO) (h2 : b = false → WO (aops cf xf base r (log ++ [fp]) (T.put o.dst (.bool false)) H') QO) :
    WO (aops cf xf base (o :: r) log T H) QO := by
  cases b with
  | true => exact wo_step hw ho hl (h1 rfl)
  | false => exact wo_step hw ho hl (h2 rfl)

end

/-- What a call by value answers. -/
def FnV (cf : CallF) (f : Nat) (args : List AV) (v : AV) : Prop := ∃ u Hc, cf f 0 args Heap.none = some (u, Hc) ∧ fz true deep Hc u = v

theorem aop_pure {cf : CallF} {xf : ExtF} {base : Nat} {T : Tmps} {H : Heap} {f : Nat} {as : List SArg} {args : List AV} {v : AV} (hF : FnV cf f args v) (ha : (as.map (SArg.ev T)).map (fz false deep H) = args) :
    aop cf xf base T H (.call .pure f as) = some (v, H, ⟨(as.map (SArg.ev T)).flatMap (vis deep H), [], false⟩) := by
  obtain ⟨u, Hc, h1, rfl⟩ := hF
  simp only [aop, acallM, ha, h1, Option.bind_eq_bind, Option.bind_some]

/-- The body of a call. -/
theorem fn_of {B : Prog} {xf : ExtF} {gf : CallF} {k f : Nat} {fn : SFun} {args : List AV} {v : AV} (hB : B f = some fn) (hl : args.length = fn.nparams)
    (h : W (aexec (acall B xf gf k) xf 0 k fn.code (tmps0 args) Heap.none) (fun ex T H => (ex = .normal ∨ ex = .ret) ∧ ∃ u, aresults T H fn.results = some u ∧ fz true deep H u = v)) : FnV (acall B xf gf (k + 1)) f args v := by
  obtain ⟨ex, T, H, h1, h2, u, h3, h4⟩ := h
  refine ⟨u, H, ?_, h4⟩
  rcases h2 with rfl | rfl
  · simp only [acall, hB, hl, if_true, h1, h3, Option.map_some]
  · simp only [acall, hB, hl, if_true, h1, h3, Option.map_some]

end Go.AI
