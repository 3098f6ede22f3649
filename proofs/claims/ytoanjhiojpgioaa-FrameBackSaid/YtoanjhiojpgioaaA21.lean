/- The table of a program. -/
import Derived.Test.YtoanjhiojpgioaaA20
set_option linter.unusedSimpArgs false
set_option linter.unusedVariables false
namespace Go.AI

def findH : List (Nat × Nat × Hint) → Nat → Nat → Hint
  | [], _, _ => {}
  | (a, b, h) :: t, r, i => if a = r ∧ b = i then h else findH t r i

def look : List (Nat × SFun) → Nat → Option SFun
  | [], _ => none
  | (n, s) :: t, f => if f = n then some s else look t f

theorem laid_nil {P : Program} : Laid P (look []) := fun f fn h => by simp [look] at h

theorem laid_cons {P : Program} {n : Nat} {s : SFun} {t : List (Nat × SFun)} (h : ∃ fn hs, P.funcs[n]? = some fn ∧ stripFun P hs fn = some s ∧ fn.name ≠ "runtime.NumGoroutine") (ht : Laid P (look t)) : Laid P (look ((n, s) :: t)) := by
  intro f fn' hf
  simp only [look] at hf
  split at hf
  · rename_i he
    subst he
    cases hf
    exact h
  · exact ht f fn' hf

end Go.AI
