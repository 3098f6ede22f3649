/- Facts of the seat whose rows list the library's tables: what the listed tables give a walk; a start that has them. -/
import Derived.Test.YtnakicjkolpacaaDoorR0
import Derived.Test.YtnakicjkolpacaaDoorTie
import Derived.Test.YtnakicjkolpacaaDoorCards
import Derived.LaidMore
import Derived.Stop.Joined
import Derived.Stop.LaidErr
import Derived.LaidHandle
import Derived.SevenTiedAt
set_option linter.unusedSimpArgs false
set_option linter.unusedVariables false
namespace Go.Proofs.YtnakicjkolpacaaDoor
open Go.AI
open Go.WideShapes

/-- What the rows of the seat list. -/
def laid3 : List (String × DataW Unit) := [("math/bits.deBruijn32tab", Rows.laid_math_bits_deBruijn32tab), ("math/bits.deBruijn64tab", Rows.laid_math_bits_deBruijn64tab), ("internal/strconv.uint64pow10", Rows.laid_internal_strconv_uint64pow10)]

theorem door_met (os : Os) (args : Array Value) : laidMetH Tryd.prog laid3 ((World.doorLaid Tryd.prog 400 os).forCall (fun _ _ => 0) ⟨#[], args, []⟩).memory :=
  laidMetH_of_parts3 (fuel := 8) (laidMet_of_run' 8 (by kernel_rfl) (by kernel_rfl)) (by kernel_rfl) (by kernel_rfl)

theorem gPow : Tryd.prog.globalNamed "internal/strconv.uint64pow10" = some 0 := by kernel_rfl
theorem tPow : (Tryd.prog.globals[0]?).map (·.type) = some 117 := by kernel_rfl

/-- The table lies where the walks look for it. -/
theorem glAt_of_laid {W : World} (h : laidMetH Tryd.prog laid3 W) : GlAt W := by
  rw [MakeChecks.laidMetH_plain _ _ _ (by kernel_rfl)] at h
  have h3 : laidMet Tryd.prog [("internal/strconv.uint64pow10", Go.Lib.tabData .u64 Go.Lib.pow10Tab)] W := h.tail.tail
  have ht := Go.Lib.tabIs_of_head gPow tPow Tryd.underlying117 Tryd.underlying94 (by kernel_rfl) (by kernel_rfl) h3
  intro b hb
  have hb0 : b = 0 := by unfold isGl at hb; simpa using hb
  subst hb0
  unfold Go.Lib.TabIs World.var? at ht
  rw [gPow] at ht
  simp only [Option.bind_some] at ht
  cases hh : W.heap[0]? with
  | none => rw [hh] at ht; cases ht
  | some o =>
    refine ⟨(Array.getElem?_eq_some_iff.1 hh).1, ?_⟩
    cases o with
    | cells cs el fz =>
      rw [hh] at ht
      exact ⟨el, fz, by rw [Option.some.inj ht]; rfl⟩
    | _ => rw [hh] at ht; cases ht

end Go.Proofs.YtnakicjkolpacaaDoor
