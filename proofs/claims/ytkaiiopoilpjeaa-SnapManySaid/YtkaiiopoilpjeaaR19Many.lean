/- SnapMany answers true at every input, and the arguments read as they did. -/
import Derived.Test.YtkaiiopoilpjeaaR0G
import Derived.Test.YtkaiiopoilpjeaaQ1
set_option linter.unusedSimpArgs false
set_option linter.unusedVariables false
namespace Go.Proofs.Ytkaiiopoilpjeaa
open Go.AI
open Go.ChangeShapes Go.WideShapes Go.ChangeAt Go.RowKit
set_option maxRecDepth 100000 in
theorem SnapMany_contract (H : Type) (enc : TypeId × Value → H) (W : World) (base : Nat) (args : Array Value) (ds gs : List (DataW H)) (before : List MemPlace)
  (hval : ∀ (j : Nat) t v, Try.f3.params[j]? = some t → args[j]? = some v → Value.okWide Try.prog W .any base t v)
  (hW : DataW.Whole enc Try.prog Try.f3.params.toList Rows.snapManySpec.vars false W args.toList ds gs before) (hgl : GlAt W) :
  Calls Try.prog 3 args W fun e W' => ∃ v, e = .returned v ∧ Rows.snapManySpec.post enc Try.prog Try.f3 false true false false W args v W' := by
 have hW' := hW
 obtain ⟨p, q, hA0, hV, rfl, hfz, hnd⟩ := hW
 have hA : DataW.TrodAll enc Try.prog W 0 (fun _ => true) true Try.f3.params.toList args.toList ds p := hA0
 rw [Try.params3] at hA hval
 obtain ⟨v0, vs0, d0, ds0, p0, q0, hargs, rfl, rfl, h0, r0⟩ := trodAll_cons hA
 obtain ⟨rfl, rfl, rfl⟩ := trodAll_nil r0
 obtain rfl : args = #[v0] := by cases args; simp_all
 obtain ⟨a0, rfl, rfl, rfl, w0⟩ := open_int Try.underlying3 (hval 0 3 v0 rfl rfl) h0
 obtain ⟨rfl, rfl⟩ := trodVars_none hV
 obtain ⟨H', hL⟩ := law_SnapMany a0
 refine (law_calls (vs := #[.int .i64 a0]) seat_mixed laid no_ext cloneF_ok hgl (by simp only [VRT]; exact ⟨_, _, rfl, by simp [VR], rfl⟩) hL).mono fun e W' ⟨he, hb⟩ => ?_
 exact ⟨_, he, post_law seat_laidOut hW' rfl (by kernel_rfl) Try.underlying4 (by kernel_rfl) rfl hb⟩
set_option maxRecDepth 100000 in
theorem SnapMany_lifted (os : Os) (started : os.Started) (H : Type) (enc : TypeId × Value → H) :
  ReturnsInHanded {} Try.checked os 3 .any (Rows.snapManySpec.pre6 enc Try.prog Try.f3 Rows.snapManyRow.domain false) (Rows.snapManySpec.post enc Try.prog Try.f3 false true false false) := by
 refine returnsInHanded_of_change (C := Try.checked) seat_own started (by kernel_rfl) Try.func3
  (ChangeSpec.witness6 (enc := enc) (C := Try.checked) false ⟨#[], #[.int .i64 0], []⟩ 8 (by kernel_rfl) (by kernel_rfl) (by kernel_rfl) (by kernel_rfl)) ?_
 intro W base args ds gs before hval hW _ _
 exact SnapMany_contract H enc W base args ds gs before hval hW (fun b hb => absurd hb (by simp [isGl]))
theorem SnapMany_holds : Rows.SnapManySaid :=
 OpenClaim.holds_of_wide 3 Try.f3 rfl rfl rfl rfl rfl rfl rfl ⟨rfl, rfl, rfl, rfl, rfl⟩ rfl rfl rfl rfl rfl (by kernel_rfl) Try.func3 (by kernel_rfl)
  (of_decide_eq_true (by kernel_rfl)) (by unfold Func.isWrapper; first | (rw [if_pos (by decide +kernel)]; kernel_rfl) | (rw [if_neg (by decide +kernel)]; exact ⟨rfl, rfl⟩))
  (fun os started H enc _ => SnapMany_lifted os started H enc)
#print axioms SnapMany_holds
end Go.Proofs.Ytkaiiopoilpjeaa

