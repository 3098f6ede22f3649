/- FrameBounds answers true, whatever the input, and the arguments read as they did. -/
import Derived.Test.YtoanjhiojpgioaaRows
import Derived.Test.YtoanjhiojpgioaaA24
import Derived.Test.YtoanjhiojpgioaaL09Bounds
import Derived.Eval
set_option linter.unusedSimpArgs false
set_option linter.unusedVariables false
namespace Go.Proofs.Ytoanjhiojpgioaa
open Go.AI
open Go.ChangeShapes Go.WideShapes Go.ChangeAt Go.RowKit

theorem seat_own : ownKnob Try.prog.godebug = none := by kernel_rfl
theorem seat_laidOut : laidOutB Try.prog = true := by kernel_rfl
theorem seat_mixed : Try.prog.follows .mixedOrders = true := Checked.mixed Try.checked
theorem no_ext {P : Program} : ExtOk P (fun _ _ => none) := fun _ _ _ _ _ _ h => by cases h
theorem no_hand {P : Program} : FunOk P (fun _ _ _ _ => none) := fun _ _ _ _ _ _ _ _ h => by cases h

theorem FrameBounds_contract (H : Type) (enc : TypeId × Value → H) (W : World) (base : Nat) (args : Array Value) (ds gs : List (DataW H)) (before : List MemPlace)
    (hval : ∀ (j : Nat) t v, Try.f6.params[j]? = some t → args[j]? = some v → Value.okWide Try.prog W .any base t v)
    (hW : DataW.Whole enc Try.prog Try.f6.params.toList Rows.frameBoundsSpec.vars false W args.toList ds gs before) :
    Calls Try.prog 6 args W fun e W' => ∃ v, e = .returned v ∧ Rows.frameBoundsSpec.post enc Try.prog Try.f6 false true false false W args v W' := by
  have hW' := hW
  obtain ⟨p, q, hA0, hV, rfl, hfz, hnd⟩ := hW
  have hA : DataW.TrodAll enc Try.prog W 0 (fun _ => true) true Try.f6.params.toList args.toList ds p := hA0
  rw [Try.params6] at hA hval
  obtain ⟨v0, v1, d0, d1, p0, p1, rfl, rfl, rfl, h0, h1⟩ := trodAll_two hA
  obtain ⟨a, rfl, rfl, rfl, wa⟩ := open_int Try.underlying3 (hval 0 3 v0 rfl rfl) h0
  obtain ⟨b, rfl, rfl, rfl, wb⟩ := open_int Try.underlying3 (hval 1 3 v1 rfl rfl) h1
  obtain ⟨rfl, rfl⟩ := trodVars_none hV
  obtain ⟨H', hL⟩ := law_FrameBounds (xf := fun _ _ => none) (gf := fun _ _ _ _ => none) a b
  refine (law_calls (vs := #[.int .i64 a, .int .i64 b]) seat_mixed laid no_ext no_hand (by simp [VRT, VR]) hL).mono fun e W' ⟨he, hb⟩ => ?_
  exact ⟨_, he, post_law seat_laidOut hW' rfl (by kernel_rfl) Try.underlying4 (by kernel_rfl) rfl hb⟩

set_option maxRecDepth 100000 in
theorem FrameBounds_lifted (os : Os) (started : os.Started) (H : Type) (enc : TypeId × Value → H) :
    ReturnsInHanded {} Try.checked os 6 .any (Rows.frameBoundsSpec.pre6 enc Try.prog Try.f6 Rows.frameBoundsRow.domain false) (Rows.frameBoundsSpec.post enc Try.prog Try.f6 false true false false) := by
  refine returnsInHanded_of_change (C := Try.checked) seat_own started (by kernel_rfl) Try.func6
    (ChangeSpec.witness6 (enc := enc) (C := Try.checked) false ⟨#[], #[.int .i64 0, .int .i64 0], []⟩ 8 (by kernel_rfl) (by kernel_rfl) (by kernel_rfl) (by kernel_rfl)) ?_
  intro W base args ds gs before hval hW _ _
  exact FrameBounds_contract H enc W base args ds gs before hval hW

theorem FrameBounds_holds : Rows.FrameBoundsSaid :=
  OpenClaim.holds_of_wide 6 Try.f6 rfl rfl rfl rfl rfl rfl rfl ⟨rfl, rfl, rfl, rfl, rfl⟩ rfl rfl rfl rfl rfl (by kernel_rfl) Try.func6 (by kernel_rfl)
    (of_decide_eq_true (by kernel_rfl)) (by unfold Func.isWrapper; first | (rw [if_pos (by decide +kernel)]; kernel_rfl) | (rw [if_neg (by decide +kernel)]; exact ⟨rfl, rfl⟩))
    (fun os started H enc _ => FrameBounds_lifted os started H enc)

#print axioms FrameBounds_holds
end Go.Proofs.Ytoanjhiojpgioaa
