/- SnapLists answers true at every input, and the arguments read as they did. -/
import Derived.Test.YtkaiiopoilpjeaaR0G
import Derived.Test.YtkaiiopoilpjeaaQ2
set_option linter.unusedSimpArgs false
set_option linter.unusedVariables false
namespace Go.Proofs.Ytkaiiopoilpjeaa
open Go.AI
open Go.ChangeShapes Go.WideShapes Go.ChangeAt Go.RowKit
set_option maxRecDepth 100000 in
theorem Xc (H : Type) (enc : TypeId × Value → H) (W : World) (base : Nat) (args : Array Value) (ds gs : List (DataW H)) (before : List MemPlace)
  (hval : ∀ (j : Nat) t v, Try.f4.params[j]? = some t → args[j]? = some v → Value.okWide Try.prog W .any base t v)
  (hW : DataW.Whole enc Try.prog Try.f4.params.toList Rows.snapListsSpec.vars false W args.toList ds gs before) (hgl : GlAt W) :
  Calls Try.prog 4 args W fun e W' => ∃ v, e = .returned v ∧ Rows.snapListsSpec.post enc Try.prog Try.f4 false true false false W args v W' := by
 have hW' := hW
 obtain ⟨p, q, hA0, hV, rfl, hfz, hnd⟩ := hW
 have hA : DataW.TrodAll enc Try.prog W 0 (fun _ => true) true Try.f4.params.toList args.toList ds p := hA0
 rw [Try.params4] at hA hval
 obtain ⟨v0, vs0, d0, ds0, p0, q0, hargs, rfl, rfl, h0, r0⟩ := trodAll_cons hA
 obtain ⟨v1, vs1, d1, ds1, p1, q1, rfl, rfl, rfl, h1, r1⟩ := trodAll_cons r0
 obtain ⟨v2, vs2, d2, ds2, p2, q2, rfl, rfl, rfl, h2, r2⟩ := trodAll_cons r1
 obtain ⟨rfl, rfl, rfl⟩ := trodAll_nil r2
 obtain rfl : args = #[v0, v1, v2] := by cases args; simp_all
 obtain ⟨a0, rfl, rfl, rfl, w0⟩ := open_int Try.underlying3 (hval 0 3 v0 rfl rfl) h0
 obtain ⟨a1, rfl, rfl, rfl, w1⟩ := open_int Try.underlying3 (hval 1 3 v1 rfl rfl) h1
 obtain ⟨a2, rfl, rfl, rfl, w2⟩ := open_int Try.underlying3 (hval 2 3 v2 rfl rfl) h2
 obtain ⟨rfl, rfl⟩ := trodVars_none hV
 obtain ⟨H', hL⟩ := kE a0 a1 a2
 refine (xI (vs := #[.int .i64 a0, .int .i64 a1, .int .i64 a2]) tP laid Agd yR hgl (by simp only [VRT]; exact ⟨_, _, rfl, by simp [VR], _, _, rfl, by simp [VR], _, _, rfl, by simp [VR], rfl⟩) hL).mono fun e W' ⟨he, hb⟩ => ?_
 exact ⟨_, he, Abs nW hW' rfl (by kernel_rfl) Try.underlying4 (by kernel_rfl) rfl hb⟩
set_option maxRecDepth 100000 in
theorem aO (os : Os) (started : os.Started) (H : Type) (enc : TypeId × Value → H) :
  ReturnsInHanded {} Try.checked os 4 .any (Rows.snapListsSpec.pre6 enc Try.prog Try.f4 Rows.snapListsRow.domain false) (Rows.snapListsSpec.post enc Try.prog Try.f4 false true false false) := by
 refine returnsInHanded_of_change (C := Try.checked) Acl started (by kernel_rfl) Try.func4
  (ChangeSpec.witness6 (enc := enc) (C := Try.checked) false ⟨#[], #[.int .i64 0, .int .i64 0, .int .i64 0], []⟩ 8 (by kernel_rfl) (by kernel_rfl) (by kernel_rfl) (by kernel_rfl)) ?_
 intro W base args ds gs before hval hW _ _
 exact Xc H enc W base args ds gs before hval hW (fun b hb => absurd hb (by simp [isGl]))
theorem SnapLists_holds : Rows.SnapListsSaid :=
 OpenClaim.holds_of_wide 4 Try.f4 rfl rfl rfl rfl rfl rfl rfl ⟨rfl, rfl, rfl, rfl, rfl⟩ rfl rfl rfl rfl rfl (by kernel_rfl) Try.func4 (by kernel_rfl)
  (Jj (by kernel_rfl)) (by unfold Func.isWrapper; first | (rw [if_pos (by decide +kernel)]; kernel_rfl) | (rw [if_neg (by decide +kernel)]; exact ⟨rfl, rfl⟩))
  (fun os started H enc _ => aO os started H enc)
#print axioms SnapLists_holds
end Go.Proofs.Ytkaiiopoilpjeaa

