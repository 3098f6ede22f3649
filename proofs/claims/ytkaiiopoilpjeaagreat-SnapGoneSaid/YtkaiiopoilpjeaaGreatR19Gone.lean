/- SnapGone answers true at every input, and the arguments read as they did. -/
import Derived.Test.YtkaiiopoilpjeaaGreatR0G
import Derived.Test.YtkaiiopoilpjeaaGreatME2
set_option linter.unusedSimpArgs false
set_option linter.unusedVariables false
namespace Go.Proofs.YtkaiiopoilpjeaaGreat
open Go.AI
open Go.ChangeShapes Go.WideShapes Go.ChangeAt Go.RowKit
set_option maxRecDepth 100000 in
theorem SnapGone_contract (H : Type) (enc : TypeId × Value → H) (W : World) (base : Nat) (args : Array Value) (ds gs : List (DataW H)) (before : List MemPlace)
  (hval : ∀ (j : Nat) t v, Tryz.f5.params[j]? = some t → args[j]? = some v → Value.okWide Tryz.prog W .any base t v)
  (hW : DataW.Whole enc Tryz.prog Tryz.f5.params.toList Rows.snapGoneSpec.vars false W args.toList ds gs before) (hgl : GlAt W) :
  Calls Tryz.prog 5 args W fun e W' => ∃ v, e = .returned v ∧ Rows.snapGoneSpec.post enc Tryz.prog Tryz.f5 false true false false W args v W' := by
 have hW' := hW
 obtain ⟨p, q, hA0, hV, rfl, hfz, hnd⟩ := hW
 have hA : DataW.TrodAll enc Tryz.prog W 0 (fun _ => true) true Tryz.f5.params.toList args.toList ds p := hA0
 rw [Tryz.params5] at hA hval
 obtain ⟨v0, vs0, d0, ds0, p0, q0, hargs, rfl, rfl, h0, r0⟩ := trodAll_cons hA
 obtain ⟨v1, vs1, d1, ds1, p1, q1, rfl, rfl, rfl, h1, r1⟩ := trodAll_cons r0
 obtain ⟨rfl, rfl, rfl⟩ := trodAll_nil r1
 obtain rfl : args = #[v0, v1] := by cases args; simp_all
 obtain ⟨ad0, ln0, cp0, rfl⟩ := okWide_slice Tryz.underlying22 (hval 0 22 v0 rfl rfl)
 obtain ⟨a0, w0, x0⟩ := arg_one (opens_bytes hgl) h0 rfl (el := fun l => .islc false false 1 (BL l)) (fun _ => rfl)
 obtain ⟨a1, rfl, rfl, rfl, w1⟩ := open_int Tryz.underlying3 (hval 1 3 v1 rfl rfl) h1
 obtain ⟨rfl, rfl⟩ := trodVars_none hV
 obtain ⟨H', hL⟩ := law_SnapGone a0 w0 a1
 refine (law_calls (vs := #[.slice ad0 ln0 cp0, .int .i64 a1]) seat_mixed laid no_ext cloneF_ok hgl (by simp only [VRT]; exact ⟨_, _, rfl, x0, _, _, rfl, by simp [VR], rfl⟩) hL).mono fun e W' ⟨he, hb⟩ => ?_
 exact ⟨_, he, post_law seat_laidOut hW' rfl (by kernel_rfl) Tryz.underlying4 (by kernel_rfl) rfl hb⟩
set_option maxRecDepth 100000 in
theorem SnapGone_lifted (os : Os) (started : os.Started) (H : Type) (enc : TypeId × Value → H) :
  ReturnsInHanded {} Tryz.checked os 5 .any (Rows.snapGoneSpec.pre6 enc Tryz.prog Tryz.f5 Rows.snapGoneRow.domain false) (Rows.snapGoneSpec.post enc Tryz.prog Tryz.f5 false true false false) := by
 refine returnsInHanded_of_change (C := Tryz.checked) seat_own started (by kernel_rfl) Tryz.func5
  (ChangeSpec.witness6 (enc := enc) (C := Tryz.checked) false ⟨#[], #[.slice none 0 0, .int .i64 0], []⟩ 8 (by kernel_rfl) (by kernel_rfl) (by kernel_rfl) (by kernel_rfl)) ?_
 intro W base args ds gs before hval hW _ _
 exact SnapGone_contract H enc W base args ds gs before hval hW (fun b hb => absurd hb (by simp [isGl]))
theorem SnapGone_holds : Rows.SnapGoneSaid :=
 OpenClaim.holds_of_wide 5 Tryz.f5 rfl rfl rfl rfl rfl rfl rfl ⟨rfl, rfl, rfl, rfl, rfl⟩ rfl rfl rfl rfl rfl (by kernel_rfl) Tryz.func5 (by kernel_rfl)
  (of_decide_eq_true (by kernel_rfl)) (by unfold Func.isWrapper; first | (rw [if_pos (by decide +kernel)]; kernel_rfl) | (rw [if_neg (by decide +kernel)]; exact ⟨rfl, rfl⟩))
  (fun os started H enc _ => SnapGone_lifted os started H enc)
#print axioms SnapGone_holds
end Go.Proofs.YtkaiiopoilpjeaaGreat

