/- CrashExact answers true at every input, and the arguments read as they did. -/
import Derived.Test.YtkaiiopoilpjeaaGreatR0G
import Derived.Test.YtkaiiopoilpjeaaGreatE24
import Derived.Test.YtkaiiopoilpjeaaGreatR0B
import Derived.Test.YtkaiiopoilpjeaaGreatR0I
set_option linter.unusedSimpArgs false
set_option linter.unusedVariables false
namespace Go.Proofs.YtkaiiopoilpjeaaGreat
open Go.AI
open Go.ChangeShapes Go.WideShapes Go.ChangeAt Go.RowKit
set_option maxRecDepth 100000 in
theorem Bbs (H : Type) (enc : TypeId × Value → H) (W : World) (base : Nat) (args : Array Value) (ds gs : List (DataW H)) (before : List MemPlace)
  (hval : ∀ (j : Nat) t v, Tryz.f4.params[j]? = some t → args[j]? = some v → Value.okWide Tryz.prog W .any base t v)
  (hW : DataW.Whole enc Tryz.prog Tryz.f4.params.toList Rows.crashExactSpec.vars false W args.toList ds gs before) (hgl : GlAt W) :
  Calls Tryz.prog 4 args W fun e W' => ∃ v, e = .returned v ∧ Rows.crashExactSpec.post enc Tryz.prog Tryz.f4 false true false false W args v W' := by
 have hW' := hW
 obtain ⟨p, q, hA0, hV, rfl, hfz, hnd⟩ := hW
 have hA : DataW.TrodAll enc Tryz.prog W 0 (fun _ => true) true Tryz.f4.params.toList args.toList ds p := hA0
 rw [Tryz.params4] at hA hval
 obtain ⟨v0, vs0, d0, ds0, p0, q0, hargs, rfl, rfl, h0, r0⟩ := trodAll_cons hA
 obtain ⟨v1, vs1, d1, ds1, p1, q1, rfl, rfl, rfl, h1, r1⟩ := trodAll_cons r0
 obtain ⟨v2, vs2, d2, ds2, p2, q2, rfl, rfl, rfl, h2, r2⟩ := trodAll_cons r1
 obtain ⟨v3, vs3, d3, ds3, p3, q3, rfl, rfl, rfl, h3, r3⟩ := trodAll_cons r2
 obtain ⟨rfl, rfl, rfl⟩ := trodAll_nil r3
 obtain rfl : args = #[v0, v1, v2, v3] := by cases args; simp_all
 obtain ⟨ad0, ln0, cp0, rfl⟩ := okWide_slice Tryz.underlying22 (hval 0 22 v0 rfl rfl)
 obtain ⟨a0, w0, x0⟩ := Asb (Acv hgl) h0 rfl (el := fun l => .islc false false 1 (BL l)) (fun _ => rfl)
 obtain ⟨ad1, ln1, cp1, rfl⟩ := okWide_slice Tryz.underlying25 (hval 1 25 v1 rfl rfl)
 obtain ⟨a1, w1, x1⟩ := Asb (Bjl hgl) h1 rfl (el := fun l => .islc false false 3 (l.map IoZ.av)) (fun _ => rfl)
 obtain ⟨a2, rfl, rfl, rfl, w2⟩ := open_int Tryz.underlying3 (hval 2 3 v2 rfl rfl) h2
 obtain ⟨ad3, ln3, cp3, rfl⟩ := okWide_slice Tryz.underlying37 (hval 3 37 v3 rfl rfl)
 obtain ⟨a3, w3, x3⟩ := Asb (Big hgl) h3 rfl (el := fun l => .islc false false 1 (l.map AV.bool)) (fun _ => rfl)
 obtain ⟨rfl, rfl⟩ := trodVars_none hV
 obtain ⟨H', hL⟩ := Bfd a0 w0 a1 w1 a2 a3 w3
 refine (Akq (vs := #[.slice ad0 ln0 cp0, .slice ad1 ln1 cp1, .int .i64 a2, .slice ad3 ln3 cp3]) Afi laid Awh Amo hgl (by simp only [VRT]; exact ⟨_, _, rfl, x0, _, _, rfl, x1, _, _, rfl, by simp [VR], _, _, rfl, x3, rfl⟩) hL).mono fun e W' ⟨he, hb⟩ => ?_
 exact ⟨_, he, Apg Aat hW' rfl (by kernel_rfl) Tryz.underlying4 (by kernel_rfl) rfl hb⟩
set_option maxRecDepth 100000 in
theorem Bdi (os : Os) (started : os.Started) (H : Type) (enc : TypeId × Value → H) :
  ReturnsInHanded {} Tryz.checked os 4 .any (Rows.crashExactSpec.pre6 enc Tryz.prog Tryz.f4 Rows.crashExactRow.domain false) (Rows.crashExactSpec.post enc Tryz.prog Tryz.f4 false true false false) := by
 refine returnsInHanded_of_change (C := Tryz.checked) Aon started (by kernel_rfl) Tryz.func4
  (ChangeSpec.witness6 (enc := enc) (C := Tryz.checked) false ⟨#[], #[.slice none 0 0, .slice none 0 0, .int .i64 0, .slice none 0 0], []⟩ 8 (by kernel_rfl) (by kernel_rfl) (by kernel_rfl) (by kernel_rfl)) ?_
 intro W base args ds gs before hval hW _ _
 exact Bbs H enc W base args ds gs before hval hW (fun b hb => absurd hb (by simp [isGl]))
theorem CrashExact_holds : Rows.CrashExactSaid :=
 OpenClaim.holds_of_wide 4 Tryz.f4 rfl rfl rfl rfl rfl rfl rfl ⟨rfl, rfl, rfl, rfl, rfl⟩ rfl rfl rfl rfl rfl (by kernel_rfl) Tryz.func4 (by kernel_rfl)
  (Kq (by kernel_rfl)) (by unfold Func.isWrapper; first | (rw [if_pos (by decide +kernel)]; kernel_rfl) | (rw [if_neg (by decide +kernel)]; exact ⟨rfl, rfl⟩))
  (fun os started H enc _ => Bdi os started H enc)
#print axioms CrashExact_holds
end Go.Proofs.YtkaiiopoilpjeaaGreat

