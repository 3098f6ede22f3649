/- StreamBent answers true, whatever the input, and the arguments read as they did. -/
import Derived.Test.YtnakicjkolpacaaDoorR1D
import Derived.Test.YtnakicjkolpacaaDoorL23Bent2
set_option linter.unusedSimpArgs false
set_option linter.unusedVariables false
namespace Go.Proofs.YtnakicjkolpacaaDoor
open Go.AI
open Go.ChangeShapes Go.WideShapes Go.ChangeAt Go.RowKit

set_option maxRecDepth 100000 in
theorem StreamBent_contract (H : Type) (enc : TypeId × Value → H) (W : World) (base : Nat) (args : Array Value) (ds gs : List (DataW H)) (before : List MemPlace)
    (hval : ∀ (j : Nat) t v, Tryd.f5.params[j]? = some t → args[j]? = some v → Value.okWide Tryd.prog W .any base t v)
    (hW : DataW.Whole enc Tryd.prog Tryd.f5.params.toList Rows.streamBentSpec.vars false W args.toList ds gs before) (hgl : GlAt W) :
    Calls Tryd.prog 5 args W fun e W' => ∃ v, e = .returned v ∧ Rows.streamBentSpec.post enc Tryd.prog Tryd.f5 false true false false W args v W' := by
  have hW' := hW
  obtain ⟨p, q, hA0, hV, rfl, hfz, hnd⟩ := hW
  have hA : DataW.TrodAll enc Tryd.prog W 0 (fun _ => true) true Tryd.f5.params.toList args.toList ds p := hA0
  rw [Tryd.params5] at hA hval
  obtain ⟨v0, vs0, d0, ds0, p0, q0, hargs, rfl, rfl, h0, r0⟩ := trodAll_cons hA
  obtain ⟨v1, vs1, d1, ds1, p1, q1, rfl, rfl, rfl, h1, r1⟩ := trodAll_cons r0
  obtain ⟨v2, vs2, d2, ds2, p2, q2, rfl, rfl, rfl, h2, r2⟩ := trodAll_cons r1
  obtain ⟨v3, vs3, d3, ds3, p3, q3, rfl, rfl, rfl, h3, r3⟩ := trodAll_cons r2
  obtain ⟨rfl, rfl, rfl⟩ := trodAll_nil r3
  obtain rfl : args = #[v0, v1, v2, v3] := by cases args; simp_all
  obtain ⟨ad0, ln0, cp0, rfl⟩ := okWide_slice Tryd.underlying22 (hval 0 22 v0 rfl rfl)
  obtain ⟨a0, w0, x0⟩ := arg_one (opens_cmds hgl) h0 rfl (el := fun l => .islc false false 9 (l.map (Cmd.av false false 1))) (fun _ => rfl)
  obtain ⟨a1, rfl, rfl, rfl, w1⟩ := open_int Tryd.underlying3 (hval 1 3 v1 rfl rfl) h1
  obtain ⟨a2, rfl, rfl, rfl, w2⟩ := open_int Tryd.underlying3 (hval 2 3 v2 rfl rfl) h2
  obtain ⟨cs3, rfl⟩ := okWide_arr Tryd.underlying44 (hval 3 44 v3 rfl rfl)
  obtain ⟨a3, w3, x3⟩ := arg_agg (opens_array (m := 4) (s := 1) Tryd.underlying44 (by kernel_rfl) (by kernel_rfl) (opens_u8 Tryd.underlying5)) h3
  obtain ⟨rfl, rfl⟩ := trodVars_none hV
  obtain ⟨H', hL⟩ := law_StreamBent (xf := fun _ _ => none) a0 w0 a1 a2 a3 w3.1
  refine (law_calls (vs := #[.slice ad0 ln0 cp0, .int .i64 a1, .int .i64 a2, .agg cs3]) seat_mixed laid no_ext cloneF_ok hgl (by simp only [VRT]; exact ⟨_, _, rfl, x0, _, _, rfl, by simp [VR], _, _, rfl, by simp [VR], _, _, rfl, x3, rfl⟩) hL).mono fun e W' ⟨he, hb⟩ => ?_
  exact ⟨_, he, post_law seat_laidOut hW' rfl (by kernel_rfl) Tryd.underlying4 (by kernel_rfl) rfl hb⟩

set_option maxRecDepth 100000 in
theorem StreamBent_lifted (os : Os) (started : os.Started) (H : Type) (enc : TypeId × Value → H) :
    ReturnsInHanded {} Tryd.checked os 5 .any (fun w args => (Rows.streamBentSpec.pre enc Tryd.prog Tryd.f5 [] false w args ∧ laidMetH Tryd.prog laid3 w) ∧ sizedMet enc Tryd.prog Tryd.f5 (OpenSpec.ofChange Rows.streamBentSpec) false w args)
      (Rows.streamBentSpec.post enc Tryd.prog Tryd.f5 false true false false) := by
  refine returnsInHanded_of_change_and (C := Tryd.checked) (X := fun w _ => laidMetH Tryd.prog laid3 w) (fun _ _ _ hh h => h.of_heap hh) seat_own started (by kernel_rfl) Tryd.func5
    (ChangeSpec.witness_shaped (enc := enc) (C := Tryd.checked) (os := os) (X := fun w _ => laidMetH Tryd.prog laid3 w) false (World.doorLaid Tryd.prog 400 os) #[.slice none 0 0, .int .i64 0, .int .i64 0, .agg #[.int .u8 0, .int .u8 0, .int .u8 0, .int .u8 0]] 8 rfl (World.shaped_of_RefB (by kernel_rfl) (by kernel_rfl)) (by kernel_rfl) (by kernel_rfl) (by kernel_rfl) (door_met os _)) ?_
  intro W base args ds gs before hval hW _ _ hL _
  exact StreamBent_contract H enc W base args ds gs before hval hW (glAt_of_laid hL)

theorem StreamBent_row : Rows.StreamBentSaid :=
  OpenClaim.holds_of_wide 5 Tryd.f5 rfl rfl rfl rfl rfl rfl rfl ⟨rfl, rfl, rfl, rfl, rfl⟩ rfl rfl rfl rfl rfl (by kernel_rfl) Tryd.func5 (by kernel_rfl)
    (of_decide_eq_true (by kernel_rfl)) (by unfold Func.isWrapper; first | (rw [if_pos (by decide +kernel)]; kernel_rfl) | (rw [if_neg (by decide +kernel)]; exact ⟨rfl, rfl⟩))
    (fun os started H enc _ => StreamBent_lifted os started H enc)

theorem StreamBent_holds : Rows.StreamBentCardSaid :=
  Claim7.holds_tied_plain_at .later [] [.data, .data, .data] true (true, "436391bd0367c857290e60df24ac93f10df131590b2387774a004c7f8fa412e2") false
    StreamBent_row (fun _ h => by cases h) (by kernel_rfl) (fun _ h => by cases h) streamBent_row_tie rfl ⟨rfl, rfl⟩ (by kernel_rfl) rfl
    (fun f fn hf hfn => by
      obtain rfl : f = 5 := (Option.some.inj ((show Tryd.prog.funcNamed Rows.streamBentRow.func = some 5 by kernel_rfl).symm.trans hf)).symm
      obtain rfl : fn = Tryd.f5 := (Option.some.inj (Tryd.func5.symm.trans hfn)).symm
      exact ⟨by kernel_rfl, fun j t ht => by
        rw [Tryd.params5] at ht
        have hm : t ∈ [22, 3, 3, 44] := by simpa using Array.mem_of_getElem? ht
        have hall : ([22, 3, 3, 44].all fun u => !Tryd.prog.wantsStandIn u) = true := by kernel_rfl
        exact (show Tryd.prog.wantsStandIn t = false by simpa using List.all_eq_true.1 hall t hm)⟩)
    (by kernel_rfl)

#print axioms StreamBent_holds
end Go.Proofs.YtnakicjkolpacaaDoor
