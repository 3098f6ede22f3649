/- What the functions answer: the numbers of a payload. -/
import Derived.Test.YtnakicjkolpacaaDoorS10
set_option linter.unusedSimpArgs false
set_option linter.unusedVariables false
set_option maxRecDepth 10000
set_option maxHeartbeats 16000000
namespace Go.Proofs.YtnakicjkolpacaaDoor
open Go.AI
attribute [local irreducible] aops aexec acall aiter aop W WO

variable {xf : ExtF} {gf : CallF}

def numO (l : List UInt8) (ss : List Nat) : List Int := match numGo l 0 ss with | some (o, _) => o | none => []
def numB (l : List UInt8) (ss : List Nat) : Bool := match numGo l 0 ss with | some (_, e) => decide (e = l.length) | none => false

/-- What is left to do, behind so many. -/
def numRest (l : List UInt8) (ss : List Nat) (i : Nat) (out : List Int) (a : Nat) : Prop :=
  numGo l 0 ss = (numGo l a (ss.drop i)).map fun (o, e) => (out ++ o, e)

theorem frame_numbers_loop (k : Nat) (hk : 1000000 ≤ k) {T : Tmps} {H : Heap} {t f : Bool} {l : List UInt8} {ss : List Nat} (hl : l.length < 900000) (hss : ∀ s ∈ ss, s = 1 ∨ s = 2 ∨ s = 4 ∨ s = 8) (hn : ss.length < 1000)
    (hT : Has T [(0, .islc t f 1 (BL l)), (6, .slc 1 1 0 1 0 0 .none), (7, .int .i64 0), (12, .islc true false 1 (IL (ss.map fun (s : Nat) => (s : Int)))), (13, .int .i64 ss.length), (14, .int .i64 0)])
    (hH : H 1 = ⟨1, false, .row 1 []⟩) :
    W (aexec (acall B xf gf (k + 1)) xf 0 (k + 1) (.loop frame_numbers_l0) T H) (fun ex T' H' =>
      (ex = .ret ∧ numGo l 0 ss = none ∧ T' 5 = .bool false ∧ ∃ gn, T' 4 = .slc 2 gn 0 1 0 0 .none ∧ H' 2 = ⟨gn, false, .row 1 []⟩) ∨
      (ex = .exit 0 ∧ ∃ out a, numGo l 0 ss = some (out, a) ∧ out.length = ss.length ∧ a ≤ 900000 ∧ T' 0 = .islc t f 1 (BL l) ∧ T' 7 = .int .i64 (a : Nat) ∧ T' 6 = .slc 1 1 out.length 1 0 out.length .none ∧ H' 1 = ⟨1, false, .row 1 (IL out)⟩)) := by
  refine w_loop (fun m T' H' => m ≤ ss.length ∧ ∃ (out : List Int) (a : Nat), a ≤ 900000 ∧ out.length = ss.length - m ∧ numRest l ss (ss.length - m) out a ∧ H' 1 = ⟨1, false, .row 1 (IL out)⟩ ∧
      Has T' [(0, .islc t f 1 (BL l)), (6, .slc 1 1 out.length 1 0 out.length .none), (7, .int .i64 (a : Nat)), (12, .islc true false 1 (IL (ss.map fun (s : Nat) => (s : Int)))), (13, .int .i64 ss.length), (14, .int .i64 (ss.length - m : Nat))])
    ss.length ⟨Nat.le_refl _, [], 0, by omega, by simp, ?_, hH, ?_⟩ (by omega) ?_
  · cases h : numGo l 0 ss <;> simp [numRest, h]
  · obtain ⟨h0, h1, h2, h3, h4, h5, _⟩ := hT
    exact ⟨h0, h1, h2, h3, h4, by rw [h5]; simp, trivial⟩
  rintro m T H hm ⟨_, out, a, ha, hol, hrest, hH, hT⟩
  obtain ⟨i, hi⟩ : ∃ i, i = ss.length - m := ⟨_, rfl⟩
  rw [← hi] at hT hrest hol
  by_cases hm0 : m = 0
  · have hil : i = ss.length := by omega
    rw [hT.eq]
    simp only [over]
    unfold frame_numbers_l0
    repeat' (first
     | refine q_s ?_ | refine q_z ?_ | refine q_b ?_ | refine q_mv ?_ | refine q_load ?_ | refine q_loadI ?_ | refine q_loadR ?_ | refine q_cmp ?_ | refine q_cmp2 (fun _ => ?_) (fun _ => ?_)
      | refine q_add ?_ | refine q_ex ?_ | refine q_at ?_ | refine q_nilrow ?_ | refine q_buildS ?_ | refine q_app fun _ => ?_)
    refine .inr ⟨rfl, out, a, ?_, by omega, ha, rfl, rfl, rfl, hH⟩
    rw [hrest, hil, List.drop_of_length_le (Nat.le_refl _)]
    simp [numGo]
  have hil : i < ss.length := by omega
  have hsi := hss ss[i] (List.getElem_mem hil)
  have hdrop : ss.drop i = ss[i] :: ss.drop (i + 1) := List.drop_eq_getElem_cons hil
  have hI : (IL (ss.map fun (s : Nat) => (s : Int)))[(i : Int).toNat]? = some (.int .i64 (ss[i] : Nat)) := by simp [hil]
  have hg := e_le_Get (xf := xf) (gf := gf) k (by omega) t f l a ss[i] hsi (by omega)
  rw [hT.eq]
  simp only [over]
  unfold frame_numbers_l0
  by_cases hok : (getP l a ss[i]).2 = 0
  · have hin : a + ss[i] ≤ l.length := by
      unfold getP at hok
      split at hok
      · omega
      · simp at hok
    repeat' (first
     | refine q_s ?_ | refine q_z ?_ | refine q_b ?_ | refine wo_atG rfl rfl (by omega) hI rfl rfl ?_ | refine wo_loadI (.int _ _) rfl (Nat.le_of_ble_eq_true rfl) rfl rfl rfl ?_
      | refine wo_call hg rfl rfl rfl ?_ | refine wo_appI rfl rfl rfl hH (by simp) rfl (by omega) rfl rfl (fun _ => ?_) | refine q_mv ?_ | refine q_load ?_ | refine q_loadI ?_
      | refine q_loadR ?_ | refine q_cmp ?_ | refine q_cmp2 (fun _ => ?_) (fun _ => ?_) | refine q_add ?_ | refine q_ex ?_ | refine q_at ?_ | refine q_nilrow ?_ | refine q_buildS ?_
      | refine q_app fun _ => ?_)
    refine ⟨by omega, by omega, out ++ [(getP l a ss[i]).1], a + ss[i], by omega, by simp; omega, ?_, ?_, rfl, ?_, rfl, rfl, rfl, ?_⟩
    · have e1 : ss.length - (m - 1) = i + 1 := by omega
      rw [e1]
      unfold numRest
      rw [hrest, hdrop]
      simp only [numGo, hok, if_true, Option.map_map]
      congr 1
      funext p
      simp
    · rw [IL_append]; rfl
    · rw [List.length_append]; rfl
    · exact ⟨by show AV.int _ _ = AV.int _ _; congr 1; omega, trivial⟩
  · skip
    repeat' (first
     | refine q_s ?_ | refine q_z ?_ | refine q_b ?_ | refine wo_atG rfl rfl (by omega) hI rfl rfl ?_ | refine wo_loadI (.int _ _) rfl (Nat.le_of_ble_eq_true rfl) rfl rfl rfl ?_
      | refine wo_call hg rfl rfl rfl ?_ | refine q_mv ?_ | refine q_load ?_ | refine q_loadI ?_ | refine q_loadR ?_ | refine q_cmp ?_ | refine q_cmp2 (fun _ => ?_) (fun _ => ?_)
      | refine q_add ?_ | refine q_ex ?_ | refine q_at ?_ | refine q_nilrow ?_ | refine q_buildS ?_ | refine q_app fun _ => ?_)
    refine .inl ⟨rfl, ?_, rfl, _, rfl, rfl⟩
    rw [hrest, hdrop]
    simp [numGo, hok]

theorem e_frame_numbers (k : Nat) (hk : 1000000 ≤ k) (t f : Bool) (l : List UInt8) (ss : List Nat) (hl : l.length < 900000) (hss : ∀ s ∈ ss, s = 1 ∨ s = 2 ∨ s = 4 ∨ s = 8) (hn : ss.length < 1000) :
    FnV (acall B xf gf (k + 2)) n_frame_numbers [.islc t f 1 (BL l), .islc true false 1 (IL (ss.map fun (s : Nat) => (s : Int)))] (.tup [.islc false false 1 (IL (numO l ss)), .bool (numB l ss)]) := by
  refine fn_of B_frame_numbers rfl ?_
  unfold frame_numbers
  repeat' (first
   | refine q_s ?_ | refine q_z ?_ | refine q_b ?_ | refine wo_lenG (n := ss.length) rfl (by simp) rfl rfl ?_ | refine q_mv ?_ | refine q_load ?_ | refine q_loadI ?_ | refine q_loadR ?_
    | refine q_cmp ?_ | refine q_cmp2 (fun _ => ?_) (fun _ => ?_) | refine q_add ?_ | refine q_len ?_ | refine q_lenS ?_ | refine q_len0 ?_ | refine q_ex ?_ | refine q_at ?_
    | refine q_nilrow ?_ | refine q_buildS ?_ | refine q_app fun _ => ?_)
  refine (frame_numbers_loop (xf := xf) (gf := gf) k hk hl hss hn (t := t) (f := f) ?_ rfl).mono ?_
  · exact ⟨rfl, rfl, rfl, rfl, rfl, rfl, trivial⟩
  rintro ex T2 H2 (⟨rfl, hn, h5, gn, h4, hH⟩ | ⟨rfl, out, a, hn, hol, ha, h0, h7, h6, hH⟩)
  · refine ⟨Or.inr rfl, .tup [T2 4, T2 5], rfl, ?_⟩
    rw [h4, h5]
    show AV.tup [fz true (3 + 2) H2 (AV.slc _ _ _ _ _ _ _), AV.bool _] = _
    rw [fz_outI (v := 0) (l := []) hH rfl]
    simp [numB, numO, hn]
  · rw [Has.eq (T := T2) (ps := [(0, _), (7, _), (6, _)]) ⟨h0, h7, h6, trivial⟩]
    simp only [over]
    show W _ _
    repeat' (first
     | refine q_s ?_ | refine q_z ?_ | refine q_b ?_ | refine q_mv ?_ | refine q_load ?_ | refine q_loadI ?_ | refine q_loadR ?_ | refine q_cmp ?_ | refine q_cmp2 (fun _ => ?_) (fun _ => ?_)
      | refine q_add ?_ | refine q_len ?_ | refine q_lenS ?_ | refine q_len0 ?_ | refine q_ex ?_ | refine q_at ?_ | refine q_nilrow ?_ | refine q_buildS ?_ | refine q_app fun _ => ?_)
    all_goals (refine ⟨Or.inr rfl, _, rfl, ?_⟩)
    all_goals (simp only [cmpP] at *; show AV.tup [fz true (3 + 2) H2 (AV.slc _ _ _ _ _ _ _), AV.bool _] = _; rw [fz_outI (l := out) hH rfl])
    · rename_i h
      have : a = l.length := by omega
      simp [numO, numB, hn, this]
    · rename_i h
      have : ¬ a = l.length := by omega
      simp [numO, numB, hn, this]

end Go.Proofs.YtnakicjkolpacaaDoor
