/- What the functions answer: how long is a frame? -/
import Derived.Test.YtnakicjkolpacaaDoorP1
set_option linter.unusedSimpArgs false
set_option linter.unusedVariables false
set_option maxRecDepth 10000
set_option maxHeartbeats 16000000
namespace Go.Proofs.YtnakicjkolpacaaDoor
open Go.AI
attribute [local irreducible] aops aexec acall aiter aop W WO

variable {xf : ExtF} {gf : CallF}

theorem e_bytes_Equal (k : Nat) (t f t' f' : Bool) (a b : List UInt8) : FnV (acall B xf gf (k + 1)) n_bytes_Equal [.islc t f 1 (BL a), .islc t' f' 1 (BL b)] (.bool (decide (a = b))) := by
  refine fn_of B_bytes_Equal rfl ?_
  unfold bytes_Equal
  repeat' (first
   | refine q_s ?_ | refine q_z ?_ | refine wo_streq rfl rfl rfl rfl (fun _ => ?_) (fun _ => ?_) | refine q_mv ?_ | refine q_cmp ?_ | refine q_cmp2 (fun _ => ?_) (fun _ => ?_) | refine q_b2s ?_)
  all_goals (refine ⟨Or.inr rfl, _, rfl, ?_⟩; show AV.bool _ = AV.bool _; simp [*])

theorem e_bytes_HasPrefix (k : Nat) (t f t' f' : Bool) (a b : List UInt8) (ha : a.length < 1000000) (hb : b.length < 1000000) : FnV (acall B xf gf (k + 2)) n_bytes_HasPrefix [.islc t f 1 (BL a), .islc t' f' 1 (BL b)] (.bool (decide (b.length ≤ a.length ∧ a.take b.length = b))) := by
  have he := fun f => e_bytes_Equal (xf := xf) (gf := gf) k t f t' f' (a.take b.length) b
  refine fn_of B_bytes_HasPrefix rfl ?_
  unfold bytes_HasPrefix
  repeat' (first
   | refine q_s ?_ | refine q_z ?_ | refine wo_callB (he _) rfl rfl rfl (fun _ => ?_) (fun _ => ?_) | refine q_n ?_ | refine q_nn ?_ | refine q_mv ?_ | refine q_cmp ?_
    | refine q_cmp2 (fun _ => ?_) (fun _ => ?_) | refine q_pickT ?_ | refine q_pickF ?_ | refine q_len ?_ | refine q_lenS ?_ | refine q_len0 ?_ | refine q_slice0 ?_ | refine q_sliceE ?_
    | refine q_sliceM ?_)
  all_goals (refine ⟨Or.inr rfl, _, rfl, ?_⟩; show AV.bool _ = AV.bool _; congr 1; symm; simp only [cmpP] at *)
  · rename_i h1 h2
    exact decide_eq_true ⟨by omega, of_decide_eq_true h2⟩
  · rename_i h1 h2
    exact decide_eq_false (fun h => of_decide_eq_false h2 h.2)
  · rename_i h1
    exact decide_eq_false (fun h => h1 (by omega))

/-- How long is the frame that bytes begin with; why not? -/
def lenP (l : List UInt8) : Int × Int :=
  if ¬ l.take 4 = ([70, 82, 65, 77] : List UInt8).take l.length then (0, 13)
  else if l.length < 16 then (0, 16)
  else if 520 < leN ((l.drop 12).take 4) then (0, 13)
  else if l.length < 20 + leN ((l.drop 12).take 4) then (0, 16)
  else ((20 + leN ((l.drop 12).take 4) : Nat), 0)

theorem min_toNat (n : Nat) : (min (n : Int) 4).toNat = min n 4 := by omega

theorem e_frame_length (k : Nat) (hk : 8 < k) (t f : Bool) (l : List UInt8) (hl : l.length < 900000) : FnV (acall B xf gf (k + 3)) n_frame_length [.islc t f 1 (BL l)] (.tup [.int .i64 (lenP l).1, .int .i64 (lenP l).2]) := by
  have hm : (([70, 82, 65, 77] : List UInt8).take (min l.length 4)).length = min l.length 4 := by simp
  have hp := e_bytes_HasPrefix (xf := xf) (gf := gf) k t f true false l (([70, 82, 65, 77] : List UInt8).take (min l.length 4)) (by omega) (by simp; omega)
  have hg := e_le_Get (xf := xf) (gf := gf) (k + 1) (by omega) t f l 12 4 (by omega) (by omega)
  have hpe : decide ((([70, 82, 65, 77] : List UInt8).take (min l.length 4)).length ≤ l.length ∧ l.take (([70, 82, 65, 77] : List UInt8).take (min l.length 4)).length = (([70, 82, 65, 77] : List UInt8).take (min l.length 4))) = decide (l.take 4 = ([70, 82, 65, 77] : List UInt8).take l.length) := by
    rw [hm]
    have e1 : l.take (min l.length 4) = l.take 4 := by
      by_cases h : l.length ≤ 4
      · rw [Nat.min_eq_left h, List.take_of_length_le (Nat.le_refl _), List.take_of_length_le h]
      · rw [Nat.min_eq_right (by omega)]
    have e2 : ([70, 82, 65, 77] : List UInt8).take (min l.length 4) = ([70, 82, 65, 77] : List UInt8).take l.length := by
      by_cases h : l.length ≤ 4
      · rw [Nat.min_eq_left h]
      · rw [Nat.min_eq_right (by omega), List.take_of_length_le (by simp), List.take_of_length_le (by simp; omega)]
    rw [e1, e2]
    congr 1
    simp
    intro _
    omega
  rw [hpe] at hp
  have ha : ∀ (T : Tmps) (H : Heap), T 6 = .islc t f 1 (BL l) → T 12 = .slc 0 1 4 1 0 (min (l.length : Int) 4).toNat .none → H 0 = ⟨1, false, .row 1 (BL [70, 82, 65, 77])⟩ →
      ([SArg.t 6, SArg.t 12].map (SArg.ev T)).map (fz false deep H) = [.islc t f 1 (BL l), .islc true false 1 (BL (([70, 82, 65, 77] : List UInt8).take (min l.length 4)))] := by
    intro T H h1 h2 h3
    have e : [SArg.t 6, SArg.t 12].map (SArg.ev T) = [T 6, T 12] := rfl
    rw [e, h1, h2, min_toNat]
    show [_, fz false (4 + 2) H (AV.slc _ _ _ _ _ _ _)] = _
    rw [fz_slcB (row_of (ver := 4) h3 rfl) (by omega)]
    rfl
  by_cases hpre : l.take 4 = ([70, 82, 65, 77] : List UInt8).take l.length
  · rw [decide_eq_true hpre] at hp
    by_cases h16 : l.length < 16
    · refine fn_of B_frame_length rfl ?_
      unfold frame_length
      repeat' (first
       | refine q_s ?_ | refine q_z ?_ | refine q_b ?_ | refine wo_sliceR0 rfl rfl rfl rfl (by omega) (by simp; omega) (by decide) rfl rfl ?_ | refine wo_call hp rfl (ha _ _ rfl rfl rfl) rfl ?_
        | refine wo_call hg rfl rfl rfl ?_ | refine q_mv ?_ | refine q_cmp ?_ | refine q_cmp2 (fun _ => ?_) (fun _ => ?_) | refine q_add ?_ | refine q_notT ?_ | refine q_notF ?_
        | refine q_len ?_ | refine q_lenS ?_ | refine q_len0 ?_ | refine q_ex ?_ | refine q_buildS ?_ | refine q_mn ?_ | refine q_mx ?_ | refine q_slice0 ?_ | refine q_sliceE ?_
        | refine q_sliceM ?_ | refine q_ss ?_)
      refine ⟨Or.inr rfl, _, rfl, ?_⟩
      rw [lenP, if_neg (fun h => h hpre), if_pos h16]
      rfl
    · have hlt := leN_lt ((l.drop 12).take 4)
      have hlen : ((l.drop 12).take 4).length = 4 := by simp; omega
      rw [hlen] at hlt
      rw [getP4 (by omega) (by omega)] at hg
      change FnV _ _ _ (.tup [.int .i64 (leN ((l.drop 12).take 4) : Nat), .int .i64 0]) at hg
      refine fn_of B_frame_length rfl ?_
      unfold frame_length
      repeat' (first
       | refine q_s ?_ | refine q_z ?_ | refine q_b ?_ | refine wo_sliceR0 rfl rfl rfl rfl (by omega) (by simp; omega) (by decide) rfl rfl ?_ | refine wo_call hp rfl (ha _ _ rfl rfl rfl) rfl ?_
        | refine wo_call hg rfl rfl rfl ?_ | refine q_mv ?_ | refine q_cmp ?_ | refine q_cmp2 (fun _ => ?_) (fun _ => ?_) | refine q_add ?_ | refine q_notT ?_ | refine q_notF ?_
        | refine q_len ?_ | refine q_lenS ?_ | refine q_len0 ?_ | refine q_ex ?_ | refine q_buildS ?_ | refine q_mn ?_ | refine q_mx ?_ | refine q_slice0 ?_ | refine q_sliceE ?_
        | refine q_sliceM ?_ | refine q_ss ?_)
      all_goals (refine ⟨Or.inr rfl, _, rfl, ?_⟩)
      all_goals (simp only [cmpP] at *; rw [lenP, if_neg (fun h => h hpre), if_neg h16])
      · rw [if_pos (by omega)]; rfl
      · rw [if_neg (by omega), if_pos (by omega)]; rfl
      · rw [if_neg (by omega), if_neg (by omega)]
        show AV.tup [AV.int _ _, AV.int _ _] = AV.tup [AV.int _ _, AV.int _ _]
        congr 3
        omega
  · rw [decide_eq_false hpre] at hp
    refine fn_of B_frame_length rfl ?_
    unfold frame_length
    repeat' (first
     | refine q_s ?_ | refine q_z ?_ | refine q_b ?_ | refine wo_sliceR0 rfl rfl rfl rfl (by omega) (by simp; omega) (by decide) rfl rfl ?_ | refine wo_call hp rfl (ha _ _ rfl rfl rfl) rfl ?_
      | refine wo_call hg rfl rfl rfl ?_ | refine q_mv ?_ | refine q_cmp ?_ | refine q_cmp2 (fun _ => ?_) (fun _ => ?_) | refine q_add ?_ | refine q_notT ?_ | refine q_notF ?_ | refine q_len ?_
      | refine q_lenS ?_ | refine q_len0 ?_ | refine q_ex ?_ | refine q_buildS ?_ | refine q_mn ?_ | refine q_mx ?_ | refine q_slice0 ?_ | refine q_sliceE ?_ | refine q_sliceM ?_
      | refine q_ss ?_)
    refine ⟨Or.inr rfl, _, rfl, ?_⟩
    rw [lenP, if_pos hpre]
    rfl

end Go.Proofs.YtnakicjkolpacaaDoor
