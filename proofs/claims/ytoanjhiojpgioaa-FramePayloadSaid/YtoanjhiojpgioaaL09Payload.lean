/- woodcutlaw09: FramePayload, by the interpreter. -/
import Derived.Test.YtoanjhiojpgioaaP3
import Derived.Test.YtoanjhiojpgioaaS6
import Derived.Test.YtoanjhiojpgioaaS15
set_option linter.unusedSimpArgs false
set_option linter.unusedVariables false
set_option maxRecDepth 10000
set_option maxHeartbeats 16000000
namespace Go.Proofs.Ytoanjhiojpgioaa
open Go.AI
attribute [local irreducible] aops aexec acall aiter aop W WO

variable {xf : ExtF}

theorem frB_mid (seq : Int) (c : Cmd) : ((frB seq c).drop 16).take ((frB seq c).length - 4 - 16) = payB c := by
  rw [frB_length]
  have : frB seq c = ([70, 82, 65, 77] ++ (leB 4 seq ++ (leB 4 c.kind ++ leB 4 ((payB c).length : Int)))) ++ (payB c ++ leB 4 (crcMore 0 (frH seq c))) := by
    rw [frB_eq]; simp
  rw [this, List.drop_left' (by simp), List.take_left' (by omega)]

theorem law_FramePayload (c : Cmd) (hc : CmdR c) (d : Cmd) (hd : CmdR d) (seq : Int) : ∃ H, acall B xf cloneF 1000010 n_law09_FramePayload 0 [.agg (Cmd.cells c), .agg (Cmd.cells d), .int .i64 seq] Heap.none = some (.bool true, H) := by
  suffices h : FnV (acall B xf cloneF 1000010) n_law09_FramePayload [.agg (Cmd.cells c), .agg (Cmd.cells d), .int .i64 seq] (.bool true) by
    obtain ⟨u, H, h1, h2⟩ := h
    refine ⟨H, ?_⟩
    rw [h1, fz_true h2]
  have hw := e_wakes (xf := xf) (gf := cloneF)
  by_cases hl : 1500 < c.data.length ∨ 1500 < d.data.length
  · refine fn_of B_law09_FramePayload rfl ?_
    unfold law09_FramePayload Cmd.cells
    by_cases h1 : 1500 < c.data.length
    · skip
      repeat' (first
       | refine wo_nil ?_
       | refine w_seq ?_
       | refine w_region ?_
       | refine w_ret ?_
       | refine w_skip ?_
       | refine w_exit ?_
       | refine w_block ?_
       | refine w_true rfl ?_
       | refine w_false rfl ?_
       | refine wo_n rfl ?_
       | refine wo_nn rfl ?_
       | refine wo_mv _ (by conv => lhs; whnf) rfl rfl ?_
       | refine wo_faddr rfl rfl rfl ?_
       | (refine is_load ?_; first | refine wo_load _ rfl rfl rfl (Nat.le_of_ble_eq_true rfl) (by conv => lhs; whnf) rfl rfl ?_ | refine wo_loadI _ rfl (Nat.le_of_ble_eq_true rfl) (by conv => lhs; whnf) rfl rfl ?_)
       | (refine is_bin ?_; first | refine wo_cmpT rfl rfl rfl (by first | (simp only [cmpP]; done) | (simp only [cmpP]; omega)) rfl rfl ?_ | refine wo_cmpF rfl rfl rfl (by first | (simp only [cmpP]; done) | (simp only [cmpP]; omega)) rfl rfl ?_ | refine wo_cmp rfl rfl rfl rfl rfl (fun _ => ?_) (fun _ => ?_) | refine wo_add rfl rfl (by omega) rfl rfl ?_ | refine wo_sub rfl rfl (by omega) rfl rfl ?_ | refine wo_rem rfl rfl (by omega) (by omega) rfl rfl ?_ | refine wo_bin (.int _ _) rfl rfl rfl ?_)
       | (refine is_pick ?_; first | refine wo_pickT _ rfl (by conv => lhs; whnf) rfl rfl ?_ | refine wo_pickF _ rfl (by conv => lhs; whnf) rfl rfl ?_)
       | (refine is_un ?_; first | refine wo_notT rfl rfl rfl ?_ | refine wo_notF rfl rfl rfl ?_)
       | (refine is_len ?_; first | refine wo_len rfl rfl rfl ?_ | refine wo_lenS rfl rfl rfl ?_ | refine wo_len0 rfl rfl rfl ?_)
       | refine wo_extractW rfl rfl (by conv => lhs; whnf) rfl rfl ?_
       | refine wo_box _ (by conv => lhs; whnf) (by rfl) rfl rfl ?_
       | (refine is_eqb ?_; first | refine wo_eqb true rfl rfl rfl rfl rfl ?_ | refine wo_eqb false rfl rfl rfl rfl rfl ?_)
       | (refine is_cvi ?_; first | refine wo_to64 rfl (by omega) rfl rfl ?_ | refine wo_tou64 rfl (by omega) rfl rfl ?_ | refine wo_cvu rfl rfl rfl ?_ | refine wo_cvi rfl rfl rfl ?_)
       | (refine is_slice ?_; first | refine wo_slice0 rfl (by (first | exact Or.inl rfl | exact Or.inr rfl | assumption)) rfl (by omega) (by omega) rfl rfl ?_ | refine wo_sliceE rfl (by (first | exact Or.inl rfl | exact Or.inr rfl | assumption)) rfl (by omega) (by omega) rfl rfl ?_ | refine wo_sliceM rfl (by (first | exact Or.inl rfl | exact Or.inr rfl | assumption)) rfl rfl (by omega) (by omega) (by omega) rfl rfl ?_))
      exact ⟨Or.inr rfl, _, rfl, rfl⟩
    · skip
      repeat' (first
       | refine wo_nil ?_
       | refine w_seq ?_
       | refine w_region ?_
       | refine w_ret ?_
       | refine w_skip ?_
       | refine w_exit ?_
       | refine w_block ?_
       | refine w_true rfl ?_
       | refine w_false rfl ?_
       | refine wo_n rfl ?_
       | refine wo_nn rfl ?_
       | refine wo_mv _ (by conv => lhs; whnf) rfl rfl ?_
       | refine wo_faddr rfl rfl rfl ?_
       | (refine is_load ?_; first | refine wo_load _ rfl rfl rfl (Nat.le_of_ble_eq_true rfl) (by conv => lhs; whnf) rfl rfl ?_ | refine wo_loadI _ rfl (Nat.le_of_ble_eq_true rfl) (by conv => lhs; whnf) rfl rfl ?_)
       | (refine is_bin ?_; first | refine wo_cmpT rfl rfl rfl (by first | (simp only [cmpP]; done) | (simp only [cmpP]; omega)) rfl rfl ?_ | refine wo_cmpF rfl rfl rfl (by first | (simp only [cmpP]; done) | (simp only [cmpP]; omega)) rfl rfl ?_ | refine wo_cmp rfl rfl rfl rfl rfl (fun _ => ?_) (fun _ => ?_) | refine wo_add rfl rfl (by omega) rfl rfl ?_ | refine wo_sub rfl rfl (by omega) rfl rfl ?_ | refine wo_rem rfl rfl (by omega) (by omega) rfl rfl ?_ | refine wo_bin (.int _ _) rfl rfl rfl ?_)
       | (refine is_pick ?_; first | refine wo_pickT _ rfl (by conv => lhs; whnf) rfl rfl ?_ | refine wo_pickF _ rfl (by conv => lhs; whnf) rfl rfl ?_)
       | (refine is_un ?_; first | refine wo_notT rfl rfl rfl ?_ | refine wo_notF rfl rfl rfl ?_)
       | (refine is_len ?_; first | refine wo_len rfl rfl rfl ?_ | refine wo_lenS rfl rfl rfl ?_ | refine wo_len0 rfl rfl rfl ?_)
       | refine wo_extractW rfl rfl (by conv => lhs; whnf) rfl rfl ?_
       | refine wo_box _ (by conv => lhs; whnf) (by rfl) rfl rfl ?_
       | (refine is_eqb ?_; first | refine wo_eqb true rfl rfl rfl rfl rfl ?_ | refine wo_eqb false rfl rfl rfl rfl rfl ?_)
       | (refine is_cvi ?_; first | refine wo_to64 rfl (by omega) rfl rfl ?_ | refine wo_tou64 rfl (by omega) rfl rfl ?_ | refine wo_cvu rfl rfl rfl ?_ | refine wo_cvi rfl rfl rfl ?_)
       | (refine is_slice ?_; first | refine wo_slice0 rfl (by (first | exact Or.inl rfl | exact Or.inr rfl | assumption)) rfl (by omega) (by omega) rfl rfl ?_ | refine wo_sliceE rfl (by (first | exact Or.inl rfl | exact Or.inr rfl | assumption)) rfl (by omega) (by omega) rfl rfl ?_ | refine wo_sliceM rfl (by (first | exact Or.inl rfl | exact Or.inr rfl | assumption)) rfl rfl (by omega) (by omega) (by omega) rfl rfl ?_))
      exact ⟨Or.inr rfl, _, rfl, rfl⟩
  have hp := e_frame_Payload (xf := xf) (gf := cloneF) 1000004 (by omega) false false 1 c (by omega) (.inl rfl) (.inl rfl)
  have hq := e_frame_Payload (xf := xf) (gf := cloneF) 1000004 (by omega) false false 1 d (by omega) (.inl rfl) (.inl rfl)
  have hb := e_frame_Bytes (xf := xf) (gf := cloneF) 1000003 (by omega) false false 1 (seq % 18446744073709551616 % 4294967296) c (by omega) (.inl rfl) (.inl rfl)
  have hlen := frB_length (seq % 18446744073709551616 % 4294967296) c
  have hpl := payB_length c
  have hpl2 := payB_length d
  have hmid := frB_mid (seq % 18446744073709551616 % 4294967296) c
  by_cases h1 : chkP c
  · rw [if_pos h1] at hp
    rw [if_pos (show chkP c ∧ 0 ≤ seq % 18446744073709551616 % 4294967296 ∧ seq % 18446744073709551616 % 4294967296 ≤ 4294967295 from ⟨h1, by omega⟩)] at hb
    obtain ⟨x, hx⟩ : ∃ x, x = frB (seq % 18446744073709551616 % 4294967296) c := ⟨_, rfl⟩
    rw [← hx] at hb hlen hmid
    have hk1 := fun f => e_keep_Bytes (xf := xf) (gf := cloneF) 1000008 (by omega) false f false false 1 1 (((x.drop (16 : Int).toNat).take (((x.length : Int) - 4).toNat - (16 : Int).toNat))) (payB c) (by simp; omega) (by omega) (.inl rfl) (.inl rfl)
    have e16 : (x.drop (16 : Int).toNat).take (((x.length : Int) - 4).toNat - (16 : Int).toNat) = payB c := by
      rw [← hmid]; congr 1; omega
    rw [decide_eq_true e16] at hk1
    by_cases h2 : chkP d
    · rw [if_pos h2] at hq
      have hk2 := e_keep_Bytes (xf := xf) (gf := cloneF) 1000008 (by omega) false false false false 1 1 (payB c) (payB d) (by omega) (by omega) (.inl rfl) (.inl rfl)
      obtain ⟨r, hr, hk3⟩ := e_keep_Command (xf := xf) (gf := cloneF) 1000007 (by omega) false false false false 1 1 c d (by omega) (by omega) (.inl rfl) (.inl rfl)
      by_cases hk : c.kind = d.kind
      · have hrd : r = decide (payB c = payB d) := by
          by_cases he : payB c = payB d
          · rw [decide_eq_true he]; exact hr.2 (payB_inj h1 h2 hk he)
          · rw [decide_eq_false he]
            cases r with
            | false => rfl
            | true => exact absurd (by rw [hr.1 rfl]) he
        rw [hrd] at hk3
        refine fn_of B_law09_FramePayload rfl ?_
        unfold law09_FramePayload Cmd.cells
        unfold Cmd.av at hp hq hb hk3
        cases hdec : decide (payB c = payB d)
        all_goals simp only [hdec] at hk2 hk3
        · skip
          repeat' (first
           | refine wo_nil ?_
           | refine w_seq ?_
           | refine w_region ?_
           | refine w_ret ?_
           | refine w_skip ?_
           | refine w_exit ?_
           | refine w_block ?_
           | refine w_true rfl ?_
           | refine w_false rfl ?_
           | refine wo_n rfl ?_
           | refine wo_nn rfl ?_
           | refine wo_call hp rfl rfl rfl ?_
           | refine wo_call hq rfl rfl rfl ?_
           | refine wo_call hb rfl rfl rfl ?_
           | refine wo_call (hk1 _) rfl rfl rfl ?_
           | refine wo_call hk2 rfl rfl rfl ?_
           | refine wo_call hk3 rfl rfl rfl ?_
           | refine wo_call hw rfl rfl rfl ?_
           | refine wo_mv _ (by conv => lhs; whnf) rfl rfl ?_
           | refine wo_faddr rfl rfl rfl ?_
           | (refine is_load ?_; first | refine wo_load _ rfl rfl rfl (Nat.le_of_ble_eq_true rfl) (by conv => lhs; whnf) rfl rfl ?_ | refine wo_loadI _ rfl (Nat.le_of_ble_eq_true rfl) (by conv => lhs; whnf) rfl rfl ?_)
           | (refine is_bin ?_; first | refine wo_cmpT rfl rfl rfl (by first | (simp only [cmpP]; done) | (simp only [cmpP]; omega)) rfl rfl ?_ | refine wo_cmpF rfl rfl rfl (by first | (simp only [cmpP]; done) | (simp only [cmpP]; omega)) rfl rfl ?_ | refine wo_cmp rfl rfl rfl rfl rfl (fun _ => ?_) (fun _ => ?_) | refine wo_add rfl rfl (by omega) rfl rfl ?_ | refine wo_sub rfl rfl (by omega) rfl rfl ?_ | refine wo_rem rfl rfl (by omega) (by omega) rfl rfl ?_ | refine wo_bin (.int _ _) rfl rfl rfl ?_)
           | (refine is_pick ?_; first | refine wo_pickT _ rfl (by conv => lhs; whnf) rfl rfl ?_ | refine wo_pickF _ rfl (by conv => lhs; whnf) rfl rfl ?_)
           | (refine is_un ?_; first | refine wo_notT rfl rfl rfl ?_ | refine wo_notF rfl rfl rfl ?_)
           | (refine is_len ?_; first | refine wo_len rfl rfl rfl ?_ | refine wo_lenS rfl rfl rfl ?_ | refine wo_len0 rfl rfl rfl ?_)
           | refine wo_extractW rfl rfl (by conv => lhs; whnf) rfl rfl ?_
           | refine wo_box _ (by conv => lhs; whnf) (by rfl) rfl rfl ?_
           | (refine is_eqb ?_; first | refine wo_eqb true rfl rfl rfl rfl rfl ?_ | refine wo_eqb false rfl rfl rfl rfl rfl ?_)
           | (refine is_cvi ?_; first | refine wo_to64 rfl (by omega) rfl rfl ?_ | refine wo_tou64 rfl (by omega) rfl rfl ?_ | refine wo_cvu rfl rfl rfl ?_ | refine wo_cvi rfl rfl rfl ?_)
           | (refine is_slice ?_; first | refine wo_slice0 rfl (by (first | exact Or.inl rfl | exact Or.inr rfl | assumption)) rfl (by omega) (by omega) rfl rfl ?_ | refine wo_sliceE rfl (by (first | exact Or.inl rfl | exact Or.inr rfl | assumption)) rfl (by omega) (by omega) rfl rfl ?_ | refine wo_sliceM rfl (by (first | exact Or.inl rfl | exact Or.inr rfl | assumption)) rfl rfl (by omega) (by omega) (by omega) rfl rfl ?_))
          exact ⟨Or.inr rfl, _, rfl, rfl⟩
        · skip
          repeat' (first
           | refine wo_nil ?_
           | refine w_seq ?_
           | refine w_region ?_
           | refine w_ret ?_
           | refine w_skip ?_
           | refine w_exit ?_
           | refine w_block ?_
           | refine w_true rfl ?_
           | refine w_false rfl ?_
           | refine wo_n rfl ?_
           | refine wo_nn rfl ?_
           | refine wo_call hp rfl rfl rfl ?_
           | refine wo_call hq rfl rfl rfl ?_
           | refine wo_call hb rfl rfl rfl ?_
           | refine wo_call (hk1 _) rfl rfl rfl ?_
           | refine wo_call hk2 rfl rfl rfl ?_
           | refine wo_call hk3 rfl rfl rfl ?_
           | refine wo_call hw rfl rfl rfl ?_
           | refine wo_mv _ (by conv => lhs; whnf) rfl rfl ?_
           | refine wo_faddr rfl rfl rfl ?_
           | (refine is_load ?_; first | refine wo_load _ rfl rfl rfl (Nat.le_of_ble_eq_true rfl) (by conv => lhs; whnf) rfl rfl ?_ | refine wo_loadI _ rfl (Nat.le_of_ble_eq_true rfl) (by conv => lhs; whnf) rfl rfl ?_)
           | (refine is_bin ?_; first | refine wo_cmpT rfl rfl rfl (by first | (simp only [cmpP]; done) | (simp only [cmpP]; omega)) rfl rfl ?_ | refine wo_cmpF rfl rfl rfl (by first | (simp only [cmpP]; done) | (simp only [cmpP]; omega)) rfl rfl ?_ | refine wo_cmp rfl rfl rfl rfl rfl (fun _ => ?_) (fun _ => ?_) | refine wo_add rfl rfl (by omega) rfl rfl ?_ | refine wo_sub rfl rfl (by omega) rfl rfl ?_ | refine wo_rem rfl rfl (by omega) (by omega) rfl rfl ?_ | refine wo_bin (.int _ _) rfl rfl rfl ?_)
           | (refine is_pick ?_; first | refine wo_pickT _ rfl (by conv => lhs; whnf) rfl rfl ?_ | refine wo_pickF _ rfl (by conv => lhs; whnf) rfl rfl ?_)
           | (refine is_un ?_; first | refine wo_notT rfl rfl rfl ?_ | refine wo_notF rfl rfl rfl ?_)
           | (refine is_len ?_; first | refine wo_len rfl rfl rfl ?_ | refine wo_lenS rfl rfl rfl ?_ | refine wo_len0 rfl rfl rfl ?_)
           | refine wo_extractW rfl rfl (by conv => lhs; whnf) rfl rfl ?_
           | refine wo_box _ (by conv => lhs; whnf) (by rfl) rfl rfl ?_
           | (refine is_eqb ?_; first | refine wo_eqb true rfl rfl rfl rfl rfl ?_ | refine wo_eqb false rfl rfl rfl rfl rfl ?_)
           | (refine is_cvi ?_; first | refine wo_to64 rfl (by omega) rfl rfl ?_ | refine wo_tou64 rfl (by omega) rfl rfl ?_ | refine wo_cvu rfl rfl rfl ?_ | refine wo_cvi rfl rfl rfl ?_)
           | (refine is_slice ?_; first | refine wo_slice0 rfl (by (first | exact Or.inl rfl | exact Or.inr rfl | assumption)) rfl (by omega) (by omega) rfl rfl ?_ | refine wo_sliceE rfl (by (first | exact Or.inl rfl | exact Or.inr rfl | assumption)) rfl (by omega) (by omega) rfl rfl ?_ | refine wo_sliceM rfl (by (first | exact Or.inl rfl | exact Or.inr rfl | assumption)) rfl rfl (by omega) (by omega) (by omega) rfl rfl ?_))
          exact ⟨Or.inr rfl, _, rfl, rfl⟩
      · refine fn_of B_law09_FramePayload rfl ?_
        unfold law09_FramePayload Cmd.cells
        unfold Cmd.av at hp hq hb hk3
        repeat' (first
         | refine wo_nil ?_
         | refine w_seq ?_
         | refine w_region ?_
         | refine w_ret ?_
         | refine w_skip ?_
         | refine w_exit ?_
         | refine w_block ?_
         | refine w_true rfl ?_
         | refine w_false rfl ?_
         | refine wo_n rfl ?_
         | refine wo_nn rfl ?_
         | refine wo_call hp rfl rfl rfl ?_
         | refine wo_call hq rfl rfl rfl ?_
         | refine wo_call hb rfl rfl rfl ?_
         | refine wo_call (hk1 _) rfl rfl rfl ?_
         | refine wo_call hw rfl rfl rfl ?_
         | refine wo_mv _ (by conv => lhs; whnf) rfl rfl ?_
         | refine wo_faddr rfl rfl rfl ?_
         | (refine is_load ?_; first | refine wo_load _ rfl rfl rfl (Nat.le_of_ble_eq_true rfl) (by conv => lhs; whnf) rfl rfl ?_ | refine wo_loadI _ rfl (Nat.le_of_ble_eq_true rfl) (by conv => lhs; whnf) rfl rfl ?_)
         | (refine is_bin ?_; first | refine wo_cmpT rfl rfl rfl (by first | (simp only [cmpP]; done) | (simp only [cmpP]; omega)) rfl rfl ?_ | refine wo_cmpF rfl rfl rfl (by first | (simp only [cmpP]; done) | (simp only [cmpP]; omega)) rfl rfl ?_ | refine wo_cmp rfl rfl rfl rfl rfl (fun _ => ?_) (fun _ => ?_) | refine wo_add rfl rfl (by omega) rfl rfl ?_ | refine wo_sub rfl rfl (by omega) rfl rfl ?_ | refine wo_rem rfl rfl (by omega) (by omega) rfl rfl ?_ | refine wo_bin (.int _ _) rfl rfl rfl ?_)
         | (refine is_pick ?_; first | refine wo_pickT _ rfl (by conv => lhs; whnf) rfl rfl ?_ | refine wo_pickF _ rfl (by conv => lhs; whnf) rfl rfl ?_)
         | (refine is_un ?_; first | refine wo_notT rfl rfl rfl ?_ | refine wo_notF rfl rfl rfl ?_)
         | (refine is_len ?_; first | refine wo_len rfl rfl rfl ?_ | refine wo_lenS rfl rfl rfl ?_ | refine wo_len0 rfl rfl rfl ?_)
         | refine wo_extractW rfl rfl (by conv => lhs; whnf) rfl rfl ?_
         | refine wo_box _ (by conv => lhs; whnf) (by rfl) rfl rfl ?_
         | (refine is_eqb ?_; first | refine wo_eqb true rfl rfl rfl rfl rfl ?_ | refine wo_eqb false rfl rfl rfl rfl rfl ?_)
         | (refine is_cvi ?_; first | refine wo_to64 rfl (by omega) rfl rfl ?_ | refine wo_tou64 rfl (by omega) rfl rfl ?_ | refine wo_cvu rfl rfl rfl ?_ | refine wo_cvi rfl rfl rfl ?_)
         | (refine is_slice ?_; first | refine wo_slice0 rfl (by (first | exact Or.inl rfl | exact Or.inr rfl | assumption)) rfl (by omega) (by omega) rfl rfl ?_ | refine wo_sliceE rfl (by (first | exact Or.inl rfl | exact Or.inr rfl | assumption)) rfl (by omega) (by omega) rfl rfl ?_ | refine wo_sliceM rfl (by (first | exact Or.inl rfl | exact Or.inr rfl | assumption)) rfl rfl (by omega) (by omega) (by omega) rfl rfl ?_))
        exact ⟨Or.inr rfl, _, rfl, rfl⟩
    · rw [if_neg h2] at hq
      refine fn_of B_law09_FramePayload rfl ?_
      unfold law09_FramePayload Cmd.cells
      unfold Cmd.av at hp hq hb
      repeat' (first
       | refine wo_nil ?_
       | refine w_seq ?_
       | refine w_region ?_
       | refine w_ret ?_
       | refine w_skip ?_
       | refine w_exit ?_
       | refine w_block ?_
       | refine w_true rfl ?_
       | refine w_false rfl ?_
       | refine wo_n rfl ?_
       | refine wo_nn rfl ?_
       | refine wo_call hp rfl rfl rfl ?_
       | refine wo_call hq rfl rfl rfl ?_
       | refine wo_call hb rfl rfl rfl ?_
       | refine wo_call hw rfl rfl rfl ?_
       | refine wo_mv _ (by conv => lhs; whnf) rfl rfl ?_
       | refine wo_faddr rfl rfl rfl ?_
       | (refine is_load ?_; first | refine wo_load _ rfl rfl rfl (Nat.le_of_ble_eq_true rfl) (by conv => lhs; whnf) rfl rfl ?_ | refine wo_loadI _ rfl (Nat.le_of_ble_eq_true rfl) (by conv => lhs; whnf) rfl rfl ?_)
       | (refine is_bin ?_; first | refine wo_cmpT rfl rfl rfl (by first | (simp only [cmpP]; done) | (simp only [cmpP]; omega)) rfl rfl ?_ | refine wo_cmpF rfl rfl rfl (by first | (simp only [cmpP]; done) | (simp only [cmpP]; omega)) rfl rfl ?_ | refine wo_cmp rfl rfl rfl rfl rfl (fun _ => ?_) (fun _ => ?_) | refine wo_add rfl rfl (by omega) rfl rfl ?_ | refine wo_sub rfl rfl (by omega) rfl rfl ?_ | refine wo_rem rfl rfl (by omega) (by omega) rfl rfl ?_ | refine wo_bin (.int _ _) rfl rfl rfl ?_)
       | (refine is_pick ?_; first | refine wo_pickT _ rfl (by conv => lhs; whnf) rfl rfl ?_ | refine wo_pickF _ rfl (by conv => lhs; whnf) rfl rfl ?_)
       | (refine is_un ?_; first | refine wo_notT rfl rfl rfl ?_ | refine wo_notF rfl rfl rfl ?_)
       | (refine is_len ?_; first | refine wo_len rfl rfl rfl ?_ | refine wo_lenS rfl rfl rfl ?_ | refine wo_len0 rfl rfl rfl ?_)
       | refine wo_extractW rfl rfl (by conv => lhs; whnf) rfl rfl ?_
       | refine wo_box _ (by conv => lhs; whnf) (by rfl) rfl rfl ?_
       | (refine is_eqb ?_; first | refine wo_eqb true rfl rfl rfl rfl rfl ?_ | refine wo_eqb false rfl rfl rfl rfl rfl ?_)
       | (refine is_cvi ?_; first | refine wo_to64 rfl (by omega) rfl rfl ?_ | refine wo_tou64 rfl (by omega) rfl rfl ?_ | refine wo_cvu rfl rfl rfl ?_ | refine wo_cvi rfl rfl rfl ?_)
       | (refine is_slice ?_; first | refine wo_slice0 rfl (by (first | exact Or.inl rfl | exact Or.inr rfl | assumption)) rfl (by omega) (by omega) rfl rfl ?_ | refine wo_sliceE rfl (by (first | exact Or.inl rfl | exact Or.inr rfl | assumption)) rfl (by omega) (by omega) rfl rfl ?_ | refine wo_sliceM rfl (by (first | exact Or.inl rfl | exact Or.inr rfl | assumption)) rfl rfl (by omega) (by omega) (by omega) rfl rfl ?_))
      exact ⟨Or.inr rfl, _, rfl, rfl⟩
  · rw [if_neg h1] at hp
    rw [if_neg (fun h => h1 h.1)] at hb
    refine fn_of B_law09_FramePayload rfl ?_
    unfold law09_FramePayload Cmd.cells
    by_cases h2 : chkP d
    all_goals simp only [h2, if_true, if_false] at hq
    all_goals unfold Cmd.av at hp hq hb
    · skip
      repeat' (first
       | refine wo_nil ?_
       | refine w_seq ?_
       | refine w_region ?_
       | refine w_ret ?_
       | refine w_skip ?_
       | refine w_exit ?_
       | refine w_block ?_
       | refine w_true rfl ?_
       | refine w_false rfl ?_
       | refine wo_n rfl ?_
       | refine wo_nn rfl ?_
       | refine wo_call hp rfl rfl rfl ?_
       | refine wo_call hq rfl rfl rfl ?_
       | refine wo_call hb rfl rfl rfl ?_
       | refine wo_call hw rfl rfl rfl ?_
       | refine wo_lenG (n := 0) rfl rfl rfl rfl ?_
       | refine wo_mv _ (by conv => lhs; whnf) rfl rfl ?_
       | refine wo_faddr rfl rfl rfl ?_
       | (refine is_load ?_; first | refine wo_load _ rfl rfl rfl (Nat.le_of_ble_eq_true rfl) (by conv => lhs; whnf) rfl rfl ?_ | refine wo_loadI _ rfl (Nat.le_of_ble_eq_true rfl) (by conv => lhs; whnf) rfl rfl ?_)
       | (refine is_bin ?_; first | refine wo_cmpT rfl rfl rfl (by first | (simp only [cmpP]; done) | (simp only [cmpP]; omega)) rfl rfl ?_ | refine wo_cmpF rfl rfl rfl (by first | (simp only [cmpP]; done) | (simp only [cmpP]; omega)) rfl rfl ?_ | refine wo_cmp rfl rfl rfl rfl rfl (fun _ => ?_) (fun _ => ?_) | refine wo_add rfl rfl (by omega) rfl rfl ?_ | refine wo_sub rfl rfl (by omega) rfl rfl ?_ | refine wo_rem rfl rfl (by omega) (by omega) rfl rfl ?_ | refine wo_bin (.int _ _) rfl rfl rfl ?_)
       | (refine is_pick ?_; first | refine wo_pickT _ rfl (by conv => lhs; whnf) rfl rfl ?_ | refine wo_pickF _ rfl (by conv => lhs; whnf) rfl rfl ?_)
       | (refine is_un ?_; first | refine wo_notT rfl rfl rfl ?_ | refine wo_notF rfl rfl rfl ?_)
       | (refine is_len ?_; first | refine wo_len rfl rfl rfl ?_ | refine wo_lenS rfl rfl rfl ?_ | refine wo_len0 rfl rfl rfl ?_)
       | refine wo_extractW rfl rfl (by conv => lhs; whnf) rfl rfl ?_
       | refine wo_box _ (by conv => lhs; whnf) (by rfl) rfl rfl ?_
       | (refine is_eqb ?_; first | refine wo_eqb true rfl rfl rfl rfl rfl ?_ | refine wo_eqb false rfl rfl rfl rfl rfl ?_)
       | (refine is_cvi ?_; first | refine wo_to64 rfl (by omega) rfl rfl ?_ | refine wo_tou64 rfl (by omega) rfl rfl ?_ | refine wo_cvu rfl rfl rfl ?_ | refine wo_cvi rfl rfl rfl ?_)
       | (refine is_slice ?_; first | refine wo_slice0 rfl (by (first | exact Or.inl rfl | exact Or.inr rfl | assumption)) rfl (by omega) (by omega) rfl rfl ?_ | refine wo_sliceE rfl (by (first | exact Or.inl rfl | exact Or.inr rfl | assumption)) rfl (by omega) (by omega) rfl rfl ?_ | refine wo_sliceM rfl (by (first | exact Or.inl rfl | exact Or.inr rfl | assumption)) rfl rfl (by omega) (by omega) (by omega) rfl rfl ?_))
      exact ⟨Or.inr rfl, _, rfl, rfl⟩
    · skip
      repeat' (first
       | refine wo_nil ?_
       | refine w_seq ?_
       | refine w_region ?_
       | refine w_ret ?_
       | refine w_skip ?_
       | refine w_exit ?_
       | refine w_block ?_
       | refine w_true rfl ?_
       | refine w_false rfl ?_
       | refine wo_n rfl ?_
       | refine wo_nn rfl ?_
       | refine wo_call hp rfl rfl rfl ?_
       | refine wo_call hq rfl rfl rfl ?_
       | refine wo_call hb rfl rfl rfl ?_
       | refine wo_call hw rfl rfl rfl ?_
       | refine wo_lenG (n := 0) rfl rfl rfl rfl ?_
       | refine wo_mv _ (by conv => lhs; whnf) rfl rfl ?_
       | refine wo_faddr rfl rfl rfl ?_
       | (refine is_load ?_; first | refine wo_load _ rfl rfl rfl (Nat.le_of_ble_eq_true rfl) (by conv => lhs; whnf) rfl rfl ?_ | refine wo_loadI _ rfl (Nat.le_of_ble_eq_true rfl) (by conv => lhs; whnf) rfl rfl ?_)
       | (refine is_bin ?_; first | refine wo_cmpT rfl rfl rfl (by first | (simp only [cmpP]; done) | (simp only [cmpP]; omega)) rfl rfl ?_ | refine wo_cmpF rfl rfl rfl (by first | (simp only [cmpP]; done) | (simp only [cmpP]; omega)) rfl rfl ?_ | refine wo_cmp rfl rfl rfl rfl rfl (fun _ => ?_) (fun _ => ?_) | refine wo_add rfl rfl (by omega) rfl rfl ?_ | refine wo_sub rfl rfl (by omega) rfl rfl ?_ | refine wo_rem rfl rfl (by omega) (by omega) rfl rfl ?_ | refine wo_bin (.int _ _) rfl rfl rfl ?_)
       | (refine is_pick ?_; first | refine wo_pickT _ rfl (by conv => lhs; whnf) rfl rfl ?_ | refine wo_pickF _ rfl (by conv => lhs; whnf) rfl rfl ?_)
       | (refine is_un ?_; first | refine wo_notT rfl rfl rfl ?_ | refine wo_notF rfl rfl rfl ?_)
       | (refine is_len ?_; first | refine wo_len rfl rfl rfl ?_ | refine wo_lenS rfl rfl rfl ?_ | refine wo_len0 rfl rfl rfl ?_)
       | refine wo_extractW rfl rfl (by conv => lhs; whnf) rfl rfl ?_
       | refine wo_box _ (by conv => lhs; whnf) (by rfl) rfl rfl ?_
       | (refine is_eqb ?_; first | refine wo_eqb true rfl rfl rfl rfl rfl ?_ | refine wo_eqb false rfl rfl rfl rfl rfl ?_)
       | (refine is_cvi ?_; first | refine wo_to64 rfl (by omega) rfl rfl ?_ | refine wo_tou64 rfl (by omega) rfl rfl ?_ | refine wo_cvu rfl rfl rfl ?_ | refine wo_cvi rfl rfl rfl ?_)
       | (refine is_slice ?_; first | refine wo_slice0 rfl (by (first | exact Or.inl rfl | exact Or.inr rfl | assumption)) rfl (by omega) (by omega) rfl rfl ?_ | refine wo_sliceE rfl (by (first | exact Or.inl rfl | exact Or.inr rfl | assumption)) rfl (by omega) (by omega) rfl rfl ?_ | refine wo_sliceM rfl (by (first | exact Or.inl rfl | exact Or.inr rfl | assumption)) rfl rfl (by omega) (by omega) (by omega) rfl rfl ?_))
      exact ⟨Or.inr rfl, _, rfl, rfl⟩

end Go.Proofs.Ytoanjhiojpgioaa
