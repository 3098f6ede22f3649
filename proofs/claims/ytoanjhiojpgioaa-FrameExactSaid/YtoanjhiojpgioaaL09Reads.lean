/- woodcutlaw09: FrameReads, by the interpreter. -/
import Derived.Test.YtoanjhiojpgioaaP2
import Derived.Test.YtoanjhiojpgioaaS6
import Derived.Test.YtoanjhiojpgioaaS15
set_option linter.unusedSimpArgs false
set_option linter.unusedVariables false
set_option maxRecDepth 10000
set_option maxHeartbeats 16000000
namespace Go.Proofs.Ytoanjhiojpgioaa
open Go.AI
attribute [local irreducible] aops aexec acall aiter aop W WO

variable {xf : ExtF}

theorem rawAv_dat (kind : Int) (b : List UInt8) : (if rawD kind b then (1 : Nat) else 0) = 1 ∨ (rawC kind b).data = [] := by
  cases h : rawD kind b with
  | true => exact .inl rfl
  | false => exact .inr (rawC_data h)

theorem pErr_kinds {l : List UInt8} (h : pErr l ≠ 0) : pErr l = 13 ∨ pErr l = 16 ∨ pErr l = 5 := by
  unfold pErr at h ⊢
  split
  · rename_i h1
    unfold lenP at h1 ⊢
    repeat' split
    all_goals simp_all
  · rename_i h1
    rw [if_neg h1] at h
    split
    · simp
    · rename_i h2
      rw [if_neg h2] at h
      split
      · rename_i h3; exact absurd (if_pos h3) h
      · simp

theorem law_FrameReads (l : List UInt8) (hmax : l.length ≤ maxLen) : ∃ H, acall B xf cloneF 1000010 n_law09_FrameReads 0 [.islc false false 1 (BL l)] Heap.none = some (.bool true, H) := by
  suffices h : FnV (acall B xf cloneF 1000010) n_law09_FrameReads [.islc false false 1 (BL l)] (.bool true) by
    obtain ⟨u, H, h1, h2⟩ := h
    refine ⟨H, ?_⟩
    rw [h1, fz_true h2]
  have hw := e_wakes (xf := xf) (gf := cloneF)
  by_cases hl : 1500 < l.length
  · refine fn_of B_law09_FrameReads rfl ?_
    unfold law09_FrameReads
    repeat' (first
     | refine wo_nil ?_
     | refine w_seq ?_
     | refine w_region ?_
     | refine w_ret ?_
     | refine w_skip ?_
     | refine w_exit ?_
     | refine w_block ?_
     | refine w_true rfl ?_
     | refine w_false rfl ?_
     | refine wo_n rfl ?_
     | refine wo_nn rfl ?_
     | refine wo_mv _ (by conv => lhs; whnf) rfl rfl ?_
     | (refine is_load ?_; first | refine wo_load _ rfl rfl rfl (Nat.le_of_ble_eq_true rfl) (by conv => lhs; whnf) rfl rfl ?_ | refine wo_loadI _ rfl (Nat.le_of_ble_eq_true rfl) (by conv => lhs; whnf) rfl rfl ?_)
     | (refine is_bin ?_; first | refine wo_cmpT rfl rfl rfl (by first | (simp only [cmpP]; done) | (simp only [cmpP]; omega)) rfl rfl ?_ | refine wo_cmpF rfl rfl rfl (by first | (simp only [cmpP]; done) | (simp only [cmpP]; omega)) rfl rfl ?_ | refine wo_cmp rfl rfl rfl rfl rfl (fun _ => ?_) (fun _ => ?_))
     | (refine is_pick ?_; first | refine wo_pickT _ rfl (by conv => lhs; whnf) rfl rfl ?_ | refine wo_pickF _ rfl (by conv => lhs; whnf) rfl rfl ?_)
     | (refine is_len ?_; first | refine wo_len rfl rfl rfl ?_ | refine wo_lenS rfl rfl rfl ?_ | refine wo_len0 rfl rfl rfl ?_)
     | refine wo_extractW rfl rfl (by conv => lhs; whnf) rfl rfl ?_
     | refine wo_store rfl rfl rfl rfl rfl rfl rfl (Nat.le_of_ble_eq_true rfl) rfl rfl ?_
     | refine wo_box _ (by conv => lhs; whnf) (by rfl) rfl rfl ?_
     | (refine is_slice ?_; first | refine wo_slice0 rfl (by (first | exact Or.inl rfl | exact Or.inr rfl | assumption)) rfl (by omega) (by omega) rfl rfl ?_ | refine wo_sliceE rfl (by (first | exact Or.inl rfl | exact Or.inr rfl | assumption)) rfl (by omega) (by omega) rfl rfl ?_ | refine wo_sliceM rfl (by (first | exact Or.inl rfl | exact Or.inr rfl | assumption)) rfl rfl (by omega) (by omega) (by omega) rfl rfl ?_))
    exact ⟨Or.inr rfl, _, rfl, rfl⟩
  have hp := e_frame_Parse (xf := xf) 1000003 (by omega) false false l (by omega)
  unfold parseAv at hp
  by_cases he : pErr l = 0
  · rw [if_pos he] at hp
    obtain ⟨h0, hg, hB, hc⟩ := pErr_ok he
    obtain ⟨hf1, hf2, hf3⟩ := frB_parse he
    have hpl : (pCmd l).data.length ≤ 1500 := by
      have h1 := rawC_len (kind := pKind l) (b := pPay l)
      have h2 : (pPay l).length ≤ l.length := by simp [pPay, pD]; omega
      show (rawC _ _).data.length ≤ _
      omega
    have hb := e_frame_Bytes (xf := xf) (gf := cloneF) 1000003 (by omega) false (!rawD (pKind l) (pPay l)) (if rawD (pKind l) (pPay l) then 1 else 0) (pSeq l) (pCmd l) (by omega) (rawAv_dat _ _) (.inl rfl)
    rw [if_pos (show chkP (pCmd l) ∧ 0 ≤ pSeq l ∧ pSeq l ≤ 4294967295 from ⟨hc, pSeq_range l⟩)] at hb
    have hk := e_frame_Check (xf := xf) (gf := cloneF) 1000005 false (!rawD (pKind l) (pPay l)) (if rawD (pKind l) (pPay l) then 1 else 0) (pCmd l) (by omega) (.inl rfl)
    rw [if_pos hc] at hk
    have hq := fun f => e_keep_Bytes (xf := xf) (gf := cloneF) 1000008 (by omega) false false false f 1 1 (frB (pSeq l) (pCmd l)) (l.take (lenP l).1.toNat) (by rw [hf1]; simp; omega) (by simp; omega) (.inl rfl) (.inl rfl)
    rw [hf1, decide_eq_true rfl] at hq
    rw [hf1] at hb
    have hav : rawAv (pKind l) (pPay l) = (pCmd l).av false (!rawD (pKind l) (pPay l)) (if rawD (pKind l) (pPay l) then 1 else 0) := rfl
    rw [hav] at hp
    unfold Cmd.av at hp hb hk
    refine fn_of B_law09_FrameReads rfl ?_
    unfold law09_FrameReads
    repeat' (first
     | refine wo_nil ?_
     | refine w_seq ?_
     | refine w_region ?_
     | refine w_ret ?_
     | refine w_skip ?_
     | refine w_exit ?_
     | refine w_block ?_
     | refine w_true rfl ?_
     | refine w_false rfl ?_
     | refine wo_n rfl ?_
     | refine wo_nn rfl ?_
     | refine wo_call hp rfl rfl rfl ?_
     | refine wo_call hb rfl rfl rfl ?_
     | refine wo_call (hq _) rfl rfl rfl ?_
     | refine wo_call hk rfl rfl rfl ?_
     | refine wo_call hw rfl rfl rfl ?_
     | refine wo_mv _ (by conv => lhs; whnf) rfl rfl ?_
     | (refine is_load ?_; first | refine wo_load _ rfl rfl rfl (Nat.le_of_ble_eq_true rfl) (by conv => lhs; whnf) rfl rfl ?_ | refine wo_loadI _ rfl (Nat.le_of_ble_eq_true rfl) (by conv => lhs; whnf) rfl rfl ?_)
     | (refine is_bin ?_; first | refine wo_cmpT rfl rfl rfl (by first | (simp only [cmpP]; done) | (simp only [cmpP]; omega)) rfl rfl ?_ | refine wo_cmpF rfl rfl rfl (by first | (simp only [cmpP]; done) | (simp only [cmpP]; omega)) rfl rfl ?_ | refine wo_cmp rfl rfl rfl rfl rfl (fun _ => ?_) (fun _ => ?_))
     | (refine is_pick ?_; first | refine wo_pickT _ rfl (by conv => lhs; whnf) rfl rfl ?_ | refine wo_pickF _ rfl (by conv => lhs; whnf) rfl rfl ?_)
     | (refine is_len ?_; first | refine wo_len rfl rfl rfl ?_ | refine wo_lenS rfl rfl rfl ?_ | refine wo_len0 rfl rfl rfl ?_)
     | refine wo_extractW rfl rfl (by conv => lhs; whnf) rfl rfl ?_
     | refine wo_store rfl rfl rfl rfl rfl rfl rfl (Nat.le_of_ble_eq_true rfl) rfl rfl ?_
     | refine wo_box _ (by conv => lhs; whnf) (by rfl) rfl rfl ?_
     | (refine is_slice ?_; first | refine wo_slice0 rfl (by (first | exact Or.inl rfl | exact Or.inr rfl | assumption)) rfl (by omega) (by omega) rfl rfl ?_ | refine wo_sliceE rfl (by (first | exact Or.inl rfl | exact Or.inr rfl | assumption)) rfl (by omega) (by omega) rfl rfl ?_ | refine wo_sliceM rfl (by (first | exact Or.inl rfl | exact Or.inr rfl | assumption)) rfl rfl (by omega) (by omega) (by omega) rfl rfl ?_))
    exact ⟨Or.inr rfl, _, rfl, rfl⟩
  · rw [if_neg he] at hp
    unfold c0Av at hp
    have hk := pErr_kinds he
    refine fn_of B_law09_FrameReads rfl ?_
    unfold law09_FrameReads
    rcases hk with hk | hk | hk
    all_goals rw [hk] at hp
    · skip
      repeat' (first
       | refine wo_nil ?_
       | refine w_seq ?_
       | refine w_region ?_
       | refine w_ret ?_
       | refine w_skip ?_
       | refine w_exit ?_
       | refine w_block ?_
       | refine w_true rfl ?_
       | refine w_false rfl ?_
       | refine wo_n rfl ?_
       | refine wo_nn rfl ?_
       | refine wo_call hp rfl rfl rfl ?_
       | refine wo_call hw rfl rfl rfl ?_
       | refine wo_mv _ (by conv => lhs; whnf) rfl rfl ?_
       | (refine is_load ?_; first | refine wo_load _ rfl rfl rfl (Nat.le_of_ble_eq_true rfl) (by conv => lhs; whnf) rfl rfl ?_ | refine wo_loadI _ rfl (Nat.le_of_ble_eq_true rfl) (by conv => lhs; whnf) rfl rfl ?_)
       | (refine is_bin ?_; first | refine wo_cmpT rfl rfl rfl (by first | (simp only [cmpP]; done) | (simp only [cmpP]; omega)) rfl rfl ?_ | refine wo_cmpF rfl rfl rfl (by first | (simp only [cmpP]; done) | (simp only [cmpP]; omega)) rfl rfl ?_ | refine wo_cmp rfl rfl rfl rfl rfl (fun _ => ?_) (fun _ => ?_))
       | (refine is_pick ?_; first | refine wo_pickT _ rfl (by conv => lhs; whnf) rfl rfl ?_ | refine wo_pickF _ rfl (by conv => lhs; whnf) rfl rfl ?_)
       | (refine is_len ?_; first | refine wo_len rfl rfl rfl ?_ | refine wo_lenS rfl rfl rfl ?_ | refine wo_len0 rfl rfl rfl ?_)
       | refine wo_extractW rfl rfl (by conv => lhs; whnf) rfl rfl ?_
       | refine wo_store rfl rfl rfl rfl rfl rfl rfl (Nat.le_of_ble_eq_true rfl) rfl rfl ?_
       | refine wo_box _ (by conv => lhs; whnf) (by rfl) rfl rfl ?_
       | (refine is_slice ?_; first | refine wo_slice0 rfl (by (first | exact Or.inl rfl | exact Or.inr rfl | assumption)) rfl (by omega) (by omega) rfl rfl ?_ | refine wo_sliceE rfl (by (first | exact Or.inl rfl | exact Or.inr rfl | assumption)) rfl (by omega) (by omega) rfl rfl ?_ | refine wo_sliceM rfl (by (first | exact Or.inl rfl | exact Or.inr rfl | assumption)) rfl rfl (by omega) (by omega) (by omega) rfl rfl ?_))
      exact ⟨Or.inr rfl, _, rfl, rfl⟩
    · skip
      repeat' (first
       | refine wo_nil ?_
       | refine w_seq ?_
       | refine w_region ?_
       | refine w_ret ?_
       | refine w_skip ?_
       | refine w_exit ?_
       | refine w_block ?_
       | refine w_true rfl ?_
       | refine w_false rfl ?_
       | refine wo_n rfl ?_
       | refine wo_nn rfl ?_
       | refine wo_call hp rfl rfl rfl ?_
       | refine wo_call hw rfl rfl rfl ?_
       | refine wo_mv _ (by conv => lhs; whnf) rfl rfl ?_
       | (refine is_load ?_; first | refine wo_load _ rfl rfl rfl (Nat.le_of_ble_eq_true rfl) (by conv => lhs; whnf) rfl rfl ?_ | refine wo_loadI _ rfl (Nat.le_of_ble_eq_true rfl) (by conv => lhs; whnf) rfl rfl ?_)
       | (refine is_bin ?_; first | refine wo_cmpT rfl rfl rfl (by first | (simp only [cmpP]; done) | (simp only [cmpP]; omega)) rfl rfl ?_ | refine wo_cmpF rfl rfl rfl (by first | (simp only [cmpP]; done) | (simp only [cmpP]; omega)) rfl rfl ?_ | refine wo_cmp rfl rfl rfl rfl rfl (fun _ => ?_) (fun _ => ?_))
       | (refine is_pick ?_; first | refine wo_pickT _ rfl (by conv => lhs; whnf) rfl rfl ?_ | refine wo_pickF _ rfl (by conv => lhs; whnf) rfl rfl ?_)
       | (refine is_len ?_; first | refine wo_len rfl rfl rfl ?_ | refine wo_lenS rfl rfl rfl ?_ | refine wo_len0 rfl rfl rfl ?_)
       | refine wo_extractW rfl rfl (by conv => lhs; whnf) rfl rfl ?_
       | refine wo_store rfl rfl rfl rfl rfl rfl rfl (Nat.le_of_ble_eq_true rfl) rfl rfl ?_
       | refine wo_box _ (by conv => lhs; whnf) (by rfl) rfl rfl ?_
       | (refine is_slice ?_; first | refine wo_slice0 rfl (by (first | exact Or.inl rfl | exact Or.inr rfl | assumption)) rfl (by omega) (by omega) rfl rfl ?_ | refine wo_sliceE rfl (by (first | exact Or.inl rfl | exact Or.inr rfl | assumption)) rfl (by omega) (by omega) rfl rfl ?_ | refine wo_sliceM rfl (by (first | exact Or.inl rfl | exact Or.inr rfl | assumption)) rfl rfl (by omega) (by omega) (by omega) rfl rfl ?_))
      exact ⟨Or.inr rfl, _, rfl, rfl⟩
    · skip
      repeat' (first
       | refine wo_nil ?_
       | refine w_seq ?_
       | refine w_region ?_
       | refine w_ret ?_
       | refine w_skip ?_
       | refine w_exit ?_
       | refine w_block ?_
       | refine w_true rfl ?_
       | refine w_false rfl ?_
       | refine wo_n rfl ?_
       | refine wo_nn rfl ?_
       | refine wo_call hp rfl rfl rfl ?_
       | refine wo_call hw rfl rfl rfl ?_
       | refine wo_mv _ (by conv => lhs; whnf) rfl rfl ?_
       | (refine is_load ?_; first | refine wo_load _ rfl rfl rfl (Nat.le_of_ble_eq_true rfl) (by conv => lhs; whnf) rfl rfl ?_ | refine wo_loadI _ rfl (Nat.le_of_ble_eq_true rfl) (by conv => lhs; whnf) rfl rfl ?_)
       | (refine is_bin ?_; first | refine wo_cmpT rfl rfl rfl (by first | (simp only [cmpP]; done) | (simp only [cmpP]; omega)) rfl rfl ?_ | refine wo_cmpF rfl rfl rfl (by first | (simp only [cmpP]; done) | (simp only [cmpP]; omega)) rfl rfl ?_ | refine wo_cmp rfl rfl rfl rfl rfl (fun _ => ?_) (fun _ => ?_))
       | (refine is_pick ?_; first | refine wo_pickT _ rfl (by conv => lhs; whnf) rfl rfl ?_ | refine wo_pickF _ rfl (by conv => lhs; whnf) rfl rfl ?_)
       | (refine is_len ?_; first | refine wo_len rfl rfl rfl ?_ | refine wo_lenS rfl rfl rfl ?_ | refine wo_len0 rfl rfl rfl ?_)
       | refine wo_extractW rfl rfl (by conv => lhs; whnf) rfl rfl ?_
       | refine wo_store rfl rfl rfl rfl rfl rfl rfl (Nat.le_of_ble_eq_true rfl) rfl rfl ?_
       | refine wo_box _ (by conv => lhs; whnf) (by rfl) rfl rfl ?_
       | (refine is_slice ?_; first | refine wo_slice0 rfl (by (first | exact Or.inl rfl | exact Or.inr rfl | assumption)) rfl (by omega) (by omega) rfl rfl ?_ | refine wo_sliceE rfl (by (first | exact Or.inl rfl | exact Or.inr rfl | assumption)) rfl (by omega) (by omega) rfl rfl ?_ | refine wo_sliceM rfl (by (first | exact Or.inl rfl | exact Or.inr rfl | assumption)) rfl rfl (by omega) (by omega) (by omega) rfl rfl ?_))
      exact ⟨Or.inr rfl, _, rfl, rfl⟩

end Go.Proofs.Ytoanjhiojpgioaa
