/- woodcutlaw09: FrameExact, by the interpreter. -/
import Derived.Test.YtoanjhiojpgioaaS24
import Derived.Test.YtoanjhiojpgioaaS22
import Derived.Test.YtoanjhiojpgioaaS19
import Derived.Test.YtoanjhiojpgioaaS6
import Derived.Test.YtoanjhiojpgioaaL09Reads
set_option linter.unusedSimpArgs false
set_option linter.unusedVariables false
set_option maxRecDepth 10000
set_option maxHeartbeats 16000000
namespace Go.Proofs.Ytoanjhiojpgioaa
open Go.AI
attribute [local irreducible] aops aexec acall aiter aop W WO

variable {xf : ExtF}

theorem ha_slc2 {T : Tmps} {H : Heap} {i i2 j gn v : Nat} {ro : Bool} {cap : Option Nat} {l l2 : List UInt8} {t f : Bool} (hT : T i = .slc j gn v 1 0 v cap) (hT2 : T i2 = .islc t f 1 (BL l2)) (hr : H j = ⟨gn, ro, .row 1 (BL l)⟩) (hv : l.length = v) :
    ([SArg.t i, SArg.t i2].map (SArg.ev T)).map (fz false deep H) = [.islc true false 1 (BL l), .islc t f 1 (BL l2)] := by
  have e : [SArg.t i, SArg.t i2].map (SArg.ev T) = [T i, T i2] := rfl
  rw [e, hT, hT2]
  show [fz false (4 + 2) H _, fz false (5 + 1) H _] = _
  rw [fz_slcB (row_of hr (by simpa using hv)) (by omega), List.drop_zero, ← hv, List.take_length]
  rfl

/-- What both readers answer, with a command that is like itself. -/
theorem parse_like (b : List UInt8) (hl : b.length ≤ 1500) : ∃ (y : Cmd) (fy : Bool) (sy : Nat) (n s e : Int), parseAv b = .tup [y.av false fy sy, .int .i64 n, .int .i64 s, .int .i64 e] ∧ y.data.length ≤ 1500 ∧ (sy = 1 ∨ y.data = []) := by
  by_cases he : pErr b = 0
  · refine ⟨pCmd b, _, _, pSeq b, (lenP b).1, 0, by unfold parseAv; rw [if_pos he]; rfl, ?_, rawAv_dat _ _⟩
    have h1 := rawC_len (kind := pKind b) (b := pPay b)
    have h2 : (pPay b).length ≤ b.length := by simp [pPay, pD]; omega
    show (rawC _ _).data.length ≤ _
    omega
  · exact ⟨⟨0, 0, 0, 0, 0, 0, 0, 0, []⟩, true, 0, 0, 0, pErr b, by unfold parseAv; rw [if_neg he]; rfl, by simp, .inr rfl⟩

theorem law_FrameExact (c : Cmd) (hc : CmdR c) (seq : Int) (b : List UInt8) (hbm : b.length ≤ maxLen) : ∃ H, acall B xf cloneF 1000010 n_law09_FrameExact 0 [.agg (Cmd.cells c), .int .i64 seq, .islc false false 1 (BL b)] Heap.none = some (.bool true, H) := by
  suffices h : FnV (acall B xf cloneF 1000010) n_law09_FrameExact [.agg (Cmd.cells c), .int .i64 seq, .islc false false 1 (BL b)] (.bool true) by
    obtain ⟨u, H, h1, h2⟩ := h
    refine ⟨H, ?_⟩
    rw [h1, fz_true h2]
  have hw := e_wakes (xf := xf) (gf := cloneF)
  by_cases hl1 : 1500 < c.data.length
  · refine fn_of B_law09_FrameExact rfl ?_
    unfold law09_FrameExact Cmd.cells
    repeat' (first
     | refine wo_nil ?_
     | refine w_seq ?_
     | refine w_region ?_
     | refine w_ret ?_
     | refine w_skip ?_
     | refine w_exit ?_
     | refine w_block ?_
     | refine w_true rfl ?_
     | refine w_false rfl ?_
     | refine wo_n rfl ?_
     | refine wo_nn rfl ?_
     | refine wo_mv _ (by conv => lhs; whnf) rfl rfl ?_
     | refine wo_faddr rfl rfl rfl ?_
     | (refine is_load ?_; first | refine wo_load _ rfl rfl rfl (Nat.le_of_ble_eq_true rfl) (by conv => lhs; whnf) rfl rfl ?_ | refine wo_loadI _ rfl (Nat.le_of_ble_eq_true rfl) (by conv => lhs; whnf) rfl rfl ?_)
     | (refine is_bin ?_; first | refine wo_cmpT rfl rfl rfl (by first | (simp only [cmpP]; done) | (simp only [cmpP]; omega)) rfl rfl ?_ | refine wo_cmpF rfl rfl rfl (by first | (simp only [cmpP]; done) | (simp only [cmpP]; omega)) rfl rfl ?_ | refine wo_cmp rfl rfl rfl rfl rfl (fun _ => ?_) (fun _ => ?_) | refine wo_add rfl rfl (by omega) rfl rfl ?_)
     | (refine is_pick ?_; first | refine wo_pickT _ rfl (by conv => lhs; whnf) rfl rfl ?_ | refine wo_pickF _ rfl (by conv => lhs; whnf) rfl rfl ?_)
     | (refine is_un ?_; first | refine wo_notT rfl rfl rfl ?_ | refine wo_notF rfl rfl rfl ?_)
     | (refine is_len ?_; first | refine wo_len rfl rfl rfl ?_ | refine wo_lenS rfl rfl rfl ?_ | refine wo_len0 rfl rfl rfl ?_)
     | refine wo_extractW rfl rfl (by conv => lhs; whnf) rfl rfl ?_
     | refine wo_store rfl rfl rfl rfl rfl rfl rfl (Nat.le_of_ble_eq_true rfl) rfl rfl ?_
     | refine wo_box _ (by conv => lhs; whnf) (by rfl) rfl rfl ?_
     | refine wo_at rfl rfl (by omega) (by omega) rfl rfl ?_
     | refine wo_buildS rfl rfl rfl rfl ?_)
    exact ⟨Or.inr rfl, _, rfl, rfl⟩
  by_cases hl2 : 1500 < b.length
  · refine fn_of B_law09_FrameExact rfl ?_
    unfold law09_FrameExact Cmd.cells
    repeat' (first
     | refine wo_nil ?_
     | refine w_seq ?_
     | refine w_region ?_
     | refine w_ret ?_
     | refine w_skip ?_
     | refine w_exit ?_
     | refine w_block ?_
     | refine w_true rfl ?_
     | refine w_false rfl ?_
     | refine wo_n rfl ?_
     | refine wo_nn rfl ?_
     | refine wo_mv _ (by conv => lhs; whnf) rfl rfl ?_
     | refine wo_faddr rfl rfl rfl ?_
     | (refine is_load ?_; first | refine wo_load _ rfl rfl rfl (Nat.le_of_ble_eq_true rfl) (by conv => lhs; whnf) rfl rfl ?_ | refine wo_loadI _ rfl (Nat.le_of_ble_eq_true rfl) (by conv => lhs; whnf) rfl rfl ?_)
     | (refine is_bin ?_; first | refine wo_cmpT rfl rfl rfl (by first | (simp only [cmpP]; done) | (simp only [cmpP]; omega)) rfl rfl ?_ | refine wo_cmpF rfl rfl rfl (by first | (simp only [cmpP]; done) | (simp only [cmpP]; omega)) rfl rfl ?_ | refine wo_cmp rfl rfl rfl rfl rfl (fun _ => ?_) (fun _ => ?_) | refine wo_add rfl rfl (by omega) rfl rfl ?_)
     | (refine is_pick ?_; first | refine wo_pickT _ rfl (by conv => lhs; whnf) rfl rfl ?_ | refine wo_pickF _ rfl (by conv => lhs; whnf) rfl rfl ?_)
     | (refine is_un ?_; first | refine wo_notT rfl rfl rfl ?_ | refine wo_notF rfl rfl rfl ?_)
     | (refine is_len ?_; first | refine wo_len rfl rfl rfl ?_ | refine wo_lenS rfl rfl rfl ?_ | refine wo_len0 rfl rfl rfl ?_)
     | refine wo_extractW rfl rfl (by conv => lhs; whnf) rfl rfl ?_
     | refine wo_store rfl rfl rfl rfl rfl rfl rfl (Nat.le_of_ble_eq_true rfl) rfl rfl ?_
     | refine wo_box _ (by conv => lhs; whnf) (by rfl) rfl rfl ?_
     | refine wo_at rfl rfl (by omega) (by omega) rfl rfl ?_
     | refine wo_buildS rfl rfl rfl rfl ?_)
    exact ⟨Or.inr rfl, _, rfl, rfl⟩
  have htw := e_keep_TwinCommands (xf := xf) (gf := cloneF) 1000007 (by omega) true false [c] (by simp) (by simp; omega)
  have htb := e_keep_Twin (xf := xf) (gf := cloneF) 1000008 false false b (by omega)
  have hp := e_frame_Payload (xf := xf) (gf := cloneF) 1000004 (by omega) false false 1 c (by omega) (.inl rfl) (.inl rfl)
  have hb := e_frame_Bytes (xf := xf) (gf := cloneF) 1000003 (by omega) false false 1 seq c (by omega) (.inl rfl) (.inl rfl)
  have hps := e_frame_Parse (xf := xf) 1000003 (by omega) true false b (by omega)
  have hrp := e_ref_ParseFrame (xf := xf) (gf := cloneF) 1000004 (by omega) false false b (by omega)
  obtain ⟨y, fy, sy, n, s, e, hy, hyl, hys⟩ := parse_like b (by omega)
  rw [hy] at hps hrp
  obtain ⟨r1, hr1, hyz⟩ := e_keep_Command (xf := xf) (gf := cloneF) 1000007 (by omega) false fy false fy sy sy y y (by omega) (by omega) hys hys
  obtain rfl : r1 = true := hr1.2 rfl
  have hdb := e_keep_Bytes (xf := xf) (gf := cloneF) 1000008 (by omega) true false false false 1 1 b b (by omega) (by omega) (.inl rfl) (.inl rfl)
  rw [decide_eq_true rfl] at hdb
  obtain ⟨r2, hr2, hcc⟩ := e_keep_Command (xf := xf) (gf := cloneF) 1000007 (by omega) false false false false 1 1 c c (by omega) (by omega) (.inl rfl) (.inl rfl)
  obtain rfl : r2 = true := hr2.2 rfl
  have hrc := e_ref_Command (xf := xf) (gf := cloneF) 1000006 false false 1 c (by omega)
  have hck := e_frame_Check (xf := xf) (gf := cloneF) 1000005 false false 1 c (by omega) (.inl rfl)
  by_cases hok : chkP c
  · have hpl := payB_le hok
    have hfl := frB_length seq c
    rw [decide_eq_true hok] at hrc
    rw [if_pos hok] at hck hp
    have hrpl := e_ref_Payload (xf := xf) (gf := cloneF) 1000007 (by omega) false false 1 c hok (.inl rfl)
    have hpb := e_keep_Bytes (xf := xf) (gf := cloneF) 1000008 (by omega) false false false false 1 1 (payB c) (payB c) (by omega) (by omega) (.inl rfl) (.inl rfl)
    rw [decide_eq_true rfl] at hpb
    by_cases hsq : 0 ≤ seq ∧ seq ≤ 4294967295
    · rw [if_pos (show chkP c ∧ 0 ≤ seq ∧ seq ≤ 4294967295 from ⟨hok, hsq⟩)] at hb
      have hrf := e_ref_FrameBytes (xf := xf) (gf := cloneF) 1000006 (by omega) false false 1 seq c hok hsq (.inl rfl)
      have hfb := e_keep_Bytes (xf := xf) (gf := cloneF) 1000008 (by omega) false false false false 1 1 (frB seq c) (frB seq c) (by omega) (by omega) (.inl rfl) (.inl rfl)
      rw [decide_eq_true rfl] at hfb
      unfold Cmd.av at htw hp hb hps hrp hyz hcc hrc hck hrpl hrf
      refine fn_of B_law09_FrameExact rfl ?_
      unfold law09_FrameExact Cmd.cells
      repeat' (first
       | refine wo_nil ?_
       | refine w_seq ?_
       | refine w_region ?_
       | refine w_ret ?_
       | refine w_skip ?_
       | refine w_exit ?_
       | refine w_block ?_
       | refine w_true rfl ?_
       | refine w_false rfl ?_
       | refine wo_n rfl ?_
       | refine wo_nn rfl ?_
       | refine wo_call htw rfl rfl rfl ?_
       | refine wo_fresh htb rfl rfl rfl ?_
       | refine wo_atG rfl rfl (by decide) rfl rfl rfl ?_
       | refine wo_call hp rfl rfl rfl ?_
       | refine wo_call hb rfl rfl rfl ?_
       | refine wo_call hps rfl (ha_slc rfl rfl rfl) rfl ?_
       | refine wo_call hrp rfl rfl rfl ?_
       | refine wo_call hyz rfl rfl rfl ?_
       | refine wo_call hdb rfl (ha_slc2 rfl rfl rfl rfl) rfl ?_
       | refine wo_call hcc rfl rfl rfl ?_
       | refine wo_call hrc rfl rfl rfl ?_
       | refine wo_call hck rfl rfl rfl ?_
       | refine wo_call hw rfl rfl rfl ?_
       | refine wo_lenG (n := 0) rfl rfl rfl rfl ?_
       | refine wo_call hrpl rfl rfl rfl ?_
       | refine wo_call hpb rfl rfl rfl ?_
       | refine wo_call hrf rfl rfl rfl ?_
       | refine wo_call hfb rfl rfl rfl ?_
       | refine wo_mv _ (by conv => lhs; whnf) rfl rfl ?_
       | refine wo_faddr rfl rfl rfl ?_
       | (refine is_load ?_; first | refine wo_load _ rfl rfl rfl (Nat.le_of_ble_eq_true rfl) (by conv => lhs; whnf) rfl rfl ?_ | refine wo_loadI _ rfl (Nat.le_of_ble_eq_true rfl) (by conv => lhs; whnf) rfl rfl ?_)
       | (refine is_bin ?_; first | refine wo_cmpT rfl rfl rfl (by first | (simp only [cmpP]; done) | (simp only [cmpP]; omega)) rfl rfl ?_ | refine wo_cmpF rfl rfl rfl (by first | (simp only [cmpP]; done) | (simp only [cmpP]; omega)) rfl rfl ?_ | refine wo_cmp rfl rfl rfl rfl rfl (fun _ => ?_) (fun _ => ?_) | refine wo_add rfl rfl (by omega) rfl rfl ?_)
       | (refine is_pick ?_; first | refine wo_pickT _ rfl (by conv => lhs; whnf) rfl rfl ?_ | refine wo_pickF _ rfl (by conv => lhs; whnf) rfl rfl ?_)
       | (refine is_un ?_; first | refine wo_notT rfl rfl rfl ?_ | refine wo_notF rfl rfl rfl ?_)
       | (refine is_len ?_; first | refine wo_len rfl rfl rfl ?_ | refine wo_lenS rfl rfl rfl ?_ | refine wo_len0 rfl rfl rfl ?_)
       | refine wo_extractW rfl rfl (by conv => lhs; whnf) rfl rfl ?_
       | refine wo_store rfl rfl rfl rfl rfl rfl rfl (Nat.le_of_ble_eq_true rfl) rfl rfl ?_
       | refine wo_box _ (by conv => lhs; whnf) (by rfl) rfl rfl ?_
       | refine wo_at rfl rfl (by omega) (by omega) rfl rfl ?_
       | refine wo_buildS rfl rfl rfl rfl ?_)
      exact ⟨Or.inr rfl, _, rfl, rfl⟩
    · rw [if_neg (show ¬ (chkP c ∧ 0 ≤ seq ∧ seq ≤ 4294967295) from fun h => hsq h.2)] at hb
      unfold Cmd.av at htw hp hb hps hrp hyz hcc hrc hck hrpl
      refine fn_of B_law09_FrameExact rfl ?_
      unfold law09_FrameExact Cmd.cells
      repeat' (first
       | refine wo_nil ?_
       | refine w_seq ?_
       | refine w_region ?_
       | refine w_ret ?_
       | refine w_skip ?_
       | refine w_exit ?_
       | refine w_block ?_
       | refine w_true rfl ?_
       | refine w_false rfl ?_
       | refine wo_n rfl ?_
       | refine wo_nn rfl ?_
       | refine wo_call htw rfl rfl rfl ?_
       | refine wo_fresh htb rfl rfl rfl ?_
       | refine wo_atG rfl rfl (by decide) rfl rfl rfl ?_
       | refine wo_call hp rfl rfl rfl ?_
       | refine wo_call hb rfl rfl rfl ?_
       | refine wo_call hps rfl (ha_slc rfl rfl rfl) rfl ?_
       | refine wo_call hrp rfl rfl rfl ?_
       | refine wo_call hyz rfl rfl rfl ?_
       | refine wo_call hdb rfl (ha_slc2 rfl rfl rfl rfl) rfl ?_
       | refine wo_call hcc rfl rfl rfl ?_
       | refine wo_call hrc rfl rfl rfl ?_
       | refine wo_call hck rfl rfl rfl ?_
       | refine wo_call hw rfl rfl rfl ?_
       | refine wo_lenG (n := 0) rfl rfl rfl rfl ?_
       | refine wo_call hrpl rfl rfl rfl ?_
       | refine wo_call hpb rfl rfl rfl ?_
       | refine wo_mv _ (by conv => lhs; whnf) rfl rfl ?_
       | refine wo_faddr rfl rfl rfl ?_
       | (refine is_load ?_; first | refine wo_load _ rfl rfl rfl (Nat.le_of_ble_eq_true rfl) (by conv => lhs; whnf) rfl rfl ?_ | refine wo_loadI _ rfl (Nat.le_of_ble_eq_true rfl) (by conv => lhs; whnf) rfl rfl ?_)
       | (refine is_bin ?_; first | refine wo_cmpT rfl rfl rfl (by first | (simp only [cmpP]; done) | (simp only [cmpP]; omega)) rfl rfl ?_ | refine wo_cmpF rfl rfl rfl (by first | (simp only [cmpP]; done) | (simp only [cmpP]; omega)) rfl rfl ?_ | refine wo_cmp rfl rfl rfl rfl rfl (fun _ => ?_) (fun _ => ?_) | refine wo_add rfl rfl (by omega) rfl rfl ?_)
       | (refine is_pick ?_; first | refine wo_pickT _ rfl (by conv => lhs; whnf) rfl rfl ?_ | refine wo_pickF _ rfl (by conv => lhs; whnf) rfl rfl ?_)
       | (refine is_un ?_; first | refine wo_notT rfl rfl rfl ?_ | refine wo_notF rfl rfl rfl ?_)
       | (refine is_len ?_; first | refine wo_len rfl rfl rfl ?_ | refine wo_lenS rfl rfl rfl ?_ | refine wo_len0 rfl rfl rfl ?_)
       | refine wo_extractW rfl rfl (by conv => lhs; whnf) rfl rfl ?_
       | refine wo_store rfl rfl rfl rfl rfl rfl rfl (Nat.le_of_ble_eq_true rfl) rfl rfl ?_
       | refine wo_box _ (by conv => lhs; whnf) (by rfl) rfl rfl ?_
       | refine wo_at rfl rfl (by omega) (by omega) rfl rfl ?_
       | refine wo_buildS rfl rfl rfl rfl ?_)
      all_goals exact ⟨Or.inr rfl, _, rfl, rfl⟩
  · rw [decide_eq_false hok] at hrc
    rw [if_neg hok] at hck hp
    rw [if_neg (show ¬ (chkP c ∧ 0 ≤ seq ∧ seq ≤ 4294967295) from fun h => hok h.1)] at hb
    unfold Cmd.av at htw hp hb hps hrp hyz hcc hrc hck
    refine fn_of B_law09_FrameExact rfl ?_
    unfold law09_FrameExact Cmd.cells
    repeat' (first
     | refine wo_nil ?_
     | refine w_seq ?_
     | refine w_region ?_
     | refine w_ret ?_
     | refine w_skip ?_
     | refine w_exit ?_
     | refine w_block ?_
     | refine w_true rfl ?_
     | refine w_false rfl ?_
     | refine wo_n rfl ?_
     | refine wo_nn rfl ?_
     | refine wo_call htw rfl rfl rfl ?_
     | refine wo_fresh htb rfl rfl rfl ?_
     | refine wo_atG rfl rfl (by decide) rfl rfl rfl ?_
     | refine wo_call hp rfl rfl rfl ?_
     | refine wo_call hb rfl rfl rfl ?_
     | refine wo_call hps rfl (ha_slc rfl rfl rfl) rfl ?_
     | refine wo_call hrp rfl rfl rfl ?_
     | refine wo_call hyz rfl rfl rfl ?_
     | refine wo_call hdb rfl (ha_slc2 rfl rfl rfl rfl) rfl ?_
     | refine wo_call hcc rfl rfl rfl ?_
     | refine wo_call hrc rfl rfl rfl ?_
     | refine wo_call hck rfl rfl rfl ?_
     | refine wo_call hw rfl rfl rfl ?_
     | refine wo_lenG (n := 0) rfl rfl rfl rfl ?_
     | refine wo_mv _ (by conv => lhs; whnf) rfl rfl ?_
     | refine wo_faddr rfl rfl rfl ?_
     | (refine is_load ?_; first | refine wo_load _ rfl rfl rfl (Nat.le_of_ble_eq_true rfl) (by conv => lhs; whnf) rfl rfl ?_ | refine wo_loadI _ rfl (Nat.le_of_ble_eq_true rfl) (by conv => lhs; whnf) rfl rfl ?_)
     | (refine is_bin ?_; first | refine wo_cmpT rfl rfl rfl (by first | (simp only [cmpP]; done) | (simp only [cmpP]; omega)) rfl rfl ?_ | refine wo_cmpF rfl rfl rfl (by first | (simp only [cmpP]; done) | (simp only [cmpP]; omega)) rfl rfl ?_ | refine wo_cmp rfl rfl rfl rfl rfl (fun _ => ?_) (fun _ => ?_) | refine wo_add rfl rfl (by omega) rfl rfl ?_)
     | (refine is_pick ?_; first | refine wo_pickT _ rfl (by conv => lhs; whnf) rfl rfl ?_ | refine wo_pickF _ rfl (by conv => lhs; whnf) rfl rfl ?_)
     | (refine is_un ?_; first | refine wo_notT rfl rfl rfl ?_ | refine wo_notF rfl rfl rfl ?_)
     | (refine is_len ?_; first | refine wo_len rfl rfl rfl ?_ | refine wo_lenS rfl rfl rfl ?_ | refine wo_len0 rfl rfl rfl ?_)
     | refine wo_extractW rfl rfl (by conv => lhs; whnf) rfl rfl ?_
     | refine wo_store rfl rfl rfl rfl rfl rfl rfl (Nat.le_of_ble_eq_true rfl) rfl rfl ?_
     | refine wo_box _ (by conv => lhs; whnf) (by rfl) rfl rfl ?_
     | refine wo_at rfl rfl (by omega) (by omega) rfl rfl ?_
     | refine wo_buildS rfl rfl rfl rfl ?_)
    exact ⟨Or.inr rfl, _, rfl, rfl⟩

end Go.Proofs.Ytoanjhiojpgioaa
