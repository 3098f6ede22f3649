/- What the functions leave: frames, twins in bytes of the caller's own. -/
import Derived.Test.YtoanjhiojpgioaaS9
import Derived.Test.YtoanjhiojpgioaaA27
set_option linter.unusedSimpArgs false
set_option linter.unusedVariables false
set_option maxRecDepth 10000
set_option maxHeartbeats 16000000
namespace Go.Proofs.Ytoanjhiojpgioaa
open Go.AI
attribute [local irreducible] aops aexec acall aiter aop W WO

variable {xf : ExtF} {gf : CallF}

theorem e_keep_Twin (k : Nat) (t f : Bool) (l : List UInt8) (hl : l.length < 1000000) : FnF (acall B xf gf (k + 1)) n_keep_Twin [.islc t f 1 (BL l)] l := by
  refine fnF_of (fn_gen B_keep_Twin rfl ?_)
  unfold keep_Twin
  repeat' (first
   | refine wo_nil ?_
   | refine w_seq ?_
   | refine w_region ?_
   | refine w_ret ?_
   | refine w_skip ?_
   | refine w_exit ?_
   | refine w_block ?_
   | refine w_true rfl ?_
   | refine w_false rfl ?_
   | refine wo_n rfl ?_
   | refine wo_nn rfl ?_
   | refine wo_app (l := []) rfl rfl (.inl rfl) rfl rfl (by omega) rfl rfl (fun _ => ?_)
   | refine wo_mv _ (by conv => lhs; whnf) rfl rfl ?_
   | refine wo_nilrow rfl rfl ?_
   | refine wo_app rfl rfl (by (first | exact Or.inl rfl | exact Or.inr rfl | assumption)) (by (first | rfl | exact Heap.upd_same _ _ _)) (by (first | rfl | (simp; done) | (simp; omega))) (by (first | omega | (simp; omega))) rfl rfl (fun _ => ?_))
  exact ⟨Or.inr rfl, _, rfl, _, _, _, rfl, by simp, rfl⟩

theorem e_frame_BytesF (k : Nat) (hk : 1000000 ≤ k) (t f : Bool) (s : Nat) (seq : Int) (c : Cmd) (hl : c.data.length < 900000) (hs : s = 1 ∨ c.data = []) (ht : t = false ∨ c.kind = 2) :
    (chkP c ∧ 0 ≤ seq ∧ seq ≤ 4294967295 → FnFT (acall B xf gf (k + 6)) n_frame_Bytes [.int .i64 seq, c.av t f s] (frB seq c) [.int .i64 0]) ∧
    (¬ (chkP c ∧ 0 ≤ seq ∧ seq ≤ 4294967295) → FnFT (acall B xf gf (k + 6)) n_frame_Bytes [.int .i64 seq, c.av t f s] [] [.int .i64 1]) := by
  have hp := e_frame_Payload (xf := xf) (gf := gf) k hk t f s c hl hs ht
  have hin := e_frame_in (xf := xf) (gf := gf) (k + 4) seq 0 4294967295
  have hpl := payB_length c
  have hfl := frH_length seq c
  have hsum := e_crc_Sum (xf := xf) (gf := gf) (k + 3) (by omega) true false (frH seq c) (by omega)
  constructor
  · rintro ⟨h, hq⟩
    rw [if_pos h] at hp
    rw [show (decide (seq ≥ 0) && decide (seq ≤ 4294967295)) = true by simp; omega] at hin
    refine fnFT_of (fn_gen B_frame_Bytes rfl ?_)
    unfold frame_Bytes Cmd.av
    unfold Cmd.av at hp
    repeat' (first
     | refine wo_nil ?_
     | refine w_seq ?_
     | refine w_region ?_
     | refine w_ret ?_
     | refine w_skip ?_
     | refine w_exit ?_
     | refine w_block ?_
     | refine w_true rfl ?_
     | refine w_false rfl ?_
     | refine wo_n rfl ?_
     | refine wo_nn rfl ?_
     | refine wo_call hp rfl rfl rfl ?_
     | refine wo_call hin rfl rfl rfl ?_
     | (refine wo_inl (e_frame_put (xf := xf) (gf := gf) (k + 3) (by omega) _ _ _ _ _ [70, 82, 65, 77] [seq, c.kind, ((payB c).length : Int)] 4 _ (by decide) (by simp) (by simp) rfl (by decide) (.inr ⟨_, _, _, _, rfl, rfl, by decide, by decide⟩)) rfl rfl rfl ?_)
     | refine wo_call hsum rfl (ha_slc rfl rfl (by simp [frH]; omega)) rfl ?_
     | (refine wo_inl (e_frame_put (xf := xf) (gf := gf) (k + 3) (by omega) _ _ _ _ _ (frH seq c) [crcMore 0 (frH seq c)] 4 _ (by decide) (by simp; omega) (by simp [frH]; omega) rfl (by decide) (.inr ⟨_, _, _, _, rfl, rfl, by decide, by decide⟩)) rfl rfl rfl ?_)
     | refine wo_mv _ (by conv => lhs; whnf) rfl rfl ?_
     | refine wo_faddr rfl rfl rfl ?_
     | (refine is_load ?_; first | refine wo_load _ rfl rfl rfl (Nat.le_of_ble_eq_true rfl) (by conv => lhs; whnf) rfl rfl ?_ | refine wo_loadI _ rfl (Nat.le_of_ble_eq_true rfl) (by conv => lhs; whnf) rfl rfl ?_)
     | (refine is_bin ?_; first | refine wo_cmpT rfl rfl rfl (by first | (simp only [cmpP]; done) | (simp only [cmpP]; omega)) rfl rfl ?_ | refine wo_cmpF rfl rfl rfl (by first | (simp only [cmpP]; done) | (simp only [cmpP]; omega)) rfl rfl ?_ | refine wo_cmp rfl rfl rfl rfl rfl (fun _ => ?_) (fun _ => ?_))
     | (refine is_un ?_; first | refine wo_notT rfl rfl rfl ?_ | refine wo_notF rfl rfl rfl ?_)
     | (refine is_len ?_; first | refine wo_len rfl rfl rfl ?_ | refine wo_lenS rfl rfl rfl ?_ | refine wo_len0 rfl rfl rfl ?_)
     | refine wo_extractW rfl rfl (by conv => lhs; whnf) rfl rfl ?_
     | refine wo_box _ (by conv => lhs; whnf) (by rfl) rfl rfl ?_
     | refine wo_nilrow rfl rfl ?_
     | refine wo_buildS rfl rfl rfl rfl ?_
     | refine wo_app rfl rfl (by (first | exact Or.inl rfl | exact Or.inr rfl | assumption)) (by (first | rfl | exact Heap.upd_same _ _ _)) (by (first | rfl | (simp; done) | (simp; omega))) (by (first | omega | (simp; omega))) rfl rfl (fun _ => ?_)
     | refine wo_ss rfl rfl rfl (by decide) (by decide) rfl rfl ?_)
    exact ⟨Or.inr rfl, _, rfl, _, _, _, rfl, by simp [frB], rfl⟩
  · intro h
    by_cases hc : chkP c
    · rw [if_pos hc] at hp
      have hq : ¬ (0 ≤ seq ∧ seq ≤ 4294967295) := fun hh => h ⟨hc, hh⟩
      rw [show (decide (seq ≥ 0) && decide (seq ≤ 4294967295)) = false by simp; omega] at hin
      refine fnFT_of (fn_gen B_frame_Bytes rfl ?_)
      unfold frame_Bytes Cmd.av
      unfold Cmd.av at hp
      repeat' (first
       | refine wo_nil ?_
       | refine w_seq ?_
       | refine w_region ?_
       | refine w_ret ?_
       | refine w_skip ?_
       | refine w_exit ?_
       | refine w_block ?_
       | refine w_true rfl ?_
       | refine w_false rfl ?_
       | refine wo_n rfl ?_
       | refine wo_nn rfl ?_
       | refine wo_call hp rfl rfl rfl ?_
       | refine wo_call hin rfl rfl rfl ?_
       | refine wo_mv _ (by conv => lhs; whnf) rfl rfl ?_
       | refine wo_faddr rfl rfl rfl ?_
       | (refine is_load ?_; first | refine wo_load _ rfl rfl rfl (Nat.le_of_ble_eq_true rfl) (by conv => lhs; whnf) rfl rfl ?_ | refine wo_loadI _ rfl (Nat.le_of_ble_eq_true rfl) (by conv => lhs; whnf) rfl rfl ?_)
       | (refine is_bin ?_; first | refine wo_cmpT rfl rfl rfl (by first | (simp only [cmpP]; done) | (simp only [cmpP]; omega)) rfl rfl ?_ | refine wo_cmpF rfl rfl rfl (by first | (simp only [cmpP]; done) | (simp only [cmpP]; omega)) rfl rfl ?_ | refine wo_cmp rfl rfl rfl rfl rfl (fun _ => ?_) (fun _ => ?_))
       | (refine is_un ?_; first | refine wo_notT rfl rfl rfl ?_ | refine wo_notF rfl rfl rfl ?_)
       | (refine is_len ?_; first | refine wo_len rfl rfl rfl ?_ | refine wo_lenS rfl rfl rfl ?_ | refine wo_len0 rfl rfl rfl ?_)
       | refine wo_extractW rfl rfl (by conv => lhs; whnf) rfl rfl ?_
       | refine wo_box _ (by conv => lhs; whnf) (by rfl) rfl rfl ?_
       | refine wo_nilrow rfl rfl ?_
       | refine wo_buildS rfl rfl rfl rfl ?_
       | refine wo_app rfl rfl (by (first | exact Or.inl rfl | exact Or.inr rfl | assumption)) (by (first | rfl | exact Heap.upd_same _ _ _)) (by (first | rfl | (simp; done) | (simp; omega))) (by (first | omega | (simp; omega))) rfl rfl (fun _ => ?_)
       | refine wo_ss rfl rfl rfl (by decide) (by decide) rfl rfl ?_)
      exact ⟨Or.inr rfl, _, rfl, _, _, _, rfl, rfl, rfl⟩
    · rw [if_neg hc] at hp
      refine fnFT_of (fn_gen B_frame_Bytes rfl ?_)
      unfold frame_Bytes Cmd.av
      unfold Cmd.av at hp
      repeat' (first
       | refine wo_nil ?_
       | refine w_seq ?_
       | refine w_region ?_
       | refine w_ret ?_
       | refine w_skip ?_
       | refine w_exit ?_
       | refine w_block ?_
       | refine w_true rfl ?_
       | refine w_false rfl ?_
       | refine wo_n rfl ?_
       | refine wo_nn rfl ?_
       | refine wo_call hp rfl rfl rfl ?_
       | refine wo_mv _ (by conv => lhs; whnf) rfl rfl ?_
       | refine wo_faddr rfl rfl rfl ?_
       | (refine is_load ?_; first | refine wo_load _ rfl rfl rfl (Nat.le_of_ble_eq_true rfl) (by conv => lhs; whnf) rfl rfl ?_ | refine wo_loadI _ rfl (Nat.le_of_ble_eq_true rfl) (by conv => lhs; whnf) rfl rfl ?_)
       | (refine is_bin ?_; first | refine wo_cmpT rfl rfl rfl (by first | (simp only [cmpP]; done) | (simp only [cmpP]; omega)) rfl rfl ?_ | refine wo_cmpF rfl rfl rfl (by first | (simp only [cmpP]; done) | (simp only [cmpP]; omega)) rfl rfl ?_ | refine wo_cmp rfl rfl rfl rfl rfl (fun _ => ?_) (fun _ => ?_))
       | (refine is_un ?_; first | refine wo_notT rfl rfl rfl ?_ | refine wo_notF rfl rfl rfl ?_)
       | (refine is_len ?_; first | refine wo_len rfl rfl rfl ?_ | refine wo_lenS rfl rfl rfl ?_ | refine wo_len0 rfl rfl rfl ?_)
       | refine wo_extractW rfl rfl (by conv => lhs; whnf) rfl rfl ?_
       | refine wo_box _ (by conv => lhs; whnf) (by rfl) rfl rfl ?_
       | refine wo_nilrow rfl rfl ?_
       | refine wo_buildS rfl rfl rfl rfl ?_
       | refine wo_app rfl rfl (by (first | exact Or.inl rfl | exact Or.inr rfl | assumption)) (by (first | rfl | exact Heap.upd_same _ _ _)) (by (first | rfl | (simp; done) | (simp; omega))) (by (first | omega | (simp; omega))) rfl rfl (fun _ => ?_)
       | refine wo_ss rfl rfl rfl (by decide) (by decide) rfl rfl ?_)
      exact ⟨Or.inr rfl, _, rfl, _, _, _, rfl, rfl, rfl⟩

end Go.Proofs.Ytoanjhiojpgioaa
