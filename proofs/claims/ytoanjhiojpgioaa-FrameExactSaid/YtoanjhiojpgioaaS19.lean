/- The document's answers: is a command right? Its payload, its frame. -/
import Derived.Test.YtoanjhiojpgioaaS18
import Derived.Test.YtoanjhiojpgioaaS15
set_option linter.unusedSimpArgs false
set_option linter.unusedVariables false
set_option maxRecDepth 10000
set_option maxHeartbeats 16000000
namespace Go.Proofs.Ytoanjhiojpgioaa
open Go.AI
attribute [local irreducible] aops aexec acall aiter aop W WO

variable {xf : ExtF} {gf : CallF}

theorem e_ref_Payload (k : Nat) (hk : 8 < k) (t f : Bool) (s : Nat) (c : Cmd) (hc : chkP c) (hs : s = 1 ∨ c.data = []) : FnV (acall B xf gf (k + 2)) n_ref01_Payload [c.av t f s] (.islc false false 1 (BL (payB c))) := by
  have h4 := fun n (hn : 0 ≤ n ∧ n ≤ 9223372036854775807) => e_ref_Bytes (xf := xf) (gf := gf) k hk n 4 hn (by omega)
  have h8 := fun n (hn : 0 ≤ n ∧ n ≤ 9223372036854775807) => e_ref_Bytes (xf := xf) (gf := gf) k hk n 8 hn (by omega)
  obtain ⟨kd, i, p, sz, fr, n, o, g, x⟩ := c
  rcases chkP_inv hc with hC | hC | hC | hC | hC | hC
  · simp only at hC
    obtain ⟨rfl, h1, h2, h3, rfl, rfl, rfl, rfl⟩ := hC
    rw [parentsP_iff] at h1
    refine fn_of B_ref01_Payload rfl ?_
    unfold ref01_Payload Cmd.av
    repeat' (first
     | refine wo_nil ?_
     | refine w_seq ?_
     | refine w_region ?_
     | refine w_ret ?_
     | refine w_skip ?_
     | refine w_exit ?_
     | refine w_block ?_
     | refine w_true rfl ?_
     | refine w_false rfl ?_
     | refine wo_n rfl ?_
     | refine wo_nn rfl ?_
     | refine wo_fresh (h8 i (by omega)) rfl rfl rfl ?_
     | refine wo_fresh (h8 p (by omega)) rfl rfl rfl ?_
     | refine wo_fresh (h4 sz (by omega)) rfl rfl rfl ?_
     | refine wo_fresh (h4 n (by omega)) rfl rfl rfl ?_
     | refine wo_appR rfl rfl rfl rfl (by first | (simp; done) | (simp; omega)) (by first | (simp; done) | (simp; omega)) (by first | (simp; done) | (simp; omega)) (by first | (simp; done) | (simp; omega)) (by first | (simp; done) | (simp; omega)) rfl rfl (fun _ => ?_)
     | refine wo_quo (a := (x.length : Int)) rfl rfl (by omega) (by omega) rfl rfl ?_
     | refine wo_app rfl rfl (by first | exact Or.inl rfl | assumption) rfl (by first | (simp; done) | (simp; omega)) (by simp; omega) rfl rfl (fun _ => ?_)
     | refine wo_mv _ (by conv => lhs; whnf) rfl rfl ?_
     | refine wo_faddr rfl rfl rfl ?_
     | (refine is_load ?_; first | refine wo_load _ rfl rfl rfl (Nat.le_of_ble_eq_true rfl) (by conv => lhs; whnf) rfl rfl ?_ | refine wo_loadI _ rfl (Nat.le_of_ble_eq_true rfl) (by conv => lhs; whnf) rfl rfl ?_)
     | (refine is_bin ?_; first | refine wo_cmpT rfl rfl rfl (by first | (simp only [cmpP]; done) | (simp only [cmpP]; omega)) rfl rfl ?_ | refine wo_cmpF rfl rfl rfl (by first | (simp only [cmpP]; done) | (simp only [cmpP]; omega)) rfl rfl ?_ | refine wo_cmp rfl rfl rfl rfl rfl (fun _ => ?_) (fun _ => ?_) | refine wo_bin (.int _ _) rfl rfl rfl ?_)
     | (refine is_len ?_; first | refine wo_len rfl rfl rfl ?_ | refine wo_lenS rfl rfl rfl ?_ | refine wo_len0 rfl rfl rfl ?_)
     | refine wo_box _ (by conv => lhs; whnf) (by rfl) rfl rfl ?_
     | refine wo_nilrow rfl rfl ?_
     | refine wo_app rfl rfl (by (first | exact Or.inl rfl | exact Or.inr rfl | assumption)) (by (first | rfl | exact Heap.upd_same _ _ _)) (by (first | rfl | (simp; done) | (simp; omega))) (by (first | omega | (simp; omega))) rfl rfl (fun _ => ?_))
    refine ⟨Or.inr rfl, _, rfl, (fz_out (n := 4) rfl (by first | (simp; done) | (simp; omega))).trans ?_⟩
    simp [payB, putB_cons, putB_nil]
  · simp only at hC
    obtain ⟨rfl, h1, h2, rfl, rfl, rfl, rfl, rfl, rfl⟩ := hC
    refine fn_of B_ref01_Payload rfl ?_
    unfold ref01_Payload Cmd.av
    repeat' (first
     | refine wo_nil ?_
     | refine w_seq ?_
     | refine w_region ?_
     | refine w_ret ?_
     | refine w_skip ?_
     | refine w_exit ?_
     | refine w_block ?_
     | refine w_true rfl ?_
     | refine w_false rfl ?_
     | refine wo_n rfl ?_
     | refine wo_nn rfl ?_
     | refine wo_fresh (h4 fr (by omega)) rfl rfl rfl ?_
     | refine wo_fresh (h4 (x.length / 64 : Int) (by omega)) rfl rfl rfl ?_
     | refine wo_appR rfl rfl rfl rfl (by first | (simp; done) | (simp; omega)) (by first | (simp; done) | (simp; omega)) (by first | (simp; done) | (simp; omega)) (by first | (simp; done) | (simp; omega)) (by first | (simp; done) | (simp; omega)) rfl rfl (fun _ => ?_)
     | refine wo_quo (a := (x.length : Int)) rfl rfl (by omega) (by omega) rfl rfl ?_
     | refine wo_app rfl rfl (by first | exact Or.inl rfl | assumption) rfl (by first | (simp; done) | (simp; omega)) (by simp; omega) rfl rfl (fun _ => ?_)
     | refine wo_mv _ (by conv => lhs; whnf) rfl rfl ?_
     | refine wo_faddr rfl rfl rfl ?_
     | (refine is_load ?_; first | refine wo_load _ rfl rfl rfl (Nat.le_of_ble_eq_true rfl) (by conv => lhs; whnf) rfl rfl ?_ | refine wo_loadI _ rfl (Nat.le_of_ble_eq_true rfl) (by conv => lhs; whnf) rfl rfl ?_)
     | (refine is_bin ?_; first | refine wo_cmpT rfl rfl rfl (by first | (simp only [cmpP]; done) | (simp only [cmpP]; omega)) rfl rfl ?_ | refine wo_cmpF rfl rfl rfl (by first | (simp only [cmpP]; done) | (simp only [cmpP]; omega)) rfl rfl ?_ | refine wo_cmp rfl rfl rfl rfl rfl (fun _ => ?_) (fun _ => ?_) | refine wo_bin (.int _ _) rfl rfl rfl ?_)
     | (refine is_len ?_; first | refine wo_len rfl rfl rfl ?_ | refine wo_lenS rfl rfl rfl ?_ | refine wo_len0 rfl rfl rfl ?_)
     | refine wo_box _ (by conv => lhs; whnf) (by rfl) rfl rfl ?_
     | refine wo_nilrow rfl rfl ?_
     | refine wo_app rfl rfl (by (first | exact Or.inl rfl | exact Or.inr rfl | assumption)) (by (first | rfl | exact Heap.upd_same _ _ _)) (by (first | rfl | (simp; done) | (simp; omega))) (by (first | omega | (simp; omega))) rfl rfl (fun _ => ?_))
    refine ⟨Or.inr rfl, _, rfl, (fz_out (n := 4) rfl (by first | (simp; done) | (simp; omega))).trans ?_⟩
    simp [payB, putB_cons, putB_nil]
  · simp only at hC
    obtain ⟨rfl, h1, h2, rfl, rfl, rfl, rfl, rfl, rfl⟩ := hC
    refine fn_of B_ref01_Payload rfl ?_
    unfold ref01_Payload Cmd.av
    repeat' (first
     | refine wo_nil ?_
     | refine w_seq ?_
     | refine w_region ?_
     | refine w_ret ?_
     | refine w_skip ?_
     | refine w_exit ?_
     | refine w_block ?_
     | refine w_true rfl ?_
     | refine w_false rfl ?_
     | refine wo_n rfl ?_
     | refine wo_nn rfl ?_
     | refine wo_fresh (h4 fr (by omega)) rfl rfl rfl ?_
     | refine wo_fresh (h4 n (by omega)) rfl rfl rfl ?_
     | refine wo_appR rfl rfl rfl rfl (by first | (simp; done) | (simp; omega)) (by first | (simp; done) | (simp; omega)) (by first | (simp; done) | (simp; omega)) (by first | (simp; done) | (simp; omega)) (by first | (simp; done) | (simp; omega)) rfl rfl (fun _ => ?_)
     | refine wo_quo (a := (x.length : Int)) rfl rfl (by omega) (by omega) rfl rfl ?_
     | refine wo_app rfl rfl (by first | exact Or.inl rfl | assumption) rfl (by first | (simp; done) | (simp; omega)) (by simp; omega) rfl rfl (fun _ => ?_)
     | refine wo_mv _ (by conv => lhs; whnf) rfl rfl ?_
     | refine wo_faddr rfl rfl rfl ?_
     | (refine is_load ?_; first | refine wo_load _ rfl rfl rfl (Nat.le_of_ble_eq_true rfl) (by conv => lhs; whnf) rfl rfl ?_ | refine wo_loadI _ rfl (Nat.le_of_ble_eq_true rfl) (by conv => lhs; whnf) rfl rfl ?_)
     | (refine is_bin ?_; first | refine wo_cmpT rfl rfl rfl (by first | (simp only [cmpP]; done) | (simp only [cmpP]; omega)) rfl rfl ?_ | refine wo_cmpF rfl rfl rfl (by first | (simp only [cmpP]; done) | (simp only [cmpP]; omega)) rfl rfl ?_ | refine wo_cmp rfl rfl rfl rfl rfl (fun _ => ?_) (fun _ => ?_) | refine wo_bin (.int _ _) rfl rfl rfl ?_)
     | (refine is_len ?_; first | refine wo_len rfl rfl rfl ?_ | refine wo_lenS rfl rfl rfl ?_ | refine wo_len0 rfl rfl rfl ?_)
     | refine wo_box _ (by conv => lhs; whnf) (by rfl) rfl rfl ?_
     | refine wo_nilrow rfl rfl ?_
     | refine wo_app rfl rfl (by (first | exact Or.inl rfl | exact Or.inr rfl | assumption)) (by (first | rfl | exact Heap.upd_same _ _ _)) (by (first | rfl | (simp; done) | (simp; omega))) (by (first | omega | (simp; omega))) rfl rfl (fun _ => ?_))
    refine ⟨Or.inr rfl, _, rfl, (fz_out (n := 4) rfl (by first | (simp; done) | (simp; omega))).trans ?_⟩
    simp [payB, putB_cons, putB_nil]
  · simp only at hC
    obtain ⟨rfl, h1, h2, h3, rfl, rfl, rfl, rfl, rfl⟩ := hC
    refine fn_of B_ref01_Payload rfl ?_
    unfold ref01_Payload Cmd.av
    repeat' (first
     | refine wo_nil ?_
     | refine w_seq ?_
     | refine w_region ?_
     | refine w_ret ?_
     | refine w_skip ?_
     | refine w_exit ?_
     | refine w_block ?_
     | refine w_true rfl ?_
     | refine w_false rfl ?_
     | refine wo_n rfl ?_
     | refine wo_nn rfl ?_
     | refine wo_fresh (h4 fr (by omega)) rfl rfl rfl ?_
     | refine wo_fresh (h4 n (by omega)) rfl rfl rfl ?_
     | refine wo_fresh (h4 o (by omega)) rfl rfl rfl ?_
     | refine wo_appR rfl rfl rfl rfl (by first | (simp; done) | (simp; omega)) (by first | (simp; done) | (simp; omega)) (by first | (simp; done) | (simp; omega)) (by first | (simp; done) | (simp; omega)) (by first | (simp; done) | (simp; omega)) rfl rfl (fun _ => ?_)
     | refine wo_quo (a := (x.length : Int)) rfl rfl (by omega) (by omega) rfl rfl ?_
     | refine wo_app rfl rfl (by first | exact Or.inl rfl | assumption) rfl (by first | (simp; done) | (simp; omega)) (by simp; omega) rfl rfl (fun _ => ?_)
     | refine wo_mv _ (by conv => lhs; whnf) rfl rfl ?_
     | refine wo_faddr rfl rfl rfl ?_
     | (refine is_load ?_; first | refine wo_load _ rfl rfl rfl (Nat.le_of_ble_eq_true rfl) (by conv => lhs; whnf) rfl rfl ?_ | refine wo_loadI _ rfl (Nat.le_of_ble_eq_true rfl) (by conv => lhs; whnf) rfl rfl ?_)
     | (refine is_bin ?_; first | refine wo_cmpT rfl rfl rfl (by first | (simp only [cmpP]; done) | (simp only [cmpP]; omega)) rfl rfl ?_ | refine wo_cmpF rfl rfl rfl (by first | (simp only [cmpP]; done) | (simp only [cmpP]; omega)) rfl rfl ?_ | refine wo_cmp rfl rfl rfl rfl rfl (fun _ => ?_) (fun _ => ?_) | refine wo_bin (.int _ _) rfl rfl rfl ?_)
     | (refine is_len ?_; first | refine wo_len rfl rfl rfl ?_ | refine wo_lenS rfl rfl rfl ?_ | refine wo_len0 rfl rfl rfl ?_)
     | refine wo_box _ (by conv => lhs; whnf) (by rfl) rfl rfl ?_
     | refine wo_nilrow rfl rfl ?_
     | refine wo_app rfl rfl (by (first | exact Or.inl rfl | exact Or.inr rfl | assumption)) (by (first | rfl | exact Heap.upd_same _ _ _)) (by (first | rfl | (simp; done) | (simp; omega))) (by (first | omega | (simp; omega))) rfl rfl (fun _ => ?_))
    refine ⟨Or.inr rfl, _, rfl, (fz_out (n := 4) rfl (by first | (simp; done) | (simp; omega))).trans ?_⟩
    simp [payB, putB_cons, putB_nil]
  · simp only at hC
    obtain ⟨rfl, h1, rfl, rfl, rfl, rfl, rfl, rfl, rfl⟩ := hC
    refine fn_of B_ref01_Payload rfl ?_
    unfold ref01_Payload Cmd.av
    repeat' (first
     | refine wo_nil ?_
     | refine w_seq ?_
     | refine w_region ?_
     | refine w_ret ?_
     | refine w_skip ?_
     | refine w_exit ?_
     | refine w_block ?_
     | refine w_true rfl ?_
     | refine w_false rfl ?_
     | refine wo_n rfl ?_
     | refine wo_nn rfl ?_
     | refine wo_fresh (h4 sz (by omega)) rfl rfl rfl ?_
     | refine wo_appR rfl rfl rfl rfl (by first | (simp; done) | (simp; omega)) (by first | (simp; done) | (simp; omega)) (by first | (simp; done) | (simp; omega)) (by first | (simp; done) | (simp; omega)) (by first | (simp; done) | (simp; omega)) rfl rfl (fun _ => ?_)
     | refine wo_quo (a := (x.length : Int)) rfl rfl (by omega) (by omega) rfl rfl ?_
     | refine wo_app rfl rfl (by first | exact Or.inl rfl | assumption) rfl (by first | (simp; done) | (simp; omega)) (by simp; omega) rfl rfl (fun _ => ?_)
     | refine wo_mv _ (by conv => lhs; whnf) rfl rfl ?_
     | refine wo_faddr rfl rfl rfl ?_
     | (refine is_load ?_; first | refine wo_load _ rfl rfl rfl (Nat.le_of_ble_eq_true rfl) (by conv => lhs; whnf) rfl rfl ?_ | refine wo_loadI _ rfl (Nat.le_of_ble_eq_true rfl) (by conv => lhs; whnf) rfl rfl ?_)
     | (refine is_bin ?_; first | refine wo_cmpT rfl rfl rfl (by first | (simp only [cmpP]; done) | (simp only [cmpP]; omega)) rfl rfl ?_ | refine wo_cmpF rfl rfl rfl (by first | (simp only [cmpP]; done) | (simp only [cmpP]; omega)) rfl rfl ?_ | refine wo_cmp rfl rfl rfl rfl rfl (fun _ => ?_) (fun _ => ?_) | refine wo_bin (.int _ _) rfl rfl rfl ?_)
     | (refine is_len ?_; first | refine wo_len rfl rfl rfl ?_ | refine wo_lenS rfl rfl rfl ?_ | refine wo_len0 rfl rfl rfl ?_)
     | refine wo_box _ (by conv => lhs; whnf) (by rfl) rfl rfl ?_
     | refine wo_nilrow rfl rfl ?_
     | refine wo_app rfl rfl (by (first | exact Or.inl rfl | exact Or.inr rfl | assumption)) (by (first | rfl | exact Heap.upd_same _ _ _)) (by (first | rfl | (simp; done) | (simp; omega))) (by (first | omega | (simp; omega))) rfl rfl (fun _ => ?_))
    refine ⟨Or.inr rfl, _, rfl, (fz_out (n := 4) rfl (by first | (simp; done) | (simp; omega))).trans ?_⟩
    simp [payB, putB_cons, putB_nil]
  · simp only at hC
    obtain ⟨rfl, h1, h2, rfl, rfl, rfl, rfl, rfl, rfl⟩ := hC
    refine fn_of B_ref01_Payload rfl ?_
    unfold ref01_Payload Cmd.av
    repeat' (first
     | refine wo_nil ?_
     | refine w_seq ?_
     | refine w_region ?_
     | refine w_ret ?_
     | refine w_skip ?_
     | refine w_exit ?_
     | refine w_block ?_
     | refine w_true rfl ?_
     | refine w_false rfl ?_
     | refine wo_n rfl ?_
     | refine wo_nn rfl ?_
     | refine wo_fresh (h4 n (by omega)) rfl rfl rfl ?_
     | refine wo_fresh (h4 g (by omega)) rfl rfl rfl ?_
     | refine wo_appR rfl rfl rfl rfl (by first | (simp; done) | (simp; omega)) (by first | (simp; done) | (simp; omega)) (by first | (simp; done) | (simp; omega)) (by first | (simp; done) | (simp; omega)) (by first | (simp; done) | (simp; omega)) rfl rfl (fun _ => ?_)
     | refine wo_quo (a := (x.length : Int)) rfl rfl (by omega) (by omega) rfl rfl ?_
     | refine wo_app rfl rfl (by first | exact Or.inl rfl | assumption) rfl (by first | (simp; done) | (simp; omega)) (by simp; omega) rfl rfl (fun _ => ?_)
     | refine wo_mv _ (by conv => lhs; whnf) rfl rfl ?_
     | refine wo_faddr rfl rfl rfl ?_
     | (refine is_load ?_; first | refine wo_load _ rfl rfl rfl (Nat.le_of_ble_eq_true rfl) (by conv => lhs; whnf) rfl rfl ?_ | refine wo_loadI _ rfl (Nat.le_of_ble_eq_true rfl) (by conv => lhs; whnf) rfl rfl ?_)
     | (refine is_bin ?_; first | refine wo_cmpT rfl rfl rfl (by first | (simp only [cmpP]; done) | (simp only [cmpP]; omega)) rfl rfl ?_ | refine wo_cmpF rfl rfl rfl (by first | (simp only [cmpP]; done) | (simp only [cmpP]; omega)) rfl rfl ?_ | refine wo_cmp rfl rfl rfl rfl rfl (fun _ => ?_) (fun _ => ?_) | refine wo_bin (.int _ _) rfl rfl rfl ?_)
     | (refine is_len ?_; first | refine wo_len rfl rfl rfl ?_ | refine wo_lenS rfl rfl rfl ?_ | refine wo_len0 rfl rfl rfl ?_)
     | refine wo_box _ (by conv => lhs; whnf) (by rfl) rfl rfl ?_
     | refine wo_nilrow rfl rfl ?_
     | refine wo_app rfl rfl (by (first | exact Or.inl rfl | exact Or.inr rfl | assumption)) (by (first | rfl | exact Heap.upd_same _ _ _)) (by (first | rfl | (simp; done) | (simp; omega))) (by (first | omega | (simp; omega))) rfl rfl (fun _ => ?_))
    refine ⟨Or.inr rfl, _, rfl, (fz_out (n := 4) rfl (by first | (simp; done) | (simp; omega))).trans ?_⟩
    simp [payB, putB_cons, putB_nil]

theorem e_ref_FrameBytes (k : Nat) (hk : 1000000 ≤ k) (t f : Bool) (s : Nat) (seq : Int) (c : Cmd) (hc : chkP c) (hq : 0 ≤ seq ∧ seq ≤ 4294967295) (hs : s = 1 ∨ c.data = []) : FnV (acall B xf gf (k + 3)) n_ref01_FrameBytes [.int .i64 seq, c.av t f s] (.islc false false 1 (BL (frB seq c))) := by
  have hp := e_ref_Payload (xf := xf) (gf := gf) k (by omega) t f s c hc hs
  have hkd := chk_kind hc
  have hpl := payB_le hc
  have hcr := crcMore_range (frH seq c)
  have b1 := e_ref_Bytes (xf := xf) (gf := gf) (k + 1) (by omega) seq 4 (by omega) (by omega)
  have b2 := e_ref_Bytes (xf := xf) (gf := gf) (k + 1) (by omega) c.kind 4 (by omega) (by omega)
  have b3 := e_ref_Bytes (xf := xf) (gf := gf) (k + 1) (by omega) ((payB c).length : Int) 4 (by omega) (by omega)
  have b4 := e_ref_Bytes (xf := xf) (gf := gf) (k + 1) (by omega) (crcMore 0 (frH seq c)) 4 (by omega) (by omega)
  have hH : frH seq c = [70, 82, 65, 77] ++ leB 4 seq ++ leB 4 c.kind ++ leB 4 ((payB c).length : Int) ++ payB c := by simp [frH, putB_cons, putB_nil]
  have hsum := e_ref_Sum (xf := xf) (gf := gf) k hk true false (frH seq c) (by rw [frH_length]; omega)
  rw [hH] at hsum b4
  refine fn_of B_ref01_FrameBytes rfl ?_
  unfold ref01_FrameBytes Cmd.av
  unfold Cmd.av at hp
  repeat' (first
   | refine wo_nil ?_
   | refine w_seq ?_
   | refine w_region ?_
   | refine w_ret ?_
   | refine w_skip ?_
   | refine w_exit ?_
   | refine w_block ?_
   | refine w_true rfl ?_
   | refine w_false rfl ?_
   | refine wo_n rfl ?_
   | refine wo_nn rfl ?_
   | refine wo_call hp rfl rfl rfl ?_
   | refine wo_fresh b1 rfl rfl rfl ?_
   | refine wo_fresh b2 rfl rfl rfl ?_
   | refine wo_fresh b3 rfl rfl rfl ?_
   | refine wo_fresh b4 rfl rfl rfl ?_
   | refine wo_appR (l := [70, 82, 65, 77]) rfl rfl rfl rfl (by first | (simp; done) | (simp; omega)) (by first | (simp; done) | (simp; omega)) (by first | (simp; done) | (simp; omega)) (by first | (simp; done) | (simp; omega)) (by first | (simp; done) | (simp; omega)) rfl rfl (fun _ => ?_)
   | refine wo_appR rfl rfl rfl rfl (by first | (simp; done) | (simp; omega)) (by first | (simp; done) | (simp; omega)) (by first | (simp; done) | (simp; omega)) (by first | (simp; done) | (simp; omega)) (by first | (simp; done) | (simp; omega)) rfl rfl (fun _ => ?_)
   | refine wo_call hsum rfl (ha_slc rfl rfl (by first | (simp; done) | (simp; omega))) rfl ?_
   | refine wo_mv _ (by conv => lhs; whnf) rfl rfl ?_
   | refine wo_faddr rfl rfl rfl ?_
   | (refine is_load ?_; first | refine wo_load _ rfl rfl rfl (Nat.le_of_ble_eq_true rfl) (by conv => lhs; whnf) rfl rfl ?_ | refine wo_loadI _ rfl (Nat.le_of_ble_eq_true rfl) (by conv => lhs; whnf) rfl rfl ?_)
   | (refine is_len ?_; first | refine wo_len rfl rfl rfl ?_ | refine wo_lenS rfl rfl rfl ?_ | refine wo_len0 rfl rfl rfl ?_)
   | refine wo_box _ (by conv => lhs; whnf) (by rfl) rfl rfl ?_
   | refine wo_nilrow rfl rfl ?_
   | refine wo_buildS rfl rfl rfl rfl ?_
   | refine wo_app rfl rfl (by (first | exact Or.inl rfl | exact Or.inr rfl | assumption)) (by (first | rfl | exact Heap.upd_same _ _ _)) (by (first | rfl | (simp; done) | (simp; omega))) (by (first | omega | (simp; omega))) rfl rfl (fun _ => ?_)
   | refine wo_ss rfl rfl rfl (by decide) (by decide) rfl rfl ?_)
  refine ⟨Or.inr rfl, _, rfl, (fz_out (n := 4) rfl (by first | (simp; done) | (simp; omega))).trans ?_⟩
  rw [frB, putB_cons, putB_nil, List.append_nil, hH]

end Go.Proofs.Ytoanjhiojpgioaa
