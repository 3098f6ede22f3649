/- woodcutlaw09: FrameFields, by the interpreter. -/
import Derived.Test.YtoanjhiojpgioaaP1
import Derived.Test.YtoanjhiojpgioaaS6
set_option linter.unusedSimpArgs false
set_option linter.unusedVariables false
set_option maxRecDepth 10000
set_option maxHeartbeats 16000000
namespace Go.Proofs.Ytoanjhiojpgioaa
open Go.AI
attribute [local irreducible] aops aexec acall aiter aop W WO

variable {xf : ExtF} {gf : CallF}

abbrev zCmd (kind size frm count source : Int) (data : List UInt8) : Cmd := ⟨kind, 0, 0, size, frm, count, source, 0, data⟩

theorem FrameFields_loop (sq sz fr nn : Int) (h1 : 0 ≤ sq ∧ sq ≤ 4294967295) (h2 : 0 ≤ sz ∧ sz ≤ 512) (h3 : 0 ≤ fr ∧ fr < 500) (h4 : 1 ≤ nn ∧ nn ≤ 12) {T : Tmps} (hT : Has T [(0, .int .i64 sq), (1, .int .i64 sz), (2, .int .i64 fr), (3, .int .i64 nn), (9, .int .i64 0)]) :
    W (aexec (acall B xf gf 1000009) xf 0 1000009 (.loop law09_FrameFields_l0) T Heap.none) (fun ex T' H' => ex = .exit 0) := by
  have hb0 := e_frame_Bytes (xf := xf) (gf := gf) 1000003 (by omega) false true 0 sq (zCmd 5 sz 0 0 0 []) (by simp) (.inr rfl) (.inl rfl)
  have hb1 := e_frame_Bytes (xf := xf) (gf := gf) 1000003 (by omega) false true 0 sq (zCmd 3 0 fr nn 0 []) (by simp) (.inr rfl) (.inl rfl)
  rw [if_pos ⟨by simp [chkP, bareP, inR]; omega, h1⟩] at hb0
  rw [if_pos ⟨by simp [chkP, bareP, withinP]; omega, h1⟩] at hb1
  have hl0 : (frB sq (zCmd 5 sz 0 0 0 [])).length = 24 := by rw [frB_length]; simp [payB]
  have hl1 : (frB sq (zCmd 3 0 fr nn 0 [])).length = 28 := by rw [frB_length]; simp [payB]
  obtain ⟨b0, hb0e⟩ : ∃ b, b = frB sq (zCmd 5 sz 0 0 0 []) := ⟨_, rfl⟩
  obtain ⟨b1, hb1e⟩ : ∃ b, b = frB sq (zCmd 3 0 fr nn 0 []) := ⟨_, rfl⟩
  have g0 := fun n => e_le_Get (xf := xf) (gf := gf) 1000008 (by omega) false false b0 n 4 (by omega) (by rw [hb0e]; omega)
  have g1 := fun n => e_le_Get (xf := xf) (gf := gf) 1000008 (by omega) false false b1 n 4 (by omega) (by rw [hb1e]; omega)
  have a1 := g0 4; have a2 := g0 8; have a3 := g0 12; have a4 := g0 16
  have c1 := g1 4; have c2 := g1 8; have c3 := g1 12; have c4 := g1 16
  rw [hb0e, frB_seq h1, ← hb0e] at a1
  rw [hb0e, frB_kind (by simp), ← hb0e] at a2
  rw [hb0e, frB_len (by simp [payB]), ← hb0e] at a3
  rw [hb0e, frB_pay (n := sz) (b := []) (by simp [payB, putB]) (by omega), ← hb0e] at a4
  rw [hb1e, frB_seq h1, ← hb1e] at c1
  rw [hb1e, frB_kind (by simp), ← hb1e] at c2
  rw [hb1e, frB_len (by simp [payB]), ← hb1e] at c3
  rw [hb1e, frB_pay (n := fr) (b := leB 4 nn) (by simp [payB, putB]) (by omega), ← hb1e] at c4
  have t0 : b0.take (4 : Int).toNat = [70, 82, 65, 77] := by rw [hb0e]; exact frB_take4 _ _
  have t1 : b1.take (4 : Int).toNat = [70, 82, 65, 77] := by rw [hb1e]; exact frB_take4 _ _
  have p0 : ((payB (zCmd 5 sz 0 0 0 [])).length : Int) = 4 := by simp [payB]
  have p1 : ((payB (zCmd 3 0 fr nn 0 [])).length : Int) = 8 := by simp [payB]
  rw [← hb0e] at hl0 hb0
  rw [← hb1e] at hl1 hb1
  rw [p0] at a3
  rw [p1] at c3
  clear hb0e hb1e g0 g1 p0 p1
  rw [hT.eq]
  simp only [over]
  refine w_iter0 ?_
  refine w_iter1 (n := 1000008) ?_
  unfold law09_FrameFields_l0
  repeat' (first
    | refine wo_nil ?_
    | refine w_seq ?_
    | refine w_region ?_
    | refine w_ret ?_
    | refine w_skip ?_
    | refine w_exit ?_
    | refine w_block ?_
    | refine w_true rfl ?_
    | refine w_false rfl ?_
    | refine wo_n rfl ?_
    | refine wo_nn rfl ?_
    | refine wo_call hb0 rfl rfl rfl ?_
    | refine wo_call a1 rfl rfl rfl ?_
    | refine wo_call a2 rfl rfl rfl ?_
    | refine wo_call a3 rfl rfl rfl ?_
    | refine wo_call a4 rfl rfl rfl ?_
    | refine wo_strneF rfl rfl (by rw [t0]) rfl rfl ?_
    | (refine is_mv ?_; first
        | refine wo_mv (.int _ _) rfl rfl rfl ?_
        | refine wo_mv (.bool true) rfl rfl rfl ?_
        | refine wo_mv (.bool false) rfl rfl rfl ?_
        | refine wo_mv (.islc _ _ _ _) rfl rfl rfl ?_
        | refine wo_mv (.agg _) rfl rfl rfl ?_
        | refine wo_mv (.ptr _ _ _ _ _ _) rfl rfl rfl ?_
        | refine wo_mv (.slc _ _ _ _ _ _ _) rfl rfl rfl ?_
        | refine wo_mv (.iptr _ _) rfl rfl rfl ?_
        | refine wo_mv (.tup _) rfl rfl rfl ?_
        | refine wo_mv (.undef) rfl rfl rfl ?_
        | refine wo_mv (.nilp) rfl rfl rfl ?_
        | refine wo_mv (.fn _ _) rfl rfl rfl ?_
        | refine wo_mv (.str _) rfl rfl rfl ?_
        | refine wo_mv (.nilf) rfl rfl rfl ?_)
    | (refine is_faddr ?_; first
        | refine wo_faddr rfl rfl rfl ?_)
    | (refine is_load ?_; first
        | refine wo_load (.int _ _) rfl rfl rfl (Nat.le_of_ble_eq_true rfl) rfl rfl rfl ?_
        | refine wo_load (.bool true) rfl rfl rfl (Nat.le_of_ble_eq_true rfl) rfl rfl rfl ?_
        | refine wo_load (.bool false) rfl rfl rfl (Nat.le_of_ble_eq_true rfl) rfl rfl rfl ?_
        | refine wo_load (.islc _ _ _ _) rfl rfl rfl (Nat.le_of_ble_eq_true rfl) rfl rfl rfl ?_
        | refine wo_load (.agg _) rfl rfl rfl (Nat.le_of_ble_eq_true rfl) rfl rfl rfl ?_
        | refine wo_load (.slc _ _ _ _ _ _ _) rfl rfl rfl (Nat.le_of_ble_eq_true rfl) rfl rfl rfl ?_
        | refine wo_loadI (.int _ _) rfl (Nat.le_of_ble_eq_true rfl) rfl rfl rfl ?_
        | refine wo_loadI (.bool true) rfl (Nat.le_of_ble_eq_true rfl) rfl rfl rfl ?_
        | refine wo_loadI (.bool false) rfl (Nat.le_of_ble_eq_true rfl) rfl rfl rfl ?_
        | refine wo_loadI (.islc _ _ _ _) rfl (Nat.le_of_ble_eq_true rfl) rfl rfl rfl ?_
        | refine wo_loadI (.agg _) rfl (Nat.le_of_ble_eq_true rfl) rfl rfl rfl ?_
        | refine wo_loadI (.slc _ _ _ _ _ _ _) rfl (Nat.le_of_ble_eq_true rfl) rfl rfl rfl ?_)
    | (refine is_bin ?_; first
        | refine wo_cmpT rfl rfl rfl (by first | (simp only [cmpP]; done) | (simp only [cmpP]; omega)) rfl rfl ?_
        | refine wo_cmpF rfl rfl rfl (by first | (simp only [cmpP]; done) | (simp only [cmpP]; omega)) rfl rfl ?_
        | refine wo_cmp rfl rfl rfl rfl rfl (fun _ => ?_) (fun _ => ?_)
        | refine wo_add rfl rfl (by omega) rfl rfl ?_
        | refine wo_sub rfl rfl (by omega) rfl rfl ?_
        | refine wo_mul rfl rfl (by omega) rfl rfl ?_
        | refine wo_rem rfl rfl (by omega) (by omega) rfl rfl ?_
        | refine wo_bin (.int _ _) rfl rfl rfl ?_)
    | (refine is_pick ?_; first
        | refine wo_pickT (.int _ _) rfl rfl rfl rfl ?_
        | refine wo_pickF (.int _ _) rfl rfl rfl rfl ?_
        | refine wo_pickT (.bool true) rfl rfl rfl rfl ?_
        | refine wo_pickF (.bool true) rfl rfl rfl rfl ?_
        | refine wo_pickT (.bool false) rfl rfl rfl rfl ?_
        | refine wo_pickF (.bool false) rfl rfl rfl rfl ?_
        | refine wo_pickT (.islc _ _ _ _) rfl rfl rfl rfl ?_
        | refine wo_pickF (.islc _ _ _ _) rfl rfl rfl rfl ?_
        | refine wo_pickT (.agg _) rfl rfl rfl rfl ?_
        | refine wo_pickF (.agg _) rfl rfl rfl rfl ?_
        | refine wo_pickT (.ptr _ _ _ _ _ _) rfl rfl rfl rfl ?_
        | refine wo_pickF (.ptr _ _ _ _ _ _) rfl rfl rfl rfl ?_
        | refine wo_pickT (.slc _ _ _ _ _ _ _) rfl rfl rfl rfl ?_
        | refine wo_pickF (.slc _ _ _ _ _ _ _) rfl rfl rfl rfl ?_
        | refine wo_pickT (.iptr _ _) rfl rfl rfl rfl ?_
        | refine wo_pickF (.iptr _ _) rfl rfl rfl rfl ?_
        | refine wo_pickT (.tup _) rfl rfl rfl rfl ?_
        | refine wo_pickF (.tup _) rfl rfl rfl rfl ?_
        | refine wo_pickT (.undef) rfl rfl rfl rfl ?_
        | refine wo_pickF (.undef) rfl rfl rfl rfl ?_
        | refine wo_pickT (.nilp) rfl rfl rfl rfl ?_
        | refine wo_pickF (.nilp) rfl rfl rfl rfl ?_
        | refine wo_pickT (.fn _ _) rfl rfl rfl rfl ?_
        | refine wo_pickF (.fn _ _) rfl rfl rfl rfl ?_
        | refine wo_pickT (.str _) rfl rfl rfl rfl ?_
        | refine wo_pickF (.str _) rfl rfl rfl rfl ?_
        | refine wo_pickT (.nilf) rfl rfl rfl rfl ?_
        | refine wo_pickF (.nilf) rfl rfl rfl rfl ?_)
    | (refine is_un ?_; first
        | refine wo_notT rfl rfl rfl ?_
        | refine wo_notF rfl rfl rfl ?_)
    | (refine is_len ?_; first
        | refine wo_len rfl rfl rfl ?_
        | refine wo_lenS rfl rfl rfl ?_
        | refine wo_len0 rfl rfl rfl ?_)
    | (refine is_extract ?_; first
        | refine wo_extract (.int _ _) rfl rfl rfl rfl ?_
        | refine wo_extract (.bool true) rfl rfl rfl rfl ?_
        | refine wo_extract (.bool false) rfl rfl rfl rfl ?_
        | refine wo_extract (.islc _ _ _ _) rfl rfl rfl rfl ?_
        | refine wo_extract (.agg _) rfl rfl rfl rfl ?_
        | refine wo_extract (.ptr _ _ _ _ _ _) rfl rfl rfl rfl ?_
        | refine wo_extract (.slc _ _ _ _ _ _ _) rfl rfl rfl rfl ?_
        | refine wo_extract (.iptr _ _) rfl rfl rfl rfl ?_
        | refine wo_extract (.tup _) rfl rfl rfl rfl ?_
        | refine wo_extract (.undef) rfl rfl rfl rfl ?_
        | refine wo_extract (.nilp) rfl rfl rfl rfl ?_
        | refine wo_extract (.fn _ _) rfl rfl rfl rfl ?_
        | refine wo_extract (.str _) rfl rfl rfl rfl ?_
        | refine wo_extract (.nilf) rfl rfl rfl rfl ?_)
    | (refine is_store ?_; first
        | refine wo_store rfl rfl rfl rfl rfl rfl rfl (Nat.le_of_ble_eq_true rfl) rfl rfl ?_)
    | (refine is_box ?_; first
        | refine wo_box (.int _ _) rfl rfl rfl rfl ?_
        | refine wo_box (.bool true) rfl rfl rfl rfl ?_
        | refine wo_box (.bool false) rfl rfl rfl rfl ?_
        | refine wo_box (.islc _ _ _ _) rfl rfl rfl rfl ?_
        | refine wo_box (.agg _) rfl rfl rfl rfl ?_
        | refine wo_box (.ptr _ _ _ _ _ _) rfl rfl rfl rfl ?_
        | refine wo_box (.slc _ _ _ _ _ _ _) rfl rfl rfl rfl ?_
        | refine wo_box (.iptr _ _) rfl rfl rfl rfl ?_
        | refine wo_box (.tup _) rfl rfl rfl rfl ?_
        | refine wo_box (.undef) rfl rfl rfl rfl ?_
        | refine wo_box (.nilp) rfl rfl rfl rfl ?_
        | refine wo_box (.fn _ _) rfl rfl rfl rfl ?_
        | refine wo_box (.str _) rfl rfl rfl rfl ?_
        | refine wo_box (.nilf) rfl rfl rfl rfl ?_)
    | (refine is_eqb ?_; first
        | refine wo_eqb true rfl rfl rfl rfl rfl ?_
        | refine wo_eqb false rfl rfl rfl rfl rfl ?_)
    | (refine is_cvi ?_; first
        | refine wo_to64 rfl (by omega) rfl rfl ?_
        | refine wo_tou64 rfl (by omega) rfl rfl ?_
        | refine wo_cvu rfl rfl rfl ?_
        | refine wo_cvi rfl rfl rfl ?_)
    | (refine is_iaddr ?_; first
        | refine wo_at rfl rfl (by omega) (by omega) rfl rfl ?_)
    | (refine is_field ?_; first
        | refine wo_field (.int _ _) rfl (Nat.le_of_ble_eq_true rfl) rfl rfl rfl ?_
        | refine wo_field (.bool true) rfl (Nat.le_of_ble_eq_true rfl) rfl rfl rfl ?_
        | refine wo_field (.bool false) rfl (Nat.le_of_ble_eq_true rfl) rfl rfl rfl ?_
        | refine wo_field (.islc _ _ _ _) rfl (Nat.le_of_ble_eq_true rfl) rfl rfl rfl ?_
        | refine wo_field (.agg _) rfl (Nat.le_of_ble_eq_true rfl) rfl rfl rfl ?_
        | refine wo_field (.slc _ _ _ _ _ _ _) rfl (Nat.le_of_ble_eq_true rfl) rfl rfl rfl ?_)
    | (refine is_nilrow ?_; first
        | refine wo_nilrow rfl rfl ?_)
    | (refine is_build ?_; first
        | refine wo_build (.agg _) rfl rfl rfl rfl ?_)
    | (refine is_buildS ?_; first
        | refine wo_buildS rfl rfl rfl rfl ?_)
    | (refine is_mnmx ?_; first
        | refine wo_mnF rfl rfl rfl rfl ?_)
    | (refine is_appZ ?_; first
        | refine wo_appZ rfl rfl (by (first | rfl | exact Heap.upd_same _ _ _)) (by (first | rfl | (simp; done) | (simp; omega))) (by omega) (by omega) rfl rfl ?_
        | refine wo_appZ0 rfl rfl (by omega) (by omega) rfl rfl ?_)
    | (refine is_app ?_; first
        | refine wo_app rfl rfl (by (first | exact Or.inl rfl | exact Or.inr rfl | assumption)) (by (first | rfl | exact Heap.upd_same _ _ _)) (by (first | rfl | (simp; done) | (simp; omega))) (by (first | omega | (simp; omega))) rfl rfl (fun _ => ?_))
    | (refine is_b2s ?_; first
        | refine wo_b2s rfl (by (first | exact Or.inl rfl | exact Or.inr rfl | assumption)) rfl rfl ?_)
    | (refine is_slice ?_; first
        | refine wo_slice0 rfl (by (first | exact Or.inl rfl | exact Or.inr rfl | assumption)) rfl (by omega) (by omega) rfl rfl ?_
        | refine wo_sliceE rfl (by (first | exact Or.inl rfl | exact Or.inr rfl | assumption)) rfl (by omega) (by omega) rfl rfl ?_
        | refine wo_sliceM rfl (by (first | exact Or.inl rfl | exact Or.inr rfl | assumption)) rfl rfl (by omega) (by omega) (by omega) rfl rfl ?_)
    | (refine is_ss ?_; first
        | refine wo_ss rfl rfl rfl (by decide) (by decide) rfl rfl ?_)
    | (refine is_mks ?_; first
        | refine wo_mks rfl rfl (by omega) (by omega) rfl rfl ?_))
  refine w_iter1 (n := 1000007) ?_
  repeat' (first
    | refine wo_nil ?_
    | refine w_seq ?_
    | refine w_region ?_
    | refine w_ret ?_
    | refine w_skip ?_
    | refine w_exit ?_
    | refine w_block ?_
    | refine w_true rfl ?_
    | refine w_false rfl ?_
    | refine wo_n rfl ?_
    | refine wo_nn rfl ?_
    | refine wo_call hb1 rfl rfl rfl ?_
    | refine wo_call c1 rfl rfl rfl ?_
    | refine wo_call c2 rfl rfl rfl ?_
    | refine wo_call c3 rfl rfl rfl ?_
    | refine wo_call c4 rfl rfl rfl ?_
    | refine wo_strneF rfl rfl (by rw [t1]) rfl rfl ?_
    | (refine is_mv ?_; first
        | refine wo_mv (.int _ _) rfl rfl rfl ?_
        | refine wo_mv (.bool true) rfl rfl rfl ?_
        | refine wo_mv (.bool false) rfl rfl rfl ?_
        | refine wo_mv (.islc _ _ _ _) rfl rfl rfl ?_
        | refine wo_mv (.agg _) rfl rfl rfl ?_
        | refine wo_mv (.ptr _ _ _ _ _ _) rfl rfl rfl ?_
        | refine wo_mv (.slc _ _ _ _ _ _ _) rfl rfl rfl ?_
        | refine wo_mv (.iptr _ _) rfl rfl rfl ?_
        | refine wo_mv (.tup _) rfl rfl rfl ?_
        | refine wo_mv (.undef) rfl rfl rfl ?_
        | refine wo_mv (.nilp) rfl rfl rfl ?_
        | refine wo_mv (.fn _ _) rfl rfl rfl ?_
        | refine wo_mv (.str _) rfl rfl rfl ?_
        | refine wo_mv (.nilf) rfl rfl rfl ?_)
    | (refine is_faddr ?_; first
        | refine wo_faddr rfl rfl rfl ?_)
    | (refine is_load ?_; first
        | refine wo_load (.int _ _) rfl rfl rfl (Nat.le_of_ble_eq_true rfl) rfl rfl rfl ?_
        | refine wo_load (.bool true) rfl rfl rfl (Nat.le_of_ble_eq_true rfl) rfl rfl rfl ?_
        | refine wo_load (.bool false) rfl rfl rfl (Nat.le_of_ble_eq_true rfl) rfl rfl rfl ?_
        | refine wo_load (.islc _ _ _ _) rfl rfl rfl (Nat.le_of_ble_eq_true rfl) rfl rfl rfl ?_
        | refine wo_load (.agg _) rfl rfl rfl (Nat.le_of_ble_eq_true rfl) rfl rfl rfl ?_
        | refine wo_load (.slc _ _ _ _ _ _ _) rfl rfl rfl (Nat.le_of_ble_eq_true rfl) rfl rfl rfl ?_
        | refine wo_loadI (.int _ _) rfl (Nat.le_of_ble_eq_true rfl) rfl rfl rfl ?_
        | refine wo_loadI (.bool true) rfl (Nat.le_of_ble_eq_true rfl) rfl rfl rfl ?_
        | refine wo_loadI (.bool false) rfl (Nat.le_of_ble_eq_true rfl) rfl rfl rfl ?_
        | refine wo_loadI (.islc _ _ _ _) rfl (Nat.le_of_ble_eq_true rfl) rfl rfl rfl ?_
        | refine wo_loadI (.agg _) rfl (Nat.le_of_ble_eq_true rfl) rfl rfl rfl ?_
        | refine wo_loadI (.slc _ _ _ _ _ _ _) rfl (Nat.le_of_ble_eq_true rfl) rfl rfl rfl ?_)
    | (refine is_bin ?_; first
        | refine wo_cmpT rfl rfl rfl (by first | (simp only [cmpP]; done) | (simp only [cmpP]; omega)) rfl rfl ?_
        | refine wo_cmpF rfl rfl rfl (by first | (simp only [cmpP]; done) | (simp only [cmpP]; omega)) rfl rfl ?_
        | refine wo_cmp rfl rfl rfl rfl rfl (fun _ => ?_) (fun _ => ?_)
        | refine wo_add rfl rfl (by omega) rfl rfl ?_
        | refine wo_sub rfl rfl (by omega) rfl rfl ?_
        | refine wo_mul rfl rfl (by omega) rfl rfl ?_
        | refine wo_rem rfl rfl (by omega) (by omega) rfl rfl ?_
        | refine wo_bin (.int _ _) rfl rfl rfl ?_)
    | (refine is_pick ?_; first
        | refine wo_pickT (.int _ _) rfl rfl rfl rfl ?_
        | refine wo_pickF (.int _ _) rfl rfl rfl rfl ?_
        | refine wo_pickT (.bool true) rfl rfl rfl rfl ?_
        | refine wo_pickF (.bool true) rfl rfl rfl rfl ?_
        | refine wo_pickT (.bool false) rfl rfl rfl rfl ?_
        | refine wo_pickF (.bool false) rfl rfl rfl rfl ?_
        | refine wo_pickT (.islc _ _ _ _) rfl rfl rfl rfl ?_
        | refine wo_pickF (.islc _ _ _ _) rfl rfl rfl rfl ?_
        | refine wo_pickT (.agg _) rfl rfl rfl rfl ?_
        | refine wo_pickF (.agg _) rfl rfl rfl rfl ?_
        | refine wo_pickT (.ptr _ _ _ _ _ _) rfl rfl rfl rfl ?_
        | refine wo_pickF (.ptr _ _ _ _ _ _) rfl rfl rfl rfl ?_
        | refine wo_pickT (.slc _ _ _ _ _ _ _) rfl rfl rfl rfl ?_
        | refine wo_pickF (.slc _ _ _ _ _ _ _) rfl rfl rfl rfl ?_
        | refine wo_pickT (.iptr _ _) rfl rfl rfl rfl ?_
        | refine wo_pickF (.iptr _ _) rfl rfl rfl rfl ?_
        | refine wo_pickT (.tup _) rfl rfl rfl rfl ?_
        | refine wo_pickF (.tup _) rfl rfl rfl rfl ?_
        | refine wo_pickT (.undef) rfl rfl rfl rfl ?_
        | refine wo_pickF (.undef) rfl rfl rfl rfl ?_
        | refine wo_pickT (.nilp) rfl rfl rfl rfl ?_
        | refine wo_pickF (.nilp) rfl rfl rfl rfl ?_
        | refine wo_pickT (.fn _ _) rfl rfl rfl rfl ?_
        | refine wo_pickF (.fn _ _) rfl rfl rfl rfl ?_
        | refine wo_pickT (.str _) rfl rfl rfl rfl ?_
        | refine wo_pickF (.str _) rfl rfl rfl rfl ?_
        | refine wo_pickT (.nilf) rfl rfl rfl rfl ?_
        | refine wo_pickF (.nilf) rfl rfl rfl rfl ?_)
    | (refine is_un ?_; first
        | refine wo_notT rfl rfl rfl ?_
        | refine wo_notF rfl rfl rfl ?_)
    | (refine is_len ?_; first
        | refine wo_len rfl rfl rfl ?_
        | refine wo_lenS rfl rfl rfl ?_
        | refine wo_len0 rfl rfl rfl ?_)
    | (refine is_extract ?_; first
        | refine wo_extract (.int _ _) rfl rfl rfl rfl ?_
        | refine wo_extract (.bool true) rfl rfl rfl rfl ?_
        | refine wo_extract (.bool false) rfl rfl rfl rfl ?_
        | refine wo_extract (.islc _ _ _ _) rfl rfl rfl rfl ?_
        | refine wo_extract (.agg _) rfl rfl rfl rfl ?_
        | refine wo_extract (.ptr _ _ _ _ _ _) rfl rfl rfl rfl ?_
        | refine wo_extract (.slc _ _ _ _ _ _ _) rfl rfl rfl rfl ?_
        | refine wo_extract (.iptr _ _) rfl rfl rfl rfl ?_
        | refine wo_extract (.tup _) rfl rfl rfl rfl ?_
        | refine wo_extract (.undef) rfl rfl rfl rfl ?_
        | refine wo_extract (.nilp) rfl rfl rfl rfl ?_
        | refine wo_extract (.fn _ _) rfl rfl rfl rfl ?_
        | refine wo_extract (.str _) rfl rfl rfl rfl ?_
        | refine wo_extract (.nilf) rfl rfl rfl rfl ?_)
    | (refine is_store ?_; first
        | refine wo_store rfl rfl rfl rfl rfl rfl rfl (Nat.le_of_ble_eq_true rfl) rfl rfl ?_)
    | (refine is_box ?_; first
        | refine wo_box (.int _ _) rfl rfl rfl rfl ?_
        | refine wo_box (.bool true) rfl rfl rfl rfl ?_
        | refine wo_box (.bool false) rfl rfl rfl rfl ?_
        | refine wo_box (.islc _ _ _ _) rfl rfl rfl rfl ?_
        | refine wo_box (.agg _) rfl rfl rfl rfl ?_
        | refine wo_box (.ptr _ _ _ _ _ _) rfl rfl rfl rfl ?_
        | refine wo_box (.slc _ _ _ _ _ _ _) rfl rfl rfl rfl ?_
        | refine wo_box (.iptr _ _) rfl rfl rfl rfl ?_
        | refine wo_box (.tup _) rfl rfl rfl rfl ?_
        | refine wo_box (.undef) rfl rfl rfl rfl ?_
        | refine wo_box (.nilp) rfl rfl rfl rfl ?_
        | refine wo_box (.fn _ _) rfl rfl rfl rfl ?_
        | refine wo_box (.str _) rfl rfl rfl rfl ?_
        | refine wo_box (.nilf) rfl rfl rfl rfl ?_)
    | (refine is_eqb ?_; first
        | refine wo_eqb true rfl rfl rfl rfl rfl ?_
        | refine wo_eqb false rfl rfl rfl rfl rfl ?_)
    | (refine is_cvi ?_; first
        | refine wo_to64 rfl (by omega) rfl rfl ?_
        | refine wo_tou64 rfl (by omega) rfl rfl ?_
        | refine wo_cvu rfl rfl rfl ?_
        | refine wo_cvi rfl rfl rfl ?_)
    | (refine is_iaddr ?_; first
        | refine wo_at rfl rfl (by omega) (by omega) rfl rfl ?_)
    | (refine is_field ?_; first
        | refine wo_field (.int _ _) rfl (Nat.le_of_ble_eq_true rfl) rfl rfl rfl ?_
        | refine wo_field (.bool true) rfl (Nat.le_of_ble_eq_true rfl) rfl rfl rfl ?_
        | refine wo_field (.bool false) rfl (Nat.le_of_ble_eq_true rfl) rfl rfl rfl ?_
        | refine wo_field (.islc _ _ _ _) rfl (Nat.le_of_ble_eq_true rfl) rfl rfl rfl ?_
        | refine wo_field (.agg _) rfl (Nat.le_of_ble_eq_true rfl) rfl rfl rfl ?_
        | refine wo_field (.slc _ _ _ _ _ _ _) rfl (Nat.le_of_ble_eq_true rfl) rfl rfl rfl ?_)
    | (refine is_nilrow ?_; first
        | refine wo_nilrow rfl rfl ?_)
    | (refine is_build ?_; first
        | refine wo_build (.agg _) rfl rfl rfl rfl ?_)
    | (refine is_buildS ?_; first
        | refine wo_buildS rfl rfl rfl rfl ?_)
    | (refine is_mnmx ?_; first
        | refine wo_mnF rfl rfl rfl rfl ?_)
    | (refine is_appZ ?_; first
        | refine wo_appZ rfl rfl (by (first | rfl | exact Heap.upd_same _ _ _)) (by (first | rfl | (simp; done) | (simp; omega))) (by omega) (by omega) rfl rfl ?_
        | refine wo_appZ0 rfl rfl (by omega) (by omega) rfl rfl ?_)
    | (refine is_app ?_; first
        | refine wo_app rfl rfl (by (first | exact Or.inl rfl | exact Or.inr rfl | assumption)) (by (first | rfl | exact Heap.upd_same _ _ _)) (by (first | rfl | (simp; done) | (simp; omega))) (by (first | omega | (simp; omega))) rfl rfl (fun _ => ?_))
    | (refine is_b2s ?_; first
        | refine wo_b2s rfl (by (first | exact Or.inl rfl | exact Or.inr rfl | assumption)) rfl rfl ?_)
    | (refine is_slice ?_; first
        | refine wo_slice0 rfl (by (first | exact Or.inl rfl | exact Or.inr rfl | assumption)) rfl (by omega) (by omega) rfl rfl ?_
        | refine wo_sliceE rfl (by (first | exact Or.inl rfl | exact Or.inr rfl | assumption)) rfl (by omega) (by omega) rfl rfl ?_
        | refine wo_sliceM rfl (by (first | exact Or.inl rfl | exact Or.inr rfl | assumption)) rfl rfl (by omega) (by omega) (by omega) rfl rfl ?_)
    | (refine is_ss ?_; first
        | refine wo_ss rfl rfl rfl (by decide) (by decide) rfl rfl ?_)
    | (refine is_mks ?_; first
        | refine wo_mks rfl rfl (by omega) (by omega) rfl rfl ?_))
  refine w_iter1 (n := 1000006) ?_
  repeat' (first
    | refine wo_nil ?_
    | refine w_seq ?_
    | refine w_region ?_
    | refine w_ret ?_
    | refine w_skip ?_
    | refine w_exit ?_
    | refine w_block ?_
    | refine w_true rfl ?_
    | refine w_false rfl ?_
    | refine wo_n rfl ?_
    | refine wo_nn rfl ?_
    | (refine is_mv ?_; first
        | refine wo_mv (.int _ _) rfl rfl rfl ?_
        | refine wo_mv (.bool true) rfl rfl rfl ?_
        | refine wo_mv (.bool false) rfl rfl rfl ?_
        | refine wo_mv (.islc _ _ _ _) rfl rfl rfl ?_
        | refine wo_mv (.agg _) rfl rfl rfl ?_
        | refine wo_mv (.ptr _ _ _ _ _ _) rfl rfl rfl ?_
        | refine wo_mv (.slc _ _ _ _ _ _ _) rfl rfl rfl ?_
        | refine wo_mv (.iptr _ _) rfl rfl rfl ?_
        | refine wo_mv (.tup _) rfl rfl rfl ?_
        | refine wo_mv (.undef) rfl rfl rfl ?_
        | refine wo_mv (.nilp) rfl rfl rfl ?_
        | refine wo_mv (.fn _ _) rfl rfl rfl ?_
        | refine wo_mv (.str _) rfl rfl rfl ?_
        | refine wo_mv (.nilf) rfl rfl rfl ?_)
    | (refine is_faddr ?_; first
        | refine wo_faddr rfl rfl rfl ?_)
    | (refine is_load ?_; first
        | refine wo_load (.int _ _) rfl rfl rfl (Nat.le_of_ble_eq_true rfl) rfl rfl rfl ?_
        | refine wo_load (.bool true) rfl rfl rfl (Nat.le_of_ble_eq_true rfl) rfl rfl rfl ?_
        | refine wo_load (.bool false) rfl rfl rfl (Nat.le_of_ble_eq_true rfl) rfl rfl rfl ?_
        | refine wo_load (.islc _ _ _ _) rfl rfl rfl (Nat.le_of_ble_eq_true rfl) rfl rfl rfl ?_
        | refine wo_load (.agg _) rfl rfl rfl (Nat.le_of_ble_eq_true rfl) rfl rfl rfl ?_
        | refine wo_load (.slc _ _ _ _ _ _ _) rfl rfl rfl (Nat.le_of_ble_eq_true rfl) rfl rfl rfl ?_
        | refine wo_loadI (.int _ _) rfl (Nat.le_of_ble_eq_true rfl) rfl rfl rfl ?_
        | refine wo_loadI (.bool true) rfl (Nat.le_of_ble_eq_true rfl) rfl rfl rfl ?_
        | refine wo_loadI (.bool false) rfl (Nat.le_of_ble_eq_true rfl) rfl rfl rfl ?_
        | refine wo_loadI (.islc _ _ _ _) rfl (Nat.le_of_ble_eq_true rfl) rfl rfl rfl ?_
        | refine wo_loadI (.agg _) rfl (Nat.le_of_ble_eq_true rfl) rfl rfl rfl ?_
        | refine wo_loadI (.slc _ _ _ _ _ _ _) rfl (Nat.le_of_ble_eq_true rfl) rfl rfl rfl ?_)
    | (refine is_bin ?_; first
        | refine wo_cmpT rfl rfl rfl (by first | (simp only [cmpP]; done) | (simp only [cmpP]; omega)) rfl rfl ?_
        | refine wo_cmpF rfl rfl rfl (by first | (simp only [cmpP]; done) | (simp only [cmpP]; omega)) rfl rfl ?_
        | refine wo_cmp rfl rfl rfl rfl rfl (fun _ => ?_) (fun _ => ?_)
        | refine wo_add rfl rfl (by omega) rfl rfl ?_
        | refine wo_sub rfl rfl (by omega) rfl rfl ?_
        | refine wo_mul rfl rfl (by omega) rfl rfl ?_
        | refine wo_rem rfl rfl (by omega) (by omega) rfl rfl ?_
        | refine wo_bin (.int _ _) rfl rfl rfl ?_)
    | (refine is_pick ?_; first
        | refine wo_pickT (.int _ _) rfl rfl rfl rfl ?_
        | refine wo_pickF (.int _ _) rfl rfl rfl rfl ?_
        | refine wo_pickT (.bool true) rfl rfl rfl rfl ?_
        | refine wo_pickF (.bool true) rfl rfl rfl rfl ?_
        | refine wo_pickT (.bool false) rfl rfl rfl rfl ?_
        | refine wo_pickF (.bool false) rfl rfl rfl rfl ?_
        | refine wo_pickT (.islc _ _ _ _) rfl rfl rfl rfl ?_
        | refine wo_pickF (.islc _ _ _ _) rfl rfl rfl rfl ?_
        | refine wo_pickT (.agg _) rfl rfl rfl rfl ?_
        | refine wo_pickF (.agg _) rfl rfl rfl rfl ?_
        | refine wo_pickT (.ptr _ _ _ _ _ _) rfl rfl rfl rfl ?_
        | refine wo_pickF (.ptr _ _ _ _ _ _) rfl rfl rfl rfl ?_
        | refine wo_pickT (.slc _ _ _ _ _ _ _) rfl rfl rfl rfl ?_
        | refine wo_pickF (.slc _ _ _ _ _ _ _) rfl rfl rfl rfl ?_
        | refine wo_pickT (.iptr _ _) rfl rfl rfl rfl ?_
        | refine wo_pickF (.iptr _ _) rfl rfl rfl rfl ?_
        | refine wo_pickT (.tup _) rfl rfl rfl rfl ?_
        | refine wo_pickF (.tup _) rfl rfl rfl rfl ?_
        | refine wo_pickT (.undef) rfl rfl rfl rfl ?_
        | refine wo_pickF (.undef) rfl rfl rfl rfl ?_
        | refine wo_pickT (.nilp) rfl rfl rfl rfl ?_
        | refine wo_pickF (.nilp) rfl rfl rfl rfl ?_
        | refine wo_pickT (.fn _ _) rfl rfl rfl rfl ?_
        | refine wo_pickF (.fn _ _) rfl rfl rfl rfl ?_
        | refine wo_pickT (.str _) rfl rfl rfl rfl ?_
        | refine wo_pickF (.str _) rfl rfl rfl rfl ?_
        | refine wo_pickT (.nilf) rfl rfl rfl rfl ?_
        | refine wo_pickF (.nilf) rfl rfl rfl rfl ?_)
    | (refine is_un ?_; first
        | refine wo_notT rfl rfl rfl ?_
        | refine wo_notF rfl rfl rfl ?_)
    | (refine is_len ?_; first
        | refine wo_len rfl rfl rfl ?_
        | refine wo_lenS rfl rfl rfl ?_
        | refine wo_len0 rfl rfl rfl ?_)
    | (refine is_extract ?_; first
        | refine wo_extract (.int _ _) rfl rfl rfl rfl ?_
        | refine wo_extract (.bool true) rfl rfl rfl rfl ?_
        | refine wo_extract (.bool false) rfl rfl rfl rfl ?_
        | refine wo_extract (.islc _ _ _ _) rfl rfl rfl rfl ?_
        | refine wo_extract (.agg _) rfl rfl rfl rfl ?_
        | refine wo_extract (.ptr _ _ _ _ _ _) rfl rfl rfl rfl ?_
        | refine wo_extract (.slc _ _ _ _ _ _ _) rfl rfl rfl rfl ?_
        | refine wo_extract (.iptr _ _) rfl rfl rfl rfl ?_
        | refine wo_extract (.tup _) rfl rfl rfl rfl ?_
        | refine wo_extract (.undef) rfl rfl rfl rfl ?_
        | refine wo_extract (.nilp) rfl rfl rfl rfl ?_
        | refine wo_extract (.fn _ _) rfl rfl rfl rfl ?_
        | refine wo_extract (.str _) rfl rfl rfl rfl ?_
        | refine wo_extract (.nilf) rfl rfl rfl rfl ?_)
    | (refine is_store ?_; first
        | refine wo_store rfl rfl rfl rfl rfl rfl rfl (Nat.le_of_ble_eq_true rfl) rfl rfl ?_)
    | (refine is_box ?_; first
        | refine wo_box (.int _ _) rfl rfl rfl rfl ?_
        | refine wo_box (.bool true) rfl rfl rfl rfl ?_
        | refine wo_box (.bool false) rfl rfl rfl rfl ?_
        | refine wo_box (.islc _ _ _ _) rfl rfl rfl rfl ?_
        | refine wo_box (.agg _) rfl rfl rfl rfl ?_
        | refine wo_box (.ptr _ _ _ _ _ _) rfl rfl rfl rfl ?_
        | refine wo_box (.slc _ _ _ _ _ _ _) rfl rfl rfl rfl ?_
        | refine wo_box (.iptr _ _) rfl rfl rfl rfl ?_
        | refine wo_box (.tup _) rfl rfl rfl rfl ?_
        | refine wo_box (.undef) rfl rfl rfl rfl ?_
        | refine wo_box (.nilp) rfl rfl rfl rfl ?_
        | refine wo_box (.fn _ _) rfl rfl rfl rfl ?_
        | refine wo_box (.str _) rfl rfl rfl rfl ?_
        | refine wo_box (.nilf) rfl rfl rfl rfl ?_)
    | (refine is_eqb ?_; first
        | refine wo_eqb true rfl rfl rfl rfl rfl ?_
        | refine wo_eqb false rfl rfl rfl rfl rfl ?_)
    | (refine is_cvi ?_; first
        | refine wo_to64 rfl (by omega) rfl rfl ?_
        | refine wo_tou64 rfl (by omega) rfl rfl ?_
        | refine wo_cvu rfl rfl rfl ?_
        | refine wo_cvi rfl rfl rfl ?_)
    | (refine is_iaddr ?_; first
        | refine wo_at rfl rfl (by omega) (by omega) rfl rfl ?_)
    | (refine is_field ?_; first
        | refine wo_field (.int _ _) rfl (Nat.le_of_ble_eq_true rfl) rfl rfl rfl ?_
        | refine wo_field (.bool true) rfl (Nat.le_of_ble_eq_true rfl) rfl rfl rfl ?_
        | refine wo_field (.bool false) rfl (Nat.le_of_ble_eq_true rfl) rfl rfl rfl ?_
        | refine wo_field (.islc _ _ _ _) rfl (Nat.le_of_ble_eq_true rfl) rfl rfl rfl ?_
        | refine wo_field (.agg _) rfl (Nat.le_of_ble_eq_true rfl) rfl rfl rfl ?_
        | refine wo_field (.slc _ _ _ _ _ _ _) rfl (Nat.le_of_ble_eq_true rfl) rfl rfl rfl ?_)
    | (refine is_nilrow ?_; first
        | refine wo_nilrow rfl rfl ?_)
    | (refine is_build ?_; first
        | refine wo_build (.agg _) rfl rfl rfl rfl ?_)
    | (refine is_buildS ?_; first
        | refine wo_buildS rfl rfl rfl rfl ?_)
    | (refine is_mnmx ?_; first
        | refine wo_mnF rfl rfl rfl rfl ?_)
    | (refine is_appZ ?_; first
        | refine wo_appZ rfl rfl (by (first | rfl | exact Heap.upd_same _ _ _)) (by (first | rfl | (simp; done) | (simp; omega))) (by omega) (by omega) rfl rfl ?_
        | refine wo_appZ0 rfl rfl (by omega) (by omega) rfl rfl ?_)
    | (refine is_app ?_; first
        | refine wo_app rfl rfl (by (first | exact Or.inl rfl | exact Or.inr rfl | assumption)) (by (first | rfl | exact Heap.upd_same _ _ _)) (by (first | rfl | (simp; done) | (simp; omega))) (by (first | omega | (simp; omega))) rfl rfl (fun _ => ?_))
    | (refine is_b2s ?_; first
        | refine wo_b2s rfl (by (first | exact Or.inl rfl | exact Or.inr rfl | assumption)) rfl rfl ?_)
    | (refine is_slice ?_; first
        | refine wo_slice0 rfl (by (first | exact Or.inl rfl | exact Or.inr rfl | assumption)) rfl (by omega) (by omega) rfl rfl ?_
        | refine wo_sliceE rfl (by (first | exact Or.inl rfl | exact Or.inr rfl | assumption)) rfl (by omega) (by omega) rfl rfl ?_
        | refine wo_sliceM rfl (by (first | exact Or.inl rfl | exact Or.inr rfl | assumption)) rfl rfl (by omega) (by omega) (by omega) rfl rfl ?_)
    | (refine is_ss ?_; first
        | refine wo_ss rfl rfl rfl (by decide) (by decide) rfl rfl ?_)
    | (refine is_mks ?_; first
        | refine wo_mks rfl rfl (by omega) (by omega) rfl rfl ?_))
  exact rfl

theorem law_FrameFields (a b c d : Int) : ∃ H, acall B xf gf 1000010 n_law09_FrameFields 0 [.int .i64 a, .int .i64 b, .int .i64 c, .int .i64 d] Heap.none = some (.bool true, H) := by
  suffices h : FnV (acall B xf gf 1000010) n_law09_FrameFields [.int .i64 a, .int .i64 b, .int .i64 c, .int .i64 d] (.bool true) by
    obtain ⟨u, H, h1, h2⟩ := h
    refine ⟨H, ?_⟩
    rw [h1, fz_true h2]
  have hw := e_wakes (xf := xf) (gf := gf)
  refine fn_of B_law09_FrameFields rfl ?_
  unfold law09_FrameFields
  repeat' (first
    | refine wo_nil ?_
    | refine w_seq ?_
    | refine w_region ?_
    | refine w_ret ?_
    | refine w_skip ?_
    | refine w_exit ?_
    | refine w_block ?_
    | refine w_true rfl ?_
    | refine w_false rfl ?_
    | refine wo_n rfl ?_
    | refine wo_nn rfl ?_
    | (refine is_mv ?_; first
        | refine wo_mv (.int _ _) rfl rfl rfl ?_
        | refine wo_mv (.bool true) rfl rfl rfl ?_
        | refine wo_mv (.bool false) rfl rfl rfl ?_
        | refine wo_mv (.islc _ _ _ _) rfl rfl rfl ?_
        | refine wo_mv (.agg _) rfl rfl rfl ?_
        | refine wo_mv (.ptr _ _ _ _ _ _) rfl rfl rfl ?_
        | refine wo_mv (.slc _ _ _ _ _ _ _) rfl rfl rfl ?_
        | refine wo_mv (.iptr _ _) rfl rfl rfl ?_
        | refine wo_mv (.tup _) rfl rfl rfl ?_
        | refine wo_mv (.undef) rfl rfl rfl ?_
        | refine wo_mv (.nilp) rfl rfl rfl ?_
        | refine wo_mv (.fn _ _) rfl rfl rfl ?_
        | refine wo_mv (.str _) rfl rfl rfl ?_
        | refine wo_mv (.nilf) rfl rfl rfl ?_)
    | (refine is_faddr ?_; first
        | refine wo_faddr rfl rfl rfl ?_)
    | (refine is_load ?_; first
        | refine wo_load (.int _ _) rfl rfl rfl (Nat.le_of_ble_eq_true rfl) rfl rfl rfl ?_
        | refine wo_load (.bool true) rfl rfl rfl (Nat.le_of_ble_eq_true rfl) rfl rfl rfl ?_
        | refine wo_load (.bool false) rfl rfl rfl (Nat.le_of_ble_eq_true rfl) rfl rfl rfl ?_
        | refine wo_load (.islc _ _ _ _) rfl rfl rfl (Nat.le_of_ble_eq_true rfl) rfl rfl rfl ?_
        | refine wo_load (.agg _) rfl rfl rfl (Nat.le_of_ble_eq_true rfl) rfl rfl rfl ?_
        | refine wo_load (.slc _ _ _ _ _ _ _) rfl rfl rfl (Nat.le_of_ble_eq_true rfl) rfl rfl rfl ?_
        | refine wo_loadI (.int _ _) rfl (Nat.le_of_ble_eq_true rfl) rfl rfl rfl ?_
        | refine wo_loadI (.bool true) rfl (Nat.le_of_ble_eq_true rfl) rfl rfl rfl ?_
        | refine wo_loadI (.bool false) rfl (Nat.le_of_ble_eq_true rfl) rfl rfl rfl ?_
        | refine wo_loadI (.islc _ _ _ _) rfl (Nat.le_of_ble_eq_true rfl) rfl rfl rfl ?_
        | refine wo_loadI (.agg _) rfl (Nat.le_of_ble_eq_true rfl) rfl rfl rfl ?_
        | refine wo_loadI (.slc _ _ _ _ _ _ _) rfl (Nat.le_of_ble_eq_true rfl) rfl rfl rfl ?_)
    | (refine is_bin ?_; first
        | refine wo_cmpT rfl rfl rfl (by first | (simp only [cmpP]; done) | (simp only [cmpP]; omega)) rfl rfl ?_
        | refine wo_cmpF rfl rfl rfl (by first | (simp only [cmpP]; done) | (simp only [cmpP]; omega)) rfl rfl ?_
        | refine wo_cmp rfl rfl rfl rfl rfl (fun _ => ?_) (fun _ => ?_)
        | refine wo_add rfl rfl (by omega) rfl rfl ?_
        | refine wo_sub rfl rfl (by omega) rfl rfl ?_
        | refine wo_mul rfl rfl (by omega) rfl rfl ?_
        | refine wo_rem rfl rfl (by omega) (by omega) rfl rfl ?_
        | refine wo_bin (.int _ _) rfl rfl rfl ?_)
    | (refine is_pick ?_; first
        | refine wo_pickT (.int _ _) rfl rfl rfl rfl ?_
        | refine wo_pickF (.int _ _) rfl rfl rfl rfl ?_
        | refine wo_pickT (.bool true) rfl rfl rfl rfl ?_
        | refine wo_pickF (.bool true) rfl rfl rfl rfl ?_
        | refine wo_pickT (.bool false) rfl rfl rfl rfl ?_
        | refine wo_pickF (.bool false) rfl rfl rfl rfl ?_
        | refine wo_pickT (.islc _ _ _ _) rfl rfl rfl rfl ?_
        | refine wo_pickF (.islc _ _ _ _) rfl rfl rfl rfl ?_
        | refine wo_pickT (.agg _) rfl rfl rfl rfl ?_
        | refine wo_pickF (.agg _) rfl rfl rfl rfl ?_
        | refine wo_pickT (.ptr _ _ _ _ _ _) rfl rfl rfl rfl ?_
        | refine wo_pickF (.ptr _ _ _ _ _ _) rfl rfl rfl rfl ?_
        | refine wo_pickT (.slc _ _ _ _ _ _ _) rfl rfl rfl rfl ?_
        | refine wo_pickF (.slc _ _ _ _ _ _ _) rfl rfl rfl rfl ?_
        | refine wo_pickT (.iptr _ _) rfl rfl rfl rfl ?_
        | refine wo_pickF (.iptr _ _) rfl rfl rfl rfl ?_
        | refine wo_pickT (.tup _) rfl rfl rfl rfl ?_
        | refine wo_pickF (.tup _) rfl rfl rfl rfl ?_
        | refine wo_pickT (.undef) rfl rfl rfl rfl ?_
        | refine wo_pickF (.undef) rfl rfl rfl rfl ?_
        | refine wo_pickT (.nilp) rfl rfl rfl rfl ?_
        | refine wo_pickF (.nilp) rfl rfl rfl rfl ?_
        | refine wo_pickT (.fn _ _) rfl rfl rfl rfl ?_
        | refine wo_pickF (.fn _ _) rfl rfl rfl rfl ?_
        | refine wo_pickT (.str _) rfl rfl rfl rfl ?_
        | refine wo_pickF (.str _) rfl rfl rfl rfl ?_
        | refine wo_pickT (.nilf) rfl rfl rfl rfl ?_
        | refine wo_pickF (.nilf) rfl rfl rfl rfl ?_)
    | (refine is_un ?_; first
        | refine wo_notT rfl rfl rfl ?_
        | refine wo_notF rfl rfl rfl ?_)
    | (refine is_len ?_; first
        | refine wo_len rfl rfl rfl ?_
        | refine wo_lenS rfl rfl rfl ?_
        | refine wo_len0 rfl rfl rfl ?_)
    | (refine is_extract ?_; first
        | refine wo_extract (.int _ _) rfl rfl rfl rfl ?_
        | refine wo_extract (.bool true) rfl rfl rfl rfl ?_
        | refine wo_extract (.bool false) rfl rfl rfl rfl ?_
        | refine wo_extract (.islc _ _ _ _) rfl rfl rfl rfl ?_
        | refine wo_extract (.agg _) rfl rfl rfl rfl ?_
        | refine wo_extract (.ptr _ _ _ _ _ _) rfl rfl rfl rfl ?_
        | refine wo_extract (.slc _ _ _ _ _ _ _) rfl rfl rfl rfl ?_
        | refine wo_extract (.iptr _ _) rfl rfl rfl rfl ?_
        | refine wo_extract (.tup _) rfl rfl rfl rfl ?_
        | refine wo_extract (.undef) rfl rfl rfl rfl ?_
        | refine wo_extract (.nilp) rfl rfl rfl rfl ?_
        | refine wo_extract (.fn _ _) rfl rfl rfl rfl ?_
        | refine wo_extract (.str _) rfl rfl rfl rfl ?_
        | refine wo_extract (.nilf) rfl rfl rfl rfl ?_)
    | (refine is_store ?_; first
        | refine wo_store rfl rfl rfl rfl rfl rfl rfl (Nat.le_of_ble_eq_true rfl) rfl rfl ?_)
    | (refine is_box ?_; first
        | refine wo_box (.int _ _) rfl rfl rfl rfl ?_
        | refine wo_box (.bool true) rfl rfl rfl rfl ?_
        | refine wo_box (.bool false) rfl rfl rfl rfl ?_
        | refine wo_box (.islc _ _ _ _) rfl rfl rfl rfl ?_
        | refine wo_box (.agg _) rfl rfl rfl rfl ?_
        | refine wo_box (.ptr _ _ _ _ _ _) rfl rfl rfl rfl ?_
        | refine wo_box (.slc _ _ _ _ _ _ _) rfl rfl rfl rfl ?_
        | refine wo_box (.iptr _ _) rfl rfl rfl rfl ?_
        | refine wo_box (.tup _) rfl rfl rfl rfl ?_
        | refine wo_box (.undef) rfl rfl rfl rfl ?_
        | refine wo_box (.nilp) rfl rfl rfl rfl ?_
        | refine wo_box (.fn _ _) rfl rfl rfl rfl ?_
        | refine wo_box (.str _) rfl rfl rfl rfl ?_
        | refine wo_box (.nilf) rfl rfl rfl rfl ?_)
    | (refine is_eqb ?_; first
        | refine wo_eqb true rfl rfl rfl rfl rfl ?_
        | refine wo_eqb false rfl rfl rfl rfl rfl ?_)
    | (refine is_cvi ?_; first
        | refine wo_to64 rfl (by omega) rfl rfl ?_
        | refine wo_tou64 rfl (by omega) rfl rfl ?_
        | refine wo_cvu rfl rfl rfl ?_
        | refine wo_cvi rfl rfl rfl ?_)
    | (refine is_iaddr ?_; first
        | refine wo_at rfl rfl (by omega) (by omega) rfl rfl ?_)
    | (refine is_field ?_; first
        | refine wo_field (.int _ _) rfl (Nat.le_of_ble_eq_true rfl) rfl rfl rfl ?_
        | refine wo_field (.bool true) rfl (Nat.le_of_ble_eq_true rfl) rfl rfl rfl ?_
        | refine wo_field (.bool false) rfl (Nat.le_of_ble_eq_true rfl) rfl rfl rfl ?_
        | refine wo_field (.islc _ _ _ _) rfl (Nat.le_of_ble_eq_true rfl) rfl rfl rfl ?_
        | refine wo_field (.agg _) rfl (Nat.le_of_ble_eq_true rfl) rfl rfl rfl ?_
        | refine wo_field (.slc _ _ _ _ _ _ _) rfl (Nat.le_of_ble_eq_true rfl) rfl rfl rfl ?_)
    | (refine is_nilrow ?_; first
        | refine wo_nilrow rfl rfl ?_)
    | (refine is_build ?_; first
        | refine wo_build (.agg _) rfl rfl rfl rfl ?_)
    | (refine is_buildS ?_; first
        | refine wo_buildS rfl rfl rfl rfl ?_)
    | (refine is_mnmx ?_; first
        | refine wo_mnF rfl rfl rfl rfl ?_)
    | (refine is_appZ ?_; first
        | refine wo_appZ rfl rfl (by (first | rfl | exact Heap.upd_same _ _ _)) (by (first | rfl | (simp; done) | (simp; omega))) (by omega) (by omega) rfl rfl ?_
        | refine wo_appZ0 rfl rfl (by omega) (by omega) rfl rfl ?_)
    | (refine is_app ?_; first
        | refine wo_app rfl rfl (by (first | exact Or.inl rfl | exact Or.inr rfl | assumption)) (by (first | rfl | exact Heap.upd_same _ _ _)) (by (first | rfl | (simp; done) | (simp; omega))) (by (first | omega | (simp; omega))) rfl rfl (fun _ => ?_))
    | (refine is_b2s ?_; first
        | refine wo_b2s rfl (by (first | exact Or.inl rfl | exact Or.inr rfl | assumption)) rfl rfl ?_)
    | (refine is_slice ?_; first
        | refine wo_slice0 rfl (by (first | exact Or.inl rfl | exact Or.inr rfl | assumption)) rfl (by omega) (by omega) rfl rfl ?_
        | refine wo_sliceE rfl (by (first | exact Or.inl rfl | exact Or.inr rfl | assumption)) rfl (by omega) (by omega) rfl rfl ?_
        | refine wo_sliceM rfl (by (first | exact Or.inl rfl | exact Or.inr rfl | assumption)) rfl rfl (by omega) (by omega) (by omega) rfl rfl ?_)
    | (refine is_ss ?_; first
        | refine wo_ss rfl rfl rfl (by decide) (by decide) rfl rfl ?_)
    | (refine is_mks ?_; first
        | refine wo_mks rfl rfl (by omega) (by omega) rfl rfl ?_))
  refine (FrameFields_loop (a % 18446744073709551616 % 4294967296) (b % 18446744073709551616 % 513) (c % 18446744073709551616 % 500) (1 + d % 18446744073709551616 % 12) (by omega) (by omega) (by omega) (by omega) ?_).mono ?_
  · exact ⟨rfl, rfl, rfl, rfl, rfl, trivial⟩
  rintro ex T2 H2 rfl
  show W _ _
  repeat' (first
    | refine wo_nil ?_
    | refine w_seq ?_
    | refine w_region ?_
    | refine w_ret ?_
    | refine w_skip ?_
    | refine w_exit ?_
    | refine w_block ?_
    | refine w_true rfl ?_
    | refine w_false rfl ?_
    | refine wo_n rfl ?_
    | refine wo_nn rfl ?_
    | refine wo_call hw rfl rfl rfl ?_
    | (refine is_mv ?_; first
        | refine wo_mv (.int _ _) rfl rfl rfl ?_
        | refine wo_mv (.bool true) rfl rfl rfl ?_
        | refine wo_mv (.bool false) rfl rfl rfl ?_
        | refine wo_mv (.islc _ _ _ _) rfl rfl rfl ?_
        | refine wo_mv (.agg _) rfl rfl rfl ?_
        | refine wo_mv (.ptr _ _ _ _ _ _) rfl rfl rfl ?_
        | refine wo_mv (.slc _ _ _ _ _ _ _) rfl rfl rfl ?_
        | refine wo_mv (.iptr _ _) rfl rfl rfl ?_
        | refine wo_mv (.tup _) rfl rfl rfl ?_
        | refine wo_mv (.undef) rfl rfl rfl ?_
        | refine wo_mv (.nilp) rfl rfl rfl ?_
        | refine wo_mv (.fn _ _) rfl rfl rfl ?_
        | refine wo_mv (.str _) rfl rfl rfl ?_
        | refine wo_mv (.nilf) rfl rfl rfl ?_)
    | (refine is_faddr ?_; first
        | refine wo_faddr rfl rfl rfl ?_)
    | (refine is_load ?_; first
        | refine wo_load (.int _ _) rfl rfl rfl (Nat.le_of_ble_eq_true rfl) rfl rfl rfl ?_
        | refine wo_load (.bool true) rfl rfl rfl (Nat.le_of_ble_eq_true rfl) rfl rfl rfl ?_
        | refine wo_load (.bool false) rfl rfl rfl (Nat.le_of_ble_eq_true rfl) rfl rfl rfl ?_
        | refine wo_load (.islc _ _ _ _) rfl rfl rfl (Nat.le_of_ble_eq_true rfl) rfl rfl rfl ?_
        | refine wo_load (.agg _) rfl rfl rfl (Nat.le_of_ble_eq_true rfl) rfl rfl rfl ?_
        | refine wo_load (.slc _ _ _ _ _ _ _) rfl rfl rfl (Nat.le_of_ble_eq_true rfl) rfl rfl rfl ?_
        | refine wo_loadI (.int _ _) rfl (Nat.le_of_ble_eq_true rfl) rfl rfl rfl ?_
        | refine wo_loadI (.bool true) rfl (Nat.le_of_ble_eq_true rfl) rfl rfl rfl ?_
        | refine wo_loadI (.bool false) rfl (Nat.le_of_ble_eq_true rfl) rfl rfl rfl ?_
        | refine wo_loadI (.islc _ _ _ _) rfl (Nat.le_of_ble_eq_true rfl) rfl rfl rfl ?_
        | refine wo_loadI (.agg _) rfl (Nat.le_of_ble_eq_true rfl) rfl rfl rfl ?_
        | refine wo_loadI (.slc _ _ _ _ _ _ _) rfl (Nat.le_of_ble_eq_true rfl) rfl rfl rfl ?_)
    | (refine is_bin ?_; first
        | refine wo_cmpT rfl rfl rfl (by first | (simp only [cmpP]; done) | (simp only [cmpP]; omega)) rfl rfl ?_
        | refine wo_cmpF rfl rfl rfl (by first | (simp only [cmpP]; done) | (simp only [cmpP]; omega)) rfl rfl ?_
        | refine wo_cmp rfl rfl rfl rfl rfl (fun _ => ?_) (fun _ => ?_)
        | refine wo_add rfl rfl (by omega) rfl rfl ?_
        | refine wo_sub rfl rfl (by omega) rfl rfl ?_
        | refine wo_mul rfl rfl (by omega) rfl rfl ?_
        | refine wo_rem rfl rfl (by omega) (by omega) rfl rfl ?_
        | refine wo_bin (.int _ _) rfl rfl rfl ?_)
    | (refine is_pick ?_; first
        | refine wo_pickT (.int _ _) rfl rfl rfl rfl ?_
        | refine wo_pickF (.int _ _) rfl rfl rfl rfl ?_
        | refine wo_pickT (.bool true) rfl rfl rfl rfl ?_
        | refine wo_pickF (.bool true) rfl rfl rfl rfl ?_
        | refine wo_pickT (.bool false) rfl rfl rfl rfl ?_
        | refine wo_pickF (.bool false) rfl rfl rfl rfl ?_
        | refine wo_pickT (.islc _ _ _ _) rfl rfl rfl rfl ?_
        | refine wo_pickF (.islc _ _ _ _) rfl rfl rfl rfl ?_
        | refine wo_pickT (.agg _) rfl rfl rfl rfl ?_
        | refine wo_pickF (.agg _) rfl rfl rfl rfl ?_
        | refine wo_pickT (.ptr _ _ _ _ _ _) rfl rfl rfl rfl ?_
        | refine wo_pickF (.ptr _ _ _ _ _ _) rfl rfl rfl rfl ?_
        | refine wo_pickT (.slc _ _ _ _ _ _ _) rfl rfl rfl rfl ?_
        | refine wo_pickF (.slc _ _ _ _ _ _ _) rfl rfl rfl rfl ?_
        | refine wo_pickT (.iptr _ _) rfl rfl rfl rfl ?_
        | refine wo_pickF (.iptr _ _) rfl rfl rfl rfl ?_
        | refine wo_pickT (.tup _) rfl rfl rfl rfl ?_
        | refine wo_pickF (.tup _) rfl rfl rfl rfl ?_
        | refine wo_pickT (.undef) rfl rfl rfl rfl ?_
        | refine wo_pickF (.undef) rfl rfl rfl rfl ?_
        | refine wo_pickT (.nilp) rfl rfl rfl rfl ?_
        | refine wo_pickF (.nilp) rfl rfl rfl rfl ?_
        | refine wo_pickT (.fn _ _) rfl rfl rfl rfl ?_
        | refine wo_pickF (.fn _ _) rfl rfl rfl rfl ?_
        | refine wo_pickT (.str _) rfl rfl rfl rfl ?_
        | refine wo_pickF (.str _) rfl rfl rfl rfl ?_
        | refine wo_pickT (.nilf) rfl rfl rfl rfl ?_
        | refine wo_pickF (.nilf) rfl rfl rfl rfl ?_)
    | (refine is_un ?_; first
        | refine wo_notT rfl rfl rfl ?_
        | refine wo_notF rfl rfl rfl ?_)
    | (refine is_len ?_; first
        | refine wo_len rfl rfl rfl ?_
        | refine wo_lenS rfl rfl rfl ?_
        | refine wo_len0 rfl rfl rfl ?_)
    | (refine is_extract ?_; first
        | refine wo_extract (.int _ _) rfl rfl rfl rfl ?_
        | refine wo_extract (.bool true) rfl rfl rfl rfl ?_
        | refine wo_extract (.bool false) rfl rfl rfl rfl ?_
        | refine wo_extract (.islc _ _ _ _) rfl rfl rfl rfl ?_
        | refine wo_extract (.agg _) rfl rfl rfl rfl ?_
        | refine wo_extract (.ptr _ _ _ _ _ _) rfl rfl rfl rfl ?_
        | refine wo_extract (.slc _ _ _ _ _ _ _) rfl rfl rfl rfl ?_
        | refine wo_extract (.iptr _ _) rfl rfl rfl rfl ?_
        | refine wo_extract (.tup _) rfl rfl rfl rfl ?_
        | refine wo_extract (.undef) rfl rfl rfl rfl ?_
        | refine wo_extract (.nilp) rfl rfl rfl rfl ?_
        | refine wo_extract (.fn _ _) rfl rfl rfl rfl ?_
        | refine wo_extract (.str _) rfl rfl rfl rfl ?_
        | refine wo_extract (.nilf) rfl rfl rfl rfl ?_)
    | (refine is_store ?_; first
        | refine wo_store rfl rfl rfl rfl rfl rfl rfl (Nat.le_of_ble_eq_true rfl) rfl rfl ?_)
    | (refine is_box ?_; first
        | refine wo_box (.int _ _) rfl rfl rfl rfl ?_
        | refine wo_box (.bool true) rfl rfl rfl rfl ?_
        | refine wo_box (.bool false) rfl rfl rfl rfl ?_
        | refine wo_box (.islc _ _ _ _) rfl rfl rfl rfl ?_
        | refine wo_box (.agg _) rfl rfl rfl rfl ?_
        | refine wo_box (.ptr _ _ _ _ _ _) rfl rfl rfl rfl ?_
        | refine wo_box (.slc _ _ _ _ _ _ _) rfl rfl rfl rfl ?_
        | refine wo_box (.iptr _ _) rfl rfl rfl rfl ?_
        | refine wo_box (.tup _) rfl rfl rfl rfl ?_
        | refine wo_box (.undef) rfl rfl rfl rfl ?_
        | refine wo_box (.nilp) rfl rfl rfl rfl ?_
        | refine wo_box (.fn _ _) rfl rfl rfl rfl ?_
        | refine wo_box (.str _) rfl rfl rfl rfl ?_
        | refine wo_box (.nilf) rfl rfl rfl rfl ?_)
    | (refine is_eqb ?_; first
        | refine wo_eqb true rfl rfl rfl rfl rfl ?_
        | refine wo_eqb false rfl rfl rfl rfl rfl ?_)
    | (refine is_cvi ?_; first
        | refine wo_to64 rfl (by omega) rfl rfl ?_
        | refine wo_tou64 rfl (by omega) rfl rfl ?_
        | refine wo_cvu rfl rfl rfl ?_
        | refine wo_cvi rfl rfl rfl ?_)
    | (refine is_iaddr ?_; first
        | refine wo_at rfl rfl (by omega) (by omega) rfl rfl ?_)
    | (refine is_field ?_; first
        | refine wo_field (.int _ _) rfl (Nat.le_of_ble_eq_true rfl) rfl rfl rfl ?_
        | refine wo_field (.bool true) rfl (Nat.le_of_ble_eq_true rfl) rfl rfl rfl ?_
        | refine wo_field (.bool false) rfl (Nat.le_of_ble_eq_true rfl) rfl rfl rfl ?_
        | refine wo_field (.islc _ _ _ _) rfl (Nat.le_of_ble_eq_true rfl) rfl rfl rfl ?_
        | refine wo_field (.agg _) rfl (Nat.le_of_ble_eq_true rfl) rfl rfl rfl ?_
        | refine wo_field (.slc _ _ _ _ _ _ _) rfl (Nat.le_of_ble_eq_true rfl) rfl rfl rfl ?_)
    | (refine is_nilrow ?_; first
        | refine wo_nilrow rfl rfl ?_)
    | (refine is_build ?_; first
        | refine wo_build (.agg _) rfl rfl rfl rfl ?_)
    | (refine is_buildS ?_; first
        | refine wo_buildS rfl rfl rfl rfl ?_)
    | (refine is_mnmx ?_; first
        | refine wo_mnF rfl rfl rfl rfl ?_)
    | (refine is_appZ ?_; first
        | refine wo_appZ rfl rfl (by (first | rfl | exact Heap.upd_same _ _ _)) (by (first | rfl | (simp; done) | (simp; omega))) (by omega) (by omega) rfl rfl ?_
        | refine wo_appZ0 rfl rfl (by omega) (by omega) rfl rfl ?_)
    | (refine is_app ?_; first
        | refine wo_app rfl rfl (by (first | exact Or.inl rfl | exact Or.inr rfl | assumption)) (by (first | rfl | exact Heap.upd_same _ _ _)) (by (first | rfl | (simp; done) | (simp; omega))) (by (first | omega | (simp; omega))) rfl rfl (fun _ => ?_))
    | (refine is_b2s ?_; first
        | refine wo_b2s rfl (by (first | exact Or.inl rfl | exact Or.inr rfl | assumption)) rfl rfl ?_)
    | (refine is_slice ?_; first
        | refine wo_slice0 rfl (by (first | exact Or.inl rfl | exact Or.inr rfl | assumption)) rfl (by omega) (by omega) rfl rfl ?_
        | refine wo_sliceE rfl (by (first | exact Or.inl rfl | exact Or.inr rfl | assumption)) rfl (by omega) (by omega) rfl rfl ?_
        | refine wo_sliceM rfl (by (first | exact Or.inl rfl | exact Or.inr rfl | assumption)) rfl rfl (by omega) (by omega) (by omega) rfl rfl ?_)
    | (refine is_ss ?_; first
        | refine wo_ss rfl rfl rfl (by decide) (by decide) rfl rfl ?_)
    | (refine is_mks ?_; first
        | refine wo_mks rfl rfl (by omega) (by omega) rfl rfl ?_))
  exact ⟨Or.inr rfl, _, rfl, rfl⟩

end Go.Proofs.Ytoanjhiojpgioaa
