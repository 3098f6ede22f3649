/- woodcutlaw09: FrameBounds, by the interpreter. -/
import Derived.Test.YtoanjhiojpgioaaS5
import Derived.Test.YtoanjhiojpgioaaS6
set_option linter.unusedSimpArgs false
set_option linter.unusedVariables false
set_option maxRecDepth 10000
set_option maxHeartbeats 16000000
namespace Go.Proofs.Ytoanjhiojpgioaa
open Go.AI
attribute [local irreducible] aops aexec acall aiter aop W WO

variable {xf : ExtF} {gf : CallF}

theorem e_chk (k : Nat) (f : Bool) (s : Nat) (c : Cmd) (v : Int) (hl : c.data.length < 1000000) (h : c.kind ≠ 2) (hv : (if chkP c then 0 else 1) = v) : FnV (acall B xf gf (k + 4)) n_frame_Check [c.av false f s] (.int .i64 v) := hv ▸ e_frame_CheckO k f s c hl h
theorem e_chk2 (k : Nat) (t f : Bool) (s : Nat) (c : Cmd) (v : Int) (hl : c.data.length < 1000000) (h : c.kind = 2) (hv : (if chkP c then 0 else 1) = v) : FnV (acall B xf gf (k + 4)) n_frame_Check [c.av t f s] (.int .i64 v) := hv ▸ e_frame_Check2 k t f s c hl h

abbrev zCmd (kind size frm count source : Int) (data : List UInt8) : Cmd := ⟨kind, 0, 0, size, frm, count, source, 0, data⟩

theorem fb_zero (a n : Int) (ha : 0 ≤ a) : chkP (zCmd 3 0 a n 0 []) ↔ (1 ≤ n ∧ a + n ≤ 512) := by
  simp [chkP, bareP, zCmd, withinP]; (try simp only [decide_eq_true_eq]); omega
theorem fb_clone (a n : Int) (ha : 0 ≤ a ∧ a ≤ 512) : chkP (zCmd 4 0 0 n a []) ↔ (1 ≤ n ∧ a + n ≤ 512) := by
  simp [chkP, bareP, zCmd, withinP]; (try simp only [decide_eq_true_eq]); omega
theorem fb_write (a n : Int) (ha : 0 ≤ a) (hn : 0 ≤ n) : chkP (zCmd 2 0 a 0 0 (List.replicate (n * 64).toNat 0)) ↔ (1 ≤ n ∧ a + n ≤ 512 ∧ n ≤ 8) := by
  simp [chkP, bareP, zCmd, withinP, writesP, inR]; (try simp only [decide_eq_true_eq]); omega
theorem fb_odd (n : Int) (hn : 0 ≤ n) : ¬ chkP (zCmd 2 0 0 0 0 (List.replicate (n * 64 + 1).toNat 0)) := by
  simp [chkP, bareP, zCmd, withinP, writesP, inR]; (try simp only [decide_eq_true_eq]); omega
theorem fb_more (a : Int) : ¬ chkP (zCmd 5 a 0 1 0 []) := by
  simp [chkP, bareP, zCmd, withinP, writesP, inR]
theorem fb_size (a : Int) (ha : 0 ≤ a) : chkP (zCmd 5 a 0 0 0 []) ↔ a ≤ 512 := by
  simp [chkP, bareP, zCmd, withinP, writesP, inR]; (try simp only [decide_eq_true_eq]); omega

theorem ha_cmd {T : Tmps} {H : Heap} {i j g ver : Nat} {cap : Option Nat} {a1 a2 a3 a4 a5 a6 a7 a8 : Int} {l : List UInt8} (hT : T i = .agg [.int .i64 a1, .int .i64 a2, .int .i64 a3, .int .i64 a4, .int .i64 a5, .int .i64 a6, .int .i64 a7, .int .i64 a8, .slc j g ver 1 0 ver cap])
    (hr : H.row j g ver 1 = some (BL l)) (hl : l.length = ver) :
    ([SArg.t i].map (SArg.ev T)).map (fz false deep H) = [(Cmd.mk a1 a2 a3 a4 a5 a6 a7 a8 l).av true false 1] := by
  have e : [SArg.t i].map (SArg.ev T) = [T i] := rfl
  rw [e, hT]
  have h2 : fz false 5 H (.slc j g ver 1 0 ver cap) = .islc true false 1 (BL l) := by
    rw [fz_slcB hr (by omega), List.drop_zero, ← hl, List.take_length]
    rfl
  show [AV.agg [_, _, _, _, _, _, _, _, fz false 5 H (.slc j g ver 1 0 ver cap)]] = _
  rw [h2]
  rfl

theorem law_FrameBounds (a n : Int) : ∃ H, acall B xf gf 1000010 n_law09_FrameBounds 0 [.int .i64 a, .int .i64 n] Heap.none = some (.bool true, H) := by
  suffices h : FnV (acall B xf gf 1000010) n_law09_FrameBounds [.int .i64 a, .int .i64 n] (.bool true) by
    obtain ⟨u, H, h1, h2⟩ := h
    refine ⟨H, ?_⟩
    rw [h1, fz_true h2]
  have hw := e_wakes (xf := xf) (gf := gf)
  obtain ⟨x, hx⟩ : ∃ x, x = a % 18446744073709551616 % 513 := ⟨_, rfl⟩
  obtain ⟨y, hy⟩ : ∃ y, y = n % 18446744073709551616 % 20 := ⟨_, rfl⟩
  have hxb : 0 ≤ x ∧ x ≤ 512 := by omega
  have hyb : 0 ≤ y ∧ y < 20 := by omega
  have ho := e_chk2 (xf := xf) (gf := gf) 1000005 true false 1 (zCmd 2 0 0 0 0 (List.replicate (y * 64 + 1).toNat 0)) 1 (by simp; omega) rfl (if_neg (fb_odd y hyb.1))
  have hm := e_chk (xf := xf) (gf := gf) 1000005 true 0 (zCmd 5 x 0 1 0 []) 1 (by simp) (fun h => by cases h) (if_neg (fb_more x))
  have hs := e_chk (xf := xf) (gf := gf) 1000005 true 0 (zCmd 5 x 0 0 0 []) 0 (by simp) (fun h => by cases h) (if_pos ((fb_size x hxb.1).2 hxb.2))
  have hg := e_chk (xf := xf) (gf := gf) 1000005 true 0 (zCmd 5 (513 + y) 0 0 0 []) 1 (by simp) (fun h => by cases h) (if_neg (fun h => by have := (fb_size (513 + y) (by omega)).1 h; omega))
  subst hx hy
  refine fn_of B_law09_FrameBounds rfl ?_
  unfold law09_FrameBounds
  repeat' (first
    | refine wo_nil ?_
    | refine w_seq ?_
    | refine w_region ?_
    | refine w_ret ?_
    | refine w_skip ?_
    | refine w_exit ?_
    | refine w_block ?_
    | refine w_true rfl ?_
    | refine w_false rfl ?_
    | refine wo_n rfl ?_
    | refine wo_nn rfl ?_
    | (refine is_mv ?_; first
        | refine wo_mv (.int _ _) rfl rfl rfl ?_
        | refine wo_mv (.bool true) rfl rfl rfl ?_
        | refine wo_mv (.bool false) rfl rfl rfl ?_
        | refine wo_mv (.islc _ _ _ _) rfl rfl rfl ?_
        | refine wo_mv (.agg _) rfl rfl rfl ?_
        | refine wo_mv (.ptr _ _ _ _ _ _) rfl rfl rfl ?_
        | refine wo_mv (.slc _ _ _ _ _ _ _) rfl rfl rfl ?_
        | refine wo_mv (.iptr _ _) rfl rfl rfl ?_
        | refine wo_mv (.tup _) rfl rfl rfl ?_
        | refine wo_mv (.undef) rfl rfl rfl ?_
        | refine wo_mv (.nilp) rfl rfl rfl ?_
        | refine wo_mv (.fn _ _) rfl rfl rfl ?_
        | refine wo_mv (.str _) rfl rfl rfl ?_
        | refine wo_mv (.nilf) rfl rfl rfl ?_)
    | (refine is_faddr ?_; first
        | refine wo_faddr rfl rfl rfl ?_)
    | (refine is_load ?_; first
        | refine wo_load (.int _ _) rfl rfl rfl (Nat.le_of_ble_eq_true rfl) rfl rfl rfl ?_
        | refine wo_load (.bool true) rfl rfl rfl (Nat.le_of_ble_eq_true rfl) rfl rfl rfl ?_
        | refine wo_load (.bool false) rfl rfl rfl (Nat.le_of_ble_eq_true rfl) rfl rfl rfl ?_
        | refine wo_load (.islc _ _ _ _) rfl rfl rfl (Nat.le_of_ble_eq_true rfl) rfl rfl rfl ?_
        | refine wo_load (.agg _) rfl rfl rfl (Nat.le_of_ble_eq_true rfl) rfl rfl rfl ?_
        | refine wo_load (.slc _ _ _ _ _ _ _) rfl rfl rfl (Nat.le_of_ble_eq_true rfl) rfl rfl rfl ?_
        | refine wo_loadI (.int _ _) rfl (Nat.le_of_ble_eq_true rfl) rfl rfl rfl ?_
        | refine wo_loadI (.bool true) rfl (Nat.le_of_ble_eq_true rfl) rfl rfl rfl ?_
        | refine wo_loadI (.bool false) rfl (Nat.le_of_ble_eq_true rfl) rfl rfl rfl ?_
        | refine wo_loadI (.islc _ _ _ _) rfl (Nat.le_of_ble_eq_true rfl) rfl rfl rfl ?_
        | refine wo_loadI (.agg _) rfl (Nat.le_of_ble_eq_true rfl) rfl rfl rfl ?_
        | refine wo_loadI (.slc _ _ _ _ _ _ _) rfl (Nat.le_of_ble_eq_true rfl) rfl rfl rfl ?_)
    | (refine is_bin ?_; first
        | refine wo_cmpT rfl rfl rfl (by first | (simp only [cmpP]; done) | (simp only [cmpP]; omega)) rfl rfl ?_
        | refine wo_cmpF rfl rfl rfl (by first | (simp only [cmpP]; done) | (simp only [cmpP]; omega)) rfl rfl ?_
        | refine wo_cmp rfl rfl rfl rfl rfl (fun _ => ?_) (fun _ => ?_)
        | refine wo_add rfl rfl (by omega) rfl rfl ?_
        | refine wo_sub rfl rfl (by omega) rfl rfl ?_
        | refine wo_mul rfl rfl (by omega) rfl rfl ?_
        | refine wo_rem rfl rfl (by omega) (by omega) rfl rfl ?_
        | refine wo_bin (.int _ _) rfl rfl rfl ?_)
    | (refine is_pick ?_; first
        | refine wo_pickT (.int _ _) rfl rfl rfl rfl ?_
        | refine wo_pickF (.int _ _) rfl rfl rfl rfl ?_
        | refine wo_pickT (.bool true) rfl rfl rfl rfl ?_
        | refine wo_pickF (.bool true) rfl rfl rfl rfl ?_
        | refine wo_pickT (.bool false) rfl rfl rfl rfl ?_
        | refine wo_pickF (.bool false) rfl rfl rfl rfl ?_
        | refine wo_pickT (.islc _ _ _ _) rfl rfl rfl rfl ?_
        | refine wo_pickF (.islc _ _ _ _) rfl rfl rfl rfl ?_
        | refine wo_pickT (.agg _) rfl rfl rfl rfl ?_
        | refine wo_pickF (.agg _) rfl rfl rfl rfl ?_
        | refine wo_pickT (.ptr _ _ _ _ _ _) rfl rfl rfl rfl ?_
        | refine wo_pickF (.ptr _ _ _ _ _ _) rfl rfl rfl rfl ?_
        | refine wo_pickT (.slc _ _ _ _ _ _ _) rfl rfl rfl rfl ?_
        | refine wo_pickF (.slc _ _ _ _ _ _ _) rfl rfl rfl rfl ?_
        | refine wo_pickT (.iptr _ _) rfl rfl rfl rfl ?_
        | refine wo_pickF (.iptr _ _) rfl rfl rfl rfl ?_
        | refine wo_pickT (.tup _) rfl rfl rfl rfl ?_
        | refine wo_pickF (.tup _) rfl rfl rfl rfl ?_
        | refine wo_pickT (.undef) rfl rfl rfl rfl ?_
        | refine wo_pickF (.undef) rfl rfl rfl rfl ?_
        | refine wo_pickT (.nilp) rfl rfl rfl rfl ?_
        | refine wo_pickF (.nilp) rfl rfl rfl rfl ?_
        | refine wo_pickT (.fn _ _) rfl rfl rfl rfl ?_
        | refine wo_pickF (.fn _ _) rfl rfl rfl rfl ?_
        | refine wo_pickT (.str _) rfl rfl rfl rfl ?_
        | refine wo_pickF (.str _) rfl rfl rfl rfl ?_
        | refine wo_pickT (.nilf) rfl rfl rfl rfl ?_
        | refine wo_pickF (.nilf) rfl rfl rfl rfl ?_)
    | (refine is_un ?_; first
        | refine wo_notT rfl rfl rfl ?_
        | refine wo_notF rfl rfl rfl ?_)
    | (refine is_len ?_; first
        | refine wo_len rfl rfl rfl ?_
        | refine wo_lenS rfl rfl rfl ?_
        | refine wo_len0 rfl rfl rfl ?_)
    | (refine is_extract ?_; first
        | refine wo_extract (.int _ _) rfl rfl rfl rfl ?_
        | refine wo_extract (.bool true) rfl rfl rfl rfl ?_
        | refine wo_extract (.bool false) rfl rfl rfl rfl ?_
        | refine wo_extract (.islc _ _ _ _) rfl rfl rfl rfl ?_
        | refine wo_extract (.agg _) rfl rfl rfl rfl ?_
        | refine wo_extract (.ptr _ _ _ _ _ _) rfl rfl rfl rfl ?_
        | refine wo_extract (.slc _ _ _ _ _ _ _) rfl rfl rfl rfl ?_
        | refine wo_extract (.iptr _ _) rfl rfl rfl rfl ?_
        | refine wo_extract (.tup _) rfl rfl rfl rfl ?_
        | refine wo_extract (.undef) rfl rfl rfl rfl ?_
        | refine wo_extract (.nilp) rfl rfl rfl rfl ?_
        | refine wo_extract (.fn _ _) rfl rfl rfl rfl ?_
        | refine wo_extract (.str _) rfl rfl rfl rfl ?_
        | refine wo_extract (.nilf) rfl rfl rfl rfl ?_)
    | (refine is_store ?_; first
        | refine wo_store rfl rfl rfl rfl rfl rfl rfl (Nat.le_of_ble_eq_true rfl) rfl rfl ?_)
    | (refine is_box ?_; first
        | refine wo_box (.int _ _) rfl rfl rfl rfl ?_
        | refine wo_box (.bool true) rfl rfl rfl rfl ?_
        | refine wo_box (.bool false) rfl rfl rfl rfl ?_
        | refine wo_box (.islc _ _ _ _) rfl rfl rfl rfl ?_
        | refine wo_box (.agg _) rfl rfl rfl rfl ?_
        | refine wo_box (.ptr _ _ _ _ _ _) rfl rfl rfl rfl ?_
        | refine wo_box (.slc _ _ _ _ _ _ _) rfl rfl rfl rfl ?_
        | refine wo_box (.iptr _ _) rfl rfl rfl rfl ?_
        | refine wo_box (.tup _) rfl rfl rfl rfl ?_
        | refine wo_box (.undef) rfl rfl rfl rfl ?_
        | refine wo_box (.nilp) rfl rfl rfl rfl ?_
        | refine wo_box (.fn _ _) rfl rfl rfl rfl ?_
        | refine wo_box (.str _) rfl rfl rfl rfl ?_
        | refine wo_box (.nilf) rfl rfl rfl rfl ?_)
    | (refine is_eqb ?_; first
        | refine wo_eqb true rfl rfl rfl rfl rfl ?_
        | refine wo_eqb false rfl rfl rfl rfl rfl ?_)
    | (refine is_cvi ?_; first
        | refine wo_to64 rfl (by omega) rfl rfl ?_
        | refine wo_tou64 rfl (by omega) rfl rfl ?_
        | refine wo_cvu rfl rfl rfl ?_
        | refine wo_cvi rfl rfl rfl ?_)
    | (refine is_iaddr ?_; first
        | refine wo_at rfl rfl (by omega) (by omega) rfl rfl ?_)
    | (refine is_field ?_; first
        | refine wo_field (.int _ _) rfl (Nat.le_of_ble_eq_true rfl) rfl rfl rfl ?_
        | refine wo_field (.bool true) rfl (Nat.le_of_ble_eq_true rfl) rfl rfl rfl ?_
        | refine wo_field (.bool false) rfl (Nat.le_of_ble_eq_true rfl) rfl rfl rfl ?_
        | refine wo_field (.islc _ _ _ _) rfl (Nat.le_of_ble_eq_true rfl) rfl rfl rfl ?_
        | refine wo_field (.agg _) rfl (Nat.le_of_ble_eq_true rfl) rfl rfl rfl ?_
        | refine wo_field (.slc _ _ _ _ _ _ _) rfl (Nat.le_of_ble_eq_true rfl) rfl rfl rfl ?_)
    | (refine is_nilrow ?_; first
        | refine wo_nilrow rfl rfl ?_)
    | (refine is_build ?_; first
        | refine wo_build (.agg _) rfl rfl rfl rfl ?_)
    | (refine is_buildS ?_; first
        | refine wo_buildS rfl rfl rfl rfl ?_))
  all_goals (refine wo_mks rfl rfl (by omega) (by omega) rfl rfl ?_)
  repeat' (first
    | refine wo_nil ?_
    | refine w_seq ?_
    | refine w_region ?_
    | refine w_ret ?_
    | refine w_skip ?_
    | refine w_exit ?_
    | refine w_block ?_
    | refine w_true rfl ?_
    | refine w_false rfl ?_
    | refine wo_n rfl ?_
    | refine wo_nn rfl ?_
    | (refine is_mv ?_; first
        | refine wo_mv (.int _ _) rfl rfl rfl ?_
        | refine wo_mv (.bool true) rfl rfl rfl ?_
        | refine wo_mv (.bool false) rfl rfl rfl ?_
        | refine wo_mv (.islc _ _ _ _) rfl rfl rfl ?_
        | refine wo_mv (.agg _) rfl rfl rfl ?_
        | refine wo_mv (.ptr _ _ _ _ _ _) rfl rfl rfl ?_
        | refine wo_mv (.slc _ _ _ _ _ _ _) rfl rfl rfl ?_
        | refine wo_mv (.iptr _ _) rfl rfl rfl ?_
        | refine wo_mv (.tup _) rfl rfl rfl ?_
        | refine wo_mv (.undef) rfl rfl rfl ?_
        | refine wo_mv (.nilp) rfl rfl rfl ?_
        | refine wo_mv (.fn _ _) rfl rfl rfl ?_
        | refine wo_mv (.str _) rfl rfl rfl ?_
        | refine wo_mv (.nilf) rfl rfl rfl ?_)
    | (refine is_faddr ?_; first
        | refine wo_faddr rfl rfl rfl ?_)
    | (refine is_load ?_; first
        | refine wo_load (.int _ _) rfl rfl rfl (Nat.le_of_ble_eq_true rfl) rfl rfl rfl ?_
        | refine wo_load (.bool true) rfl rfl rfl (Nat.le_of_ble_eq_true rfl) rfl rfl rfl ?_
        | refine wo_load (.bool false) rfl rfl rfl (Nat.le_of_ble_eq_true rfl) rfl rfl rfl ?_
        | refine wo_load (.islc _ _ _ _) rfl rfl rfl (Nat.le_of_ble_eq_true rfl) rfl rfl rfl ?_
        | refine wo_load (.agg _) rfl rfl rfl (Nat.le_of_ble_eq_true rfl) rfl rfl rfl ?_
        | refine wo_load (.slc _ _ _ _ _ _ _) rfl rfl rfl (Nat.le_of_ble_eq_true rfl) rfl rfl rfl ?_
        | refine wo_loadI (.int _ _) rfl (Nat.le_of_ble_eq_true rfl) rfl rfl rfl ?_
        | refine wo_loadI (.bool true) rfl (Nat.le_of_ble_eq_true rfl) rfl rfl rfl ?_
        | refine wo_loadI (.bool false) rfl (Nat.le_of_ble_eq_true rfl) rfl rfl rfl ?_
        | refine wo_loadI (.islc _ _ _ _) rfl (Nat.le_of_ble_eq_true rfl) rfl rfl rfl ?_
        | refine wo_loadI (.agg _) rfl (Nat.le_of_ble_eq_true rfl) rfl rfl rfl ?_
        | refine wo_loadI (.slc _ _ _ _ _ _ _) rfl (Nat.le_of_ble_eq_true rfl) rfl rfl rfl ?_)
    | (refine is_bin ?_; first
        | refine wo_cmpT rfl rfl rfl (by first | (simp only [cmpP]; done) | (simp only [cmpP]; omega)) rfl rfl ?_
        | refine wo_cmpF rfl rfl rfl (by first | (simp only [cmpP]; done) | (simp only [cmpP]; omega)) rfl rfl ?_
        | refine wo_cmp rfl rfl rfl rfl rfl (fun _ => ?_) (fun _ => ?_)
        | refine wo_add rfl rfl (by omega) rfl rfl ?_
        | refine wo_sub rfl rfl (by omega) rfl rfl ?_
        | refine wo_mul rfl rfl (by omega) rfl rfl ?_
        | refine wo_rem rfl rfl (by omega) (by omega) rfl rfl ?_
        | refine wo_bin (.int _ _) rfl rfl rfl ?_)
    | (refine is_pick ?_; first
        | refine wo_pickT (.int _ _) rfl rfl rfl rfl ?_
        | refine wo_pickF (.int _ _) rfl rfl rfl rfl ?_
        | refine wo_pickT (.bool true) rfl rfl rfl rfl ?_
        | refine wo_pickF (.bool true) rfl rfl rfl rfl ?_
        | refine wo_pickT (.bool false) rfl rfl rfl rfl ?_
        | refine wo_pickF (.bool false) rfl rfl rfl rfl ?_
        | refine wo_pickT (.islc _ _ _ _) rfl rfl rfl rfl ?_
        | refine wo_pickF (.islc _ _ _ _) rfl rfl rfl rfl ?_
        | refine wo_pickT (.agg _) rfl rfl rfl rfl ?_
        | refine wo_pickF (.agg _) rfl rfl rfl rfl ?_
        | refine wo_pickT (.ptr _ _ _ _ _ _) rfl rfl rfl rfl ?_
        | refine wo_pickF (.ptr _ _ _ _ _ _) rfl rfl rfl rfl ?_
        | refine wo_pickT (.slc _ _ _ _ _ _ _) rfl rfl rfl rfl ?_
        | refine wo_pickF (.slc _ _ _ _ _ _ _) rfl rfl rfl rfl ?_
        | refine wo_pickT (.iptr _ _) rfl rfl rfl rfl ?_
        | refine wo_pickF (.iptr _ _) rfl rfl rfl rfl ?_
        | refine wo_pickT (.tup _) rfl rfl rfl rfl ?_
        | refine wo_pickF (.tup _) rfl rfl rfl rfl ?_
        | refine wo_pickT (.undef) rfl rfl rfl rfl ?_
        | refine wo_pickF (.undef) rfl rfl rfl rfl ?_
        | refine wo_pickT (.nilp) rfl rfl rfl rfl ?_
        | refine wo_pickF (.nilp) rfl rfl rfl rfl ?_
        | refine wo_pickT (.fn _ _) rfl rfl rfl rfl ?_
        | refine wo_pickF (.fn _ _) rfl rfl rfl rfl ?_
        | refine wo_pickT (.str _) rfl rfl rfl rfl ?_
        | refine wo_pickF (.str _) rfl rfl rfl rfl ?_
        | refine wo_pickT (.nilf) rfl rfl rfl rfl ?_
        | refine wo_pickF (.nilf) rfl rfl rfl rfl ?_)
    | (refine is_un ?_; first
        | refine wo_notT rfl rfl rfl ?_
        | refine wo_notF rfl rfl rfl ?_)
    | (refine is_len ?_; first
        | refine wo_len rfl rfl rfl ?_
        | refine wo_lenS rfl rfl rfl ?_
        | refine wo_len0 rfl rfl rfl ?_)
    | (refine is_extract ?_; first
        | refine wo_extract (.int _ _) rfl rfl rfl rfl ?_
        | refine wo_extract (.bool true) rfl rfl rfl rfl ?_
        | refine wo_extract (.bool false) rfl rfl rfl rfl ?_
        | refine wo_extract (.islc _ _ _ _) rfl rfl rfl rfl ?_
        | refine wo_extract (.agg _) rfl rfl rfl rfl ?_
        | refine wo_extract (.ptr _ _ _ _ _ _) rfl rfl rfl rfl ?_
        | refine wo_extract (.slc _ _ _ _ _ _ _) rfl rfl rfl rfl ?_
        | refine wo_extract (.iptr _ _) rfl rfl rfl rfl ?_
        | refine wo_extract (.tup _) rfl rfl rfl rfl ?_
        | refine wo_extract (.undef) rfl rfl rfl rfl ?_
        | refine wo_extract (.nilp) rfl rfl rfl rfl ?_
        | refine wo_extract (.fn _ _) rfl rfl rfl rfl ?_
        | refine wo_extract (.str _) rfl rfl rfl rfl ?_
        | refine wo_extract (.nilf) rfl rfl rfl rfl ?_)
    | (refine is_store ?_; first
        | refine wo_store rfl rfl rfl rfl rfl rfl rfl (Nat.le_of_ble_eq_true rfl) rfl rfl ?_)
    | (refine is_box ?_; first
        | refine wo_box (.int _ _) rfl rfl rfl rfl ?_
        | refine wo_box (.bool true) rfl rfl rfl rfl ?_
        | refine wo_box (.bool false) rfl rfl rfl rfl ?_
        | refine wo_box (.islc _ _ _ _) rfl rfl rfl rfl ?_
        | refine wo_box (.agg _) rfl rfl rfl rfl ?_
        | refine wo_box (.ptr _ _ _ _ _ _) rfl rfl rfl rfl ?_
        | refine wo_box (.slc _ _ _ _ _ _ _) rfl rfl rfl rfl ?_
        | refine wo_box (.iptr _ _) rfl rfl rfl rfl ?_
        | refine wo_box (.tup _) rfl rfl rfl rfl ?_
        | refine wo_box (.undef) rfl rfl rfl rfl ?_
        | refine wo_box (.nilp) rfl rfl rfl rfl ?_
        | refine wo_box (.fn _ _) rfl rfl rfl rfl ?_
        | refine wo_box (.str _) rfl rfl rfl rfl ?_
        | refine wo_box (.nilf) rfl rfl rfl rfl ?_)
    | (refine is_eqb ?_; first
        | refine wo_eqb true rfl rfl rfl rfl rfl ?_
        | refine wo_eqb false rfl rfl rfl rfl rfl ?_)
    | (refine is_cvi ?_; first
        | refine wo_to64 rfl (by omega) rfl rfl ?_
        | refine wo_tou64 rfl (by omega) rfl rfl ?_
        | refine wo_cvu rfl rfl rfl ?_
        | refine wo_cvi rfl rfl rfl ?_)
    | (refine is_iaddr ?_; first
        | refine wo_at rfl rfl (by omega) (by omega) rfl rfl ?_)
    | (refine is_field ?_; first
        | refine wo_field (.int _ _) rfl (Nat.le_of_ble_eq_true rfl) rfl rfl rfl ?_
        | refine wo_field (.bool true) rfl (Nat.le_of_ble_eq_true rfl) rfl rfl rfl ?_
        | refine wo_field (.bool false) rfl (Nat.le_of_ble_eq_true rfl) rfl rfl rfl ?_
        | refine wo_field (.islc _ _ _ _) rfl (Nat.le_of_ble_eq_true rfl) rfl rfl rfl ?_
        | refine wo_field (.agg _) rfl (Nat.le_of_ble_eq_true rfl) rfl rfl rfl ?_
        | refine wo_field (.slc _ _ _ _ _ _ _) rfl (Nat.le_of_ble_eq_true rfl) rfl rfl rfl ?_)
    | (refine is_nilrow ?_; first
        | refine wo_nilrow rfl rfl ?_)
    | (refine is_build ?_; first
        | refine wo_build (.agg _) rfl rfl rfl rfl ?_)
    | (refine is_buildS ?_; first
        | refine wo_buildS rfl rfl rfl rfl ?_))
  all_goals (refine wo_mks rfl rfl (by omega) (by omega) rfl rfl ?_)
  · rename_i h1 h2
    simp only [cmpP] at h1 h2
    by_cases h8 : n % 18446744073709551616 % 20 ≤ 8
    · skip
      have hz := e_chk (xf := xf) (gf := gf) 1000005 true 0 (zCmd 3 0 (a % 18446744073709551616 % 513) (n % 18446744073709551616 % 20) 0 []) 0 (by simp) (fun h => by cases h) (if_pos ((fb_zero _ _ hxb.1).2 ⟨h1, h2⟩))
      have hc := e_chk (xf := xf) (gf := gf) 1000005 true 0 (zCmd 4 0 0 (n % 18446744073709551616 % 20) (a % 18446744073709551616 % 513) []) 0 (by simp) (fun h => by cases h) (if_pos ((fb_clone _ _ hxb).2 ⟨h1, h2⟩))
      have hr := e_chk2 (xf := xf) (gf := gf) 1000005 true false 1 (zCmd 2 0 (a % 18446744073709551616 % 513) 0 0 (List.replicate ((n % 18446744073709551616 % 20) * 64).toNat 0)) 0 (by simp; omega) rfl (if_pos ((fb_write _ _ hxb.1 hyb.1).2 ⟨h1, h2, h8⟩))
      repeat' (first
        | refine wo_nil ?_
        | refine w_seq ?_
        | refine w_region ?_
        | refine w_ret ?_
        | refine w_skip ?_
        | refine w_exit ?_
        | refine w_block ?_
        | refine w_true rfl ?_
        | refine w_false rfl ?_
        | refine wo_n rfl ?_
        | refine wo_nn rfl ?_
        | refine wo_call hr rfl (ha_cmd rfl (row_of rfl (by simp)) (by simp)) rfl ?_
        | refine wo_call ho rfl (ha_cmd rfl (row_of rfl (by simp)) (by simp)) rfl ?_
        | refine wo_call hw rfl rfl rfl ?_
        | (refine is_mv ?_; first
            | refine wo_mv (.int _ _) rfl rfl rfl ?_
            | refine wo_mv (.bool true) rfl rfl rfl ?_
            | refine wo_mv (.bool false) rfl rfl rfl ?_
            | refine wo_mv (.islc _ _ _ _) rfl rfl rfl ?_
            | refine wo_mv (.agg _) rfl rfl rfl ?_
            | refine wo_mv (.ptr _ _ _ _ _ _) rfl rfl rfl ?_
            | refine wo_mv (.slc _ _ _ _ _ _ _) rfl rfl rfl ?_
            | refine wo_mv (.iptr _ _) rfl rfl rfl ?_
            | refine wo_mv (.tup _) rfl rfl rfl ?_
            | refine wo_mv (.undef) rfl rfl rfl ?_
            | refine wo_mv (.nilp) rfl rfl rfl ?_
            | refine wo_mv (.fn _ _) rfl rfl rfl ?_
            | refine wo_mv (.str _) rfl rfl rfl ?_
            | refine wo_mv (.nilf) rfl rfl rfl ?_)
        | (refine is_faddr ?_; first
            | refine wo_faddr rfl rfl rfl ?_)
        | (refine is_load ?_; first
            | refine wo_load (.int _ _) rfl rfl rfl (Nat.le_of_ble_eq_true rfl) rfl rfl rfl ?_
            | refine wo_load (.bool true) rfl rfl rfl (Nat.le_of_ble_eq_true rfl) rfl rfl rfl ?_
            | refine wo_load (.bool false) rfl rfl rfl (Nat.le_of_ble_eq_true rfl) rfl rfl rfl ?_
            | refine wo_load (.islc _ _ _ _) rfl rfl rfl (Nat.le_of_ble_eq_true rfl) rfl rfl rfl ?_
            | refine wo_load (.agg _) rfl rfl rfl (Nat.le_of_ble_eq_true rfl) rfl rfl rfl ?_
            | refine wo_load (.slc _ _ _ _ _ _ _) rfl rfl rfl (Nat.le_of_ble_eq_true rfl) rfl rfl rfl ?_
            | refine wo_loadI (.int _ _) rfl (Nat.le_of_ble_eq_true rfl) rfl rfl rfl ?_
            | refine wo_loadI (.bool true) rfl (Nat.le_of_ble_eq_true rfl) rfl rfl rfl ?_
            | refine wo_loadI (.bool false) rfl (Nat.le_of_ble_eq_true rfl) rfl rfl rfl ?_
            | refine wo_loadI (.islc _ _ _ _) rfl (Nat.le_of_ble_eq_true rfl) rfl rfl rfl ?_
            | refine wo_loadI (.agg _) rfl (Nat.le_of_ble_eq_true rfl) rfl rfl rfl ?_
            | refine wo_loadI (.slc _ _ _ _ _ _ _) rfl (Nat.le_of_ble_eq_true rfl) rfl rfl rfl ?_)
        | (refine is_bin ?_; first
            | refine wo_cmpT rfl rfl rfl (by first | (simp only [cmpP]; done) | (simp only [cmpP]; omega)) rfl rfl ?_
            | refine wo_cmpF rfl rfl rfl (by first | (simp only [cmpP]; done) | (simp only [cmpP]; omega)) rfl rfl ?_
            | refine wo_cmp rfl rfl rfl rfl rfl (fun _ => ?_) (fun _ => ?_)
            | refine wo_add rfl rfl (by omega) rfl rfl ?_
            | refine wo_sub rfl rfl (by omega) rfl rfl ?_
            | refine wo_mul rfl rfl (by omega) rfl rfl ?_
            | refine wo_rem rfl rfl (by omega) (by omega) rfl rfl ?_
            | refine wo_bin (.int _ _) rfl rfl rfl ?_)
        | (refine is_pick ?_; first
            | refine wo_pickT (.int _ _) rfl rfl rfl rfl ?_
            | refine wo_pickF (.int _ _) rfl rfl rfl rfl ?_
            | refine wo_pickT (.bool true) rfl rfl rfl rfl ?_
            | refine wo_pickF (.bool true) rfl rfl rfl rfl ?_
            | refine wo_pickT (.bool false) rfl rfl rfl rfl ?_
            | refine wo_pickF (.bool false) rfl rfl rfl rfl ?_
            | refine wo_pickT (.islc _ _ _ _) rfl rfl rfl rfl ?_
            | refine wo_pickF (.islc _ _ _ _) rfl rfl rfl rfl ?_
            | refine wo_pickT (.agg _) rfl rfl rfl rfl ?_
            | refine wo_pickF (.agg _) rfl rfl rfl rfl ?_
            | refine wo_pickT (.ptr _ _ _ _ _ _) rfl rfl rfl rfl ?_
            | refine wo_pickF (.ptr _ _ _ _ _ _) rfl rfl rfl rfl ?_
            | refine wo_pickT (.slc _ _ _ _ _ _ _) rfl rfl rfl rfl ?_
            | refine wo_pickF (.slc _ _ _ _ _ _ _) rfl rfl rfl rfl ?_
            | refine wo_pickT (.iptr _ _) rfl rfl rfl rfl ?_
            | refine wo_pickF (.iptr _ _) rfl rfl rfl rfl ?_
            | refine wo_pickT (.tup _) rfl rfl rfl rfl ?_
            | refine wo_pickF (.tup _) rfl rfl rfl rfl ?_
            | refine wo_pickT (.undef) rfl rfl rfl rfl ?_
            | refine wo_pickF (.undef) rfl rfl rfl rfl ?_
            | refine wo_pickT (.nilp) rfl rfl rfl rfl ?_
            | refine wo_pickF (.nilp) rfl rfl rfl rfl ?_
            | refine wo_pickT (.fn _ _) rfl rfl rfl rfl ?_
            | refine wo_pickF (.fn _ _) rfl rfl rfl rfl ?_
            | refine wo_pickT (.str _) rfl rfl rfl rfl ?_
            | refine wo_pickF (.str _) rfl rfl rfl rfl ?_
            | refine wo_pickT (.nilf) rfl rfl rfl rfl ?_
            | refine wo_pickF (.nilf) rfl rfl rfl rfl ?_)
        | (refine is_un ?_; first
            | refine wo_notT rfl rfl rfl ?_
            | refine wo_notF rfl rfl rfl ?_)
        | (refine is_len ?_; first
            | refine wo_len rfl rfl rfl ?_
            | refine wo_lenS rfl rfl rfl ?_
            | refine wo_len0 rfl rfl rfl ?_)
        | (refine is_extract ?_; first
            | refine wo_extract (.int _ _) rfl rfl rfl rfl ?_
            | refine wo_extract (.bool true) rfl rfl rfl rfl ?_
            | refine wo_extract (.bool false) rfl rfl rfl rfl ?_
            | refine wo_extract (.islc _ _ _ _) rfl rfl rfl rfl ?_
            | refine wo_extract (.agg _) rfl rfl rfl rfl ?_
            | refine wo_extract (.ptr _ _ _ _ _ _) rfl rfl rfl rfl ?_
            | refine wo_extract (.slc _ _ _ _ _ _ _) rfl rfl rfl rfl ?_
            | refine wo_extract (.iptr _ _) rfl rfl rfl rfl ?_
            | refine wo_extract (.tup _) rfl rfl rfl rfl ?_
            | refine wo_extract (.undef) rfl rfl rfl rfl ?_
            | refine wo_extract (.nilp) rfl rfl rfl rfl ?_
            | refine wo_extract (.fn _ _) rfl rfl rfl rfl ?_
            | refine wo_extract (.str _) rfl rfl rfl rfl ?_
            | refine wo_extract (.nilf) rfl rfl rfl rfl ?_)
        | (refine is_store ?_; first
            | refine wo_store rfl rfl rfl rfl rfl rfl rfl (Nat.le_of_ble_eq_true rfl) rfl rfl ?_)
        | (refine is_box ?_; first
            | refine wo_box (.int _ _) rfl rfl rfl rfl ?_
            | refine wo_box (.bool true) rfl rfl rfl rfl ?_
            | refine wo_box (.bool false) rfl rfl rfl rfl ?_
            | refine wo_box (.islc _ _ _ _) rfl rfl rfl rfl ?_
            | refine wo_box (.agg _) rfl rfl rfl rfl ?_
            | refine wo_box (.ptr _ _ _ _ _ _) rfl rfl rfl rfl ?_
            | refine wo_box (.slc _ _ _ _ _ _ _) rfl rfl rfl rfl ?_
            | refine wo_box (.iptr _ _) rfl rfl rfl rfl ?_
            | refine wo_box (.tup _) rfl rfl rfl rfl ?_
            | refine wo_box (.undef) rfl rfl rfl rfl ?_
            | refine wo_box (.nilp) rfl rfl rfl rfl ?_
            | refine wo_box (.fn _ _) rfl rfl rfl rfl ?_
            | refine wo_box (.str _) rfl rfl rfl rfl ?_
            | refine wo_box (.nilf) rfl rfl rfl rfl ?_)
        | (refine is_eqb ?_; first
            | refine wo_eqb true rfl rfl rfl rfl rfl ?_
            | refine wo_eqb false rfl rfl rfl rfl rfl ?_)
        | (refine is_cvi ?_; first
            | refine wo_to64 rfl (by omega) rfl rfl ?_
            | refine wo_tou64 rfl (by omega) rfl rfl ?_
            | refine wo_cvu rfl rfl rfl ?_
            | refine wo_cvi rfl rfl rfl ?_)
        | (refine is_iaddr ?_; first
            | refine wo_at rfl rfl (by omega) (by omega) rfl rfl ?_)
        | (refine is_field ?_; first
            | refine wo_field (.int _ _) rfl (Nat.le_of_ble_eq_true rfl) rfl rfl rfl ?_
            | refine wo_field (.bool true) rfl (Nat.le_of_ble_eq_true rfl) rfl rfl rfl ?_
            | refine wo_field (.bool false) rfl (Nat.le_of_ble_eq_true rfl) rfl rfl rfl ?_
            | refine wo_field (.islc _ _ _ _) rfl (Nat.le_of_ble_eq_true rfl) rfl rfl rfl ?_
            | refine wo_field (.agg _) rfl (Nat.le_of_ble_eq_true rfl) rfl rfl rfl ?_
            | refine wo_field (.slc _ _ _ _ _ _ _) rfl (Nat.le_of_ble_eq_true rfl) rfl rfl rfl ?_)
        | (refine is_nilrow ?_; first
            | refine wo_nilrow rfl rfl ?_)
        | (refine is_build ?_; first
            | refine wo_build (.agg _) rfl rfl rfl rfl ?_)
        | (refine is_buildS ?_; first
            | refine wo_buildS rfl rfl rfl rfl ?_)
        | (refine is_call ?_; first
            | refine wo_callB (hz) rfl rfl rfl (fun _ => ?_) (fun _ => ?_)
            | refine wo_call (hz) rfl rfl rfl ?_
            | refine wo_callB (hc) rfl rfl rfl (fun _ => ?_) (fun _ => ?_)
            | refine wo_call (hc) rfl rfl rfl ?_
            | refine wo_callB (hm) rfl rfl rfl (fun _ => ?_) (fun _ => ?_)
            | refine wo_call (hm) rfl rfl rfl ?_
            | refine wo_callB (hs) rfl rfl rfl (fun _ => ?_) (fun _ => ?_)
            | refine wo_call (hs) rfl rfl rfl ?_
            | refine wo_callB (hg) rfl rfl rfl (fun _ => ?_) (fun _ => ?_)
            | refine wo_call (hg) rfl rfl rfl ?_))
      exact ⟨Or.inr rfl, _, rfl, rfl⟩
    · skip
      have hz := e_chk (xf := xf) (gf := gf) 1000005 true 0 (zCmd 3 0 (a % 18446744073709551616 % 513) (n % 18446744073709551616 % 20) 0 []) 0 (by simp) (fun h => by cases h) (if_pos ((fb_zero _ _ hxb.1).2 ⟨h1, h2⟩))
      have hc := e_chk (xf := xf) (gf := gf) 1000005 true 0 (zCmd 4 0 0 (n % 18446744073709551616 % 20) (a % 18446744073709551616 % 513) []) 0 (by simp) (fun h => by cases h) (if_pos ((fb_clone _ _ hxb).2 ⟨h1, h2⟩))
      have hr := e_chk2 (xf := xf) (gf := gf) 1000005 true false 1 (zCmd 2 0 (a % 18446744073709551616 % 513) 0 0 (List.replicate ((n % 18446744073709551616 % 20) * 64).toNat 0)) 1 (by simp; omega) rfl (if_neg (fun h => h8 ((fb_write _ _ hxb.1 hyb.1).1 h).2.2))
      repeat' (first
        | refine wo_nil ?_
        | refine w_seq ?_
        | refine w_region ?_
        | refine w_ret ?_
        | refine w_skip ?_
        | refine w_exit ?_
        | refine w_block ?_
        | refine w_true rfl ?_
        | refine w_false rfl ?_
        | refine wo_n rfl ?_
        | refine wo_nn rfl ?_
        | refine wo_call hr rfl (ha_cmd rfl (row_of rfl (by simp)) (by simp)) rfl ?_
        | refine wo_call ho rfl (ha_cmd rfl (row_of rfl (by simp)) (by simp)) rfl ?_
        | refine wo_call hw rfl rfl rfl ?_
        | (refine is_mv ?_; first
            | refine wo_mv (.int _ _) rfl rfl rfl ?_
            | refine wo_mv (.bool true) rfl rfl rfl ?_
            | refine wo_mv (.bool false) rfl rfl rfl ?_
            | refine wo_mv (.islc _ _ _ _) rfl rfl rfl ?_
            | refine wo_mv (.agg _) rfl rfl rfl ?_
            | refine wo_mv (.ptr _ _ _ _ _ _) rfl rfl rfl ?_
            | refine wo_mv (.slc _ _ _ _ _ _ _) rfl rfl rfl ?_
            | refine wo_mv (.iptr _ _) rfl rfl rfl ?_
            | refine wo_mv (.tup _) rfl rfl rfl ?_
            | refine wo_mv (.undef) rfl rfl rfl ?_
            | refine wo_mv (.nilp) rfl rfl rfl ?_
            | refine wo_mv (.fn _ _) rfl rfl rfl ?_
            | refine wo_mv (.str _) rfl rfl rfl ?_
            | refine wo_mv (.nilf) rfl rfl rfl ?_)
        | (refine is_faddr ?_; first
            | refine wo_faddr rfl rfl rfl ?_)
        | (refine is_load ?_; first
            | refine wo_load (.int _ _) rfl rfl rfl (Nat.le_of_ble_eq_true rfl) rfl rfl rfl ?_
            | refine wo_load (.bool true) rfl rfl rfl (Nat.le_of_ble_eq_true rfl) rfl rfl rfl ?_
            | refine wo_load (.bool false) rfl rfl rfl (Nat.le_of_ble_eq_true rfl) rfl rfl rfl ?_
            | refine wo_load (.islc _ _ _ _) rfl rfl rfl (Nat.le_of_ble_eq_true rfl) rfl rfl rfl ?_
            | refine wo_load (.agg _) rfl rfl rfl (Nat.le_of_ble_eq_true rfl) rfl rfl rfl ?_
            | refine wo_load (.slc _ _ _ _ _ _ _) rfl rfl rfl (Nat.le_of_ble_eq_true rfl) rfl rfl rfl ?_
            | refine wo_loadI (.int _ _) rfl (Nat.le_of_ble_eq_true rfl) rfl rfl rfl ?_
            | refine wo_loadI (.bool true) rfl (Nat.le_of_ble_eq_true rfl) rfl rfl rfl ?_
            | refine wo_loadI (.bool false) rfl (Nat.le_of_ble_eq_true rfl) rfl rfl rfl ?_
            | refine wo_loadI (.islc _ _ _ _) rfl (Nat.le_of_ble_eq_true rfl) rfl rfl rfl ?_
            | refine wo_loadI (.agg _) rfl (Nat.le_of_ble_eq_true rfl) rfl rfl rfl ?_
            | refine wo_loadI (.slc _ _ _ _ _ _ _) rfl (Nat.le_of_ble_eq_true rfl) rfl rfl rfl ?_)
        | (refine is_bin ?_; first
            | refine wo_cmpT rfl rfl rfl (by first | (simp only [cmpP]; done) | (simp only [cmpP]; omega)) rfl rfl ?_
            | refine wo_cmpF rfl rfl rfl (by first | (simp only [cmpP]; done) | (simp only [cmpP]; omega)) rfl rfl ?_
            | refine wo_cmp rfl rfl rfl rfl rfl (fun _ => ?_) (fun _ => ?_)
            | refine wo_add rfl rfl (by omega) rfl rfl ?_
            | refine wo_sub rfl rfl (by omega) rfl rfl ?_
            | refine wo_mul rfl rfl (by omega) rfl rfl ?_
            | refine wo_rem rfl rfl (by omega) (by omega) rfl rfl ?_
            | refine wo_bin (.int _ _) rfl rfl rfl ?_)
        | (refine is_pick ?_; first
            | refine wo_pickT (.int _ _) rfl rfl rfl rfl ?_
            | refine wo_pickF (.int _ _) rfl rfl rfl rfl ?_
            | refine wo_pickT (.bool true) rfl rfl rfl rfl ?_
            | refine wo_pickF (.bool true) rfl rfl rfl rfl ?_
            | refine wo_pickT (.bool false) rfl rfl rfl rfl ?_
            | refine wo_pickF (.bool false) rfl rfl rfl rfl ?_
            | refine wo_pickT (.islc _ _ _ _) rfl rfl rfl rfl ?_
            | refine wo_pickF (.islc _ _ _ _) rfl rfl rfl rfl ?_
            | refine wo_pickT (.agg _) rfl rfl rfl rfl ?_
            | refine wo_pickF (.agg _) rfl rfl rfl rfl ?_
            | refine wo_pickT (.ptr _ _ _ _ _ _) rfl rfl rfl rfl ?_
            | refine wo_pickF (.ptr _ _ _ _ _ _) rfl rfl rfl rfl ?_
            | refine wo_pickT (.slc _ _ _ _ _ _ _) rfl rfl rfl rfl ?_
            | refine wo_pickF (.slc _ _ _ _ _ _ _) rfl rfl rfl rfl ?_
            | refine wo_pickT (.iptr _ _) rfl rfl rfl rfl ?_
            | refine wo_pickF (.iptr _ _) rfl rfl rfl rfl ?_
            | refine wo_pickT (.tup _) rfl rfl rfl rfl ?_
            | refine wo_pickF (.tup _) rfl rfl rfl rfl ?_
            | refine wo_pickT (.undef) rfl rfl rfl rfl ?_
            | refine wo_pickF (.undef) rfl rfl rfl rfl ?_
            | refine wo_pickT (.nilp) rfl rfl rfl rfl ?_
            | refine wo_pickF (.nilp) rfl rfl rfl rfl ?_
            | refine wo_pickT (.fn _ _) rfl rfl rfl rfl ?_
            | refine wo_pickF (.fn _ _) rfl rfl rfl rfl ?_
            | refine wo_pickT (.str _) rfl rfl rfl rfl ?_
            | refine wo_pickF (.str _) rfl rfl rfl rfl ?_
            | refine wo_pickT (.nilf) rfl rfl rfl rfl ?_
            | refine wo_pickF (.nilf) rfl rfl rfl rfl ?_)
        | (refine is_un ?_; first
            | refine wo_notT rfl rfl rfl ?_
            | refine wo_notF rfl rfl rfl ?_)
        | (refine is_len ?_; first
            | refine wo_len rfl rfl rfl ?_
            | refine wo_lenS rfl rfl rfl ?_
            | refine wo_len0 rfl rfl rfl ?_)
        | (refine is_extract ?_; first
            | refine wo_extract (.int _ _) rfl rfl rfl rfl ?_
            | refine wo_extract (.bool true) rfl rfl rfl rfl ?_
            | refine wo_extract (.bool false) rfl rfl rfl rfl ?_
            | refine wo_extract (.islc _ _ _ _) rfl rfl rfl rfl ?_
            | refine wo_extract (.agg _) rfl rfl rfl rfl ?_
            | refine wo_extract (.ptr _ _ _ _ _ _) rfl rfl rfl rfl ?_
            | refine wo_extract (.slc _ _ _ _ _ _ _) rfl rfl rfl rfl ?_
            | refine wo_extract (.iptr _ _) rfl rfl rfl rfl ?_
            | refine wo_extract (.tup _) rfl rfl rfl rfl ?_
            | refine wo_extract (.undef) rfl rfl rfl rfl ?_
            | refine wo_extract (.nilp) rfl rfl rfl rfl ?_
            | refine wo_extract (.fn _ _) rfl rfl rfl rfl ?_
            | refine wo_extract (.str _) rfl rfl rfl rfl ?_
            | refine wo_extract (.nilf) rfl rfl rfl rfl ?_)
        | (refine is_store ?_; first
            | refine wo_store rfl rfl rfl rfl rfl rfl rfl (Nat.le_of_ble_eq_true rfl) rfl rfl ?_)
        | (refine is_box ?_; first
            | refine wo_box (.int _ _) rfl rfl rfl rfl ?_
            | refine wo_box (.bool true) rfl rfl rfl rfl ?_
            | refine wo_box (.bool false) rfl rfl rfl rfl ?_
            | refine wo_box (.islc _ _ _ _) rfl rfl rfl rfl ?_
            | refine wo_box (.agg _) rfl rfl rfl rfl ?_
            | refine wo_box (.ptr _ _ _ _ _ _) rfl rfl rfl rfl ?_
            | refine wo_box (.slc _ _ _ _ _ _ _) rfl rfl rfl rfl ?_
            | refine wo_box (.iptr _ _) rfl rfl rfl rfl ?_
            | refine wo_box (.tup _) rfl rfl rfl rfl ?_
            | refine wo_box (.undef) rfl rfl rfl rfl ?_
            | refine wo_box (.nilp) rfl rfl rfl rfl ?_
            | refine wo_box (.fn _ _) rfl rfl rfl rfl ?_
            | refine wo_box (.str _) rfl rfl rfl rfl ?_
            | refine wo_box (.nilf) rfl rfl rfl rfl ?_)
        | (refine is_eqb ?_; first
            | refine wo_eqb true rfl rfl rfl rfl rfl ?_
            | refine wo_eqb false rfl rfl rfl rfl rfl ?_)
        | (refine is_cvi ?_; first
            | refine wo_to64 rfl (by omega) rfl rfl ?_
            | refine wo_tou64 rfl (by omega) rfl rfl ?_
            | refine wo_cvu rfl rfl rfl ?_
            | refine wo_cvi rfl rfl rfl ?_)
        | (refine is_iaddr ?_; first
            | refine wo_at rfl rfl (by omega) (by omega) rfl rfl ?_)
        | (refine is_field ?_; first
            | refine wo_field (.int _ _) rfl (Nat.le_of_ble_eq_true rfl) rfl rfl rfl ?_
            | refine wo_field (.bool true) rfl (Nat.le_of_ble_eq_true rfl) rfl rfl rfl ?_
            | refine wo_field (.bool false) rfl (Nat.le_of_ble_eq_true rfl) rfl rfl rfl ?_
            | refine wo_field (.islc _ _ _ _) rfl (Nat.le_of_ble_eq_true rfl) rfl rfl rfl ?_
            | refine wo_field (.agg _) rfl (Nat.le_of_ble_eq_true rfl) rfl rfl rfl ?_
            | refine wo_field (.slc _ _ _ _ _ _ _) rfl (Nat.le_of_ble_eq_true rfl) rfl rfl rfl ?_)
        | (refine is_nilrow ?_; first
            | refine wo_nilrow rfl rfl ?_)
        | (refine is_build ?_; first
            | refine wo_build (.agg _) rfl rfl rfl rfl ?_)
        | (refine is_buildS ?_; first
            | refine wo_buildS rfl rfl rfl rfl ?_)
        | (refine is_call ?_; first
            | refine wo_callB (hz) rfl rfl rfl (fun _ => ?_) (fun _ => ?_)
            | refine wo_call (hz) rfl rfl rfl ?_
            | refine wo_callB (hc) rfl rfl rfl (fun _ => ?_) (fun _ => ?_)
            | refine wo_call (hc) rfl rfl rfl ?_
            | refine wo_callB (hm) rfl rfl rfl (fun _ => ?_) (fun _ => ?_)
            | refine wo_call (hm) rfl rfl rfl ?_
            | refine wo_callB (hs) rfl rfl rfl (fun _ => ?_) (fun _ => ?_)
            | refine wo_call (hs) rfl rfl rfl ?_
            | refine wo_callB (hg) rfl rfl rfl (fun _ => ?_) (fun _ => ?_)
            | refine wo_call (hg) rfl rfl rfl ?_))
      exact ⟨Or.inr rfl, _, rfl, rfl⟩
  · rename_i h1 h2
    simp only [cmpP] at h1 h2
    have hz := e_chk (xf := xf) (gf := gf) 1000005 true 0 (zCmd 3 0 (a % 18446744073709551616 % 513) (n % 18446744073709551616 % 20) 0 []) 1 (by simp) (fun h => by cases h) (if_neg (fun h => h2 ((fb_zero _ _ hxb.1).1 h).2))
    have hc := e_chk (xf := xf) (gf := gf) 1000005 true 0 (zCmd 4 0 0 (n % 18446744073709551616 % 20) (a % 18446744073709551616 % 513) []) 1 (by simp) (fun h => by cases h) (if_neg (fun h => h2 ((fb_clone _ _ hxb).1 h).2))
    have hr := e_chk2 (xf := xf) (gf := gf) 1000005 true false 1 (zCmd 2 0 (a % 18446744073709551616 % 513) 0 0 (List.replicate ((n % 18446744073709551616 % 20) * 64).toNat 0)) 1 (by simp; omega) rfl (if_neg (fun h => h2 ((fb_write _ _ hxb.1 hyb.1).1 h).2.1))
    repeat' (first
      | refine wo_nil ?_
      | refine w_seq ?_
      | refine w_region ?_
      | refine w_ret ?_
      | refine w_skip ?_
      | refine w_exit ?_
      | refine w_block ?_
      | refine w_true rfl ?_
      | refine w_false rfl ?_
      | refine wo_n rfl ?_
      | refine wo_nn rfl ?_
      | refine wo_call hr rfl (ha_cmd rfl (row_of rfl (by simp)) (by simp)) rfl ?_
      | refine wo_call ho rfl (ha_cmd rfl (row_of rfl (by simp)) (by simp)) rfl ?_
      | refine wo_call hw rfl rfl rfl ?_
      | (refine is_mv ?_; first
          | refine wo_mv (.int _ _) rfl rfl rfl ?_
          | refine wo_mv (.bool true) rfl rfl rfl ?_
          | refine wo_mv (.bool false) rfl rfl rfl ?_
          | refine wo_mv (.islc _ _ _ _) rfl rfl rfl ?_
          | refine wo_mv (.agg _) rfl rfl rfl ?_
          | refine wo_mv (.ptr _ _ _ _ _ _) rfl rfl rfl ?_
          | refine wo_mv (.slc _ _ _ _ _ _ _) rfl rfl rfl ?_
          | refine wo_mv (.iptr _ _) rfl rfl rfl ?_
          | refine wo_mv (.tup _) rfl rfl rfl ?_
          | refine wo_mv (.undef) rfl rfl rfl ?_
          | refine wo_mv (.nilp) rfl rfl rfl ?_
          | refine wo_mv (.fn _ _) rfl rfl rfl ?_
          | refine wo_mv (.str _) rfl rfl rfl ?_
          | refine wo_mv (.nilf) rfl rfl rfl ?_)
      | (refine is_faddr ?_; first
          | refine wo_faddr rfl rfl rfl ?_)
      | (refine is_load ?_; first
          | refine wo_load (.int _ _) rfl rfl rfl (Nat.le_of_ble_eq_true rfl) rfl rfl rfl ?_
          | refine wo_load (.bool true) rfl rfl rfl (Nat.le_of_ble_eq_true rfl) rfl rfl rfl ?_
          | refine wo_load (.bool false) rfl rfl rfl (Nat.le_of_ble_eq_true rfl) rfl rfl rfl ?_
          | refine wo_load (.islc _ _ _ _) rfl rfl rfl (Nat.le_of_ble_eq_true rfl) rfl rfl rfl ?_
          | refine wo_load (.agg _) rfl rfl rfl (Nat.le_of_ble_eq_true rfl) rfl rfl rfl ?_
          | refine wo_load (.slc _ _ _ _ _ _ _) rfl rfl rfl (Nat.le_of_ble_eq_true rfl) rfl rfl rfl ?_
          | refine wo_loadI (.int _ _) rfl (Nat.le_of_ble_eq_true rfl) rfl rfl rfl ?_
          | refine wo_loadI (.bool true) rfl (Nat.le_of_ble_eq_true rfl) rfl rfl rfl ?_
          | refine wo_loadI (.bool false) rfl (Nat.le_of_ble_eq_true rfl) rfl rfl rfl ?_
          | refine wo_loadI (.islc _ _ _ _) rfl (Nat.le_of_ble_eq_true rfl) rfl rfl rfl ?_
          | refine wo_loadI (.agg _) rfl (Nat.le_of_ble_eq_true rfl) rfl rfl rfl ?_
          | refine wo_loadI (.slc _ _ _ _ _ _ _) rfl (Nat.le_of_ble_eq_true rfl) rfl rfl rfl ?_)
      | (refine is_bin ?_; first
          | refine wo_cmpT rfl rfl rfl (by first | (simp only [cmpP]; done) | (simp only [cmpP]; omega)) rfl rfl ?_
          | refine wo_cmpF rfl rfl rfl (by first | (simp only [cmpP]; done) | (simp only [cmpP]; omega)) rfl rfl ?_
          | refine wo_cmp rfl rfl rfl rfl rfl (fun _ => ?_) (fun _ => ?_)
          | refine wo_add rfl rfl (by omega) rfl rfl ?_
          | refine wo_sub rfl rfl (by omega) rfl rfl ?_
          | refine wo_mul rfl rfl (by omega) rfl rfl ?_
          | refine wo_rem rfl rfl (by omega) (by omega) rfl rfl ?_
          | refine wo_bin (.int _ _) rfl rfl rfl ?_)
      | (refine is_pick ?_; first
          | refine wo_pickT (.int _ _) rfl rfl rfl rfl ?_
          | refine wo_pickF (.int _ _) rfl rfl rfl rfl ?_
          | refine wo_pickT (.bool true) rfl rfl rfl rfl ?_
          | refine wo_pickF (.bool true) rfl rfl rfl rfl ?_
          | refine wo_pickT (.bool false) rfl rfl rfl rfl ?_
          | refine wo_pickF (.bool false) rfl rfl rfl rfl ?_
          | refine wo_pickT (.islc _ _ _ _) rfl rfl rfl rfl ?_
          | refine wo_pickF (.islc _ _ _ _) rfl rfl rfl rfl ?_
          | refine wo_pickT (.agg _) rfl rfl rfl rfl ?_
          | refine wo_pickF (.agg _) rfl rfl rfl rfl ?_
          | refine wo_pickT (.ptr _ _ _ _ _ _) rfl rfl rfl rfl ?_
          | refine wo_pickF (.ptr _ _ _ _ _ _) rfl rfl rfl rfl ?_
          | refine wo_pickT (.slc _ _ _ _ _ _ _) rfl rfl rfl rfl ?_
          | refine wo_pickF (.slc _ _ _ _ _ _ _) rfl rfl rfl rfl ?_
          | refine wo_pickT (.iptr _ _) rfl rfl rfl rfl ?_
          | refine wo_pickF (.iptr _ _) rfl rfl rfl rfl ?_
          | refine wo_pickT (.tup _) rfl rfl rfl rfl ?_
          | refine wo_pickF (.tup _) rfl rfl rfl rfl ?_
          | refine wo_pickT (.undef) rfl rfl rfl rfl ?_
          | refine wo_pickF (.undef) rfl rfl rfl rfl ?_
          | refine wo_pickT (.nilp) rfl rfl rfl rfl ?_
          | refine wo_pickF (.nilp) rfl rfl rfl rfl ?_
          | refine wo_pickT (.fn _ _) rfl rfl rfl rfl ?_
          | refine wo_pickF (.fn _ _) rfl rfl rfl rfl ?_
          | refine wo_pickT (.str _) rfl rfl rfl rfl ?_
          | refine wo_pickF (.str _) rfl rfl rfl rfl ?_
          | refine wo_pickT (.nilf) rfl rfl rfl rfl ?_
          | refine wo_pickF (.nilf) rfl rfl rfl rfl ?_)
      | (refine is_un ?_; first
          | refine wo_notT rfl rfl rfl ?_
          | refine wo_notF rfl rfl rfl ?_)
      | (refine is_len ?_; first
          | refine wo_len rfl rfl rfl ?_
          | refine wo_lenS rfl rfl rfl ?_
          | refine wo_len0 rfl rfl rfl ?_)
      | (refine is_extract ?_; first
          | refine wo_extract (.int _ _) rfl rfl rfl rfl ?_
          | refine wo_extract (.bool true) rfl rfl rfl rfl ?_
          | refine wo_extract (.bool false) rfl rfl rfl rfl ?_
          | refine wo_extract (.islc _ _ _ _) rfl rfl rfl rfl ?_
          | refine wo_extract (.agg _) rfl rfl rfl rfl ?_
          | refine wo_extract (.ptr _ _ _ _ _ _) rfl rfl rfl rfl ?_
          | refine wo_extract (.slc _ _ _ _ _ _ _) rfl rfl rfl rfl ?_
          | refine wo_extract (.iptr _ _) rfl rfl rfl rfl ?_
          | refine wo_extract (.tup _) rfl rfl rfl rfl ?_
          | refine wo_extract (.undef) rfl rfl rfl rfl ?_
          | refine wo_extract (.nilp) rfl rfl rfl rfl ?_
          | refine wo_extract (.fn _ _) rfl rfl rfl rfl ?_
          | refine wo_extract (.str _) rfl rfl rfl rfl ?_
          | refine wo_extract (.nilf) rfl rfl rfl rfl ?_)
      | (refine is_store ?_; first
          | refine wo_store rfl rfl rfl rfl rfl rfl rfl (Nat.le_of_ble_eq_true rfl) rfl rfl ?_)
      | (refine is_box ?_; first
          | refine wo_box (.int _ _) rfl rfl rfl rfl ?_
          | refine wo_box (.bool true) rfl rfl rfl rfl ?_
          | refine wo_box (.bool false) rfl rfl rfl rfl ?_
          | refine wo_box (.islc _ _ _ _) rfl rfl rfl rfl ?_
          | refine wo_box (.agg _) rfl rfl rfl rfl ?_
          | refine wo_box (.ptr _ _ _ _ _ _) rfl rfl rfl rfl ?_
          | refine wo_box (.slc _ _ _ _ _ _ _) rfl rfl rfl rfl ?_
          | refine wo_box (.iptr _ _) rfl rfl rfl rfl ?_
          | refine wo_box (.tup _) rfl rfl rfl rfl ?_
          | refine wo_box (.undef) rfl rfl rfl rfl ?_
          | refine wo_box (.nilp) rfl rfl rfl rfl ?_
          | refine wo_box (.fn _ _) rfl rfl rfl rfl ?_
          | refine wo_box (.str _) rfl rfl rfl rfl ?_
          | refine wo_box (.nilf) rfl rfl rfl rfl ?_)
      | (refine is_eqb ?_; first
          | refine wo_eqb true rfl rfl rfl rfl rfl ?_
          | refine wo_eqb false rfl rfl rfl rfl rfl ?_)
      | (refine is_cvi ?_; first
          | refine wo_to64 rfl (by omega) rfl rfl ?_
          | refine wo_tou64 rfl (by omega) rfl rfl ?_
          | refine wo_cvu rfl rfl rfl ?_
          | refine wo_cvi rfl rfl rfl ?_)
      | (refine is_iaddr ?_; first
          | refine wo_at rfl rfl (by omega) (by omega) rfl rfl ?_)
      | (refine is_field ?_; first
          | refine wo_field (.int _ _) rfl (Nat.le_of_ble_eq_true rfl) rfl rfl rfl ?_
          | refine wo_field (.bool true) rfl (Nat.le_of_ble_eq_true rfl) rfl rfl rfl ?_
          | refine wo_field (.bool false) rfl (Nat.le_of_ble_eq_true rfl) rfl rfl rfl ?_
          | refine wo_field (.islc _ _ _ _) rfl (Nat.le_of_ble_eq_true rfl) rfl rfl rfl ?_
          | refine wo_field (.agg _) rfl (Nat.le_of_ble_eq_true rfl) rfl rfl rfl ?_
          | refine wo_field (.slc _ _ _ _ _ _ _) rfl (Nat.le_of_ble_eq_true rfl) rfl rfl rfl ?_)
      | (refine is_nilrow ?_; first
          | refine wo_nilrow rfl rfl ?_)
      | (refine is_build ?_; first
          | refine wo_build (.agg _) rfl rfl rfl rfl ?_)
      | (refine is_buildS ?_; first
          | refine wo_buildS rfl rfl rfl rfl ?_)
      | (refine is_call ?_; first
          | refine wo_callB (hz) rfl rfl rfl (fun _ => ?_) (fun _ => ?_)
          | refine wo_call (hz) rfl rfl rfl ?_
          | refine wo_callB (hc) rfl rfl rfl (fun _ => ?_) (fun _ => ?_)
          | refine wo_call (hc) rfl rfl rfl ?_
          | refine wo_callB (hm) rfl rfl rfl (fun _ => ?_) (fun _ => ?_)
          | refine wo_call (hm) rfl rfl rfl ?_
          | refine wo_callB (hs) rfl rfl rfl (fun _ => ?_) (fun _ => ?_)
          | refine wo_call (hs) rfl rfl rfl ?_
          | refine wo_callB (hg) rfl rfl rfl (fun _ => ?_) (fun _ => ?_)
          | refine wo_call (hg) rfl rfl rfl ?_))
    exact ⟨Or.inr rfl, _, rfl, rfl⟩
  · rename_i h1
    simp only [cmpP] at h1
    have hz := e_chk (xf := xf) (gf := gf) 1000005 true 0 (zCmd 3 0 (a % 18446744073709551616 % 513) (n % 18446744073709551616 % 20) 0 []) 1 (by simp) (fun h => by cases h) (if_neg (fun h => h1 ((fb_zero _ _ hxb.1).1 h).1))
    have hc := e_chk (xf := xf) (gf := gf) 1000005 true 0 (zCmd 4 0 0 (n % 18446744073709551616 % 20) (a % 18446744073709551616 % 513) []) 1 (by simp) (fun h => by cases h) (if_neg (fun h => h1 ((fb_clone _ _ hxb).1 h).1))
    have hr := e_chk2 (xf := xf) (gf := gf) 1000005 true false 1 (zCmd 2 0 (a % 18446744073709551616 % 513) 0 0 (List.replicate ((n % 18446744073709551616 % 20) * 64).toNat 0)) 1 (by simp; omega) rfl (if_neg (fun h => h1 ((fb_write _ _ hxb.1 hyb.1).1 h).1))
    repeat' (first
      | refine wo_nil ?_
      | refine w_seq ?_
      | refine w_region ?_
      | refine w_ret ?_
      | refine w_skip ?_
      | refine w_exit ?_
      | refine w_block ?_
      | refine w_true rfl ?_
      | refine w_false rfl ?_
      | refine wo_n rfl ?_
      | refine wo_nn rfl ?_
      | refine wo_call hr rfl (ha_cmd rfl (row_of rfl (by simp)) (by simp)) rfl ?_
      | refine wo_call ho rfl (ha_cmd rfl (row_of rfl (by simp)) (by simp)) rfl ?_
      | refine wo_call hw rfl rfl rfl ?_
      | (refine is_mv ?_; first
          | refine wo_mv (.int _ _) rfl rfl rfl ?_
          | refine wo_mv (.bool true) rfl rfl rfl ?_
          | refine wo_mv (.bool false) rfl rfl rfl ?_
          | refine wo_mv (.islc _ _ _ _) rfl rfl rfl ?_
          | refine wo_mv (.agg _) rfl rfl rfl ?_
          | refine wo_mv (.ptr _ _ _ _ _ _) rfl rfl rfl ?_
          | refine wo_mv (.slc _ _ _ _ _ _ _) rfl rfl rfl ?_
          | refine wo_mv (.iptr _ _) rfl rfl rfl ?_
          | refine wo_mv (.tup _) rfl rfl rfl ?_
          | refine wo_mv (.undef) rfl rfl rfl ?_
          | refine wo_mv (.nilp) rfl rfl rfl ?_
          | refine wo_mv (.fn _ _) rfl rfl rfl ?_
          | refine wo_mv (.str _) rfl rfl rfl ?_
          | refine wo_mv (.nilf) rfl rfl rfl ?_)
      | (refine is_faddr ?_; first
          | refine wo_faddr rfl rfl rfl ?_)
      | (refine is_load ?_; first
          | refine wo_load (.int _ _) rfl rfl rfl (Nat.le_of_ble_eq_true rfl) rfl rfl rfl ?_
          | refine wo_load (.bool true) rfl rfl rfl (Nat.le_of_ble_eq_true rfl) rfl rfl rfl ?_
          | refine wo_load (.bool false) rfl rfl rfl (Nat.le_of_ble_eq_true rfl) rfl rfl rfl ?_
          | refine wo_load (.islc _ _ _ _) rfl rfl rfl (Nat.le_of_ble_eq_true rfl) rfl rfl rfl ?_
          | refine wo_load (.agg _) rfl rfl rfl (Nat.le_of_ble_eq_true rfl) rfl rfl rfl ?_
          | refine wo_load (.slc _ _ _ _ _ _ _) rfl rfl rfl (Nat.le_of_ble_eq_true rfl) rfl rfl rfl ?_
          | refine wo_loadI (.int _ _) rfl (Nat.le_of_ble_eq_true rfl) rfl rfl rfl ?_
          | refine wo_loadI (.bool true) rfl (Nat.le_of_ble_eq_true rfl) rfl rfl rfl ?_
          | refine wo_loadI (.bool false) rfl (Nat.le_of_ble_eq_true rfl) rfl rfl rfl ?_
          | refine wo_loadI (.islc _ _ _ _) rfl (Nat.le_of_ble_eq_true rfl) rfl rfl rfl ?_
          | refine wo_loadI (.agg _) rfl (Nat.le_of_ble_eq_true rfl) rfl rfl rfl ?_
          | refine wo_loadI (.slc _ _ _ _ _ _ _) rfl (Nat.le_of_ble_eq_true rfl) rfl rfl rfl ?_)
      | (refine is_bin ?_; first
          | refine wo_cmpT rfl rfl rfl (by first | (simp only [cmpP]; done) | (simp only [cmpP]; omega)) rfl rfl ?_
          | refine wo_cmpF rfl rfl rfl (by first | (simp only [cmpP]; done) | (simp only [cmpP]; omega)) rfl rfl ?_
          | refine wo_cmp rfl rfl rfl rfl rfl (fun _ => ?_) (fun _ => ?_)
          | refine wo_add rfl rfl (by omega) rfl rfl ?_
          | refine wo_sub rfl rfl (by omega) rfl rfl ?_
          | refine wo_mul rfl rfl (by omega) rfl rfl ?_
          | refine wo_rem rfl rfl (by omega) (by omega) rfl rfl ?_
          | refine wo_bin (.int _ _) rfl rfl rfl ?_)
      | (refine is_pick ?_; first
          | refine wo_pickT (.int _ _) rfl rfl rfl rfl ?_
          | refine wo_pickF (.int _ _) rfl rfl rfl rfl ?_
          | refine wo_pickT (.bool true) rfl rfl rfl rfl ?_
          | refine wo_pickF (.bool true) rfl rfl rfl rfl ?_
          | refine wo_pickT (.bool false) rfl rfl rfl rfl ?_
          | refine wo_pickF (.bool false) rfl rfl rfl rfl ?_
          | refine wo_pickT (.islc _ _ _ _) rfl rfl rfl rfl ?_
          | refine wo_pickF (.islc _ _ _ _) rfl rfl rfl rfl ?_
          | refine wo_pickT (.agg _) rfl rfl rfl rfl ?_
          | refine wo_pickF (.agg _) rfl rfl rfl rfl ?_
          | refine wo_pickT (.ptr _ _ _ _ _ _) rfl rfl rfl rfl ?_
          | refine wo_pickF (.ptr _ _ _ _ _ _) rfl rfl rfl rfl ?_
          | refine wo_pickT (.slc _ _ _ _ _ _ _) rfl rfl rfl rfl ?_
          | refine wo_pickF (.slc _ _ _ _ _ _ _) rfl rfl rfl rfl ?_
          | refine wo_pickT (.iptr _ _) rfl rfl rfl rfl ?_
          | refine wo_pickF (.iptr _ _) rfl rfl rfl rfl ?_
          | refine wo_pickT (.tup _) rfl rfl rfl rfl ?_
          | refine wo_pickF (.tup _) rfl rfl rfl rfl ?_
          | refine wo_pickT (.undef) rfl rfl rfl rfl ?_
          | refine wo_pickF (.undef) rfl rfl rfl rfl ?_
          | refine wo_pickT (.nilp) rfl rfl rfl rfl ?_
          | refine wo_pickF (.nilp) rfl rfl rfl rfl ?_
          | refine wo_pickT (.fn _ _) rfl rfl rfl rfl ?_
          | refine wo_pickF (.fn _ _) rfl rfl rfl rfl ?_
          | refine wo_pickT (.str _) rfl rfl rfl rfl ?_
          | refine wo_pickF (.str _) rfl rfl rfl rfl ?_
          | refine wo_pickT (.nilf) rfl rfl rfl rfl ?_
          | refine wo_pickF (.nilf) rfl rfl rfl rfl ?_)
      | (refine is_un ?_; first
          | refine wo_notT rfl rfl rfl ?_
          | refine wo_notF rfl rfl rfl ?_)
      | (refine is_len ?_; first
          | refine wo_len rfl rfl rfl ?_
          | refine wo_lenS rfl rfl rfl ?_
          | refine wo_len0 rfl rfl rfl ?_)
      | (refine is_extract ?_; first
          | refine wo_extract (.int _ _) rfl rfl rfl rfl ?_
          | refine wo_extract (.bool true) rfl rfl rfl rfl ?_
          | refine wo_extract (.bool false) rfl rfl rfl rfl ?_
          | refine wo_extract (.islc _ _ _ _) rfl rfl rfl rfl ?_
          | refine wo_extract (.agg _) rfl rfl rfl rfl ?_
          | refine wo_extract (.ptr _ _ _ _ _ _) rfl rfl rfl rfl ?_
          | refine wo_extract (.slc _ _ _ _ _ _ _) rfl rfl rfl rfl ?_
          | refine wo_extract (.iptr _ _) rfl rfl rfl rfl ?_
          | refine wo_extract (.tup _) rfl rfl rfl rfl ?_
          | refine wo_extract (.undef) rfl rfl rfl rfl ?_
          | refine wo_extract (.nilp) rfl rfl rfl rfl ?_
          | refine wo_extract (.fn _ _) rfl rfl rfl rfl ?_
          | refine wo_extract (.str _) rfl rfl rfl rfl ?_
          | refine wo_extract (.nilf) rfl rfl rfl rfl ?_)
      | (refine is_store ?_; first
          | refine wo_store rfl rfl rfl rfl rfl rfl rfl (Nat.le_of_ble_eq_true rfl) rfl rfl ?_)
      | (refine is_box ?_; first
          | refine wo_box (.int _ _) rfl rfl rfl rfl ?_
          | refine wo_box (.bool true) rfl rfl rfl rfl ?_
          | refine wo_box (.bool false) rfl rfl rfl rfl ?_
          | refine wo_box (.islc _ _ _ _) rfl rfl rfl rfl ?_
          | refine wo_box (.agg _) rfl rfl rfl rfl ?_
          | refine wo_box (.ptr _ _ _ _ _ _) rfl rfl rfl rfl ?_
          | refine wo_box (.slc _ _ _ _ _ _ _) rfl rfl rfl rfl ?_
          | refine wo_box (.iptr _ _) rfl rfl rfl rfl ?_
          | refine wo_box (.tup _) rfl rfl rfl rfl ?_
          | refine wo_box (.undef) rfl rfl rfl rfl ?_
          | refine wo_box (.nilp) rfl rfl rfl rfl ?_
          | refine wo_box (.fn _ _) rfl rfl rfl rfl ?_
          | refine wo_box (.str _) rfl rfl rfl rfl ?_
          | refine wo_box (.nilf) rfl rfl rfl rfl ?_)
      | (refine is_eqb ?_; first
          | refine wo_eqb true rfl rfl rfl rfl rfl ?_
          | refine wo_eqb false rfl rfl rfl rfl rfl ?_)
      | (refine is_cvi ?_; first
          | refine wo_to64 rfl (by omega) rfl rfl ?_
          | refine wo_tou64 rfl (by omega) rfl rfl ?_
          | refine wo_cvu rfl rfl rfl ?_
          | refine wo_cvi rfl rfl rfl ?_)
      | (refine is_iaddr ?_; first
          | refine wo_at rfl rfl (by omega) (by omega) rfl rfl ?_)
      | (refine is_field ?_; first
          | refine wo_field (.int _ _) rfl (Nat.le_of_ble_eq_true rfl) rfl rfl rfl ?_
          | refine wo_field (.bool true) rfl (Nat.le_of_ble_eq_true rfl) rfl rfl rfl ?_
          | refine wo_field (.bool false) rfl (Nat.le_of_ble_eq_true rfl) rfl rfl rfl ?_
          | refine wo_field (.islc _ _ _ _) rfl (Nat.le_of_ble_eq_true rfl) rfl rfl rfl ?_
          | refine wo_field (.agg _) rfl (Nat.le_of_ble_eq_true rfl) rfl rfl rfl ?_
          | refine wo_field (.slc _ _ _ _ _ _ _) rfl (Nat.le_of_ble_eq_true rfl) rfl rfl rfl ?_)
      | (refine is_nilrow ?_; first
          | refine wo_nilrow rfl rfl ?_)
      | (refine is_build ?_; first
          | refine wo_build (.agg _) rfl rfl rfl rfl ?_)
      | (refine is_buildS ?_; first
          | refine wo_buildS rfl rfl rfl rfl ?_)
      | (refine is_call ?_; first
          | refine wo_callB (hz) rfl rfl rfl (fun _ => ?_) (fun _ => ?_)
          | refine wo_call (hz) rfl rfl rfl ?_
          | refine wo_callB (hc) rfl rfl rfl (fun _ => ?_) (fun _ => ?_)
          | refine wo_call (hc) rfl rfl rfl ?_
          | refine wo_callB (hm) rfl rfl rfl (fun _ => ?_) (fun _ => ?_)
          | refine wo_call (hm) rfl rfl rfl ?_
          | refine wo_callB (hs) rfl rfl rfl (fun _ => ?_) (fun _ => ?_)
          | refine wo_call (hs) rfl rfl rfl ?_
          | refine wo_callB (hg) rfl rfl rfl (fun _ => ?_) (fun _ => ?_)
          | refine wo_call (hg) rfl rfl rfl ?_))
    exact ⟨Or.inr rfl, _, rfl, rfl⟩

end Go.Proofs.Ytoanjhiojpgioaa
