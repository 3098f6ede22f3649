/- woodcutlaw09: FrameBack, by the interpreter. -/
import Derived.Test.YtoanjhiojpgioaaP6
import Derived.Test.YtoanjhiojpgioaaL09Reads
import Derived.Test.YtoanjhiojpgioaaS6
import Derived.Test.YtoanjhiojpgioaaS15
import Derived.Test.YtoanjhiojpgioaaS16
set_option linter.unusedSimpArgs false
set_option linter.unusedVariables false
set_option maxRecDepth 10000
set_option maxHeartbeats 16000000
namespace Go.Proofs.Ytoanjhiojpgioaa
open Go.AI
attribute [local irreducible] aops aexec acall aiter aop W WO

variable {xf : ExtF}

theorem BL_bAt {l : List UInt8} {n : Nat} (h : n < l.length) : (BL l)[n]? = some (u8 (bAt l (n : Int))) := by
  rw [BL_get, List.getElem?_eq_getElem h, bAt_eq h]
  rfl

theorem FrameBack_loop {cf : CallF} {base fuel : Nat} {H : Heap} {T : Tmps} {l x : List UInt8} {a v : Nat} (hx : x.length = 4) (hv : l.length = v) (ha : a + 4 ≤ v) (hvm : v < 1000000) (hk : 4 < fuel) (h1 : H 1 = ⟨1, false, .row 4 [.agg (BL x)]⟩) (h2 : H 2 = ⟨1, false, .row 1 (BL l)⟩)
    (hT : Has T [(3, .int .i64 a), (9, .ptr 1 1 1 4 0 0), (11, .slc 2 1 v 1 0 v none), (21, .bool false), (22, .int .i64 0)]) :
    W (aexec cf xf base fuel (.loop law09_FrameBack_l0) T H) (fun ex T' H' => ex = .exit 0 ∧ H' = H.upd 2 ⟨1, false, .row 1 (BL (bent l a x 4))⟩ ∧ T' 3 = .int .i64 a ∧ T' 11 = .slc 2 1 v 1 0 v none ∧ T' 21 = .bool (chF x 4)) := by
  refine w_loop (fun m T' H' => m ≤ 4 ∧ H' = H.upd 2 ⟨1, false, .row 1 (BL (bent l a x (4 - m)))⟩ ∧ Has T' [(3, .int .i64 a), (9, .ptr 1 1 1 4 0 0), (11, .slc 2 1 v 1 0 v none), (21, .bool (chF x (4 - m))), (22, .int .i64 ((4 - m : Nat) : Int))])
    4 ⟨Nat.le_refl _, (Heap.upd_self h2).symm, ⟨hT.1, hT.2.1, hT.2.2.1, hT.2.2.2.1, by rw [hT.2.2.2.2.1]; rfl, trivial⟩⟩ hk ?_
  rintro m T H1 hm ⟨_, rfl, hT⟩
  obtain ⟨i, hi⟩ : ∃ i, i = 4 - m := ⟨_, rfl⟩
  rw [← hi] at hT ⊢
  by_cases hm0 : m = 0
  · have hi4 : i = 4 := by omega
    subst hi4
    rw [hT.eq]
    simp only [over]
    unfold law09_FrameBack_l0
    repeat' (first
     | refine wo_nil ?_
     | refine w_seq ?_
     | refine w_region ?_
     | refine w_ret ?_
     | refine w_skip ?_
     | refine w_exit ?_
     | refine w_block ?_
     | refine w_true rfl ?_
     | refine w_false rfl ?_
     | refine wo_n rfl ?_
     | refine wo_nn rfl ?_
     | refine wo_mv _ (by conv => lhs; whnf) rfl rfl ?_
     | (refine is_load ?_; first | refine wo_load _ rfl rfl rfl (Nat.le_of_ble_eq_true rfl) (by conv => lhs; whnf) rfl rfl ?_ | refine wo_loadI _ rfl (Nat.le_of_ble_eq_true rfl) (by conv => lhs; whnf) rfl rfl ?_)
     | (refine is_bin ?_; first | refine wo_cmpT rfl rfl rfl (by first | (simp only [cmpP]; done) | (simp only [cmpP]; omega)) rfl rfl ?_ | refine wo_cmpF rfl rfl rfl (by first | (simp only [cmpP]; done) | (simp only [cmpP]; omega)) rfl rfl ?_ | refine wo_cmp rfl rfl rfl rfl rfl (fun _ => ?_) (fun _ => ?_) | refine wo_add rfl rfl (by omega) rfl rfl ?_ | refine wo_bin (.int _ _) rfl rfl rfl ?_)
     | (refine is_pick ?_; first | refine wo_pickT _ rfl (by conv => lhs; whnf) rfl rfl ?_ | refine wo_pickF _ rfl (by conv => lhs; whnf) rfl rfl ?_)
     | refine wo_store rfl rfl rfl rfl rfl rfl rfl (Nat.le_of_ble_eq_true rfl) rfl rfl ?_
     | refine wo_at rfl rfl (by omega) (by omega) rfl rfl ?_)
    exact ⟨rfl, rfl, rfl, rfl, rfl⟩
  have hi4 : i < 4 := by omega
  obtain ⟨L, hL⟩ : ∃ L, L = bent l a x i := ⟨_, rfl⟩
  have hLl : L.length = v := by rw [hL, bent_length, hv]
  rw [← hL]
  have e1 : 0 + ((a : Int) + (i : Int)).toNat = a + i := by omega
  have hE : (BL L)[0 + ((a : Int) + (i : Int)).toNat]? = some (u8 (bAt L ((a + i : Nat) : Int))) := by rw [e1]; exact BL_bAt (by omega)
  have hX : x[0 + (i : Int).toNat * 1]? = some (x.getD i 0) := by
    have : 0 + (i : Int).toNat * 1 = i := by omega
    rw [this, List.getD_eq_getElem?_getD, List.getElem?_eq_getElem (by omega)]; rfl
  have hn : bent l a x (i + 1) = L.set (a + i) (bAt L ((a + i : Nat) : Int) ^^^ x.getD i 0) := by rw [hL]; rfl
  have e2 : 4 - (m - 1) = i + 1 := by omega
  rw [hT.eq]
  simp only [over]
  unfold law09_FrameBack_l0
  cases hch : chF x i with
  | true =>
    repeat' (first
     | refine wo_nil ?_
     | refine w_seq ?_
     | refine w_region ?_
     | refine w_ret ?_
     | refine w_skip ?_
     | refine w_exit ?_
     | refine w_block ?_
     | refine w_true rfl ?_
     | refine w_false rfl ?_
     | refine wo_n rfl ?_
     | refine wo_nn rfl ?_
     | refine wo_atR rfl rfl rfl (by simp; omega) (by omega) (by omega) (by omega) rfl rfl ?_
     | refine wo_loadE rfl rfl (by simp; omega) hE rfl rfl rfl ?_
     | refine wo_iaddrA rfl rfl (by omega) (by omega) rfl rfl ?_
     | refine wo_loadA rfl h1 hX rfl rfl ?_
     | refine wo_xor8 rfl rfl rfl rfl ?_
     | refine wo_storeB (l := L) rfl rfl rfl rfl (by omega) (by omega) rfl rfl ?_
     | refine wo_mv _ (by conv => lhs; whnf) rfl rfl ?_
     | (refine is_load ?_; first | refine wo_load _ rfl rfl rfl (Nat.le_of_ble_eq_true rfl) (by conv => lhs; whnf) rfl rfl ?_ | refine wo_loadI _ rfl (Nat.le_of_ble_eq_true rfl) (by conv => lhs; whnf) rfl rfl ?_)
     | (refine is_bin ?_; first | refine wo_cmpT rfl rfl rfl (by first | (simp only [cmpP]; done) | (simp only [cmpP]; omega)) rfl rfl ?_ | refine wo_cmpF rfl rfl rfl (by first | (simp only [cmpP]; done) | (simp only [cmpP]; omega)) rfl rfl ?_ | refine wo_cmp rfl rfl rfl rfl rfl (fun _ => ?_) (fun _ => ?_) | refine wo_add rfl rfl (by omega) rfl rfl ?_ | refine wo_bin (.int _ _) rfl rfl rfl ?_)
     | (refine is_pick ?_; first | refine wo_pickT _ rfl (by conv => lhs; whnf) rfl rfl ?_ | refine wo_pickF _ rfl (by conv => lhs; whnf) rfl rfl ?_)
     | refine wo_store rfl rfl rfl rfl rfl rfl rfl (Nat.le_of_ble_eq_true rfl) rfl rfl ?_
     | refine wo_at rfl rfl (by omega) (by omega) rfl rfl ?_)
    refine ⟨by omega, by omega, ?_, rfl, rfl, rfl, ?_, by show AV.int _ _ = AV.int _ _; congr 1; omega, trivial⟩
    · rw [Heap.upd_upd, e2, hn, e1]
    · rw [e2]; simp only [chF, hch, Bool.true_or]; rfl
  | false =>
    repeat' (first
     | refine wo_nil ?_
     | refine w_seq ?_
     | refine w_region ?_
     | refine w_ret ?_
     | refine w_skip ?_
     | refine w_exit ?_
     | refine w_block ?_
     | refine w_true rfl ?_
     | refine w_false rfl ?_
     | refine wo_n rfl ?_
     | refine wo_nn rfl ?_
     | refine wo_atR rfl rfl rfl (by simp; omega) (by omega) (by omega) (by omega) rfl rfl ?_
     | refine wo_loadE rfl rfl (by simp; omega) hE rfl rfl rfl ?_
     | refine wo_iaddrA rfl rfl (by omega) (by omega) rfl rfl ?_
     | refine wo_loadA rfl h1 hX rfl rfl ?_
     | refine wo_xor8 rfl rfl rfl rfl ?_
     | refine wo_storeB (l := L) rfl rfl rfl rfl (by omega) (by omega) rfl rfl ?_
     | refine wo_mv _ (by conv => lhs; whnf) rfl rfl ?_
     | (refine is_load ?_; first | refine wo_load _ rfl rfl rfl (Nat.le_of_ble_eq_true rfl) (by conv => lhs; whnf) rfl rfl ?_ | refine wo_loadI _ rfl (Nat.le_of_ble_eq_true rfl) (by conv => lhs; whnf) rfl rfl ?_)
     | (refine is_bin ?_; first | refine wo_cmpT rfl rfl rfl (by first | (simp only [cmpP]; done) | (simp only [cmpP]; omega)) rfl rfl ?_ | refine wo_cmpF rfl rfl rfl (by first | (simp only [cmpP]; done) | (simp only [cmpP]; omega)) rfl rfl ?_ | refine wo_cmp rfl rfl rfl rfl rfl (fun _ => ?_) (fun _ => ?_) | refine wo_add rfl rfl (by omega) rfl rfl ?_ | refine wo_bin (.int _ _) rfl rfl rfl ?_)
     | (refine is_pick ?_; first | refine wo_pickT _ rfl (by conv => lhs; whnf) rfl rfl ?_ | refine wo_pickF _ rfl (by conv => lhs; whnf) rfl rfl ?_)
     | refine wo_store rfl rfl rfl rfl rfl rfl rfl (Nat.le_of_ble_eq_true rfl) rfl rfl ?_
     | refine wo_at rfl rfl (by omega) (by omega) rfl rfl ?_)
    · rename_i h3 h4
      simp only [cmpP] at h4
      have h5 : x.getD i 0 ≠ 0 := fun h => h4 (by rw [h]; rfl)
      refine ⟨by omega, by omega, ?_, rfl, rfl, rfl, ?_, by show AV.int _ _ = AV.int _ _; congr 1; omega, trivial⟩
      · rw [Heap.upd_upd, e2, hn, e1]
      · rw [e2]; simp only [chF, hch, Bool.false_or, bne_iff_ne, ne_eq, h5, not_false_eq_true]
        rw [show (x.getD i 0 != 0) = true by simpa using h5]; rfl
    · rename_i h3 h4
      simp only [cmpP] at h4
      have h5 : x.getD i 0 = 0 := by
        apply UInt8.toNat_inj.1
        have := Classical.not_not.1 h4
        show (x.getD i 0).toNat = 0
        omega
      refine ⟨by omega, by omega, ?_, rfl, rfl, rfl, ?_, by show AV.int _ _ = AV.int _ _; congr 1; omega, trivial⟩
      · rw [Heap.upd_upd, e2, hn, e1]
      · rw [e2]; simp only [chF, hch, h5]; rfl

theorem parseAv_frB {seq : Int} {c : Cmd} (h : chkP c) (hs : 0 ≤ seq ∧ seq ≤ 4294967295) (more : List UInt8) :
    parseAv (frB seq c ++ more) = .tup [c.av false (!rawD c.kind (payB c)) (if rawD c.kind (payB c) then 1 else 0), .int .i64 seq, .int .i64 (frB seq c).length, .int .i64 0] := by
  obtain ⟨q1, q2, q3, q4, q5, q6⟩ := parse_frB h hs more
  unfold parseAv
  rw [if_pos q1, q2, q4, q5, q6]
  unfold rawAv
  rw [(rawC_payB h).2]

theorem law_FrameBack (c : Cmd) (hc : CmdR c) (seq : Int) (more : List UInt8) (hm : more.length ≤ maxLen) (at0 : Int) (x : List UInt8) (hx : x.length = 4) :
    ∃ H, acall B xf cloneF 1000010 n_law09_FrameBack 0 [.agg (Cmd.cells c), .int .i64 seq, .islc false false 1 (BL more), .int .i64 at0, .agg (x.flatMap fun c => [u8 c])] Heap.none = some (.bool true, H) := by
  suffices h : FnV (acall B xf cloneF 1000010) n_law09_FrameBack [.agg (Cmd.cells c), .int .i64 seq, .islc false false 1 (BL more), .int .i64 at0, .agg (x.flatMap fun c => [u8 c])] (.bool true) by
    obtain ⟨u, H, h1, h2⟩ := h
    refine ⟨H, ?_⟩
    rw [h1, fz_true h2]
  have hw := e_wakes (xf := xf) (gf := cloneF)
  obtain ⟨x0, x1, x2, x3, rfl⟩ : ∃ x0 x1 x2 x3, x = [x0, x1, x2, x3] := by
    match x, hx with
    | [a, b, c, d], _ => exact ⟨a, b, c, d, rfl⟩
  by_cases hl1 : 1500 < c.data.length
  · refine fn_of B_law09_FrameBack rfl ?_
    unfold law09_FrameBack Cmd.cells
    repeat' (first
     | refine wo_nil ?_
     | refine w_seq ?_
     | refine w_region ?_
     | refine w_ret ?_
     | refine w_skip ?_
     | refine w_exit ?_
     | refine w_block ?_
     | refine w_true rfl ?_
     | refine w_false rfl ?_
     | refine wo_n rfl ?_
     | refine wo_nn rfl ?_
     | refine wo_mv _ (by conv => lhs; whnf) rfl rfl ?_
     | refine wo_faddr rfl rfl rfl ?_
     | (refine is_load ?_; first | refine wo_load _ rfl rfl rfl (Nat.le_of_ble_eq_true rfl) (by conv => lhs; whnf) rfl rfl ?_ | refine wo_loadI _ rfl (Nat.le_of_ble_eq_true rfl) (by conv => lhs; whnf) rfl rfl ?_)
     | (refine is_bin ?_; first | refine wo_cmpT rfl rfl rfl (by first | (simp only [cmpP]; done) | (simp only [cmpP]; omega)) rfl rfl ?_ | refine wo_cmpF rfl rfl rfl (by first | (simp only [cmpP]; done) | (simp only [cmpP]; omega)) rfl rfl ?_ | refine wo_cmp rfl rfl rfl rfl rfl (fun _ => ?_) (fun _ => ?_) | refine wo_add rfl rfl (by omega) rfl rfl ?_ | refine wo_sub rfl rfl (by omega) rfl rfl ?_ | refine wo_rem rfl rfl (by omega) (by omega) rfl rfl ?_ | refine wo_bin (.int _ _) rfl rfl rfl ?_)
     | (refine is_pick ?_; first | refine wo_pickT _ rfl (by conv => lhs; whnf) rfl rfl ?_ | refine wo_pickF _ rfl (by conv => lhs; whnf) rfl rfl ?_)
     | (refine is_un ?_; first | refine wo_notT rfl rfl rfl ?_ | refine wo_notF rfl rfl rfl ?_)
     | (refine is_len ?_; first | refine wo_len rfl rfl rfl ?_ | refine wo_lenS rfl rfl rfl ?_ | refine wo_len0 rfl rfl rfl ?_)
     | refine wo_extractW rfl rfl (by conv => lhs; whnf) rfl rfl ?_
     | refine wo_store rfl rfl rfl rfl rfl rfl rfl (Nat.le_of_ble_eq_true rfl) rfl rfl ?_
     | refine wo_box _ (by conv => lhs; whnf) (by rfl) rfl rfl ?_
     | (refine is_cvi ?_; first | refine wo_to64 rfl (by omega) rfl rfl ?_ | refine wo_tou64 rfl (by omega) rfl rfl ?_ | refine wo_cvu rfl rfl rfl ?_ | refine wo_cvi rfl rfl rfl ?_)
     | refine wo_at rfl rfl (by omega) (by omega) rfl rfl ?_
     | refine wo_app rfl rfl (by (first | exact Or.inl rfl | exact Or.inr rfl | assumption)) (by (first | rfl | exact Heap.upd_same _ _ _)) (by (first | rfl | (simp; done) | (simp; omega))) (by (first | omega | (simp; omega))) rfl rfl (fun _ => ?_)
     | (refine is_slice ?_; first | refine wo_slice0 rfl (by (first | exact Or.inl rfl | exact Or.inr rfl | assumption)) rfl (by omega) (by omega) rfl rfl ?_ | refine wo_sliceE rfl (by (first | exact Or.inl rfl | exact Or.inr rfl | assumption)) rfl (by omega) (by omega) rfl rfl ?_ | refine wo_sliceM rfl (by (first | exact Or.inl rfl | exact Or.inr rfl | assumption)) rfl rfl (by omega) (by omega) (by omega) rfl rfl ?_))
    exact ⟨Or.inr rfl, _, rfl, rfl⟩
  by_cases hl2 : 200 < more.length
  · refine fn_of B_law09_FrameBack rfl ?_
    unfold law09_FrameBack Cmd.cells
    repeat' (first
     | refine wo_nil ?_
     | refine w_seq ?_
     | refine w_region ?_
     | refine w_ret ?_
     | refine w_skip ?_
     | refine w_exit ?_
     | refine w_block ?_
     | refine w_true rfl ?_
     | refine w_false rfl ?_
     | refine wo_n rfl ?_
     | refine wo_nn rfl ?_
     | refine wo_mv _ (by conv => lhs; whnf) rfl rfl ?_
     | refine wo_faddr rfl rfl rfl ?_
     | (refine is_load ?_; first | refine wo_load _ rfl rfl rfl (Nat.le_of_ble_eq_true rfl) (by conv => lhs; whnf) rfl rfl ?_ | refine wo_loadI _ rfl (Nat.le_of_ble_eq_true rfl) (by conv => lhs; whnf) rfl rfl ?_)
     | (refine is_bin ?_; first | refine wo_cmpT rfl rfl rfl (by first | (simp only [cmpP]; done) | (simp only [cmpP]; omega)) rfl rfl ?_ | refine wo_cmpF rfl rfl rfl (by first | (simp only [cmpP]; done) | (simp only [cmpP]; omega)) rfl rfl ?_ | refine wo_cmp rfl rfl rfl rfl rfl (fun _ => ?_) (fun _ => ?_) | refine wo_add rfl rfl (by omega) rfl rfl ?_ | refine wo_sub rfl rfl (by omega) rfl rfl ?_ | refine wo_rem rfl rfl (by omega) (by omega) rfl rfl ?_ | refine wo_bin (.int _ _) rfl rfl rfl ?_)
     | (refine is_pick ?_; first | refine wo_pickT _ rfl (by conv => lhs; whnf) rfl rfl ?_ | refine wo_pickF _ rfl (by conv => lhs; whnf) rfl rfl ?_)
     | (refine is_un ?_; first | refine wo_notT rfl rfl rfl ?_ | refine wo_notF rfl rfl rfl ?_)
     | (refine is_len ?_; first | refine wo_len rfl rfl rfl ?_ | refine wo_lenS rfl rfl rfl ?_ | refine wo_len0 rfl rfl rfl ?_)
     | refine wo_extractW rfl rfl (by conv => lhs; whnf) rfl rfl ?_
     | refine wo_store rfl rfl rfl rfl rfl rfl rfl (Nat.le_of_ble_eq_true rfl) rfl rfl ?_
     | refine wo_box _ (by conv => lhs; whnf) (by rfl) rfl rfl ?_
     | (refine is_cvi ?_; first | refine wo_to64 rfl (by omega) rfl rfl ?_ | refine wo_tou64 rfl (by omega) rfl rfl ?_ | refine wo_cvu rfl rfl rfl ?_ | refine wo_cvi rfl rfl rfl ?_)
     | refine wo_at rfl rfl (by omega) (by omega) rfl rfl ?_
     | refine wo_app rfl rfl (by (first | exact Or.inl rfl | exact Or.inr rfl | assumption)) (by (first | rfl | exact Heap.upd_same _ _ _)) (by (first | rfl | (simp; done) | (simp; omega))) (by (first | omega | (simp; omega))) rfl rfl (fun _ => ?_)
     | (refine is_slice ?_; first | refine wo_slice0 rfl (by (first | exact Or.inl rfl | exact Or.inr rfl | assumption)) rfl (by omega) (by omega) rfl rfl ?_ | refine wo_sliceE rfl (by (first | exact Or.inl rfl | exact Or.inr rfl | assumption)) rfl (by omega) (by omega) rfl rfl ?_ | refine wo_sliceM rfl (by (first | exact Or.inl rfl | exact Or.inr rfl | assumption)) rfl rfl (by omega) (by omega) (by omega) rfl rfl ?_))
    exact ⟨Or.inr rfl, _, rfl, rfl⟩
  obtain ⟨hb1, hb2⟩ := e_frame_BytesF (xf := xf) (gf := cloneF) 1000003 (by omega) false false 1 seq c (by omega) (.inl rfl) (.inl rfl)
  by_cases hok : chkP c ∧ 0 ≤ seq ∧ seq ≤ 4294967295
  · have hb := hb1 hok
    clear hb1 hb2
    obtain ⟨hok, hsq⟩ := hok
    have hpl := payB_le hok
    have hfl := frB_length seq c
    have hp1 := e_frame_Parse (xf := xf) 1000003 (by omega) true false (frB seq c ++ more) (by simp; omega)
    rw [parseAv_frB hok hsq more] at hp1
    have hm1 : (at0 % 18446744073709551616 % ((frB seq c).length : Int)).toNat < (frB seq c).length := by
      have := Int.emod_lt_of_pos (at0 % 18446744073709551616) (show (0 : Int) < ((frB seq c).length : Int) by omega)
      have := Int.emod_nonneg (at0 % 18446744073709551616) (show ((frB seq c).length : Int) ≠ 0 by omega)
      omega
    have hp2 := e_frame_Parse (xf := xf) 1000003 (by omega) true false ((frB seq c).take (at0 % 18446744073709551616 % ((frB seq c).length : Int)).toNat) (by simp; omega)
    have hcut := parse_cut (seq := seq) hok hm1
    unfold parseAv at hp2
    rw [if_neg (by rw [hcut]; decide), hcut] at hp2
    unfold c0Av at hp2
    obtain ⟨r, hr, hkc⟩ := e_keep_Command (xf := xf) (gf := cloneF) 1000007 (by omega) false false false (!rawD c.kind (payB c)) 1 (if rawD c.kind (payB c) then 1 else 0) c c (by omega) (by omega) (.inl rfl) (by have := rawAv_dat c.kind (payB c); rwa [(rawC_payB hok).2] at this)
    obtain rfl : r = true := hr.2 rfl
    obtain ⟨a, hae, hal⟩ : ∃ a : Nat, at0 % 18446744073709551616 % (((frB seq c).length : Int) - 3) = a ∧ a + 4 ≤ (frB seq c).length := by
      have h1 := Int.emod_lt_of_pos (at0 % 18446744073709551616) (show (0 : Int) < ((frB seq c).length : Int) - 3 by omega)
      have h2 := Int.emod_nonneg (at0 % 18446744073709551616) (show ((frB seq c).length : Int) - 3 ≠ 0 by omega)
      exact ⟨(at0 % 18446744073709551616 % (((frB seq c).length : Int) - 3)).toNat, by omega, by omega⟩
    have hbl := bent_length (frB seq c) a [x0, x1, x2, x3] 4
    have hp3 := e_frame_Parse (xf := xf) 1000003 (by omega) true false (bent (frB seq c) a [x0, x1, x2, x3] 4) (by omega)
    have hsame := bent_same (x := [x0, x1, x2, x3]) hal
    have hdiff := parse_bent (seq := seq) hok (x := [x0, x1, x2, x3]) hal
    have hp0 := parseAv_frB hok hsq []
    rw [List.append_nil] at hp0
    have htw := e_keep_Twin (xf := xf) (gf := cloneF) 1000008 true false (frB seq c) (by omega)
    have hmod := Int.emod_nonneg (at0 % 18446744073709551616) (show ((frB seq c).length : Int) ≠ 0 by omega)
    unfold Cmd.av at hp1 hb hkc
    refine fn_of B_law09_FrameBack rfl ?_
    unfold law09_FrameBack Cmd.cells
    repeat' (first
     | refine wo_nil ?_
     | refine w_seq ?_
     | refine w_region ?_
     | refine w_ret ?_
     | refine w_skip ?_
     | refine w_exit ?_
     | refine w_block ?_
     | refine w_true rfl ?_
     | refine w_false rfl ?_
     | refine wo_n rfl ?_
     | refine wo_nn rfl ?_
     | refine wo_freshT hb rfl (fun _ => rfl) rfl rfl rfl ?_
     | refine wo_fresh htw rfl (ha_slc rfl rfl rfl) rfl ?_
     | refine wo_call hp1 rfl (ha_slc rfl rfl (by simp)) rfl ?_
     | refine wo_sliceR0 rfl rfl (by simp) rfl (by omega) (by simp; omega) (by simp) rfl rfl ?_
     | refine wo_call hp2 rfl (ha_slc0 rfl rfl (by simp) (by omega)) rfl ?_
     | refine wo_call hkc rfl rfl rfl ?_
     | refine wo_mv _ (by conv => lhs; whnf) rfl rfl ?_
     | refine wo_faddr rfl rfl rfl ?_
     | (refine is_load ?_; first | refine wo_load _ rfl rfl rfl (Nat.le_of_ble_eq_true rfl) (by conv => lhs; whnf) rfl rfl ?_ | refine wo_loadI _ rfl (Nat.le_of_ble_eq_true rfl) (by conv => lhs; whnf) rfl rfl ?_)
     | (refine is_bin ?_; first | refine wo_cmpT rfl rfl rfl (by first | (simp only [cmpP]; done) | (simp only [cmpP]; omega)) rfl rfl ?_ | refine wo_cmpF rfl rfl rfl (by first | (simp only [cmpP]; done) | (simp only [cmpP]; omega)) rfl rfl ?_ | refine wo_cmp rfl rfl rfl rfl rfl (fun _ => ?_) (fun _ => ?_) | refine wo_add rfl rfl (by omega) rfl rfl ?_ | refine wo_sub rfl rfl (by omega) rfl rfl ?_ | refine wo_rem rfl rfl (by omega) (by omega) rfl rfl ?_ | refine wo_bin (.int _ _) rfl rfl rfl ?_)
     | (refine is_pick ?_; first | refine wo_pickT _ rfl (by conv => lhs; whnf) rfl rfl ?_ | refine wo_pickF _ rfl (by conv => lhs; whnf) rfl rfl ?_)
     | (refine is_un ?_; first | refine wo_notT rfl rfl rfl ?_ | refine wo_notF rfl rfl rfl ?_)
     | (refine is_len ?_; first | refine wo_len rfl rfl rfl ?_ | refine wo_lenS rfl rfl rfl ?_ | refine wo_len0 rfl rfl rfl ?_)
     | refine wo_extractW rfl rfl (by conv => lhs; whnf) rfl rfl ?_
     | refine wo_store rfl rfl rfl rfl rfl rfl rfl (Nat.le_of_ble_eq_true rfl) rfl rfl ?_
     | refine wo_box _ (by conv => lhs; whnf) (by rfl) rfl rfl ?_
     | (refine is_cvi ?_; first | refine wo_to64 rfl (by omega) rfl rfl ?_ | refine wo_tou64 rfl (by omega) rfl rfl ?_ | refine wo_cvu rfl rfl rfl ?_ | refine wo_cvi rfl rfl rfl ?_)
     | refine wo_at rfl rfl (by omega) (by omega) rfl rfl ?_
     | refine wo_app rfl rfl (by (first | exact Or.inl rfl | exact Or.inr rfl | assumption)) (by (first | rfl | exact Heap.upd_same _ _ _)) (by (first | rfl | (simp; done) | (simp; omega))) (by (first | omega | (simp; omega))) rfl rfl (fun _ => ?_)
     | (refine is_slice ?_; first | refine wo_slice0 rfl (by (first | exact Or.inl rfl | exact Or.inr rfl | assumption)) rfl (by omega) (by omega) rfl rfl ?_ | refine wo_sliceE rfl (by (first | exact Or.inl rfl | exact Or.inr rfl | assumption)) rfl (by omega) (by omega) rfl rfl ?_ | refine wo_sliceM rfl (by (first | exact Or.inl rfl | exact Or.inr rfl | assumption)) rfl rfl (by omega) (by omega) (by omega) rfl rfl ?_))
    refine (FrameBack_loop (l := frB seq c) (x := [x0, x1, x2, x3]) (a := a) (v := (frB seq c).length) rfl rfl hal (by omega) (by omega) rfl rfl ?_).mono ?_
    · exact ⟨by show AV.int _ _ = AV.int _ _; rw [hae], rfl, rfl, rfl, rfl, trivial⟩
    rintro ex T2 H2 ⟨rfl, rfl, h3, h11, h21⟩
    rw [Has.eq (T := T2) (ps := [(3, _), (11, _), (21, _)]) ⟨h3, h11, h21, trivial⟩]
    simp only [over]
    show W _ _
    cases hch : chF [x0, x1, x2, x3] 4 with
    | false =>
      rw [hsame hch, hp0] at hp3
      rw [hsame hch]
      unfold Cmd.av at hp3
      repeat' (first
       | refine wo_nil ?_
       | refine w_seq ?_
       | refine w_region ?_
       | refine w_ret ?_
       | refine w_skip ?_
       | refine w_exit ?_
       | refine w_block ?_
       | refine w_true rfl ?_
       | refine w_false rfl ?_
       | refine wo_n rfl ?_
       | refine wo_nn rfl ?_
       | refine wo_call hp3 rfl (ha_slc rfl rfl rfl) rfl ?_
       | refine wo_call hw rfl rfl rfl ?_
       | refine wo_mv _ (by conv => lhs; whnf) rfl rfl ?_
       | refine wo_faddr rfl rfl rfl ?_
       | (refine is_load ?_; first | refine wo_load _ rfl rfl rfl (Nat.le_of_ble_eq_true rfl) (by conv => lhs; whnf) rfl rfl ?_ | refine wo_loadI _ rfl (Nat.le_of_ble_eq_true rfl) (by conv => lhs; whnf) rfl rfl ?_)
       | (refine is_bin ?_; first | refine wo_cmpT rfl rfl rfl (by first | (simp only [cmpP]; done) | (simp only [cmpP]; omega)) rfl rfl ?_ | refine wo_cmpF rfl rfl rfl (by first | (simp only [cmpP]; done) | (simp only [cmpP]; omega)) rfl rfl ?_ | refine wo_cmp rfl rfl rfl rfl rfl (fun _ => ?_) (fun _ => ?_) | refine wo_add rfl rfl (by omega) rfl rfl ?_ | refine wo_sub rfl rfl (by omega) rfl rfl ?_ | refine wo_rem rfl rfl (by omega) (by omega) rfl rfl ?_ | refine wo_bin (.int _ _) rfl rfl rfl ?_)
       | (refine is_pick ?_; first | refine wo_pickT _ rfl (by conv => lhs; whnf) rfl rfl ?_ | refine wo_pickF _ rfl (by conv => lhs; whnf) rfl rfl ?_)
       | (refine is_un ?_; first | refine wo_notT rfl rfl rfl ?_ | refine wo_notF rfl rfl rfl ?_)
       | (refine is_len ?_; first | refine wo_len rfl rfl rfl ?_ | refine wo_lenS rfl rfl rfl ?_ | refine wo_len0 rfl rfl rfl ?_)
       | refine wo_extractW rfl rfl (by conv => lhs; whnf) rfl rfl ?_
       | refine wo_store rfl rfl rfl rfl rfl rfl rfl (Nat.le_of_ble_eq_true rfl) rfl rfl ?_
       | refine wo_box _ (by conv => lhs; whnf) (by rfl) rfl rfl ?_
       | (refine is_cvi ?_; first | refine wo_to64 rfl (by omega) rfl rfl ?_ | refine wo_tou64 rfl (by omega) rfl rfl ?_ | refine wo_cvu rfl rfl rfl ?_ | refine wo_cvi rfl rfl rfl ?_)
       | refine wo_at rfl rfl (by omega) (by omega) rfl rfl ?_
       | refine wo_app rfl rfl (by (first | exact Or.inl rfl | exact Or.inr rfl | assumption)) (by (first | rfl | exact Heap.upd_same _ _ _)) (by (first | rfl | (simp; done) | (simp; omega))) (by (first | omega | (simp; omega))) rfl rfl (fun _ => ?_)
       | (refine is_slice ?_; first | refine wo_slice0 rfl (by (first | exact Or.inl rfl | exact Or.inr rfl | assumption)) rfl (by omega) (by omega) rfl rfl ?_ | refine wo_sliceE rfl (by (first | exact Or.inl rfl | exact Or.inr rfl | assumption)) rfl (by omega) (by omega) rfl rfl ?_ | refine wo_sliceM rfl (by (first | exact Or.inl rfl | exact Or.inr rfl | assumption)) rfl rfl (by omega) (by omega) (by omega) rfl rfl ?_))
      exact ⟨Or.inr rfl, _, rfl, rfl⟩
    | true =>
      by_cases hfield : a < 16 ∧ 12 < a + 4
      · unfold parseAv at hp3
        by_cases he : pErr (bent (frB seq c) a [x0, x1, x2, x3] 4) = 0
        · rw [if_pos he] at hp3
          unfold rawAv Cmd.av at hp3
          repeat' (first
           | refine wo_nil ?_
           | refine w_seq ?_
           | refine w_region ?_
           | refine w_ret ?_
           | refine w_skip ?_
           | refine w_exit ?_
           | refine w_block ?_
           | refine w_true rfl ?_
           | refine w_false rfl ?_
           | refine wo_n rfl ?_
           | refine wo_nn rfl ?_
           | refine wo_call hp3 rfl (ha_slc rfl rfl (by simp [bent_length])) rfl ?_
           | refine wo_call hw rfl rfl rfl ?_
           | refine wo_mv _ (by conv => lhs; whnf) rfl rfl ?_
           | refine wo_faddr rfl rfl rfl ?_
           | (refine is_load ?_; first | refine wo_load _ rfl rfl rfl (Nat.le_of_ble_eq_true rfl) (by conv => lhs; whnf) rfl rfl ?_ | refine wo_loadI _ rfl (Nat.le_of_ble_eq_true rfl) (by conv => lhs; whnf) rfl rfl ?_)
           | (refine is_bin ?_; first | refine wo_cmpT rfl rfl rfl (by first | (simp only [cmpP]; done) | (simp only [cmpP]; omega)) rfl rfl ?_ | refine wo_cmpF rfl rfl rfl (by first | (simp only [cmpP]; done) | (simp only [cmpP]; omega)) rfl rfl ?_ | refine wo_cmp rfl rfl rfl rfl rfl (fun _ => ?_) (fun _ => ?_) | refine wo_add rfl rfl (by omega) rfl rfl ?_ | refine wo_sub rfl rfl (by omega) rfl rfl ?_ | refine wo_rem rfl rfl (by omega) (by omega) rfl rfl ?_ | refine wo_bin (.int _ _) rfl rfl rfl ?_)
           | (refine is_pick ?_; first | refine wo_pickT _ rfl (by conv => lhs; whnf) rfl rfl ?_ | refine wo_pickF _ rfl (by conv => lhs; whnf) rfl rfl ?_)
           | (refine is_un ?_; first | refine wo_notT rfl rfl rfl ?_ | refine wo_notF rfl rfl rfl ?_)
           | (refine is_len ?_; first | refine wo_len rfl rfl rfl ?_ | refine wo_lenS rfl rfl rfl ?_ | refine wo_len0 rfl rfl rfl ?_)
           | refine wo_extractW rfl rfl (by conv => lhs; whnf) rfl rfl ?_
           | refine wo_store rfl rfl rfl rfl rfl rfl rfl (Nat.le_of_ble_eq_true rfl) rfl rfl ?_
           | refine wo_box _ (by conv => lhs; whnf) (by rfl) rfl rfl ?_
           | (refine is_cvi ?_; first | refine wo_to64 rfl (by omega) rfl rfl ?_ | refine wo_tou64 rfl (by omega) rfl rfl ?_ | refine wo_cvu rfl rfl rfl ?_ | refine wo_cvi rfl rfl rfl ?_)
           | refine wo_at rfl rfl (by omega) (by omega) rfl rfl ?_
           | refine wo_app rfl rfl (by (first | exact Or.inl rfl | exact Or.inr rfl | assumption)) (by (first | rfl | exact Heap.upd_same _ _ _)) (by (first | rfl | (simp; done) | (simp; omega))) (by (first | omega | (simp; omega))) rfl rfl (fun _ => ?_)
           | (refine is_slice ?_; first | refine wo_slice0 rfl (by (first | exact Or.inl rfl | exact Or.inr rfl | assumption)) rfl (by omega) (by omega) rfl rfl ?_ | refine wo_sliceE rfl (by (first | exact Or.inl rfl | exact Or.inr rfl | assumption)) rfl (by omega) (by omega) rfl rfl ?_ | refine wo_sliceM rfl (by (first | exact Or.inl rfl | exact Or.inr rfl | assumption)) rfl rfl (by omega) (by omega) (by omega) rfl rfl ?_))
          exact ⟨Or.inr rfl, _, rfl, rfl⟩
        · rw [if_neg he] at hp3
          unfold c0Av at hp3
          repeat' (first
           | refine wo_nil ?_
           | refine w_seq ?_
           | refine w_region ?_
           | refine w_ret ?_
           | refine w_skip ?_
           | refine w_exit ?_
           | refine w_block ?_
           | refine w_true rfl ?_
           | refine w_false rfl ?_
           | refine wo_n rfl ?_
           | refine wo_nn rfl ?_
           | refine wo_call hp3 rfl (ha_slc rfl rfl (by simp [bent_length])) rfl ?_
           | refine wo_call hw rfl rfl rfl ?_
           | refine wo_mv _ (by conv => lhs; whnf) rfl rfl ?_
           | refine wo_faddr rfl rfl rfl ?_
           | (refine is_load ?_; first | refine wo_load _ rfl rfl rfl (Nat.le_of_ble_eq_true rfl) (by conv => lhs; whnf) rfl rfl ?_ | refine wo_loadI _ rfl (Nat.le_of_ble_eq_true rfl) (by conv => lhs; whnf) rfl rfl ?_)
           | (refine is_bin ?_; first | refine wo_cmpT rfl rfl rfl (by first | (simp only [cmpP]; done) | (simp only [cmpP]; omega)) rfl rfl ?_ | refine wo_cmpF rfl rfl rfl (by first | (simp only [cmpP]; done) | (simp only [cmpP]; omega)) rfl rfl ?_ | refine wo_cmp rfl rfl rfl rfl rfl (fun _ => ?_) (fun _ => ?_) | refine wo_add rfl rfl (by omega) rfl rfl ?_ | refine wo_sub rfl rfl (by omega) rfl rfl ?_ | refine wo_rem rfl rfl (by omega) (by omega) rfl rfl ?_ | refine wo_bin (.int _ _) rfl rfl rfl ?_)
           | (refine is_pick ?_; first | refine wo_pickT _ rfl (by conv => lhs; whnf) rfl rfl ?_ | refine wo_pickF _ rfl (by conv => lhs; whnf) rfl rfl ?_)
           | (refine is_un ?_; first | refine wo_notT rfl rfl rfl ?_ | refine wo_notF rfl rfl rfl ?_)
           | (refine is_len ?_; first | refine wo_len rfl rfl rfl ?_ | refine wo_lenS rfl rfl rfl ?_ | refine wo_len0 rfl rfl rfl ?_)
           | refine wo_extractW rfl rfl (by conv => lhs; whnf) rfl rfl ?_
           | refine wo_store rfl rfl rfl rfl rfl rfl rfl (Nat.le_of_ble_eq_true rfl) rfl rfl ?_
           | refine wo_box _ (by conv => lhs; whnf) (by rfl) rfl rfl ?_
           | (refine is_cvi ?_; first | refine wo_to64 rfl (by omega) rfl rfl ?_ | refine wo_tou64 rfl (by omega) rfl rfl ?_ | refine wo_cvu rfl rfl rfl ?_ | refine wo_cvi rfl rfl rfl ?_)
           | refine wo_at rfl rfl (by omega) (by omega) rfl rfl ?_
           | refine wo_app rfl rfl (by (first | exact Or.inl rfl | exact Or.inr rfl | assumption)) (by (first | rfl | exact Heap.upd_same _ _ _)) (by (first | rfl | (simp; done) | (simp; omega))) (by (first | omega | (simp; omega))) rfl rfl (fun _ => ?_)
           | (refine is_slice ?_; first | refine wo_slice0 rfl (by (first | exact Or.inl rfl | exact Or.inr rfl | assumption)) rfl (by omega) (by omega) rfl rfl ?_ | refine wo_sliceE rfl (by (first | exact Or.inl rfl | exact Or.inr rfl | assumption)) rfl (by omega) (by omega) rfl rfl ?_ | refine wo_sliceM rfl (by (first | exact Or.inl rfl | exact Or.inr rfl | assumption)) rfl rfl (by omega) (by omega) (by omega) rfl rfl ?_))
          exact ⟨Or.inr rfl, _, rfl, rfl⟩
      · have he := hdiff hch hfield
        unfold parseAv at hp3
        rw [if_neg he] at hp3
        unfold c0Av at hp3
        repeat' (first
         | refine wo_nil ?_
         | refine w_seq ?_
         | refine w_region ?_
         | refine w_ret ?_
         | refine w_skip ?_
         | refine w_exit ?_
         | refine w_block ?_
         | refine w_true rfl ?_
         | refine w_false rfl ?_
         | refine wo_n rfl ?_
         | refine wo_nn rfl ?_
         | refine wo_call hp3 rfl (ha_slc rfl rfl (by simp [bent_length])) rfl ?_
         | refine wo_call hw rfl rfl rfl ?_
         | refine wo_mv _ (by conv => lhs; whnf) rfl rfl ?_
         | refine wo_faddr rfl rfl rfl ?_
         | (refine is_load ?_; first | refine wo_load _ rfl rfl rfl (Nat.le_of_ble_eq_true rfl) (by conv => lhs; whnf) rfl rfl ?_ | refine wo_loadI _ rfl (Nat.le_of_ble_eq_true rfl) (by conv => lhs; whnf) rfl rfl ?_)
         | (refine is_bin ?_; first | refine wo_cmpT rfl rfl rfl (by first | (simp only [cmpP]; done) | (simp only [cmpP]; omega)) rfl rfl ?_ | refine wo_cmpF rfl rfl rfl (by first | (simp only [cmpP]; done) | (simp only [cmpP]; omega)) rfl rfl ?_ | refine wo_cmp rfl rfl rfl rfl rfl (fun _ => ?_) (fun _ => ?_) | refine wo_add rfl rfl (by omega) rfl rfl ?_ | refine wo_sub rfl rfl (by omega) rfl rfl ?_ | refine wo_rem rfl rfl (by omega) (by omega) rfl rfl ?_ | refine wo_bin (.int _ _) rfl rfl rfl ?_)
         | (refine is_pick ?_; first | refine wo_pickT _ rfl (by conv => lhs; whnf) rfl rfl ?_ | refine wo_pickF _ rfl (by conv => lhs; whnf) rfl rfl ?_)
         | (refine is_un ?_; first | refine wo_notT rfl rfl rfl ?_ | refine wo_notF rfl rfl rfl ?_)
         | (refine is_len ?_; first | refine wo_len rfl rfl rfl ?_ | refine wo_lenS rfl rfl rfl ?_ | refine wo_len0 rfl rfl rfl ?_)
         | refine wo_extractW rfl rfl (by conv => lhs; whnf) rfl rfl ?_
         | refine wo_store rfl rfl rfl rfl rfl rfl rfl (Nat.le_of_ble_eq_true rfl) rfl rfl ?_
         | refine wo_box _ (by conv => lhs; whnf) (by rfl) rfl rfl ?_
         | (refine is_cvi ?_; first | refine wo_to64 rfl (by omega) rfl rfl ?_ | refine wo_tou64 rfl (by omega) rfl rfl ?_ | refine wo_cvu rfl rfl rfl ?_ | refine wo_cvi rfl rfl rfl ?_)
         | refine wo_at rfl rfl (by omega) (by omega) rfl rfl ?_
         | refine wo_app rfl rfl (by (first | exact Or.inl rfl | exact Or.inr rfl | assumption)) (by (first | rfl | exact Heap.upd_same _ _ _)) (by (first | rfl | (simp; done) | (simp; omega))) (by (first | omega | (simp; omega))) rfl rfl (fun _ => ?_)
         | (refine is_slice ?_; first | refine wo_slice0 rfl (by (first | exact Or.inl rfl | exact Or.inr rfl | assumption)) rfl (by omega) (by omega) rfl rfl ?_ | refine wo_sliceE rfl (by (first | exact Or.inl rfl | exact Or.inr rfl | assumption)) rfl (by omega) (by omega) rfl rfl ?_ | refine wo_sliceM rfl (by (first | exact Or.inl rfl | exact Or.inr rfl | assumption)) rfl rfl (by omega) (by omega) (by omega) rfl rfl ?_))
        all_goals exact ⟨Or.inr rfl, _, rfl, rfl⟩
  · have hb := hb2 hok
    unfold Cmd.av at hb
    refine fn_of B_law09_FrameBack rfl ?_
    unfold law09_FrameBack Cmd.cells
    repeat' (first
     | refine wo_nil ?_
     | refine w_seq ?_
     | refine w_region ?_
     | refine w_ret ?_
     | refine w_skip ?_
     | refine w_exit ?_
     | refine w_block ?_
     | refine w_true rfl ?_
     | refine w_false rfl ?_
     | refine wo_n rfl ?_
     | refine wo_nn rfl ?_
     | refine wo_freshT hb rfl (fun _ => rfl) rfl rfl rfl ?_
     | refine wo_lenSG (n := 0) rfl rfl rfl rfl ?_
     | refine wo_call hw rfl rfl rfl ?_
     | refine wo_mv _ (by conv => lhs; whnf) rfl rfl ?_
     | refine wo_faddr rfl rfl rfl ?_
     | (refine is_load ?_; first | refine wo_load _ rfl rfl rfl (Nat.le_of_ble_eq_true rfl) (by conv => lhs; whnf) rfl rfl ?_ | refine wo_loadI _ rfl (Nat.le_of_ble_eq_true rfl) (by conv => lhs; whnf) rfl rfl ?_)
     | (refine is_bin ?_; first | refine wo_cmpT rfl rfl rfl (by first | (simp only [cmpP]; done) | (simp only [cmpP]; omega)) rfl rfl ?_ | refine wo_cmpF rfl rfl rfl (by first | (simp only [cmpP]; done) | (simp only [cmpP]; omega)) rfl rfl ?_ | refine wo_cmp rfl rfl rfl rfl rfl (fun _ => ?_) (fun _ => ?_) | refine wo_add rfl rfl (by omega) rfl rfl ?_ | refine wo_sub rfl rfl (by omega) rfl rfl ?_ | refine wo_rem rfl rfl (by omega) (by omega) rfl rfl ?_ | refine wo_bin (.int _ _) rfl rfl rfl ?_)
     | (refine is_pick ?_; first | refine wo_pickT _ rfl (by conv => lhs; whnf) rfl rfl ?_ | refine wo_pickF _ rfl (by conv => lhs; whnf) rfl rfl ?_)
     | (refine is_un ?_; first | refine wo_notT rfl rfl rfl ?_ | refine wo_notF rfl rfl rfl ?_)
     | (refine is_len ?_; first | refine wo_len rfl rfl rfl ?_ | refine wo_lenS rfl rfl rfl ?_ | refine wo_len0 rfl rfl rfl ?_)
     | refine wo_extractW rfl rfl (by conv => lhs; whnf) rfl rfl ?_
     | refine wo_store rfl rfl rfl rfl rfl rfl rfl (Nat.le_of_ble_eq_true rfl) rfl rfl ?_
     | refine wo_box _ (by conv => lhs; whnf) (by rfl) rfl rfl ?_
     | (refine is_cvi ?_; first | refine wo_to64 rfl (by omega) rfl rfl ?_ | refine wo_tou64 rfl (by omega) rfl rfl ?_ | refine wo_cvu rfl rfl rfl ?_ | refine wo_cvi rfl rfl rfl ?_)
     | refine wo_at rfl rfl (by omega) (by omega) rfl rfl ?_
     | refine wo_app rfl rfl (by (first | exact Or.inl rfl | exact Or.inr rfl | assumption)) (by (first | rfl | exact Heap.upd_same _ _ _)) (by (first | rfl | (simp; done) | (simp; omega))) (by (first | omega | (simp; omega))) rfl rfl (fun _ => ?_)
     | (refine is_slice ?_; first | refine wo_slice0 rfl (by (first | exact Or.inl rfl | exact Or.inr rfl | assumption)) rfl (by omega) (by omega) rfl rfl ?_ | refine wo_sliceE rfl (by (first | exact Or.inl rfl | exact Or.inr rfl | assumption)) rfl (by omega) (by omega) rfl rfl ?_ | refine wo_sliceM rfl (by (first | exact Or.inl rfl | exact Or.inr rfl | assumption)) rfl rfl (by omega) (by omega) (by omega) rfl rfl ?_))
    exact ⟨Or.inr rfl, _, rfl, rfl⟩

end Go.Proofs.Ytoanjhiojpgioaa
