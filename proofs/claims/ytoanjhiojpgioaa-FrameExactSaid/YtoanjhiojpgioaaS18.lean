/- The document's answers: sums. -/
import Derived.Test.YtoanjhiojpgioaaS17
set_option linter.unusedSimpArgs false
set_option linter.unusedVariables false
set_option maxRecDepth 10000
set_option maxHeartbeats 16000000
namespace Go.Proofs.Ytoanjhiojpgioaa
open Go.AI
attribute [local irreducible] aops aexec acall aiter aop W WO

variable {xf : ExtF} {gf : CallF}

theorem ref_bits {cf : CallF} {base fuel : Nat} {H : Heap} {T : Tmps} {n : Nat} (hn : n < 4294967296) (hk : 8 < fuel) {v0 v1 v6 : AV} (hT : Has T [(5, .int .u32 n), (7, .int .i64 0), (0, v0), (1, v1), (6, v6)]) :
    W (aexec cf xf base fuel (.loop ref01_More_l0) T H) (fun ex T' H' => ex = .exit 2 ∧ H' = H ∧ Has T' [(5, .int .u32 (crcBits 8 n)), (0, v0), (1, v1), (6, v6)]) := by
  refine w_loop (fun m T' H' => m ≤ 8 ∧ H' = H ∧ ∃ n' : Nat, n' < 4294967296 ∧ crcBits m n' = crcBits 8 n ∧ Has T' [(5, .int .u32 n'), (7, .int .i64 (8 - m : Int)), (0, v0), (1, v1), (6, v6)]) 8 ⟨by omega, rfl, n, hn, rfl, by simpa using hT⟩ hk ?_
  rintro m T H hm ⟨_, rfl, n', hn', hg, hT⟩
  rw [hT.eq]
  simp only [over]
  unfold ref01_More_l0
  have hd : (n' : Int) / 2 = ((n' / 2 : Nat) : Int) := by omega
  repeat' (first
   | refine wo_nil ?_
   | refine w_seq ?_
   | refine w_region ?_
   | refine w_ret ?_
   | refine w_skip ?_
   | refine w_exit ?_
   | refine w_block ?_
   | refine w_true rfl ?_
   | refine w_false rfl ?_
   | refine wo_n rfl ?_
   | refine wo_nn rfl ?_
   | refine wo_rem rfl rfl (by omega) (by omega) rfl rfl ?_
   | (refine wo_quo32 rfl rfl (by omega) (by omega) rfl rfl ?_; rw [hd])
   | refine wo_xorC rfl (by omega) (by decide) rfl rfl ?_
   | refine wo_mv _ (by conv => lhs; whnf) rfl rfl ?_
   | (refine is_bin ?_; first | refine wo_cmpT rfl rfl rfl (by first | (simp only [cmpP]; done) | (simp only [cmpP]; omega)) rfl rfl ?_ | refine wo_cmpF rfl rfl rfl (by first | (simp only [cmpP]; done) | (simp only [cmpP]; omega)) rfl rfl ?_ | refine wo_cmp rfl rfl rfl rfl rfl (fun _ => ?_) (fun _ => ?_) | refine wo_add rfl rfl (by omega) rfl rfl ?_ | refine wo_rem rfl rfl (by omega) (by omega) rfl rfl ?_ | refine wo_bin (.int _ _) rfl rfl rfl ?_))
  · rename_i h1
    simp only [cmpP] at h1
    refine ⟨by omega, by omega, rfl, crcBit n', crcBit_lt hn', ?_, ?_, by show AV.int _ _ = _; congr 1; omega, rfl, rfl, rfl, trivial⟩
    · rw [← hg]; obtain ⟨m', rfl⟩ : ∃ m', m = m' + 1 := ⟨m - 1, by omega⟩; rfl
    · show AV.int _ _ = AV.int _ _
      rw [crcBit, if_pos (by omega)]; rfl
  · rename_i h1
    simp only [cmpP] at h1
    refine ⟨by omega, by omega, rfl, crcBit n', crcBit_lt hn', ?_, ?_, by show AV.int _ _ = _; congr 1; omega, rfl, rfl, rfl, trivial⟩
    · rw [← hg]; obtain ⟨m', rfl⟩ : ∃ m', m = m' + 1 := ⟨m - 1, by omega⟩; rfl
    · show AV.int _ _ = AV.int _ _
      rw [crcBit, if_neg (by omega)]
  · rename_i h1
    simp only [cmpP] at h1
    obtain rfl : m = 0 := by omega
    exact ⟨rfl, rfl, by rw [← hg]; rfl, rfl, rfl, rfl, trivial⟩

theorem ref_bytes {cf : CallF} {base fuel : Nat} {H : Heap} {T : Tmps} {n : Nat} {t f : Bool} {l : List UInt8} {v0 : AV} (hn : n < 4294967296) (hl : l.length < 1000000) (hk : 1000000 ≤ fuel)
    (hT : Has T [(5, .int .u32 n), (0, v0), (1, .islc t f 1 (BL l)), (6, .int .i64 0)]) :
    W (aexec cf xf base fuel (.loop ref01_More_l1) T H) (fun ex T' H' => ex = .exit 0 ∧ H' = H ∧ T' 5 = .int .u32 (crcReg n l)) := by
  refine w_loop (fun m T' H' => m ≤ l.length ∧ H' = H ∧ ∃ n' : Nat, n' < 4294967296 ∧ crcReg n' (l.drop (l.length - m)) = crcReg n l ∧ Has T' [(5, .int .u32 n'), (0, v0), (1, .islc t f 1 (BL l)), (6, .int .i64 (l.length - m : Int))])
    l.length ⟨by omega, rfl, n, hn, by simp, by simpa using hT⟩ (by omega) ?_
  rintro m T H hm ⟨_, rfl, n', hn', hg, hT⟩
  rw [hT.eq]
  simp only [over]
  unfold ref01_More_l1
  repeat' (first
   | refine wo_nil ?_
   | refine w_seq ?_
   | refine w_region ?_
   | refine w_ret ?_
   | refine w_skip ?_
   | refine w_exit ?_
   | refine w_block ?_
   | refine w_true rfl ?_
   | refine w_false rfl ?_
   | refine wo_n rfl ?_
   | refine wo_nn rfl ?_
   | refine wo_cv32 rfl (u8_lt32 _) rfl rfl ?_
   | refine wo_xor32 rfl rfl hn' (u8_lt32 _) rfl rfl ?_
   | refine wo_mv _ (by conv => lhs; whnf) rfl rfl ?_
   | (refine is_load ?_; first | refine wo_load _ rfl rfl rfl (Nat.le_of_ble_eq_true rfl) (by conv => lhs; whnf) rfl rfl ?_ | refine wo_loadI _ rfl (Nat.le_of_ble_eq_true rfl) (by conv => lhs; whnf) rfl rfl ?_)
   | (refine is_bin ?_; first | refine wo_cmpT rfl rfl rfl (by first | (simp only [cmpP]; done) | (simp only [cmpP]; omega)) rfl rfl ?_ | refine wo_cmpF rfl rfl rfl (by first | (simp only [cmpP]; done) | (simp only [cmpP]; omega)) rfl rfl ?_ | refine wo_cmp rfl rfl rfl rfl rfl (fun _ => ?_) (fun _ => ?_) | refine wo_add rfl rfl (by omega) rfl rfl ?_ | refine wo_bin (.int _ _) rfl rfl rfl ?_)
   | (refine is_len ?_; first | refine wo_len rfl rfl rfl ?_ | refine wo_lenS rfl rfl rfl ?_ | refine wo_len0 rfl rfl rfl ?_)
   | refine wo_cvi rfl rfl rfl ?_
   | refine wo_at rfl rfl (by omega) (by omega) rfl rfl ?_)
  · refine (ref_bits (v0 := v0) (v1 := .islc t f 1 (BL l)) (v6 := .int .i64 (l.length - m : Int)) (Nat.xor_lt_two_pow (n := 32) (by omega) (by have := u8_lt (bAt l (l.length - m)); omega)) (by omega) ⟨rfl, rfl, rfl, rfl, rfl, trivial⟩).mono ?_
    rintro ex T2 H2 ⟨rfl, rfl, h2⟩
    rw [h2.eq]
    simp only [over]
    show W _ _
    repeat' (first
     | refine wo_nil ?_
     | refine w_seq ?_
     | refine w_region ?_
     | refine w_ret ?_
     | refine w_skip ?_
     | refine w_exit ?_
     | refine w_block ?_
     | refine w_true rfl ?_
     | refine w_false rfl ?_
     | refine wo_n rfl ?_
     | refine wo_nn rfl ?_
     | refine wo_mv _ (by conv => lhs; whnf) rfl rfl ?_
     | (refine is_load ?_; first | refine wo_load _ rfl rfl rfl (Nat.le_of_ble_eq_true rfl) (by conv => lhs; whnf) rfl rfl ?_ | refine wo_loadI _ rfl (Nat.le_of_ble_eq_true rfl) (by conv => lhs; whnf) rfl rfl ?_)
     | (refine is_bin ?_; first | refine wo_cmpT rfl rfl rfl (by first | (simp only [cmpP]; done) | (simp only [cmpP]; omega)) rfl rfl ?_ | refine wo_cmpF rfl rfl rfl (by first | (simp only [cmpP]; done) | (simp only [cmpP]; omega)) rfl rfl ?_ | refine wo_cmp rfl rfl rfl rfl rfl (fun _ => ?_) (fun _ => ?_) | refine wo_add rfl rfl (by omega) rfl rfl ?_ | refine wo_bin (.int _ _) rfl rfl rfl ?_)
     | (refine is_len ?_; first | refine wo_len rfl rfl rfl ?_ | refine wo_lenS rfl rfl rfl ?_ | refine wo_len0 rfl rfl rfl ?_)
     | refine wo_cvi rfl rfl rfl ?_
     | refine wo_at rfl rfl (by omega) (by omega) rfl rfl ?_)
    have hd : l.drop (l.length - m) = bAt l (l.length - m) :: l.drop (l.length - (m - 1)) := by
      have hlt : l.length - m < l.length := by omega
      have e1 : ((l.length : Int) - m).toNat = l.length - m := by omega
      rw [show l.length - (m - 1) = l.length - m + 1 by omega, List.drop_eq_getElem_cons hlt]
      simp [bAt, e1, hlt]
    refine ⟨by omega, by omega, rfl, _, crcByte_lt (bAt l (l.length - m)) hn', ?_, rfl, rfl, rfl, by show AV.int _ _ = _; congr 1; omega, trivial⟩
    rw [← hg, hd]; rfl
  · obtain rfl : m = 0 := by omega
    refine ⟨rfl, rfl, ?_⟩
    show AV.int _ _ = _
    rw [← hg]; simp [crcReg]

theorem e_ref_Sum (k : Nat) (hk : 1000000 ≤ k) (t f : Bool) (l : List UInt8) (hl : l.length < 1000000) : FnV (acall B xf gf (k + 2)) n_ref01_Sum [.islc t f 1 (BL l)] (.int .i64 (crcMore 0 l)) := by
  have hm : FnV (acall B xf gf (k + 1)) n_ref01_More [.int .i64 0, .islc t f 1 (BL l)] (.int .i64 (crcMore 0 l)) := by
    refine fn_of B_ref01_More rfl ?_
    unfold ref01_More
    repeat' (first
     | refine wo_nil ?_
     | refine w_seq ?_
     | refine w_region ?_
     | refine w_ret ?_
     | refine w_skip ?_
     | refine w_exit ?_
     | refine w_block ?_
     | refine w_true rfl ?_
     | refine w_false rfl ?_
     | refine wo_n rfl ?_
     | refine wo_nn rfl ?_
     | refine wo_cv32 (a := 0) rfl (by omega) rfl rfl ?_
     | refine wo_not32 (a := 0) rfl (by omega) rfl rfl ?_
     | refine wo_mv _ (by conv => lhs; whnf) rfl rfl ?_
     | (refine is_load ?_; first | refine wo_load _ rfl rfl rfl (Nat.le_of_ble_eq_true rfl) (by conv => lhs; whnf) rfl rfl ?_ | refine wo_loadI _ rfl (Nat.le_of_ble_eq_true rfl) (by conv => lhs; whnf) rfl rfl ?_)
     | (refine is_bin ?_; first | refine wo_cmpT rfl rfl rfl (by first | (simp only [cmpP]; done) | (simp only [cmpP]; omega)) rfl rfl ?_ | refine wo_cmpF rfl rfl rfl (by first | (simp only [cmpP]; done) | (simp only [cmpP]; omega)) rfl rfl ?_ | refine wo_cmp rfl rfl rfl rfl rfl (fun _ => ?_) (fun _ => ?_) | refine wo_add rfl rfl (by omega) rfl rfl ?_ | refine wo_rem rfl rfl (by omega) (by omega) rfl rfl ?_ | refine wo_bin (.int _ _) rfl rfl rfl ?_)
     | (refine is_un ?_; first | refine wo_notT rfl rfl rfl ?_ | refine wo_notF rfl rfl rfl ?_)
     | (refine is_len ?_; first | refine wo_len rfl rfl rfl ?_ | refine wo_lenS rfl rfl rfl ?_ | refine wo_len0 rfl rfl rfl ?_)
     | (refine is_cvi ?_; first | refine wo_to64 rfl (by omega) rfl rfl ?_ | refine wo_cvi rfl rfl rfl ?_)
     | refine wo_at rfl rfl (by omega) (by omega) rfl rfl ?_)
    refine (ref_bytes (n := 4294967295) (l := l) (t := t) (f := f) (v0 := .int .i64 0) (by omega) hl hk ?_).mono ?_
    · exact ⟨rfl, rfl, rfl, rfl, trivial⟩
    rintro ex T2 H2 ⟨rfl, rfl, h2⟩
    have hr : crcReg 4294967295 l < 4294967296 := crcReg_lt l (by omega)
    rw [Has.eq (T := T2) (ps := [(5, _)]) ⟨h2, trivial⟩]
    simp only [over]
    show W _ _
    repeat' (first
     | refine wo_nil ?_
     | refine w_seq ?_
     | refine w_region ?_
     | refine w_ret ?_
     | refine w_skip ?_
     | refine w_exit ?_
     | refine w_block ?_
     | refine w_true rfl ?_
     | refine w_false rfl ?_
     | refine wo_n rfl ?_
     | refine wo_nn rfl ?_
     | refine wo_not32 rfl hr rfl rfl ?_
     | refine wo_mv _ (by conv => lhs; whnf) rfl rfl ?_
     | (refine is_load ?_; first | refine wo_load _ rfl rfl rfl (Nat.le_of_ble_eq_true rfl) (by conv => lhs; whnf) rfl rfl ?_ | refine wo_loadI _ rfl (Nat.le_of_ble_eq_true rfl) (by conv => lhs; whnf) rfl rfl ?_)
     | (refine is_bin ?_; first | refine wo_cmpT rfl rfl rfl (by first | (simp only [cmpP]; done) | (simp only [cmpP]; omega)) rfl rfl ?_ | refine wo_cmpF rfl rfl rfl (by first | (simp only [cmpP]; done) | (simp only [cmpP]; omega)) rfl rfl ?_ | refine wo_cmp rfl rfl rfl rfl rfl (fun _ => ?_) (fun _ => ?_) | refine wo_add rfl rfl (by omega) rfl rfl ?_ | refine wo_rem rfl rfl (by omega) (by omega) rfl rfl ?_ | refine wo_bin (.int _ _) rfl rfl rfl ?_)
     | (refine is_un ?_; first | refine wo_notT rfl rfl rfl ?_ | refine wo_notF rfl rfl rfl ?_)
     | (refine is_len ?_; first | refine wo_len rfl rfl rfl ?_ | refine wo_lenS rfl rfl rfl ?_ | refine wo_len0 rfl rfl rfl ?_)
     | (refine is_cvi ?_; first | refine wo_to64 rfl (by omega) rfl rfl ?_ | refine wo_cvi rfl rfl rfl ?_)
     | refine wo_at rfl rfl (by omega) (by omega) rfl rfl ?_)
    refine ⟨Or.inr rfl, _, rfl, ?_⟩
    show AV.int _ _ = AV.int _ _
    congr 1
    show ((4294967295 - crcReg 4294967295 l : Nat) : Int) = (4294967295 : Int) - (crcReg 4294967295 l : Nat)
    omega
  refine fn_of B_ref01_Sum rfl ?_
  unfold ref01_Sum
  repeat' (first
   | refine wo_nil ?_
   | refine w_seq ?_
   | refine w_region ?_
   | refine w_ret ?_
   | refine w_skip ?_
   | refine w_exit ?_
   | refine w_block ?_
   | refine w_true rfl ?_
   | refine w_false rfl ?_
   | refine wo_n rfl ?_
   | refine wo_nn rfl ?_
   | refine wo_call hm rfl rfl rfl ?_
   | refine wo_mv _ (by conv => lhs; whnf) rfl rfl ?_)
  exact ⟨Or.inr rfl, _, rfl, rfl⟩

theorem e_ref_Good (k : Nat) (hk : 1000000 ≤ k) (t f : Bool) (l : List UInt8) (hl : l.length < 1000000) : FnV (acall B xf gf (k + 3)) n_ref01_Good [.islc t f 1 (BL l)] (.bool (goodP l)) := by
  by_cases h4 : 4 ≤ l.length
  · have e : ((l.length : Int) - 4).toNat = l.length - 4 := by omega
    have ei : ((l.length : Int) - 4) = ((l.length - 4 : Nat) : Int) := by omega
    have hg := e_ref_Get4 (xf := xf) (gf := gf) k (by omega) t f l (l.length - 4) (by omega) hl
    rw [List.take_of_length_le (by simp; omega), ← ei] at hg
    have hs := fun f => e_ref_Sum (xf := xf) (gf := gf) k hk t f (l.take ((l.length : Int) - 4).toNat) (by simp; omega)
    refine fn_of B_ref01_Good rfl ?_
    unfold ref01_Good
    repeat' (first
     | refine wo_nil ?_
     | refine w_seq ?_
     | refine w_region ?_
     | refine w_ret ?_
     | refine w_skip ?_
     | refine w_exit ?_
     | refine w_block ?_
     | refine w_true rfl ?_
     | refine w_false rfl ?_
     | refine wo_n rfl ?_
     | refine wo_nn rfl ?_
     | refine wo_call hg rfl rfl rfl ?_
     | refine wo_call (hs _) rfl rfl rfl ?_
     | refine wo_mv _ (by conv => lhs; whnf) rfl rfl ?_
     | (refine is_bin ?_; first | refine wo_cmpT rfl rfl rfl (by first | (simp only [cmpP]; done) | (simp only [cmpP]; omega)) rfl rfl ?_ | refine wo_cmpF rfl rfl rfl (by first | (simp only [cmpP]; done) | (simp only [cmpP]; omega)) rfl rfl ?_ | refine wo_cmp rfl rfl rfl rfl rfl (fun _ => ?_) (fun _ => ?_) | refine wo_sub rfl rfl (by omega) rfl rfl ?_)
     | (refine is_pick ?_; first | refine wo_pickT _ rfl (by conv => lhs; whnf) rfl rfl ?_ | refine wo_pickF _ rfl (by conv => lhs; whnf) rfl rfl ?_)
     | (refine is_len ?_; first | refine wo_len rfl rfl rfl ?_ | refine wo_lenS rfl rfl rfl ?_ | refine wo_len0 rfl rfl rfl ?_)
     | (refine is_slice ?_; first | refine wo_slice0 rfl (by (first | exact Or.inl rfl | exact Or.inr rfl | assumption)) rfl (by omega) (by omega) rfl rfl ?_ | refine wo_sliceE rfl (by (first | exact Or.inl rfl | exact Or.inr rfl | assumption)) rfl (by omega) (by omega) rfl rfl ?_ | refine wo_sliceM rfl (by (first | exact Or.inl rfl | exact Or.inr rfl | assumption)) rfl rfl (by omega) (by omega) (by omega) rfl rfl ?_))
    all_goals (refine ⟨Or.inr rfl, _, rfl, ?_⟩; show AV.bool _ = AV.bool _; congr 1; symm; rename_i h; simp only [cmpP] at h; rw [e] at h)
    · exact decide_eq_true ⟨h4, h⟩
    · exact decide_eq_false (fun hh => h hh.2)
  · refine fn_of B_ref01_Good rfl ?_
    unfold ref01_Good
    repeat' (first
     | refine wo_nil ?_
     | refine w_seq ?_
     | refine w_region ?_
     | refine w_ret ?_
     | refine w_skip ?_
     | refine w_exit ?_
     | refine w_block ?_
     | refine w_true rfl ?_
     | refine w_false rfl ?_
     | refine wo_n rfl ?_
     | refine wo_nn rfl ?_
     | refine wo_mv _ (by conv => lhs; whnf) rfl rfl ?_
     | (refine is_bin ?_; first | refine wo_cmpT rfl rfl rfl (by first | (simp only [cmpP]; done) | (simp only [cmpP]; omega)) rfl rfl ?_ | refine wo_cmpF rfl rfl rfl (by first | (simp only [cmpP]; done) | (simp only [cmpP]; omega)) rfl rfl ?_ | refine wo_cmp rfl rfl rfl rfl rfl (fun _ => ?_) (fun _ => ?_) | refine wo_sub rfl rfl (by omega) rfl rfl ?_)
     | (refine is_pick ?_; first | refine wo_pickT _ rfl (by conv => lhs; whnf) rfl rfl ?_ | refine wo_pickF _ rfl (by conv => lhs; whnf) rfl rfl ?_)
     | (refine is_len ?_; first | refine wo_len rfl rfl rfl ?_ | refine wo_lenS rfl rfl rfl ?_ | refine wo_len0 rfl rfl rfl ?_)
     | (refine is_slice ?_; first | refine wo_slice0 rfl (by (first | exact Or.inl rfl | exact Or.inr rfl | assumption)) rfl (by omega) (by omega) rfl rfl ?_ | refine wo_sliceE rfl (by (first | exact Or.inl rfl | exact Or.inr rfl | assumption)) rfl (by omega) (by omega) rfl rfl ?_ | refine wo_sliceM rfl (by (first | exact Or.inl rfl | exact Or.inr rfl | assumption)) rfl rfl (by omega) (by omega) (by omega) rfl rfl ?_))
    refine ⟨Or.inr rfl, _, rfl, ?_⟩
    show AV.bool _ = AV.bool _
    congr 1; symm
    exact decide_eq_false (fun hh => h4 hh.1)

end Go.Proofs.Ytoanjhiojpgioaa
