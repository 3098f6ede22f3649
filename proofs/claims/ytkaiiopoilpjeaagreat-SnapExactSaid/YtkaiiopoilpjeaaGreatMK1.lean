/- Lemmas. -/
import Derived.Test.YtkaiiopoilpjeaaGreatMJ4
set_option linter.unusedSimpArgs false
set_option linter.unusedVariables false
set_option maxRecDepth 10000
set_option maxHeartbeats 16000000
namespace Go.Proofs.YtkaiiopoilpjeaaGreat
open Go.AI
theorem inR_iff {n lo hi : Int} : inR n lo hi = true ↔ (lo ≤ n ∧ n ≤ hi) := by simp only [inR, Bool.and_eq_true, decide_eq_true_eq, ge_iff_le]
theorem inR_f {n lo hi : Int} : inR n lo hi = false ↔ ¬ (lo ≤ n ∧ n ≤ hi) := by rw [← inR_iff]; simp
attribute [local irreducible] aops aexec acall aiter aop W WO
variable {xf : ExtF} {gf : CallF}
theorem e_ref_In (k : Nat) (n lo hi : Int) : FnV (acall B xf gf (k + 1)) n_ref01_In [.int .i64 n, .int .i64 lo, .int .i64 hi] (.bool (inR n lo hi)) := by
 refine fn_of B_ref01_In rfl ?_
 unfold ref01_In
 repeat' (first | refine qS ?_ | refine qN ?_ | refine qQb ?_ | refine q_cmp2 (fun _ => ?_) (fun _ => ?_))
 all_goals (refine ⟨Or.inr rfl, _, rfl, ?_⟩; show AV.bool _ = AV.bool _; congr 1; symm; simp only [cmpP] at *)
 all_goals first
  | exact inR_iff.2 (by omega)
  | (rw [Bool.eq_false_iff]; intro h; rw [inR_iff] at h; omega)
theorem e_ref_Id (k : Nat) (n : Int) : FnV (acall B xf gf (k + 2)) n_ref01_Id [.int .i64 n] (.bool (inR n 1 4611686018427387903)) := by
 have h := e_ref_In (xf := xf) (gf := gf) k n 1 4611686018427387903
 refine fn_of B_ref01_Id rfl ?_
 unfold ref01_Id
 repeat' (first | refine qS ?_ | refine wo_call h rfl rfl rfl ?_ | refine qQb ?_ | fail)
 exact ⟨Or.inr rfl, _, rfl, rfl⟩
section
variable {cf : CallF} {base fuel : Nat} {T : Tmps} {H : Heap} {QO : Tmps → Heap → Prop} {log : List FP} {g : Option (Nat × Bool)} {un : List Nat} {r : List SOper} {d : Nat}
attribute [local semireducible] aop WO aops
theorem wo_quo {x y : SArg} {a b : Int} (hx : x.ev T = .int .i64 a) (hy : y.ev T = .int .i64 b) (ha : 0 ≤ a ∧ a ≤ 9223372036854775807) (hb : 0 < b) (hw : awanted T g = some true) (hl : logOk log .z un = true)
  (h : WO (aops cf xf base r (log ++ [.z]) (T.upd d (.int .i64 (a / b))) H) QO) : WO (aops cf xf base (⟨some d, .bin .quo x y, g, un⟩ :: r) log T H) QO :=
 wo_step (v := .int .i64 (a / b)) hw (by
  have h0 : b ≠ 0 := by omega
  have h1 : a.tdiv b = a / b := Int.tdiv_eq_ediv_of_nonneg ha.1
  have h2 : 0 ≤ a / b := Int.ediv_nonneg ha.1 (by omega)
  have h3 : a / b ≤ a := Int.ediv_le_self _ ha.1
  simp only [aop, hx, hy, abin, ne_eq, not_true_eq_false, if_false, h0, h1, Option.bind_some, rv]
  rw [IntWalk.i64_in _ ⟨by omega, by omega⟩]) hl h
theorem wo_quo32 {x y : SArg} {a b : Int} (hx : x.ev T = .int .u32 a) (hy : y.ev T = .int .u32 b) (ha : 0 ≤ a ∧ a ≤ 4294967295) (hb : 0 < b) (hw : awanted T g = some true) (hl : logOk log .z un = true)
  (h : WO (aops cf xf base r (log ++ [.z]) (T.upd d (.int .u32 (a / b))) H) QO) : WO (aops cf xf base (⟨some d, .bin .quo x y, g, un⟩ :: r) log T H) QO :=
 wo_step (v := .int .u32 (a / b)) hw (by
  have h0 : b ≠ 0 := by omega
  have h1 : a.tdiv b = a / b := Int.tdiv_eq_ediv_of_nonneg ha.1
  have h2 : 0 ≤ a / b := Int.ediv_nonneg ha.1 (by omega)
  have h3 : a / b ≤ a := Int.ediv_le_self _ ha.1
  simp only [aop, hx, hy, abin, ne_eq, not_true_eq_false, if_false, h0, h1, Option.bind_some, rv]
  rw [IntWalk.u32_in _ ⟨by omega, by omega⟩]) hl h
end
theorem ref_Bytes_loop {cf : CallF} {fuel : Nat} {T : Tmps} {H : Heap} {n : Int} {s : Nat} (hn : 0 ≤ n ∧ n ≤ 9223372036854775807) (hs : s ≤ 8) (hk : 8 < fuel) (hH : H 1 = ⟨1, false, .row 1 []⟩)
  (hT : Has T [(0, .int .i64 s), (1, .int .i64 n), (5, .slc 1 1 0 1 0 0 .none), (6, .int .i64 0)]) :
  W (aexec cf xf 0 fuel (.loop ref01_Bytes_l0) T H) (fun ex T' H' => ex = .exit 0 ∧ H' 1 = ⟨1, false, .row 1 (BL (leB s n))⟩ ∧ T' 5 = .slc 1 1 s 1 0 s .none) := by
 refine w_loop (fun m T' H' => m ≤ s ∧ H' 1 = ⟨1, false, .row 1 (BL (leB (s - m) n))⟩ ∧ Has T' [(0, .int .i64 s), (1, .int .i64 (n / 2 ^ (8 * (s - m)))), (5, .slc 1 1 (s - m) 1 0 (s - m) .none), (6, .int .i64 ((s - m : Nat) : Int))])
  s ⟨Nat.le_refl _, by rw [hH, Nat.sub_self]; rfl, ?_⟩ (by omega) ?_
 ·obtain ⟨h0, h1, h2, h3, _⟩ := hT
  exact ⟨h0, by rw [h1]; simp, by rw [h2]; simp, by rw [h3]; simp, trivial⟩
 rintro m T H hm ⟨_, hH, hT⟩
 obtain ⟨i, hi⟩ : ∃ i, i = s - m := ⟨_, rfl⟩
 rw [← hi] at hT hH
 have hq0 : 0 ≤ n / 2 ^ (8 * i) := Int.ediv_nonneg hn.1 (Int.pow_nonneg (by decide))
 have hq1 : n / 2 ^ (8 * i) ≤ n := Int.ediv_le_self _ hn.1
 by_cases hm0 : m = 0
 ·have his : i = s := by omega
  rw [hT.eq]
  simp only [over]
  unfold ref01_Bytes_l0
  repeat' (first | refine qQ ?_ | refine q_cmp2 (fun _ => ?_) (fun _ => ?_) | refine q_app fun _ => ?_)
  exact ⟨rfl, by rw [hH, his], by rw [his]; rfl⟩
 rw [hT.eq]
 simp only [over]
 have hb := leAt_toNat n i
 have he : AV.int .u8 (n / 2 ^ (8 * i) % 256 % 256) = u8 (leAt n i) := by
  unfold u8
  rw [hb]
  congr 1
  omega
 unfold ref01_Bytes_l0
 repeat' (first
  | refine qS ?_ | refine wo_cvu8 rfl rfl rfl ?_ | refine wo_appI rfl rfl rfl hH (by simp) rfl (by omega) rfl rfl (fun _ => ?_) | refine wo_quo rfl rfl (by omega) (by omega) rfl rfl ?_
  | refine qQ ?_ | refine q_cmp2 (fun _ => ?_) (fun _ => ?_) | refine q_app fun _ => ?_)
 refine ⟨by omega, by omega, ?_, rfl, ?_, ?_, by show AV.int _ _ = AV.int _ _; congr 1; omega, trivial⟩
 ·have e1 : s - (m - 1) = i + 1 := by omega
  rw [e1]
  refine (Heap.upd_same _ _ _).trans ?_
  congr 2
  show BL (leB i n) ++ [AV.int .u8 (n / 2 ^ (8 * i) % 256 % 256)] = _
  rw [he]
  simp [leB, List.range_succ, BL]
 ·show AV.int _ _ = AV.int _ _
  congr 1
  have e1 : s - (m - 1) = i + 1 := by omega
  rw [e1, show 8 * (i + 1) = 8 * i + 8 by omega, Int.pow_add, Int.ediv_ediv_of_nonneg (Int.pow_nonneg (by decide))]
  rfl
 ·have e1 : s - (m - 1) = i + 1 := by omega
  rw [e1]; rfl
theorem e_ref_Bytes (k : Nat) (hk : 8 < k) (n : Int) (s : Nat) (hn : 0 ≤ n ∧ n ≤ 9223372036854775807) (hs : s ≤ 8) : FnF (acall B xf gf (k + 1)) n_ref01_Bytes [.int .i64 s, .int .i64 n] (leB s n) := by
 refine fnF_of (fn_gen B_ref01_Bytes rfl ?_)
 unfold ref01_Bytes
 repeat' (first | refine qQ ?_ | refine q_cmp2 (fun _ => ?_) (fun _ => ?_) | refine q_app fun _ => ?_)
 refine (ref_Bytes_loop (n := n) (s := s) hn hs hk rfl ?_).mono ?_
 ·exact ⟨rfl, rfl, rfl, rfl, trivial⟩
 rintro ex T2 H2 ⟨rfl, hH, h5⟩
 rw [Has.eq (T := T2) (ps := [(5, _)]) ⟨h5, trivial⟩]
 simp only [over]
 show W _ _
 repeat' (first | refine qQ ?_ | refine q_cmp2 (fun _ => ?_) (fun _ => ?_) | refine q_app fun _ => ?_)
 exact ⟨Or.inr rfl, _, rfl, _, _, _, rfl, by simp, hH⟩
theorem bAt_eq0 {a : List UInt8} {i : Nat} (h : i < a.length) : bAt a (i : Int) = a[i] := by
 simp [bAt, h]
theorem leN_drop {l : List UInt8} {i : Nat} (h : i < l.length) : leN (l.drop i) = (bAt l (i : Int)).toNat + 256 * leN (l.drop (i + 1)) := by
 rw [List.drop_eq_getElem_cons h, bAt_eq0 h]
 rfl
theorem leN_drop_le : ∀ (l : List UInt8) (i : Nat), leN (l.drop i) ≤ leN l
 | [], i => by simp
 | c :: l, 0 => by simp
 | c :: l, i + 1 => by
  have := leN_drop_le l i
  simp only [List.drop_succ_cons, leN]
  omega
theorem ref_Number_loop {cf : CallF} {base fuel : Nat} {T : Tmps} {H : Heap} {t f : Bool} {l : List UInt8} (hl : l.length ≤ 8) (hk : 9 < fuel)
  (hT : Has T [(0, .islc t f 1 (BL l)), (4, .int .i64 0), (5, .int .i64 ((l.length : Int) - 1))]) :
  W (aexec cf xf base fuel (.loop ref01_Number_l0) T H) (fun ex T' H' => H' = H ∧ ((ex = .exit 0 ∧ leN l ≤ 4611686018427387903 ∧ T' 4 = .int .i64 (leN l : Nat)) ∨ (ex = .ret ∧ 4611686018427387903 < leN l ∧ T' 2 = .int .i64 0 ∧ T' 3 = .bool false))) := by
 refine w_loop (fun m T' H' => m ≤ l.length ∧ H' = H ∧ leN (l.drop m) ≤ 4611686018427387903 ∧ Has T' [(0, .islc t f 1 (BL l)), (4, .int .i64 (leN (l.drop m) : Nat)), (5, .int .i64 ((m : Int) - 1))])
  l.length ⟨Nat.le_refl _, rfl, by simp [leN], ?_⟩ (by omega) ?_
 ·obtain ⟨h0, h1, h2, _⟩ := hT
  exact ⟨h0, by rw [h1]; simp [leN], h2, trivial⟩
 rintro m T H1 hm ⟨_, rfl, hle, hT⟩
 by_cases hm0 : m = 0
 ·subst hm0
  rw [hT.eq]
  simp only [over]
  unfold ref01_Number_l0
  repeat' (first | refine qQ ?_ | refine q_cmp2 (fun _ => ?_) (fun _ => ?_))
  exact ⟨rfl, .inl ⟨rfl, by simpa using hle, by rfl⟩⟩
 have hd := leN_drop (l := l) (i := m - 1) (by omega)
 rw [show m - 1 + 1 = m by omega] at hd
 have hc := u8_lt (bAt l ((m - 1 : Nat) : Int))
 have em : (m : Int) - 1 = ((m - 1 : Nat) : Int) := by omega
 rw [em] at hT
 have hq0 : 0 ≤ (4611686018427387903 - ((bAt l ((m - 1 : Nat) : Int)).toNat : Int)) / 256 := by omega
 rw [hT.eq]
 simp only [over]
 unfold ref01_Number_l0
 repeat' (first | refine qS ?_ | refine wo_at rfl (n := ((m - 1 : Nat) : Int)) rfl (by omega) (by omega) rfl rfl ?_ | refine wo_quo rfl rfl (by omega) (by omega) rfl rfl ?_ | refine qQ ?_ | refine q_cmp2 (fun _ => ?_) (fun _ => ?_))
 ·rename_i h1 h2
  simp only [cmpP] at h2
  refine ⟨rfl, .inr ⟨rfl, ?_, rfl, rfl⟩⟩
  have := leN_drop_le l (m - 1)
  omega
 ·rename_i h1 h2
  simp only [cmpP] at h2
  refine ⟨by omega, by omega, rfl, by omega, rfl, by first | rfl | (show AV.int _ _ = AV.int _ _; congr 1; omega), by first | rfl | (show AV.int _ _ = AV.int _ _; congr 1; omega), trivial⟩
theorem e_ref_Number (k : Nat) (hk : 9 < k) (t f : Bool) (l : List UInt8) (hl : l.length ≤ 8) :
  FnV (acall B xf gf (k + 1)) n_ref01_Number [.islc t f 1 (BL l)] (if leN l ≤ 4611686018427387903 then .tup [.int .i64 (leN l : Nat), .bool true] else .tup [.int .i64 0, .bool false]) := by
 refine fn_of B_ref01_Number rfl ?_
 unfold ref01_Number
 repeat' (first | refine qQ ?_ | refine q_cmp2 (fun _ => ?_) (fun _ => ?_))
 refine (ref_Number_loop (l := l) (t := t) (f := f) hl hk ?_).mono ?_
 ·exact ⟨rfl, rfl, rfl, trivial⟩
 rintro ex T2 H2 ⟨rfl, ⟨rfl, hle, h4⟩ | ⟨rfl, hle, h2, h3⟩⟩
 ·rw [Has.eq (T := T2) (ps := [(4, _)]) ⟨h4, trivial⟩, if_pos hle]
  simp only [over]
  show W _ _
  repeat' (first | refine qQ ?_ | refine q_cmp2 (fun _ => ?_) (fun _ => ?_))
  exact ⟨Or.inr rfl, _, rfl, rfl⟩
 ·rw [if_neg (by omega)]
  refine ⟨Or.inr rfl, .tup [T2 2, T2 3], rfl, ?_⟩
  rw [h2, h3]; rfl
theorem e_ref_Get4 (k : Nat) (hk : 9 < k) (t f : Bool) (l : List UInt8) (a : Nat) (ha : a + 4 ≤ l.length) (hl : l.length < 1000000) : FnV (acall B xf gf (k + 2)) n_ref01_Get4 [.islc t f 1 (BL l), .int .i64 a] (.int .i64 (leN ((l.drop a).take 4) : Nat)) := by
 have hlt := leN_lt ((l.drop a).take 4)
 have hlen : ((l.drop a).take 4).length = 4 := by simp; omega
 rw [hlen] at hlt
 have e : (l.drop (a : Int).toNat).take (((a : Int) + 4).toNat - (a : Int).toNat) = (l.drop a).take 4 := by
  rw [Int.toNat_natCast]
  congr 1
  omega
 have h := fun f => e_ref_Number (xf := xf) (gf := gf) k hk t f ((l.drop a).take 4) (by omega)
 simp only [if_pos (show leN ((l.drop a).take 4) ≤ 4611686018427387903 by omega)] at h
 refine fn_of B_ref01_Get4 rfl ?_
 unfold ref01_Get4
 repeat' (first | refine qS ?_ | (refine wo_call (h _) rfl (by rw [← e]; rfl) rfl ?_) | refine qQb ?_ | fail)
 exact ⟨Or.inr rfl, _, rfl, rfl⟩
theorem ref_bits {cf : CallF} {base fuel : Nat} {H : Heap} {T : Tmps} {n : Nat} (hn : n < 4294967296) (hk : 8 < fuel) {v0 v1 v6 : AV} (hT : Has T [(5, .int .u32 n), (7, .int .i64 0), (0, v0), (1, v1), (6, v6)]) :
  W (aexec cf xf base fuel (.loop ref01_More_l0) T H) (fun ex T' H' => ex = .exit 2 ∧ H' = H ∧ Has T' [(5, .int .u32 (crcBits 8 n)), (0, v0), (1, v1), (6, v6)]) := by
 refine w_loop (fun m T' H' => m ≤ 8 ∧ H' = H ∧ ∃ n' : Nat, n' < 4294967296 ∧ crcBits m n' = crcBits 8 n ∧ Has T' [(5, .int .u32 n'), (7, .int .i64 (8 - m : Int)), (0, v0), (1, v1), (6, v6)]) 8 ⟨by omega, rfl, n, hn, rfl, by simpa using hT⟩ hk ?_
 rintro m T H hm ⟨_, rfl, n', hn', hg, hT⟩
 rw [hT.eq]
 simp only [over]
 unfold ref01_More_l0
 have hd : (n' : Int) / 2 = ((n' / 2 : Nat) : Int) := by omega
 repeat' (first
  | refine qS ?_ | refine wo_rem rfl rfl (by omega) (by omega) rfl rfl ?_ | (refine wo_quo32 rfl rfl (by omega) (by omega) rfl rfl ?_; rw [hd])
  | refine wo_xorC rfl (by omega) (by decide) rfl rfl ?_ | refine qQ ?_ | refine q_cmp2 (fun _ => ?_) (fun _ => ?_))
 ·rename_i h1
  simp only [cmpP] at h1
  refine ⟨by omega, by omega, rfl, crcBit n', crcBit_lt hn', ?_, ?_, by show AV.int _ _ = _; congr 1; omega, rfl, rfl, rfl, trivial⟩
  ·rw [← hg]; obtain ⟨m', rfl⟩ : ∃ m', m = m' + 1 := ⟨m - 1, by omega⟩; rfl
  ·show AV.int _ _ = AV.int _ _
   rw [crcBit, if_pos (by omega)]; rfl
 ·rename_i h1
  simp only [cmpP] at h1
  refine ⟨by omega, by omega, rfl, crcBit n', crcBit_lt hn', ?_, ?_, by show AV.int _ _ = _; congr 1; omega, rfl, rfl, rfl, trivial⟩
  ·rw [← hg]; obtain ⟨m', rfl⟩ : ∃ m', m = m' + 1 := ⟨m - 1, by omega⟩; rfl
  ·show AV.int _ _ = AV.int _ _
   rw [crcBit, if_neg (by omega)]
 ·rename_i h1
  simp only [cmpP] at h1
  obtain rfl : m = 0 := by omega
  exact ⟨rfl, rfl, by rw [← hg]; rfl, rfl, rfl, rfl, trivial⟩
theorem ref_bytes {cf : CallF} {base fuel : Nat} {H : Heap} {T : Tmps} {n : Nat} {t f : Bool} {l : List UInt8} {v0 : AV} (hn : n < 4294967296) (hl : l.length < 1000000) (hk : 1000000 ≤ fuel)
  (hT : Has T [(5, .int .u32 n), (0, v0), (1, .islc t f 1 (BL l)), (6, .int .i64 0)]) :
  W (aexec cf xf base fuel (.loop ref01_More_l1) T H) (fun ex T' H' => ex = .exit 0 ∧ H' = H ∧ T' 5 = .int .u32 (crcReg n l)) := by
 refine w_loop (fun m T' H' => m ≤ l.length ∧ H' = H ∧ ∃ n' : Nat, n' < 4294967296 ∧ crcReg n' (l.drop (l.length - m)) = crcReg n l ∧ Has T' [(5, .int .u32 n'), (0, v0), (1, .islc t f 1 (BL l)), (6, .int .i64 (l.length - m : Int))])
  l.length ⟨by omega, rfl, n, hn, by simp, by simpa using hT⟩ (by omega) ?_
 rintro m T H hm ⟨_, rfl, n', hn', hg, hT⟩
 rw [hT.eq]
 simp only [over]
 unfold ref01_More_l1
 repeat' (first | refine qS ?_ | refine wo_cv32 rfl (u8_lt32 _) rfl rfl ?_ | refine wo_xor32 rfl rfl hn' (u8_lt32 _) rfl rfl ?_ | refine qQ ?_ | refine q_cmp2 (fun _ => ?_) (fun _ => ?_))
 ·refine (ref_bits (v0 := v0) (v1 := .islc t f 1 (BL l)) (v6 := .int .i64 (l.length - m : Int)) (Nat.xor_lt_two_pow (n := 32) (by omega) (by have := u8_lt (bAt l (l.length - m)); omega)) (by omega) ⟨rfl, rfl, rfl, rfl, rfl, trivial⟩).mono ?_
  rintro ex T2 H2 ⟨rfl, rfl, h2⟩
  rw [h2.eq]
  simp only [over]
  show W _ _
  repeat' (first | refine qQ ?_ | refine q_cmp2 (fun _ => ?_) (fun _ => ?_))
  have hd : l.drop (l.length - m) = bAt l (l.length - m) :: l.drop (l.length - (m - 1)) := by
   have hlt : l.length - m < l.length := by omega
   have e1 : ((l.length : Int) - m).toNat = l.length - m := by omega
   rw [show l.length - (m - 1) = l.length - m + 1 by omega, List.drop_eq_getElem_cons hlt]
   simp [bAt, e1, hlt]
  refine ⟨by omega, by omega, rfl, _, crcByte_lt (bAt l (l.length - m)) hn', ?_, rfl, rfl, rfl, by show AV.int _ _ = _; congr 1; omega, trivial⟩
  rw [← hg, hd]; rfl
 ·obtain rfl : m = 0 := by omega
  refine ⟨rfl, rfl, ?_⟩
  show AV.int _ _ = _
  rw [← hg]; simp [crcReg]
theorem e_ref_Sum (k : Nat) (hk : 1000000 ≤ k) (t f : Bool) (l : List UInt8) (hl : l.length < 1000000) : FnV (acall B xf gf (k + 2)) n_ref01_Sum [.islc t f 1 (BL l)] (.int .i64 (crcMore 0 l)) := by
 have hm : FnV (acall B xf gf (k + 1)) n_ref01_More [.int .i64 0, .islc t f 1 (BL l)] (.int .i64 (crcMore 0 l)) := by
  refine fn_of B_ref01_More rfl ?_
  unfold ref01_More
  repeat' (first | refine qS ?_ | refine wo_cv32 (a := 0) rfl (by omega) rfl rfl ?_ | refine wo_not32 (a := 0) rfl (by omega) rfl rfl ?_ | refine qQ ?_ | refine q_cmp2 (fun _ => ?_) (fun _ => ?_))
  refine (ref_bytes (n := 4294967295) (l := l) (t := t) (f := f) (v0 := .int .i64 0) (by omega) hl hk ?_).mono ?_
  ·exact ⟨rfl, rfl, rfl, rfl, trivial⟩
  rintro ex T2 H2 ⟨rfl, rfl, h2⟩
  have hr : crcReg 4294967295 l < 4294967296 := crcReg_lt l (by omega)
  rw [Has.eq (T := T2) (ps := [(5, _)]) ⟨h2, trivial⟩]
  simp only [over]
  show W _ _
  repeat' (first | refine qS ?_ | refine wo_not32 rfl hr rfl rfl ?_ | refine qQ ?_ | refine q_cmp2 (fun _ => ?_) (fun _ => ?_))
  refine ⟨Or.inr rfl, _, rfl, ?_⟩
  show AV.int _ _ = AV.int _ _
  congr 1
  show ((4294967295 - crcReg 4294967295 l : Nat) : Int) = (4294967295 : Int) - (crcReg 4294967295 l : Nat)
  omega
 refine fn_of B_ref01_Sum rfl ?_
 unfold ref01_Sum
 repeat' (first | refine qS ?_ | refine wo_call hm rfl rfl rfl ?_ | refine qQb ?_ | fail)
 exact ⟨Or.inr rfl, _, rfl, rfl⟩
theorem e_ref_Good (k : Nat) (hk : 1000000 ≤ k) (t f : Bool) (l : List UInt8) (hl : l.length < 1000000) : FnV (acall B xf gf (k + 3)) n_ref01_Good [.islc t f 1 (BL l)] (.bool (goodP l)) := by
 by_cases h4 : 4 ≤ l.length
 ·have e : ((l.length : Int) - 4).toNat = l.length - 4 := by omega
  have ei : ((l.length : Int) - 4) = ((l.length - 4 : Nat) : Int) := by omega
  have hg := e_ref_Get4 (xf := xf) (gf := gf) k (by omega) t f l (l.length - 4) (by omega) hl
  rw [List.take_of_length_le (by simp; omega), ← ei] at hg
  have hs := fun f => e_ref_Sum (xf := xf) (gf := gf) k hk t f (l.take ((l.length : Int) - 4).toNat) (by simp; omega)
  refine fn_of B_ref01_Good rfl ?_
  unfold ref01_Good
  repeat' (first | refine qS ?_ | refine qN ?_ | refine wo_call hg rfl rfl rfl ?_ | refine wo_call (hs _) rfl rfl rfl ?_ | refine qQb ?_ | refine q_cmp2 (fun _ => ?_) (fun _ => ?_))
  all_goals (refine ⟨Or.inr rfl, _, rfl, ?_⟩; show AV.bool _ = AV.bool _; congr 1; symm; rename_i h; simp only [cmpP] at h; rw [e] at h)
  ·exact decide_eq_true ⟨h4, h⟩
  ·exact decide_eq_false (fun hh => h hh.2)
 ·refine fn_of B_ref01_Good rfl ?_
  unfold ref01_Good
  repeat' (first | refine qS ?_ | refine qN ?_ | refine qQb ?_ | refine q_cmp2 (fun _ => ?_) (fun _ => ?_))
  refine ⟨Or.inr rfl, _, rfl, ?_⟩
  show AV.bool _ = AV.bool _
  congr 1; symm
  exact decide_eq_false (fun hh => h4 hh.1)
theorem e_ref_Get8 (k : Nat) (hk : 9 < k) (t f : Bool) (l : List UInt8) (a : Nat) (ha : a + 8 ≤ l.length) (hl : l.length < 1000000) :
  FnV (acall B xf gf (k + 2)) n_ref01_Get8 [.islc t f 1 (BL l), .int .i64 a] (.tup [.int .i64 (getP l a 8).1, .bool (decide ((getP l a 8).2 = 0))]) := by
 have e : (l.drop (a : Int).toNat).take (((a : Int) + 8).toNat - (a : Int).toNat) = (l.drop a).take 8 := by
  rw [Int.toNat_natCast]
  congr 1
  omega
 have h := fun f => e_ref_Number (xf := xf) (gf := gf) k hk t f ((l.drop a).take 8) (by simp; omega)
 have hg : getP l a 8 = if leN ((l.drop a).take 8) ≤ 4611686018427387903 then ((leN ((l.drop a).take 8) : Int), 0) else (0, 1) := by
  unfold getP
  rw [if_pos ⟨by omega, by omega⟩, Int.toNat_natCast]
 by_cases hle : leN ((l.drop a).take 8) ≤ 4611686018427387903
 ·rw [if_pos hle] at hg
  simp only [if_pos hle] at h
  rw [hg]
  refine fn_of B_ref01_Get8 rfl ?_
  unfold ref01_Get8
  repeat' (first | refine qS ?_ | (refine wo_call (h _) rfl (by rw [← e]; rfl) rfl ?_) | refine qQb ?_ | fail)
  exact ⟨Or.inr rfl, _, rfl, rfl⟩
 ·rw [if_neg hle] at hg
  simp only [if_neg hle] at h
  rw [hg]
  refine fn_of B_ref01_Get8 rfl ?_
  unfold ref01_Get8
  repeat' (first | refine qS ?_ | (refine wo_call (h _) rfl (by rw [← e]; rfl) rfl ?_) | refine qQb ?_ | fail)
  exact ⟨Or.inr rfl, _, rfl, rfl⟩
end Go.Proofs.YtkaiiopoilpjeaaGreat
set_option linter.unusedSimpArgs false
set_option linter.unusedVariables false
set_option maxRecDepth 10000
set_option maxHeartbeats 16000000
namespace Go.Proofs.YtkaiiopoilpjeaaGreat
open Go.AI
attribute [local irreducible] aops aexec acall aiter aop W WO
theorem r_In (k : Nat) (hk : 1 ≤ k) (n lo hi : Int) : FnV (CF k) n_ref01_In [.int .i64 n, .int .i64 lo, .int .i64 hi] (.bool (inR n lo hi)) := by
 obtain ⟨j, rfl⟩ : ∃ j, k = j + 1 := ⟨k - 1, by omega⟩
 exact e_ref_In j n lo hi
theorem r_Id (k : Nat) (hk : 2 ≤ k) (n : Int) : FnV (CF k) n_ref01_Id [.int .i64 n] (.bool (inR n 1 4611686018427387903)) := by
 obtain ⟨j, rfl⟩ : ∃ j, k = j + 2 := ⟨k - 2, by omega⟩
 exact e_ref_Id j n
theorem r_in (k : Nat) (hk : 1 ≤ k) (n lo hi : Int) : FnV (CF k) n_ref10_in [.int .i64 n, .int .i64 lo, .int .i64 hi] (.bool (inR n lo hi)) := by
  refine fnk (by omega) B_ref10_in rfl ?_
  unfold ref10_in
  repeat' (first | refine qS ?_ | refine qN ?_ | refine qQb ?_ | refine q_cmp2 (fun _ => ?_) (fun _ => ?_))
  all_goals first
    | (refine ⟨Or.inr rfl, _, rfl, ?_⟩
       simp only [cmpP] at *
       show AV.bool _ = AV.bool _
       congr 1
       first
         | exact (inR_iff.2 (by omega)).symm
         | exact (inR_f.2 (by omega)).symm)
    | (exfalso; simp only [cmpP] at *; omega)
def linkP (n b : Nat) : Bool := decide (n = 0 ∨ 2 ≤ n ∧ n < b)
theorem r_link (k : Nat) (hk : 2 ≤ k) (n b : Nat) (hb : b < 4611686018427387904) : FnV (CF k) n_ref01_link [.int .i64 n, .int .i64 b] (.bool (linkP n b)) := by
 have hi := r_In (k - 1) (by omega) n 2 ((b : Int) - 1)
 refine fnk (by omega) B_ref01_link rfl ?_
 unfold ref01_link linkP
 by_cases h0 : n = 0
 ·have h0' : (n : Int) = 0 := by omega
  rw [decide_eq_true (.inl h0)]
  repeat' (first | refine qS ?_ | refine qN ?_ | refine q_call hi ?_ | refine qQb ?_ | refine q_cmp2 (fun _ => ?_) (fun _ => ?_))
  exact ⟨Or.inr rfl, _, rfl, rfl⟩
 ·have h0' : (n : Int) ≠ 0 := by omega
  have e : inR n 2 ((b : Int) - 1) = decide (n = 0 ∨ 2 ≤ n ∧ n < b) := by
   by_cases h : 2 ≤ n ∧ n < b
   ·rw [decide_eq_true (.inr h)]; exact inR_iff.2 (by omega)
   ·rw [decide_eq_false (fun hh => hh.elim h0 h)]; exact inR_f.2 (by omega)
  rw [e] at hi
  repeat' (first | refine qS ?_ | refine qN ?_ | refine q_call hi ?_ | refine qQb ?_ | refine q_cmp2 (fun _ => ?_) (fun _ => ?_))
  exact ⟨Or.inr rfl, _, rfl, rfl⟩
theorem r_Blocks (k : Nat) (hk : 2 ≤ k) (t f : Bool) (l : List UInt8) (hl : l.length < 1000000) : FnV (CF k) n_ref01_Blocks [.islc t f 1 (BL l)] (.tup [.int .i64 (l.length / 64 : Nat), .bool (decide (devB l.length))]) := by
 have hi := r_In (k - 1) (by omega) ((l.length : Int) / 64) 4 4096
 have hdv : ((l.length / 64 : Nat) : Int) = (l.length : Int) / 64 := by omega
 rw [hdv]
 refine fnk (by omega) B_ref01_Blocks rfl ?_
 unfold ref01_Blocks
 by_cases hm : l.length % 64 = 0
 ·have hm' : (l.length : Int) % 64 = 0 := by omega
  have e : inR ((l.length : Int) / 64) 4 4096 = decide (devB l.length) := by
   by_cases h : devB l.length
   ·rw [decide_eq_true h]; unfold devB at h; exact inR_iff.2 (by omega)
   ·rw [decide_eq_false h]; unfold devB at h; exact inR_f.2 (by omega)
  rw [e] at hi
  repeat' (first | refine qS ?_ | refine qN ?_ | refine q_call hi ?_ | refine qQ ?_ | refine q_cmp2 (fun _ => ?_) (fun _ => ?_))
  exact ⟨Or.inr rfl, _, rfl, rfl⟩
 ·have hm' : (l.length : Int) % 64 ≠ 0 := by omega
  rw [decide_eq_false (fun h : devB l.length => by unfold devB at h; omega)]
  repeat' (first | refine qS ?_ | refine qN ?_ | refine q_call hi ?_ | refine qQ ?_ | refine q_cmp2 (fun _ => ?_) (fun _ => ?_))
  exact ⟨Or.inr rfl, _, rfl, rfl⟩
theorem r_Super (k : Nat) (hk : 3 ≤ k) (s : Sup) (hs : s.gen < 4611686018427387904 ∧ s.blocks < 4611686018427387904 ∧ s.root < 4611686018427387904 ∧ s.size < 4611686018427387904 ∧ s.first < 4611686018427387904) : FnV (CF k) n_ref01_Super [s.av] (.bool (decide s.ok)) := by
 have hi := fun n lo hi => r_In (k - 1) (by omega) n lo hi
 have h1 := r_link (k - 1) (by omega) s.root s.blocks hs.2.1
 have h2 := r_link (k - 1) (by omega) s.first s.blocks hs.2.1
 have g1 := hi s.gen 1 1099511627776
 have g2 := hi s.blocks 4 4096
 have g3 := hi s.size 0 512
 obtain ⟨g, b, r, z, fi⟩ := s
 unfold Sup.av
 simp only at *
 have e : decide (Sup.ok ⟨g, b, r, z, fi⟩) = (inR g 1 1099511627776 && inR b 4 4096 && inR z 0 512 && linkP r b && linkP fi b) := by
  rw [Bool.eq_iff_iff, decide_eq_true_eq]
  unfold Sup.ok
  simp only [Bool.and_eq_true, inR_iff, linkP, decide_eq_true_eq]
  constructor
  ·rintro ⟨⟨h1, h2⟩, ⟨h3, h4⟩, h5, h6, h7⟩
   exact ⟨⟨⟨⟨⟨by omega, by omega⟩, by omega, by omega⟩, by omega, by omega⟩, h6⟩, h7⟩
  ·rintro ⟨⟨⟨⟨⟨h1, h2⟩, h3, h4⟩, h5, h6⟩, h7⟩, h8⟩
   exact ⟨⟨by omega, by omega⟩, ⟨by omega, by omega⟩, by omega, h7, h8⟩
 rw [e]
 refine fnk (by omega) B_ref01_Super rfl ?_
 unfold ref01_Super
 cases e1 : inR g 1 1099511627776 <;> cases e2 : inR b 4 4096 <;> cases e3 : inR z 0 512 <;> cases e4 : linkP r b <;> cases e5 : linkP fi b
 all_goals
  rw [e1] at g1
  rw [e2] at g2
  rw [e3] at g3
  rw [e4] at h1
  rw [e5] at h2
  repeat' (first | refine qS ?_ | refine qN ?_ | refine q_call g1 ?_ | refine q_call g2 ?_ | refine q_call g3 ?_ | refine q_call h1 ?_ | refine q_call h2 ?_ | refine qQb ?_ | fail)
  exact ⟨Or.inr rfl, _, rfl, rfl⟩
theorem r_Zeros (k : Nat) (hk : 1000001 ≤ k) (t f : Bool) (l : List UInt8) (a c : Nat) (hl : l.length < 1000000) (ha : a < 1000000) (hc : c < 1000000) : FnV (CF k) n_ref01_Zeros [.islc t f 1 (BL l), .int .i64 a, .int .i64 c] (.bool (zerosP l a c)) := by
 refine fnk (by omega) B_ref01_Zeros rfl ?_
 unfold ref01_Zeros
 repeat' (first | refine qS ?_ | refine qN ?_ | refine qQb ?_ | refine q_cmp2 (fun _ => ?_) (fun _ => ?_))
 refine W.mono (Q := fun ex T' H' => (ex = .ret ∧ zerosP l a c = false ∧ T' 6 = .bool false) ∨ (ex = .exit 0 ∧ zerosP l a c = true)) ?_ ?_
 ·refine w_for (min c l.length - a) (fun i T' H' => zerosP l a c = zerosP l (a + i) c ∧ Has T' [(0, .islc t f 1 (BL l)), (2, .int .i64 c), (7, .int .i64 ((a + i : Nat) : Int))]) ⟨rfl, rfl, rfl, by show AV.int _ _ = AV.int _ _; congr 1; omega, trivial⟩ (by omega) ?_
  rintro i T H hi ⟨hgo, hT⟩
  rw [hT.eq]
  simp only [over]
  by_cases hil : i < min c l.length - a
  ·have hd : (l.take c).drop (a + i) = bAt l ((a + i : Nat) : Int) :: (l.take c).drop (a + i + 1) := by
    rw [List.drop_eq_getElem_cons (by simp; omega)]
    congr 1
    simp only [bAt, Int.toNat_natCast]
    simp [show a + i < l.length by omega]
   have hz : zerosP l (a + i) c = ((bAt l ((a + i : Nat) : Int) == 0) && zerosP l (a + (i + 1)) c) := by
    unfold zerosP
    rw [hd, List.all_cons]
    rfl
   repeat' (first | refine qS ?_ | refine qN ?_ | refine qQb ?_ | refine q_cmp2 (fun _ => ?_) (fun _ => ?_))
   ·rename_i h
    simp only [cmpP] at h
    refine .inl ⟨rfl, ?_, rfl⟩
    rw [hgo, hz, Bool.and_eq_false_iff]
    refine .inl (beq_eq_false_iff_ne.2 fun hh => h ?_)
    rw [hh]; rfl
   ·rename_i h
    simp only [cmpP] at h
    refine ⟨hil, ?_, rfl, rfl, by show AV.int _ _ = AV.int _ _; congr 1, trivial⟩
    rw [hgo, hz]
    have : bAt l ((a + i : Nat) : Int) = 0 := UInt8.toNat_inj.1 (by have := Classical.not_not.1 h; simp at this ⊢; omega)
    rw [this]; rfl
  ·have hz : zerosP l (a + i) c = true := by
    unfold zerosP
    rw [List.drop_of_length_le (by simp; omega)]; rfl
   by_cases hac : a + i < c
   ·have hal : l.length ≤ a + i := by omega
    repeat' (first | refine qS ?_ | refine qN ?_ | refine qQb ?_ | refine q_cmp2 (fun _ => ?_) (fun _ => ?_))
    exact .inr ⟨rfl, by rw [hgo, hz]⟩
   ·skip
    repeat' (first | refine qS ?_ | refine qN ?_ | refine qQb ?_ | refine q_cmp2 (fun _ => ?_) (fun _ => ?_))
    exact .inr ⟨rfl, by rw [hgo, hz]⟩
 rintro ex T2 H2 (⟨rfl, h1, h2⟩ | ⟨rfl, h1⟩)
 ·refine ⟨Or.inr rfl, _, rfl, ?_⟩
  show fz true 6 H2 (T2 6) = _
  rw [h2, h1]; rfl
 ·rw [h1]
  show W _ _
  repeat' (first | refine qS ?_ | refine qN ?_ | refine qQb ?_ | refine q_cmp2 (fun _ => ?_) (fun _ => ?_))
  exact ⟨Or.inr rfl, _, rfl, rfl⟩
theorem r_has (k : Nat) (hk : 1000001 ≤ k) (t f : Bool) (s : Nat) (l : List Nat) (a : Nat) (hl : l.length < 1000000) (hs : s = 1 ∨ l = []) : FnV (CF k) n_ref10_has [.islc t f s (NL l), .int .i64 a] (.bool (l.any (a == ·))) := by
 refine fnk (by omega) B_ref10_has rfl ?_
 unfold ref10_has
 repeat' (first | refine qQb ?_ | refine q_cmp2 (fun _ => ?_) (fun _ => ?_))
 refine W.mono (Q := fun ex T' H' => (ex = .ret ∧ l.any (a == ·) = true ∧ T' 4 = .bool true) ∨ (ex = .exit 0 ∧ l.any (a == ·) = false)) ?_ ?_
 ·refine w_for l.length (fun i T' H' => l.any (a == ·) = (l.drop i).any (a == ·) ∧ Has T' [(0, .islc t f s (NL l)), (1, .int .i64 a), (5, .int .i64 (i : Nat))]) ⟨rfl, rfl, rfl, rfl, trivial⟩ (by omega) ?_
  rintro i T H hi ⟨hgo, hT⟩
  rw [hT.eq]
  simp only [over]
  by_cases hil : i < l.length
  ·obtain rfl : s = 1 := hs.resolve_right (fun h => by rw [h] at hil; simp at hil)
   obtain ⟨b, hb⟩ : ∃ b, b = l.getD i default := ⟨_, rfl⟩
   rw [drop_getD hil, List.any_cons, ← hb] at hgo
   by_cases hab : b = a
   ·have hab' : (b : Int) = a := by omega
    repeat' (first | refine qS ?_ | refine wo_lenG (n := l.length) rfl (NL_len _) rfl rfl ?_ | refine wo_atV (enc := nav) b rfl rfl (by omega) (by omega) hb.symm rfl rfl ?_ | refine qQb ?_ | refine q_cmp2 (fun _ => ?_) (fun _ => ?_))
    exact .inl ⟨rfl, by rw [hgo, hab]; simp, rfl⟩
   ·have hab' : (b : Int) ≠ a := by omega
    repeat' (first | refine qS ?_ | refine wo_lenG (n := l.length) rfl (NL_len _) rfl rfl ?_ | refine wo_atV (enc := nav) b rfl rfl (by omega) (by omega) hb.symm rfl rfl ?_ | refine qQb ?_ | refine q_cmp2 (fun _ => ?_) (fun _ => ?_))
    exact ⟨hil, by rw [hgo]; simp [show a ≠ b from fun h => hab h.symm], rfl, rfl, by show AV.int _ _ = AV.int _ _; congr 1, trivial⟩
  ·have hin : i = l.length := by omega
   repeat' (first | refine qS ?_ | refine wo_lenG (n := l.length) rfl (NL_len _) rfl rfl ?_ | refine qQb ?_ | refine q_cmp2 (fun _ => ?_) (fun _ => ?_))
   exact .inr ⟨rfl, by rw [hgo, hin, List.drop_length]; rfl⟩
 rintro ex T2 H2 (⟨rfl, h1, h2⟩ | ⟨rfl, h1⟩)
 ·refine ⟨Or.inr rfl, _, rfl, ?_⟩
  show fz true 6 H2 (T2 4) = _
  rw [h2, h1]; rfl
 ·rw [h1]
  show W _ _
  repeat' (first | refine qQb ?_ | refine q_cmp2 (fun _ => ?_) (fun _ => ?_))
  exact ⟨Or.inr rfl, _, rfl, rfl⟩
def openP (b m : List UInt8) : Int := if b.length ≠ 64 then 2 else if b.take 4 ≠ m then 4 else if goodP b = false then 5 else 0
theorem r_open (k : Nat) (hk : 1000010 ≤ k) (t f : Bool) (b m : List UInt8) (hb : b.length < 1000000) : FnV (CF k) n_ref01_open [.islc t f 1 (BL b), strV m] (.int .i64 (openP b m)) := by
 have hg : FnV (CF (k - 1)) n_ref01_Good [.islc t f 1 (BL b)] (.bool (goodP b)) := by
  obtain ⟨j, hj⟩ : ∃ j, k - 1 = j + 3 := ⟨k - 4, by omega⟩
  rw [hj]
  exact e_ref_Good j (by omega) t f b hb
 have hlb : (BL b).length = b.length := by simp
 refine fnk (by omega) B_ref01_open rfl ?_
 unfold ref01_open openP
 by_cases h1 : b.length = 64
 ·rw [if_neg (by omega)]
  by_cases h2 : b.take 4 = m
  ·rw [if_neg (fun h => h h2)]
   subst h2
   cases h3 : goodP b with
   | true =>
    rw [h3] at hg
    rw [if_neg (by decide)]
    repeat' (first
     | refine qS ?_ | refine q_call hg ?_ | refine wo_sliceG (n := b.length) (a := 0) (b := 4) rfl (.inl rfl) hlb rfl (optNn rfl) (Nat.zero_le _) (by omega) rfl rfl ?_
     | refine wo_b2s (l := b.take 4) (by show AV.islc _ _ _ (((BL b).drop 0).take (4 - 0)) = _; rw [List.drop_zero, BL_take]) (.inl rfl) rfl rfl ?_
     | refine wo_strneF rfl rfl rfl rfl rfl ?_ | refine qQb ?_ | refine q_cmp2 (fun _ => ?_) (fun _ => ?_))
    exact ⟨Or.inr rfl, _, rfl, rfl⟩
   | false =>
    rw [h3] at hg
    rw [if_pos rfl]
    repeat' (first
     | refine qS ?_ | refine q_call hg ?_ | refine wo_sliceG (n := b.length) (a := 0) (b := 4) rfl (.inl rfl) hlb rfl (optNn rfl) (Nat.zero_le _) (by omega) rfl rfl ?_
     | refine wo_b2s (l := b.take 4) (by show AV.islc _ _ _ (((BL b).drop 0).take (4 - 0)) = _; rw [List.drop_zero, BL_take]) (.inl rfl) rfl rfl ?_
     | refine wo_strneF rfl rfl rfl rfl rfl ?_ | refine qQb ?_ | refine q_cmp2 (fun _ => ?_) (fun _ => ?_))
    exact ⟨Or.inr rfl, _, rfl, rfl⟩
  ·rw [if_pos h2]
   repeat' (first
    | refine qS ?_ | refine q_call hg ?_ | refine wo_sliceG (n := b.length) (a := 0) (b := 4) rfl (.inl rfl) hlb rfl (optNn rfl) (Nat.zero_le _) (by omega) rfl rfl ?_
    | refine wo_b2s (l := b.take 4) (by show AV.islc _ _ _ (((BL b).drop 0).take (4 - 0)) = _; rw [List.drop_zero, BL_take]) (.inl rfl) rfl rfl ?_ | refine wo_strne rfl rfl h2 rfl rfl ?_
    | refine qQb ?_ | refine q_cmp2 (fun _ => ?_) (fun _ => ?_))
   exact ⟨Or.inr rfl, _, rfl, rfl⟩
 ·rw [if_pos h1]
  have h1' : (b.length : Int) ≠ 64 := by omega
  repeat' (first | refine qQb ?_ | refine q_cmp2 (fun _ => ?_) (fun _ => ?_))
  exact ⟨Or.inr rfl, _, rfl, rfl⟩
theorem r_Record (k : Nat) (hk : 4 ≤ k) (r : Rec) : FnV (CF k) n_ref01_Record [r.av] (.bool (decide r.ok)) := by
 obtain ⟨nx, id, pa, ro, sz, kd, fr, dg⟩ := r
 have l1 := r_link (k - 1) (by omega) nx 4096 (by decide)
 have l2 := r_link (k - 1) (by omega) ro 4096 (by decide)
 have i1 := r_Id (k - 1) (by omega) (id : Int)
 have i2 := r_Id (k - 1) (by omega) (pa : Int)
 have n1 := r_In (k - 1) (by omega) (sz : Int) 0 512
 have n2 := r_In (k - 1) (by omega) (fr : Int) 1 65535
 have n3 := r_In (k - 1) (by omega) (dg : Int) 0 4294967295
 have hok : Rec.ok ⟨nx, id, pa, ro, sz, kd, fr, dg⟩ ↔ (linkP nx 4096 = true ∧ linkP ro 4096 = true ∧ inR id 1 4611686018427387903 = true ∧ (pa = 0 ∨ inR pa 1 4611686018427387903 = true) ∧ pa ≠ id ∧ inR sz 0 512 = true ∧ (kd = 0 ∧ fr = 0 ∧ dg = 0 ∨ kd = 1 ∧ inR fr 1 65535 = true ∧ inR dg 0 4294967295 = true)) := by
  unfold Rec.ok ptrOk idsOk linkP
  simp only [inR_iff, decide_eq_true_eq]
  omega
 unfold Rec.av
 simp only
 refine fnk (by omega) B_ref01_Record rfl ?_
 unfold ref01_Record
 cases e1 : linkP nx 4096 with
 | false =>
  rw [e1] at l1
  rw [decide_eq_false (fun h => by have := (hok.1 h).1; rw [e1] at this; cases this)]
  repeat' (first | refine qS ?_ | refine qN ?_ | refine q_call l1 ?_ | refine qQb ?_ | refine q_cmp2 (fun _ => ?_) (fun _ => ?_))
  exact ⟨Or.inr rfl, _, rfl, rfl⟩
 | true =>
  rw [e1] at l1
  cases e2 : linkP ro 4096 with
  | false =>
   rw [e2] at l2
   rw [decide_eq_false (fun h => by have := (hok.1 h).2.1; rw [e2] at this; cases this)]
   repeat' (first | refine qS ?_ | refine qN ?_ | refine q_call l1 ?_ | refine q_call l2 ?_ | refine qQb ?_ | refine q_cmp2 (fun _ => ?_) (fun _ => ?_))
   exact ⟨Or.inr rfl, _, rfl, rfl⟩
  | true =>
   rw [e2] at l2
   cases e3 : inR id 1 4611686018427387903 with
   | false =>
    rw [e3] at i1
    rw [decide_eq_false (fun h => by have := (hok.1 h).2.2.1; rw [e3] at this; cases this)]
    repeat' (first | refine qS ?_ | refine qN ?_ | refine q_call l1 ?_ | refine q_call l2 ?_ | refine q_call i1 ?_ | refine qQb ?_ | refine q_cmp2 (fun _ => ?_) (fun _ => ?_))
    exact ⟨Or.inr rfl, _, rfl, rfl⟩
   | true =>
    rw [e3] at i1
    have hid := inR_iff.1 e3
    by_cases hp : pa = 0 ∨ inR pa 1 4611686018427387903 = true
    ·by_cases hpi : pa = id
     ·rw [decide_eq_false (fun h => (hok.1 h).2.2.2.2.1 hpi)]
      have hp0 : (pa : Int) ≠ 0 := by omega
      have hpi' : (pa : Int) = id := by omega
      rw [hp.resolve_left (by omega)] at i2
      repeat' (first | refine qS ?_ | refine qN ?_ | refine q_call l1 ?_ | refine q_call l2 ?_ | refine q_call i1 ?_ | refine q_call i2 ?_ | refine qQb ?_ | refine q_cmp2 (fun _ => ?_) (fun _ => ?_))
      exact ⟨Or.inr rfl, _, rfl, rfl⟩
     ·have hpi' : (pa : Int) ≠ id := by omega
      cases e5 : inR sz 0 512 with
      | false =>
       rw [e5] at n1
       rw [decide_eq_false (fun h => by have := (hok.1 h).2.2.2.2.2.1; rw [e5] at this; cases this)]
       by_cases hp0 : pa = 0
       ·have hp0' : (pa : Int) = 0 := by omega
        repeat' (first | refine qS ?_ | refine qN ?_ | refine q_call l1 ?_ | refine q_call l2 ?_ | refine q_call i1 ?_ | refine q_call n1 ?_ | refine qQb ?_ | refine q_cmp2 (fun _ => ?_) (fun _ => ?_))
        exact ⟨Or.inr rfl, _, rfl, rfl⟩
       ·have hp0' : (pa : Int) ≠ 0 := by omega
        rw [hp.resolve_left hp0] at i2
        repeat' (first | refine qS ?_ | refine qN ?_ | refine q_call l1 ?_ | refine q_call l2 ?_ | refine q_call i1 ?_ | refine q_call i2 ?_ | refine q_call n1 ?_ | refine qQb ?_ | refine q_cmp2 (fun _ => ?_) (fun _ => ?_))
        exact ⟨Or.inr rfl, _, rfl, rfl⟩
      | true =>
       rw [e5] at n1
       have hdec : decide (Rec.ok ⟨nx, id, pa, ro, sz, kd, fr, dg⟩) = decide (kd = 0 ∧ fr = 0 ∧ dg = 0 ∨ kd = 1 ∧ inR fr 1 65535 = true ∧ inR dg 0 4294967295 = true) := by
        rw [Bool.eq_iff_iff, decide_eq_true_eq, decide_eq_true_eq, hok]
        exact ⟨fun h => h.2.2.2.2.2.2, fun h => ⟨e1, e2, e3, hp, hpi, e5, h⟩⟩
       rw [hdec]
       have hkk : kd = 0 ∨ kd = 1 ∨ 2 ≤ kd := by omega
       by_cases hp0 : (pa : Int) = 0
       rotate_left 1
       rw [hp.resolve_left (by omega)] at i2
       all_goals
        rcases hkk with hk0 | hk1 | hk2
        ·have hk0' : (kd : Int) = 0 := by omega
         by_cases hf : fr = 0
         ·have hf' : (fr : Int) = 0 := by omega
          by_cases hd : dg = 0
          ·have hd' : (dg : Int) = 0 := by omega
           rw [decide_eq_true (.inl ⟨hk0, hf, hd⟩)]
           repeat' (first
            | refine qS ?_ | refine qN ?_ | refine q_call l1 ?_ | refine q_call l2 ?_ | refine q_call i1 ?_ | refine q_call i2 ?_ | refine q_call n1 ?_ | refine q_call n2 ?_
            | refine q_call n3 ?_ | refine qQb ?_ | refine q_cmp2 (fun _ => ?_) (fun _ => ?_))
           exact ⟨Or.inr rfl, _, rfl, rfl⟩
          ·have hd' : (dg : Int) ≠ 0 := by omega
           rw [decide_eq_false (fun h => h.elim (fun h => hd h.2.2) (fun h => by omega))]
           repeat' (first
            | refine qS ?_ | refine qN ?_ | refine q_call l1 ?_ | refine q_call l2 ?_ | refine q_call i1 ?_ | refine q_call i2 ?_ | refine q_call n1 ?_ | refine q_call n2 ?_
            | refine q_call n3 ?_ | refine qQb ?_ | refine q_cmp2 (fun _ => ?_) (fun _ => ?_))
           exact ⟨Or.inr rfl, _, rfl, rfl⟩
         ·have hf' : (fr : Int) ≠ 0 := by omega
          rw [decide_eq_false (fun h => h.elim (fun h => hf h.2.1) (fun h => by omega))]
          repeat' (first
           | refine qS ?_ | refine qN ?_ | refine q_call l1 ?_ | refine q_call l2 ?_ | refine q_call i1 ?_ | refine q_call i2 ?_ | refine q_call n1 ?_ | refine q_call n2 ?_
           | refine q_call n3 ?_ | refine qQb ?_ | refine q_cmp2 (fun _ => ?_) (fun _ => ?_))
          exact ⟨Or.inr rfl, _, rfl, rfl⟩
        ·have hk1' : (kd : Int) = 1 := by omega
         cases e6 : inR fr 1 65535 with
         | false =>
          rw [e6] at n2
          rw [decide_eq_false (fun h => h.elim (fun h => by omega) (fun h => by cases h.2.1))]
          repeat' (first
           | refine qS ?_ | refine qN ?_ | refine q_call l1 ?_ | refine q_call l2 ?_ | refine q_call i1 ?_ | refine q_call i2 ?_ | refine q_call n1 ?_ | refine q_call n2 ?_
           | refine q_call n3 ?_ | refine qQb ?_ | refine q_cmp2 (fun _ => ?_) (fun _ => ?_))
          exact ⟨Or.inr rfl, _, rfl, rfl⟩
         | true =>
          rw [e6] at n2
          cases e7 : inR dg 0 4294967295 with
          | false =>
           rw [e7] at n3
           rw [decide_eq_false (fun h => h.elim (fun h => by omega) (fun h => by cases h.2.2))]
           repeat' (first
            | refine qS ?_ | refine qN ?_ | refine q_call l1 ?_ | refine q_call l2 ?_ | refine q_call i1 ?_ | refine q_call i2 ?_ | refine q_call n1 ?_ | refine q_call n2 ?_
            | refine q_call n3 ?_ | refine qQb ?_ | refine q_cmp2 (fun _ => ?_) (fun _ => ?_))
           exact ⟨Or.inr rfl, _, rfl, rfl⟩
          | true =>
           rw [e7] at n3
           rw [decide_eq_true (.inr ⟨hk1, rfl, rfl⟩)]
           repeat' (first
            | refine qS ?_ | refine qN ?_ | refine q_call l1 ?_ | refine q_call l2 ?_ | refine q_call i1 ?_ | refine q_call i2 ?_ | refine q_call n1 ?_ | refine q_call n2 ?_
            | refine q_call n3 ?_ | refine qQb ?_ | refine q_cmp2 (fun _ => ?_) (fun _ => ?_))
           exact ⟨Or.inr rfl, _, rfl, rfl⟩
        ·have hk2' : (2 : Int) ≤ kd := by omega
         rw [decide_eq_false (fun h => h.elim (fun h => by omega) (fun h => by omega))]
         repeat' (first
          | refine qS ?_ | refine qN ?_ | refine q_call l1 ?_ | refine q_call l2 ?_ | refine q_call i1 ?_ | refine q_call i2 ?_ | refine q_call n1 ?_ | refine q_call n2 ?_
          | refine q_call n3 ?_ | refine qQb ?_ | refine q_cmp2 (fun _ => ?_) (fun _ => ?_))
         exact ⟨Or.inr rfl, _, rfl, rfl⟩
    ·rw [decide_eq_false (fun h => hp (hok.1 h).2.2.2.1)]
     have hp0 : (pa : Int) ≠ 0 := fun h => hp (.inl (by omega))
     have hpf : inR pa 1 4611686018427387903 = false := by
      cases h : inR pa 1 4611686018427387903 with
      | false => rfl
      | true => exact absurd (.inr h) hp
     rw [hpf] at i2
     repeat' (first | refine qS ?_ | refine qN ?_ | refine q_call l1 ?_ | refine q_call l2 ?_ | refine q_call i1 ?_ | refine q_call i2 ?_ | refine qQb ?_ | refine q_cmp2 (fun _ => ?_) (fun _ => ?_))
     exact ⟨Or.inr rfl, _, rfl, rfl⟩
end Go.Proofs.YtkaiiopoilpjeaaGreat
