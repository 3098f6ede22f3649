/- The document's answers: numbers in bytes. -/
import Derived.Test.YtoanjhiojpgioaaP5
import Derived.Test.YtoanjhiojpgioaaA27
set_option linter.unusedSimpArgs false
set_option linter.unusedVariables false
set_option maxRecDepth 10000
set_option maxHeartbeats 16000000
namespace Go.Proofs.Ytoanjhiojpgioaa
open Go.AI
attribute [local irreducible] aops aexec acall aiter aop W WO

variable {xf : ExtF} {gf : CallF}

theorem e_ref_In (k : Nat) (n lo hi : Int) : FnV (acall B xf gf (k + 1)) n_ref01_In [.int .i64 n, .int .i64 lo, .int .i64 hi] (.bool (inR n lo hi)) := by
  refine fn_of B_ref01_In rfl ?_
  unfold ref01_In
  repeat' (first
   | refine wo_nil ?_
   | refine w_seq ?_
   | refine w_region ?_
   | refine w_ret ?_
   | refine w_skip ?_
   | refine w_exit ?_
   | refine w_block ?_
   | refine w_true rfl ?_
   | refine w_false rfl ?_
   | refine wo_n rfl ?_
   | refine wo_nn rfl ?_
   | refine wo_mv _ (by conv => lhs; whnf) rfl rfl ?_
   | (refine is_bin ?_; first | refine wo_cmpT rfl rfl rfl (by first | (simp only [cmpP]; done) | (simp only [cmpP]; omega)) rfl rfl ?_ | refine wo_cmpF rfl rfl rfl (by first | (simp only [cmpP]; done) | (simp only [cmpP]; omega)) rfl rfl ?_ | refine wo_cmp rfl rfl rfl rfl rfl (fun _ => ?_) (fun _ => ?_))
   | (refine is_pick ?_; first | refine wo_pickT _ rfl (by conv => lhs; whnf) rfl rfl ?_ | refine wo_pickF _ rfl (by conv => lhs; whnf) rfl rfl ?_))
  all_goals (refine ⟨Or.inr rfl, _, rfl, ?_⟩; show AV.bool _ = AV.bool _; congr 1; symm; simp only [cmpP] at *)
  all_goals first
    | exact inR_iff.2 (by omega)
    | (rw [Bool.eq_false_iff]; intro h; rw [inR_iff] at h; omega)

theorem e_ref_Id (k : Nat) (n : Int) : FnV (acall B xf gf (k + 2)) n_ref01_Id [.int .i64 n] (.bool (inR n 1 4611686018427387903)) := by
  have h := e_ref_In (xf := xf) (gf := gf) k n 1 4611686018427387903
  refine fn_of B_ref01_Id rfl ?_
  unfold ref01_Id
  repeat' (first
   | refine wo_nil ?_
   | refine w_seq ?_
   | refine w_region ?_
   | refine w_ret ?_
   | refine w_skip ?_
   | refine w_exit ?_
   | refine w_block ?_
   | refine w_true rfl ?_
   | refine w_false rfl ?_
   | refine wo_n rfl ?_
   | refine wo_nn rfl ?_
   | refine wo_call h rfl rfl rfl ?_
   | refine wo_mv _ (by conv => lhs; whnf) rfl rfl ?_)
  exact ⟨Or.inr rfl, _, rfl, rfl⟩

/-- So many sectors from one on? -/
def runP (a c : Int) : Bool := inR a 0 512 && inR c 1 512 && decide (a + c ≤ 512)

theorem e_ref_run (k : Nat) (a c : Int) : FnV (acall B xf gf (k + 2)) n_ref01_run [.int .i64 a, .int .i64 c] (.bool (runP a c)) := by
  have h1 := e_ref_In (xf := xf) (gf := gf) k a 0 512
  have h2 := e_ref_In (xf := xf) (gf := gf) k c 1 512
  unfold runP
  cases e1 : inR a 0 512 with
  | false =>
    rw [e1] at h1
    refine fn_of B_ref01_run rfl ?_
    unfold ref01_run
    repeat' (first
     | refine wo_nil ?_
     | refine w_seq ?_
     | refine w_region ?_
     | refine w_ret ?_
     | refine w_skip ?_
     | refine w_exit ?_
     | refine w_block ?_
     | refine w_true rfl ?_
     | refine w_false rfl ?_
     | refine wo_n rfl ?_
     | refine wo_nn rfl ?_
     | refine wo_call h1 rfl rfl rfl ?_
     | refine wo_mv _ (by conv => lhs; whnf) rfl rfl ?_
     | (refine is_bin ?_; first | refine wo_cmpT rfl rfl rfl (by first | (simp only [cmpP]; done) | (simp only [cmpP]; omega)) rfl rfl ?_ | refine wo_cmpF rfl rfl rfl (by first | (simp only [cmpP]; done) | (simp only [cmpP]; omega)) rfl rfl ?_ | refine wo_cmp rfl rfl rfl rfl rfl (fun _ => ?_) (fun _ => ?_) | refine wo_add rfl rfl (by omega) rfl rfl ?_)
     | (refine is_pick ?_; first | refine wo_pickT _ rfl (by conv => lhs; whnf) rfl rfl ?_ | refine wo_pickF _ rfl (by conv => lhs; whnf) rfl rfl ?_))
    exact ⟨Or.inr rfl, _, rfl, rfl⟩
  | true =>
    rw [e1] at h1
    cases e2 : inR c 1 512 with
    | false =>
      rw [e2] at h2
      refine fn_of B_ref01_run rfl ?_
      unfold ref01_run
      repeat' (first
       | refine wo_nil ?_
       | refine w_seq ?_
       | refine w_region ?_
       | refine w_ret ?_
       | refine w_skip ?_
       | refine w_exit ?_
       | refine w_block ?_
       | refine w_true rfl ?_
       | refine w_false rfl ?_
       | refine wo_n rfl ?_
       | refine wo_nn rfl ?_
       | refine wo_call h1 rfl rfl rfl ?_
       | refine wo_call h2 rfl rfl rfl ?_
       | refine wo_mv _ (by conv => lhs; whnf) rfl rfl ?_
       | (refine is_bin ?_; first | refine wo_cmpT rfl rfl rfl (by first | (simp only [cmpP]; done) | (simp only [cmpP]; omega)) rfl rfl ?_ | refine wo_cmpF rfl rfl rfl (by first | (simp only [cmpP]; done) | (simp only [cmpP]; omega)) rfl rfl ?_ | refine wo_cmp rfl rfl rfl rfl rfl (fun _ => ?_) (fun _ => ?_) | refine wo_add rfl rfl (by omega) rfl rfl ?_)
       | (refine is_pick ?_; first | refine wo_pickT _ rfl (by conv => lhs; whnf) rfl rfl ?_ | refine wo_pickF _ rfl (by conv => lhs; whnf) rfl rfl ?_))
      exact ⟨Or.inr rfl, _, rfl, rfl⟩
    | true =>
      rw [e2] at h2
      have b1 := inR_iff.1 e1
      have b2 := inR_iff.1 e2
      refine fn_of B_ref01_run rfl ?_
      unfold ref01_run
      repeat' (first
       | refine wo_nil ?_
       | refine w_seq ?_
       | refine w_region ?_
       | refine w_ret ?_
       | refine w_skip ?_
       | refine w_exit ?_
       | refine w_block ?_
       | refine w_true rfl ?_
       | refine w_false rfl ?_
       | refine wo_n rfl ?_
       | refine wo_nn rfl ?_
       | refine wo_call h1 rfl rfl rfl ?_
       | refine wo_call h2 rfl rfl rfl ?_
       | refine wo_mv _ (by conv => lhs; whnf) rfl rfl ?_
       | (refine is_bin ?_; first | refine wo_cmpT rfl rfl rfl (by first | (simp only [cmpP]; done) | (simp only [cmpP]; omega)) rfl rfl ?_ | refine wo_cmpF rfl rfl rfl (by first | (simp only [cmpP]; done) | (simp only [cmpP]; omega)) rfl rfl ?_ | refine wo_cmp rfl rfl rfl rfl rfl (fun _ => ?_) (fun _ => ?_) | refine wo_add rfl rfl (by omega) rfl rfl ?_)
       | (refine is_pick ?_; first | refine wo_pickT _ rfl (by conv => lhs; whnf) rfl rfl ?_ | refine wo_pickF _ rfl (by conv => lhs; whnf) rfl rfl ?_))
      all_goals (refine ⟨Or.inr rfl, _, rfl, ?_⟩; show AV.bool _ = AV.bool _; congr 1; rename_i h; simp only [cmpP] at h)
      · rw [decide_eq_true h]; rfl
      · rw [decide_eq_false h]; rfl

section
variable {cf : CallF} {base fuel : Nat} {T : Tmps} {H : Heap} {QO : Tmps → Heap → Prop} {log : List FP} {g : Option (Nat × Bool)} {un : List Nat} {r : List SOper} {d : Nat}
attribute [local semireducible] aop WO aops
theorem wo_quo {x y : SArg} {a b : Int} (hx : x.ev T = .int .i64 a) (hy : y.ev T = .int .i64 b) (ha : 0 ≤ a ∧ a ≤ 9223372036854775807) (hb : 0 < b) (hw : awanted T g = some true) (hl : logOk log .z un = true)
    (h : WO (aops cf xf base r (log ++ [.z]) (T.upd d (.int .i64 (a / b))) H) QO) : WO (aops cf xf base (⟨some d, .bin .quo x y, g, un⟩ :: r) log T H) QO :=
  wo_step (v := .int .i64 (a / b)) hw (by
    have h0 : b ≠ 0 := by omega
    have h1 : a.tdiv b = a / b := Int.tdiv_eq_ediv_of_nonneg ha.1
    have h2 : 0 ≤ a / b := Int.ediv_nonneg ha.1 (by omega)
    have h3 : a / b ≤ a := Int.ediv_le_self _ ha.1
    simp only [aop, hx, hy, abin, ne_eq, not_true_eq_false, if_false, h0, h1, Option.bind_some, rv]
    rw [IntWalk.i64_in _ ⟨by omega, by omega⟩]) hl h
theorem wo_quo32 {x y : SArg} {a b : Int} (hx : x.ev T = .int .u32 a) (hy : y.ev T = .int .u32 b) (ha : 0 ≤ a ∧ a ≤ 4294967295) (hb : 0 < b) (hw : awanted T g = some true) (hl : logOk log .z un = true)
    (h : WO (aops cf xf base r (log ++ [.z]) (T.upd d (.int .u32 (a / b))) H) QO) : WO (aops cf xf base (⟨some d, .bin .quo x y, g, un⟩ :: r) log T H) QO :=
  wo_step (v := .int .u32 (a / b)) hw (by
    have h0 : b ≠ 0 := by omega
    have h1 : a.tdiv b = a / b := Int.tdiv_eq_ediv_of_nonneg ha.1
    have h2 : 0 ≤ a / b := Int.ediv_nonneg ha.1 (by omega)
    have h3 : a / b ≤ a := Int.ediv_le_self _ ha.1
    simp only [aop, hx, hy, abin, ne_eq, not_true_eq_false, if_false, h0, h1, Option.bind_some, rv]
    rw [IntWalk.u32_in _ ⟨by omega, by omega⟩]) hl h
end

theorem ref_Bytes_loop {cf : CallF} {fuel : Nat} {T : Tmps} {H : Heap} {n : Int} {s : Nat} (hn : 0 ≤ n ∧ n ≤ 9223372036854775807) (hs : s ≤ 8) (hk : 8 < fuel) (hH : H 1 = ⟨1, false, .row 1 []⟩)
    (hT : Has T [(0, .int .i64 s), (1, .int .i64 n), (5, .slc 1 1 0 1 0 0 .none), (6, .int .i64 0)]) :
    W (aexec cf xf 0 fuel (.loop ref01_Bytes_l0) T H) (fun ex T' H' => ex = .exit 0 ∧ H' 1 = ⟨1, false, .row 1 (BL (leB s n))⟩ ∧ T' 5 = .slc 1 1 s 1 0 s .none) := by
  refine w_loop (fun m T' H' => m ≤ s ∧ H' 1 = ⟨1, false, .row 1 (BL (leB (s - m) n))⟩ ∧ Has T' [(0, .int .i64 s), (1, .int .i64 (n / 2 ^ (8 * (s - m)))), (5, .slc 1 1 (s - m) 1 0 (s - m) .none), (6, .int .i64 ((s - m : Nat) : Int))])
    s ⟨Nat.le_refl _, by rw [hH, Nat.sub_self]; rfl, ?_⟩ (by omega) ?_
  · obtain ⟨h0, h1, h2, h3, _⟩ := hT
    exact ⟨h0, by rw [h1]; simp, by rw [h2]; simp, by rw [h3]; simp, trivial⟩
  rintro m T H hm ⟨_, hH, hT⟩
  obtain ⟨i, hi⟩ : ∃ i, i = s - m := ⟨_, rfl⟩
  rw [← hi] at hT hH
  have hq0 : 0 ≤ n / 2 ^ (8 * i) := Int.ediv_nonneg hn.1 (Int.pow_nonneg (by decide))
  have hq1 : n / 2 ^ (8 * i) ≤ n := Int.ediv_le_self _ hn.1
  by_cases hm0 : m = 0
  · have his : i = s := by omega
    rw [hT.eq]
    simp only [over]
    unfold ref01_Bytes_l0
    repeat' (first
     | refine wo_nil ?_
     | refine w_seq ?_
     | refine w_region ?_
     | refine w_ret ?_
     | refine w_skip ?_
     | refine w_exit ?_
     | refine w_block ?_
     | refine w_true rfl ?_
     | refine w_false rfl ?_
     | refine wo_n rfl ?_
     | refine wo_nn rfl ?_
     | refine wo_mv _ (by conv => lhs; whnf) rfl rfl ?_
     | (refine is_bin ?_; first | refine wo_cmpT rfl rfl rfl (by first | (simp only [cmpP]; done) | (simp only [cmpP]; omega)) rfl rfl ?_ | refine wo_cmpF rfl rfl rfl (by first | (simp only [cmpP]; done) | (simp only [cmpP]; omega)) rfl rfl ?_ | refine wo_cmp rfl rfl rfl rfl rfl (fun _ => ?_) (fun _ => ?_) | refine wo_add rfl rfl (by omega) rfl rfl ?_ | refine wo_rem rfl rfl (by omega) (by omega) rfl rfl ?_ | refine wo_bin (.int _ _) rfl rfl rfl ?_)
     | refine wo_cvi rfl rfl rfl ?_
     | refine wo_buildS rfl rfl rfl rfl ?_
     | refine wo_app rfl rfl (by (first | exact Or.inl rfl | exact Or.inr rfl | assumption)) (by (first | rfl | exact Heap.upd_same _ _ _)) (by (first | rfl | (simp; done) | (simp; omega))) (by (first | omega | (simp; omega))) rfl rfl (fun _ => ?_))
    exact ⟨rfl, by rw [hH, his], by rw [his]; rfl⟩
  rw [hT.eq]
  simp only [over]
  have hb := leAt_toNat n i
  have he : AV.int .u8 (n / 2 ^ (8 * i) % 256 % 256) = u8 (leAt n i) := by
    unfold u8
    rw [hb]
    congr 1
    omega
  unfold ref01_Bytes_l0
  repeat' (first
   | refine wo_nil ?_
   | refine w_seq ?_
   | refine w_region ?_
   | refine w_ret ?_
   | refine w_skip ?_
   | refine w_exit ?_
   | refine w_block ?_
   | refine w_true rfl ?_
   | refine w_false rfl ?_
   | refine wo_n rfl ?_
   | refine wo_nn rfl ?_
   | refine wo_cvu8 rfl rfl rfl ?_
   | refine wo_appI rfl rfl rfl hH (by simp) rfl (by omega) rfl rfl (fun _ => ?_)
   | refine wo_quo rfl rfl (by omega) (by omega) rfl rfl ?_
   | refine wo_mv _ (by conv => lhs; whnf) rfl rfl ?_
   | (refine is_bin ?_; first | refine wo_cmpT rfl rfl rfl (by first | (simp only [cmpP]; done) | (simp only [cmpP]; omega)) rfl rfl ?_ | refine wo_cmpF rfl rfl rfl (by first | (simp only [cmpP]; done) | (simp only [cmpP]; omega)) rfl rfl ?_ | refine wo_cmp rfl rfl rfl rfl rfl (fun _ => ?_) (fun _ => ?_) | refine wo_add rfl rfl (by omega) rfl rfl ?_ | refine wo_rem rfl rfl (by omega) (by omega) rfl rfl ?_ | refine wo_bin (.int _ _) rfl rfl rfl ?_)
   | refine wo_cvi rfl rfl rfl ?_
   | refine wo_buildS rfl rfl rfl rfl ?_
   | refine wo_app rfl rfl (by (first | exact Or.inl rfl | exact Or.inr rfl | assumption)) (by (first | rfl | exact Heap.upd_same _ _ _)) (by (first | rfl | (simp; done) | (simp; omega))) (by (first | omega | (simp; omega))) rfl rfl (fun _ => ?_))
  refine ⟨by omega, by omega, ?_, rfl, ?_, ?_, by show AV.int _ _ = AV.int _ _; congr 1; omega, trivial⟩
  · have e1 : s - (m - 1) = i + 1 := by omega
    rw [e1]
    refine (Heap.upd_same _ _ _).trans ?_
    congr 2
    show BL (leB i n) ++ [AV.int .u8 (n / 2 ^ (8 * i) % 256 % 256)] = _
    rw [he]
    simp [leB, List.range_succ, BL]
  · show AV.int _ _ = AV.int _ _
    congr 1
    have e1 : s - (m - 1) = i + 1 := by omega
    rw [e1, show 8 * (i + 1) = 8 * i + 8 by omega, Int.pow_add, Int.ediv_ediv_of_nonneg (Int.pow_nonneg (by decide))]
    rfl
  · have e1 : s - (m - 1) = i + 1 := by omega
    rw [e1]; rfl

theorem e_ref_Bytes (k : Nat) (hk : 8 < k) (n : Int) (s : Nat) (hn : 0 ≤ n ∧ n ≤ 9223372036854775807) (hs : s ≤ 8) : FnF (acall B xf gf (k + 1)) n_ref01_Bytes [.int .i64 s, .int .i64 n] (leB s n) := by
  refine fnF_of (fn_gen B_ref01_Bytes rfl ?_)
  unfold ref01_Bytes
  repeat' (first
   | refine wo_nil ?_
   | refine w_seq ?_
   | refine w_region ?_
   | refine w_ret ?_
   | refine w_skip ?_
   | refine w_exit ?_
   | refine w_block ?_
   | refine w_true rfl ?_
   | refine w_false rfl ?_
   | refine wo_n rfl ?_
   | refine wo_nn rfl ?_
   | refine wo_mv _ (by conv => lhs; whnf) rfl rfl ?_
   | (refine is_bin ?_; first | refine wo_cmpT rfl rfl rfl (by first | (simp only [cmpP]; done) | (simp only [cmpP]; omega)) rfl rfl ?_ | refine wo_cmpF rfl rfl rfl (by first | (simp only [cmpP]; done) | (simp only [cmpP]; omega)) rfl rfl ?_ | refine wo_cmp rfl rfl rfl rfl rfl (fun _ => ?_) (fun _ => ?_) | refine wo_add rfl rfl (by omega) rfl rfl ?_ | refine wo_rem rfl rfl (by omega) (by omega) rfl rfl ?_ | refine wo_bin (.int _ _) rfl rfl rfl ?_)
   | refine wo_cvi rfl rfl rfl ?_
   | refine wo_nilrow rfl rfl ?_
   | refine wo_buildS rfl rfl rfl rfl ?_
   | refine wo_app rfl rfl (by (first | exact Or.inl rfl | exact Or.inr rfl | assumption)) (by (first | rfl | exact Heap.upd_same _ _ _)) (by (first | rfl | (simp; done) | (simp; omega))) (by (first | omega | (simp; omega))) rfl rfl (fun _ => ?_))
  refine (ref_Bytes_loop (n := n) (s := s) hn hs hk rfl ?_).mono ?_
  · exact ⟨rfl, rfl, rfl, rfl, trivial⟩
  rintro ex T2 H2 ⟨rfl, hH, h5⟩
  rw [Has.eq (T := T2) (ps := [(5, _)]) ⟨h5, trivial⟩]
  simp only [over]
  show W _ _
  repeat' (first
   | refine wo_nil ?_
   | refine w_seq ?_
   | refine w_region ?_
   | refine w_ret ?_
   | refine w_skip ?_
   | refine w_exit ?_
   | refine w_block ?_
   | refine w_true rfl ?_
   | refine w_false rfl ?_
   | refine wo_n rfl ?_
   | refine wo_nn rfl ?_
   | refine wo_mv _ (by conv => lhs; whnf) rfl rfl ?_
   | (refine is_bin ?_; first | refine wo_cmpT rfl rfl rfl (by first | (simp only [cmpP]; done) | (simp only [cmpP]; omega)) rfl rfl ?_ | refine wo_cmpF rfl rfl rfl (by first | (simp only [cmpP]; done) | (simp only [cmpP]; omega)) rfl rfl ?_ | refine wo_cmp rfl rfl rfl rfl rfl (fun _ => ?_) (fun _ => ?_) | refine wo_add rfl rfl (by omega) rfl rfl ?_ | refine wo_rem rfl rfl (by omega) (by omega) rfl rfl ?_ | refine wo_bin (.int _ _) rfl rfl rfl ?_)
   | refine wo_cvi rfl rfl rfl ?_
   | refine wo_nilrow rfl rfl ?_
   | refine wo_buildS rfl rfl rfl rfl ?_
   | refine wo_app rfl rfl (by (first | exact Or.inl rfl | exact Or.inr rfl | assumption)) (by (first | rfl | exact Heap.upd_same _ _ _)) (by (first | rfl | (simp; done) | (simp; omega))) (by (first | omega | (simp; omega))) rfl rfl (fun _ => ?_))
  exact ⟨Or.inr rfl, _, rfl, _, _, _, rfl, by simp, hH⟩

theorem bAt_eq0 {a : List UInt8} {i : Nat} (h : i < a.length) : bAt a (i : Int) = a[i] := by
  simp [bAt, h]

/-- Numbers out of bytes, from behind. -/
theorem leN_drop {l : List UInt8} {i : Nat} (h : i < l.length) : leN (l.drop i) = (bAt l (i : Int)).toNat + 256 * leN (l.drop (i + 1)) := by
  rw [List.drop_eq_getElem_cons h, bAt_eq0 h]
  rfl

theorem leN_drop_le : ∀ (l : List UInt8) (i : Nat), leN (l.drop i) ≤ leN l
  | [], i => by simp
  | c :: l, 0 => by simp
  | c :: l, i + 1 => by
    have := leN_drop_le l i
    simp only [List.drop_succ_cons, leN]
    omega

theorem ref_Number_loop {cf : CallF} {base fuel : Nat} {T : Tmps} {H : Heap} {t f : Bool} {l : List UInt8} (hl : l.length ≤ 8) (hk : 9 < fuel)
    (hT : Has T [(0, .islc t f 1 (BL l)), (4, .int .i64 0), (5, .int .i64 ((l.length : Int) - 1))]) :
    W (aexec cf xf base fuel (.loop ref01_Number_l0) T H) (fun ex T' H' => H' = H ∧ ((ex = .exit 0 ∧ leN l ≤ 4611686018427387903 ∧ T' 4 = .int .i64 (leN l : Nat)) ∨ (ex = .ret ∧ 4611686018427387903 < leN l ∧ T' 2 = .int .i64 0 ∧ T' 3 = .bool false))) := by
  refine w_loop (fun m T' H' => m ≤ l.length ∧ H' = H ∧ leN (l.drop m) ≤ 4611686018427387903 ∧ Has T' [(0, .islc t f 1 (BL l)), (4, .int .i64 (leN (l.drop m) : Nat)), (5, .int .i64 ((m : Int) - 1))])
    l.length ⟨Nat.le_refl _, rfl, by simp [leN], ?_⟩ (by omega) ?_
  · obtain ⟨h0, h1, h2, _⟩ := hT
    exact ⟨h0, by rw [h1]; simp [leN], h2, trivial⟩
  rintro m T H1 hm ⟨_, rfl, hle, hT⟩
  by_cases hm0 : m = 0
  · subst hm0
    rw [hT.eq]
    simp only [over]
    unfold ref01_Number_l0
    repeat' (first
     | refine wo_nil ?_
     | refine w_seq ?_
     | refine w_region ?_
     | refine w_ret ?_
     | refine w_skip ?_
     | refine w_exit ?_
     | refine w_block ?_
     | refine w_true rfl ?_
     | refine w_false rfl ?_
     | refine wo_n rfl ?_
     | refine wo_nn rfl ?_
     | refine wo_mv _ (by conv => lhs; whnf) rfl rfl ?_
     | (refine is_load ?_; first | refine wo_load _ rfl rfl rfl (Nat.le_of_ble_eq_true rfl) (by conv => lhs; whnf) rfl rfl ?_ | refine wo_loadI _ rfl (Nat.le_of_ble_eq_true rfl) (by conv => lhs; whnf) rfl rfl ?_)
     | (refine is_bin ?_; first | refine wo_cmpT rfl rfl rfl (by first | (simp only [cmpP]; done) | (simp only [cmpP]; omega)) rfl rfl ?_ | refine wo_cmpF rfl rfl rfl (by first | (simp only [cmpP]; done) | (simp only [cmpP]; omega)) rfl rfl ?_ | refine wo_cmp rfl rfl rfl rfl rfl (fun _ => ?_) (fun _ => ?_) | refine wo_add rfl rfl (by omega) rfl rfl ?_ | refine wo_sub rfl rfl (by omega) rfl rfl ?_ | refine wo_mul rfl rfl (by omega) rfl rfl ?_ | refine wo_bin (.int _ _) rfl rfl rfl ?_)
     | (refine is_cvi ?_; first | refine wo_to64 rfl (by omega) rfl rfl ?_ | refine wo_cvi rfl rfl rfl ?_)
     | refine wo_at rfl rfl (by omega) (by omega) rfl rfl ?_)
    exact ⟨rfl, .inl ⟨rfl, by simpa using hle, by rfl⟩⟩
  have hd := leN_drop (l := l) (i := m - 1) (by omega)
  rw [show m - 1 + 1 = m by omega] at hd
  have hc := u8_lt (bAt l ((m - 1 : Nat) : Int))
  have em : (m : Int) - 1 = ((m - 1 : Nat) : Int) := by omega
  rw [em] at hT
  have hq0 : 0 ≤ (4611686018427387903 - ((bAt l ((m - 1 : Nat) : Int)).toNat : Int)) / 256 := by omega
  rw [hT.eq]
  simp only [over]
  unfold ref01_Number_l0
  repeat' (first
   | refine wo_nil ?_
   | refine w_seq ?_
   | refine w_region ?_
   | refine w_ret ?_
   | refine w_skip ?_
   | refine w_exit ?_
   | refine w_block ?_
   | refine w_true rfl ?_
   | refine w_false rfl ?_
   | refine wo_n rfl ?_
   | refine wo_nn rfl ?_
   | refine wo_at rfl (n := ((m - 1 : Nat) : Int)) rfl (by omega) (by omega) rfl rfl ?_
   | refine wo_quo rfl rfl (by omega) (by omega) rfl rfl ?_
   | refine wo_mv _ (by conv => lhs; whnf) rfl rfl ?_
   | (refine is_load ?_; first | refine wo_load _ rfl rfl rfl (Nat.le_of_ble_eq_true rfl) (by conv => lhs; whnf) rfl rfl ?_ | refine wo_loadI _ rfl (Nat.le_of_ble_eq_true rfl) (by conv => lhs; whnf) rfl rfl ?_)
   | (refine is_bin ?_; first | refine wo_cmpT rfl rfl rfl (by first | (simp only [cmpP]; done) | (simp only [cmpP]; omega)) rfl rfl ?_ | refine wo_cmpF rfl rfl rfl (by first | (simp only [cmpP]; done) | (simp only [cmpP]; omega)) rfl rfl ?_ | refine wo_cmp rfl rfl rfl rfl rfl (fun _ => ?_) (fun _ => ?_) | refine wo_add rfl rfl (by omega) rfl rfl ?_ | refine wo_sub rfl rfl (by omega) rfl rfl ?_ | refine wo_mul rfl rfl (by omega) rfl rfl ?_ | refine wo_bin (.int _ _) rfl rfl rfl ?_)
   | (refine is_cvi ?_; first | refine wo_to64 rfl (by omega) rfl rfl ?_ | refine wo_cvi rfl rfl rfl ?_)
   | refine wo_at rfl rfl (by omega) (by omega) rfl rfl ?_)
  · rename_i h1 h2
    simp only [cmpP] at h2
    refine ⟨rfl, .inr ⟨rfl, ?_, rfl, rfl⟩⟩
    have := leN_drop_le l (m - 1)
    omega
  · rename_i h1 h2
    simp only [cmpP] at h2
    refine ⟨by omega, by omega, rfl, by omega, rfl, by first | rfl | (show AV.int _ _ = AV.int _ _; congr 1; omega), by first | rfl | (show AV.int _ _ = AV.int _ _; congr 1; omega), trivial⟩

theorem e_ref_Number (k : Nat) (hk : 9 < k) (t f : Bool) (l : List UInt8) (hl : l.length ≤ 8) :
    FnV (acall B xf gf (k + 1)) n_ref01_Number [.islc t f 1 (BL l)] (if leN l ≤ 4611686018427387903 then .tup [.int .i64 (leN l : Nat), .bool true] else .tup [.int .i64 0, .bool false]) := by
  refine fn_of B_ref01_Number rfl ?_
  unfold ref01_Number
  repeat' (first
   | refine wo_nil ?_
   | refine w_seq ?_
   | refine w_region ?_
   | refine w_ret ?_
   | refine w_skip ?_
   | refine w_exit ?_
   | refine w_block ?_
   | refine w_true rfl ?_
   | refine w_false rfl ?_
   | refine wo_n rfl ?_
   | refine wo_nn rfl ?_
   | refine wo_mv _ (by conv => lhs; whnf) rfl rfl ?_
   | (refine is_load ?_; first | refine wo_load _ rfl rfl rfl (Nat.le_of_ble_eq_true rfl) (by conv => lhs; whnf) rfl rfl ?_ | refine wo_loadI _ rfl (Nat.le_of_ble_eq_true rfl) (by conv => lhs; whnf) rfl rfl ?_)
   | (refine is_bin ?_; first | refine wo_cmpT rfl rfl rfl (by first | (simp only [cmpP]; done) | (simp only [cmpP]; omega)) rfl rfl ?_ | refine wo_cmpF rfl rfl rfl (by first | (simp only [cmpP]; done) | (simp only [cmpP]; omega)) rfl rfl ?_ | refine wo_cmp rfl rfl rfl rfl rfl (fun _ => ?_) (fun _ => ?_) | refine wo_add rfl rfl (by omega) rfl rfl ?_ | refine wo_sub rfl rfl (by omega) rfl rfl ?_ | refine wo_mul rfl rfl (by omega) rfl rfl ?_ | refine wo_bin (.int _ _) rfl rfl rfl ?_)
   | (refine is_len ?_; first | refine wo_len rfl rfl rfl ?_ | refine wo_lenS rfl rfl rfl ?_ | refine wo_len0 rfl rfl rfl ?_)
   | (refine is_cvi ?_; first | refine wo_to64 rfl (by omega) rfl rfl ?_ | refine wo_cvi rfl rfl rfl ?_)
   | refine wo_at rfl rfl (by omega) (by omega) rfl rfl ?_)
  refine (ref_Number_loop (l := l) (t := t) (f := f) hl hk ?_).mono ?_
  · exact ⟨rfl, rfl, rfl, trivial⟩
  rintro ex T2 H2 ⟨rfl, ⟨rfl, hle, h4⟩ | ⟨rfl, hle, h2, h3⟩⟩
  · rw [Has.eq (T := T2) (ps := [(4, _)]) ⟨h4, trivial⟩, if_pos hle]
    simp only [over]
    show W _ _
    repeat' (first
     | refine wo_nil ?_
     | refine w_seq ?_
     | refine w_region ?_
     | refine w_ret ?_
     | refine w_skip ?_
     | refine w_exit ?_
     | refine w_block ?_
     | refine w_true rfl ?_
     | refine w_false rfl ?_
     | refine wo_n rfl ?_
     | refine wo_nn rfl ?_
     | refine wo_mv _ (by conv => lhs; whnf) rfl rfl ?_
     | (refine is_load ?_; first | refine wo_load _ rfl rfl rfl (Nat.le_of_ble_eq_true rfl) (by conv => lhs; whnf) rfl rfl ?_ | refine wo_loadI _ rfl (Nat.le_of_ble_eq_true rfl) (by conv => lhs; whnf) rfl rfl ?_)
     | (refine is_bin ?_; first | refine wo_cmpT rfl rfl rfl (by first | (simp only [cmpP]; done) | (simp only [cmpP]; omega)) rfl rfl ?_ | refine wo_cmpF rfl rfl rfl (by first | (simp only [cmpP]; done) | (simp only [cmpP]; omega)) rfl rfl ?_ | refine wo_cmp rfl rfl rfl rfl rfl (fun _ => ?_) (fun _ => ?_) | refine wo_add rfl rfl (by omega) rfl rfl ?_ | refine wo_sub rfl rfl (by omega) rfl rfl ?_ | refine wo_mul rfl rfl (by omega) rfl rfl ?_ | refine wo_bin (.int _ _) rfl rfl rfl ?_)
     | (refine is_len ?_; first | refine wo_len rfl rfl rfl ?_ | refine wo_lenS rfl rfl rfl ?_ | refine wo_len0 rfl rfl rfl ?_)
     | (refine is_cvi ?_; first | refine wo_to64 rfl (by omega) rfl rfl ?_ | refine wo_cvi rfl rfl rfl ?_)
     | refine wo_at rfl rfl (by omega) (by omega) rfl rfl ?_)
    exact ⟨Or.inr rfl, _, rfl, rfl⟩
  · rw [if_neg (by omega)]
    refine ⟨Or.inr rfl, .tup [T2 2, T2 3], rfl, ?_⟩
    rw [h2, h3]; rfl

theorem e_ref_Get4 (k : Nat) (hk : 9 < k) (t f : Bool) (l : List UInt8) (a : Nat) (ha : a + 4 ≤ l.length) (hl : l.length < 1000000) : FnV (acall B xf gf (k + 2)) n_ref01_Get4 [.islc t f 1 (BL l), .int .i64 a] (.int .i64 (leN ((l.drop a).take 4) : Nat)) := by
  have hlt := leN_lt ((l.drop a).take 4)
  have hlen : ((l.drop a).take 4).length = 4 := by simp; omega
  rw [hlen] at hlt
  have e : (l.drop (a : Int).toNat).take (((a : Int) + 4).toNat - (a : Int).toNat) = (l.drop a).take 4 := by
    rw [Int.toNat_natCast]
    congr 1
    omega
  have h := fun f => e_ref_Number (xf := xf) (gf := gf) k hk t f ((l.drop a).take 4) (by omega)
  simp only [if_pos (show leN ((l.drop a).take 4) ≤ 4611686018427387903 by omega)] at h
  refine fn_of B_ref01_Get4 rfl ?_
  unfold ref01_Get4
  repeat' (first
   | refine wo_nil ?_
   | refine w_seq ?_
   | refine w_region ?_
   | refine w_ret ?_
   | refine w_skip ?_
   | refine w_exit ?_
   | refine w_block ?_
   | refine w_true rfl ?_
   | refine w_false rfl ?_
   | refine wo_n rfl ?_
   | refine wo_nn rfl ?_
   | (refine wo_call (h _) rfl (by rw [← e]; rfl) rfl ?_)
   | refine wo_mv _ (by conv => lhs; whnf) rfl rfl ?_
   | refine wo_add rfl rfl (by omega) rfl rfl ?_
   | refine wo_extractW rfl rfl (by conv => lhs; whnf) rfl rfl ?_
   | (refine is_slice ?_; first | refine wo_slice0 rfl (by (first | exact Or.inl rfl | exact Or.inr rfl | assumption)) rfl (by omega) (by omega) rfl rfl ?_ | refine wo_sliceE rfl (by (first | exact Or.inl rfl | exact Or.inr rfl | assumption)) rfl (by omega) (by omega) rfl rfl ?_ | refine wo_sliceM rfl (by (first | exact Or.inl rfl | exact Or.inr rfl | assumption)) rfl rfl (by omega) (by omega) (by omega) rfl rfl ?_))
  exact ⟨Or.inr rfl, _, rfl, rfl⟩

end Go.Proofs.Ytoanjhiojpgioaa
