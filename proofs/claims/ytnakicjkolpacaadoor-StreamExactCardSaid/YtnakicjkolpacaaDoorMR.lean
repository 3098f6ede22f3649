/- Texts S17 to S24. -/
import Derived.Test.YtnakicjkolpacaaDoorMP
import Derived.Test.YtnakicjkolpacaaDoorMC
import Derived.Test.YtnakicjkolpacaaDoorS13
import Derived.Test.YtnakicjkolpacaaDoorS15
import Derived.Test.YtnakicjkolpacaaDoorS14

/- The document's answers: numbers in bytes. -/
set_option linter.unusedSimpArgs false
set_option linter.unusedVariables false
set_option maxRecDepth 10000
set_option maxHeartbeats 16000000
namespace Go.Proofs.YtnakicjkolpacaaDoor
open Go.AI
attribute [local irreducible] aops aexec acall aiter aop W WO

variable {xf : ExtF} {gf : CallF}

theorem e_ref_In (k : Nat) (n lo hi : Int) : FnV (acall B xf gf (k + 1)) n_ref01_In [.int .i64 n, .int .i64 lo, .int .i64 hi] (.bool (inR n lo hi)) := by
  refine fn_of B_ref01_In rfl ?_
  unfold ref01_In
  repeat' (first
   | refine q_s ?_ | refine q_z ?_ | refine q_n ?_ | refine q_nn ?_ | refine q_mv ?_ | refine q_cmp ?_ | refine q_cmp2 (fun _ => ?_) (fun _ => ?_) | refine q_pickT ?_ | refine q_pickF ?_)
  all_goals (refine ⟨Or.inr rfl, _, rfl, ?_⟩; show AV.bool _ = AV.bool _; congr 1; symm; simp only [cmpP] at *)
  all_goals first
    | exact inR_iff.2 (by omega)
    | (rw [Bool.eq_false_iff]; intro h; rw [inR_iff] at h; omega)

theorem e_ref_Id (k : Nat) (n : Int) : FnV (acall B xf gf (k + 2)) n_ref01_Id [.int .i64 n] (.bool (inR n 1 4611686018427387903)) := by
  have h := e_ref_In (xf := xf) (gf := gf) k n 1 4611686018427387903
  refine fn_of B_ref01_Id rfl ?_
  unfold ref01_Id
  repeat' (first
   | refine q_s ?_ | refine q_z ?_ | refine wo_call h rfl rfl rfl ?_ | refine q_mv ?_)
  exact ⟨Or.inr rfl, _, rfl, rfl⟩

/-- So many sectors from one on? -/
def runP (a c : Int) : Bool := inR a 0 512 && inR c 1 512 && decide (a + c ≤ 512)

theorem e_ref_run (k : Nat) (a c : Int) : FnV (acall B xf gf (k + 2)) n_ref01_run [.int .i64 a, .int .i64 c] (.bool (runP a c)) := by
  have h1 := e_ref_In (xf := xf) (gf := gf) k a 0 512
  have h2 := e_ref_In (xf := xf) (gf := gf) k c 1 512
  unfold runP
  cases e1 : inR a 0 512 with
  | false =>
    rw [e1] at h1
    refine fn_of B_ref01_run rfl ?_
    unfold ref01_run
    repeat' (first
     | refine q_s ?_ | refine q_z ?_ | refine wo_call h1 rfl rfl rfl ?_ | refine q_n ?_ | refine q_nn ?_ | refine q_mv ?_ | refine q_cmp ?_ | refine q_cmp2 (fun _ => ?_) (fun _ => ?_)
      | refine q_add ?_ | refine q_pickT ?_ | refine q_pickF ?_)
    exact ⟨Or.inr rfl, _, rfl, rfl⟩
  | true =>
    rw [e1] at h1
    cases e2 : inR c 1 512 with
    | false =>
      rw [e2] at h2
      refine fn_of B_ref01_run rfl ?_
      unfold ref01_run
      repeat' (first
       | refine q_s ?_ | refine q_z ?_ | refine wo_call h1 rfl rfl rfl ?_ | refine wo_call h2 rfl rfl rfl ?_ | refine q_n ?_ | refine q_nn ?_ | refine q_mv ?_ | refine q_cmp ?_
        | refine q_cmp2 (fun _ => ?_) (fun _ => ?_) | refine q_add ?_ | refine q_pickT ?_ | refine q_pickF ?_)
      exact ⟨Or.inr rfl, _, rfl, rfl⟩
    | true =>
      rw [e2] at h2
      have b1 := inR_iff.1 e1
      have b2 := inR_iff.1 e2
      refine fn_of B_ref01_run rfl ?_
      unfold ref01_run
      repeat' (first
       | refine q_s ?_ | refine q_z ?_ | refine wo_call h1 rfl rfl rfl ?_ | refine wo_call h2 rfl rfl rfl ?_ | refine q_n ?_ | refine q_nn ?_ | refine q_mv ?_ | refine q_cmp ?_
        | refine q_cmp2 (fun _ => ?_) (fun _ => ?_) | refine q_add ?_ | refine q_pickT ?_ | refine q_pickF ?_)
      all_goals (refine ⟨Or.inr rfl, _, rfl, ?_⟩; show AV.bool _ = AV.bool _; congr 1; rename_i h; simp only [cmpP] at h)
      · rw [decide_eq_true h]; rfl
      · rw [decide_eq_false h]; rfl

section
variable {cf : CallF} {base fuel : Nat} {T : Tmps} {H : Heap} {QO : Tmps → Heap → Prop} {log : List FP} {g : Option (Nat × Bool)} {un : List Nat} {r : List SOper} {d : Nat}
attribute [local semireducible] aop WO aops
theorem wo_quo {x y : SArg} {a b : Int} (hx : x.ev T = .int .i64 a) (hy : y.ev T = .int .i64 b) (ha : 0 ≤ a ∧ a ≤ 9223372036854775807) (hb : 0 < b) (hw : awanted T g = some true) (hl : logOk log .z un = true)
    (h : WO (aops cf xf base r (log ++ [.z]) (T.upd d (.int .i64 (a / b))) H) QO) : WO (aops cf xf base (⟨some d, .bin .quo x y, g, un⟩ :: r) log T H) QO :=
  wo_step (v := .int .i64 (a / b)) hw (by
    have h0 : b ≠ 0 := by omega
    have h1 : a.tdiv b = a / b := Int.tdiv_eq_ediv_of_nonneg ha.1
    have h2 : 0 ≤ a / b := Int.ediv_nonneg ha.1 (by omega)
    have h3 : a / b ≤ a := Int.ediv_le_self _ ha.1
    simp only [aop, hx, hy, abin, ne_eq, not_true_eq_false, if_false, h0, h1, Option.bind_some, rv]
    rw [IntWalk.i64_in _ ⟨by omega, by omega⟩]) hl h
theorem wo_quo32 {x y : SArg} {a b : Int} (hx : x.ev T = .int .u32 a) (hy : y.ev T = .int .u32 b) (ha : 0 ≤ a ∧ a ≤ 4294967295) (hb : 0 < b) (hw : awanted T g = some true) (hl : logOk log .z un = true)
    (h : WO (aops cf xf base r (log ++ [.z]) (T.upd d (.int .u32 (a / b))) H) QO) : WO (aops cf xf base (⟨some d, .bin .quo x y, g, un⟩ :: r) log T H) QO :=
  wo_step (v := .int .u32 (a / b)) hw (by
    have h0 : b ≠ 0 := by omega
    have h1 : a.tdiv b = a / b := Int.tdiv_eq_ediv_of_nonneg ha.1
    have h2 : 0 ≤ a / b := Int.ediv_nonneg ha.1 (by omega)
    have h3 : a / b ≤ a := Int.ediv_le_self _ ha.1
    simp only [aop, hx, hy, abin, ne_eq, not_true_eq_false, if_false, h0, h1, Option.bind_some, rv]
    rw [IntWalk.u32_in _ ⟨by omega, by omega⟩]) hl h
end

theorem ref_Bytes_loop {cf : CallF} {fuel : Nat} {T : Tmps} {H : Heap} {n : Int} {s : Nat} (hn : 0 ≤ n ∧ n ≤ 9223372036854775807) (hs : s ≤ 8) (hk : 8 < fuel) (hH : H 1 = ⟨1, false, .row 1 []⟩)
    (hT : Has T [(0, .int .i64 s), (1, .int .i64 n), (5, .slc 1 1 0 1 0 0 .none), (6, .int .i64 0)]) :
    W (aexec cf xf 0 fuel (.loop ref01_Bytes_l0) T H) (fun ex T' H' => ex = .exit 0 ∧ H' 1 = ⟨1, false, .row 1 (BL (leB s n))⟩ ∧ T' 5 = .slc 1 1 s 1 0 s .none) := by
  refine w_loop (fun m T' H' => m ≤ s ∧ H' 1 = ⟨1, false, .row 1 (BL (leB (s - m) n))⟩ ∧ Has T' [(0, .int .i64 s), (1, .int .i64 (n / 2 ^ (8 * (s - m)))), (5, .slc 1 1 (s - m) 1 0 (s - m) .none), (6, .int .i64 ((s - m : Nat) : Int))])
    s ⟨Nat.le_refl _, by rw [hH, Nat.sub_self]; rfl, ?_⟩ (by omega) ?_
  · obtain ⟨h0, h1, h2, h3, _⟩ := hT
    exact ⟨h0, by rw [h1]; simp, by rw [h2]; simp, by rw [h3]; simp, trivial⟩
  rintro m T H hm ⟨_, hH, hT⟩
  obtain ⟨i, hi⟩ : ∃ i, i = s - m := ⟨_, rfl⟩
  rw [← hi] at hT hH
  have hq0 : 0 ≤ n / 2 ^ (8 * i) := Int.ediv_nonneg hn.1 (Int.pow_nonneg (by decide))
  have hq1 : n / 2 ^ (8 * i) ≤ n := Int.ediv_le_self _ hn.1
  by_cases hm0 : m = 0
  · have his : i = s := by omega
    rw [hT.eq]
    simp only [over]
    unfold ref01_Bytes_l0
    repeat' (first
     | refine q_s ?_ | refine q_z ?_ | refine q_b ?_ | refine q_mv ?_ | refine q_cmp ?_ | refine q_cmp2 (fun _ => ?_) (fun _ => ?_) | refine q_add ?_ | refine q_rem ?_ | refine q_quo ?_
      | refine q_bin ?_ | refine q_cvi ?_ | refine q_buildS ?_ | refine q_app fun _ => ?_)
    exact ⟨rfl, by rw [hH, his], by rw [his]; rfl⟩
  rw [hT.eq]
  simp only [over]
  have hb := leAt_toNat n i
  have he : AV.int .u8 (n / 2 ^ (8 * i) % 256 % 256) = u8 (leAt n i) := by
    unfold u8
    rw [hb]
    congr 1
    omega
  unfold ref01_Bytes_l0
  repeat' (first
   | refine q_s ?_ | refine q_z ?_ | refine q_b ?_ | refine wo_cvu8 rfl rfl rfl ?_ | refine wo_appI rfl rfl rfl hH (by simp) rfl (by omega) rfl rfl (fun _ => ?_)
    | refine wo_quo rfl rfl (by omega) (by omega) rfl rfl ?_ | refine q_mv ?_ | refine q_cmp ?_ | refine q_cmp2 (fun _ => ?_) (fun _ => ?_) | refine q_add ?_ | refine q_rem ?_ | refine q_quo ?_
    | refine q_bin ?_ | refine q_cvi ?_ | refine q_buildS ?_ | refine q_app fun _ => ?_)
  refine ⟨by omega, by omega, ?_, rfl, ?_, ?_, by show AV.int _ _ = AV.int _ _; congr 1; omega, trivial⟩
  · have e1 : s - (m - 1) = i + 1 := by omega
    rw [e1]
    refine (Heap.upd_same _ _ _).trans ?_
    congr 2
    show BL (leB i n) ++ [AV.int .u8 (n / 2 ^ (8 * i) % 256 % 256)] = _
    rw [he]
    simp [leB, List.range_succ, BL]
  · show AV.int _ _ = AV.int _ _
    congr 1
    have e1 : s - (m - 1) = i + 1 := by omega
    rw [e1, show 8 * (i + 1) = 8 * i + 8 by omega, Int.pow_add, Int.ediv_ediv_of_nonneg (Int.pow_nonneg (by decide))]
    rfl
  · have e1 : s - (m - 1) = i + 1 := by omega
    rw [e1]; rfl

theorem e_ref_Bytes (k : Nat) (hk : 8 < k) (n : Int) (s : Nat) (hn : 0 ≤ n ∧ n ≤ 9223372036854775807) (hs : s ≤ 8) : FnF (acall B xf gf (k + 1)) n_ref01_Bytes [.int .i64 s, .int .i64 n] (leB s n) := by
  refine fnF_of (fn_gen B_ref01_Bytes rfl ?_)
  unfold ref01_Bytes
  repeat' (first
   | refine q_s ?_ | refine q_z ?_ | refine q_b ?_ | refine q_mv ?_ | refine q_cmp ?_ | refine q_cmp2 (fun _ => ?_) (fun _ => ?_) | refine q_add ?_ | refine q_rem ?_ | refine q_quo ?_
    | refine q_bin ?_ | refine q_cvi ?_ | refine q_nilrow ?_ | refine q_buildS ?_ | refine q_app fun _ => ?_)
  refine (ref_Bytes_loop (n := n) (s := s) hn hs hk rfl ?_).mono ?_
  · exact ⟨rfl, rfl, rfl, rfl, trivial⟩
  rintro ex T2 H2 ⟨rfl, hH, h5⟩
  rw [Has.eq (T := T2) (ps := [(5, _)]) ⟨h5, trivial⟩]
  simp only [over]
  show W _ _
  repeat' (first
   | refine q_s ?_ | refine q_z ?_ | refine q_b ?_ | refine q_mv ?_ | refine q_cmp ?_ | refine q_cmp2 (fun _ => ?_) (fun _ => ?_) | refine q_add ?_ | refine q_rem ?_ | refine q_quo ?_
    | refine q_bin ?_ | refine q_cvi ?_ | refine q_nilrow ?_ | refine q_buildS ?_ | refine q_app fun _ => ?_)
  exact ⟨Or.inr rfl, _, rfl, _, _, _, rfl, by simp, hH⟩

theorem bAt_eq0 {a : List UInt8} {i : Nat} (h : i < a.length) : bAt a (i : Int) = a[i] := by
  simp [bAt, h]

/-- Numbers out of bytes, from behind. -/
theorem leN_drop {l : List UInt8} {i : Nat} (h : i < l.length) : leN (l.drop i) = (bAt l (i : Int)).toNat + 256 * leN (l.drop (i + 1)) := by
  rw [List.drop_eq_getElem_cons h, bAt_eq0 h]
  rfl

theorem leN_drop_le : ∀ (l : List UInt8) (i : Nat), leN (l.drop i) ≤ leN l
  | [], i => by simp
  | c :: l, 0 => by simp
  | c :: l, i + 1 => by
    have := leN_drop_le l i
    simp only [List.drop_succ_cons, leN]
    omega

theorem ref_Number_loop {cf : CallF} {base fuel : Nat} {T : Tmps} {H : Heap} {t f : Bool} {l : List UInt8} (hl : l.length ≤ 8) (hk : 9 < fuel)
    (hT : Has T [(0, .islc t f 1 (BL l)), (4, .int .i64 0), (5, .int .i64 ((l.length : Int) - 1))]) :
    W (aexec cf xf base fuel (.loop ref01_Number_l0) T H) (fun ex T' H' => H' = H ∧ ((ex = .exit 0 ∧ leN l ≤ 4611686018427387903 ∧ T' 4 = .int .i64 (leN l : Nat)) ∨ (ex = .ret ∧ 4611686018427387903 < leN l ∧ T' 2 = .int .i64 0 ∧ T' 3 = .bool false))) := by
  refine w_loop (fun m T' H' => m ≤ l.length ∧ H' = H ∧ leN (l.drop m) ≤ 4611686018427387903 ∧ Has T' [(0, .islc t f 1 (BL l)), (4, .int .i64 (leN (l.drop m) : Nat)), (5, .int .i64 ((m : Int) - 1))])
    l.length ⟨Nat.le_refl _, rfl, by simp [leN], ?_⟩ (by omega) ?_
  · obtain ⟨h0, h1, h2, _⟩ := hT
    exact ⟨h0, by rw [h1]; simp [leN], h2, trivial⟩
  rintro m T H1 hm ⟨_, rfl, hle, hT⟩
  by_cases hm0 : m = 0
  · subst hm0
    rw [hT.eq]
    simp only [over]
    unfold ref01_Number_l0
    repeat' (first
     | refine q_s ?_ | refine q_z ?_ | refine q_b ?_ | refine q_mv ?_ | refine q_load ?_ | refine q_loadI ?_ | refine q_loadR ?_ | refine q_cmp ?_ | refine q_cmp2 (fun _ => ?_) (fun _ => ?_)
      | refine q_add ?_ | refine q_sub ?_ | refine q_mul ?_ | refine q_quo ?_ | refine q_bin ?_ | refine q_to64 ?_ | refine q_cvi ?_ | refine q_at ?_)
    exact ⟨rfl, .inl ⟨rfl, by simpa using hle, by rfl⟩⟩
  have hd := leN_drop (l := l) (i := m - 1) (by omega)
  rw [show m - 1 + 1 = m by omega] at hd
  have hc := u8_lt (bAt l ((m - 1 : Nat) : Int))
  have em : (m : Int) - 1 = ((m - 1 : Nat) : Int) := by omega
  rw [em] at hT
  have hq0 : 0 ≤ (4611686018427387903 - ((bAt l ((m - 1 : Nat) : Int)).toNat : Int)) / 256 := by omega
  rw [hT.eq]
  simp only [over]
  unfold ref01_Number_l0
  repeat' (first
   | refine q_s ?_ | refine q_z ?_ | refine q_b ?_ | refine wo_at rfl (n := ((m - 1 : Nat) : Int)) rfl (by omega) (by omega) rfl rfl ?_ | refine wo_quo rfl rfl (by omega) (by omega) rfl rfl ?_
    | refine q_mv ?_ | refine q_load ?_ | refine q_loadI ?_ | refine q_loadR ?_ | refine q_cmp ?_ | refine q_cmp2 (fun _ => ?_) (fun _ => ?_) | refine q_add ?_ | refine q_sub ?_
    | refine q_mul ?_ | refine q_quo ?_ | refine q_bin ?_ | refine q_to64 ?_ | refine q_cvi ?_ | refine q_at ?_)
  · rename_i h1 h2
    simp only [cmpP] at h2
    refine ⟨rfl, .inr ⟨rfl, ?_, rfl, rfl⟩⟩
    have := leN_drop_le l (m - 1)
    omega
  · rename_i h1 h2
    simp only [cmpP] at h2
    refine ⟨by omega, by omega, rfl, by omega, rfl, by first | rfl | (show AV.int _ _ = AV.int _ _; congr 1; omega), by first | rfl | (show AV.int _ _ = AV.int _ _; congr 1; omega), trivial⟩

theorem e_ref_Number (k : Nat) (hk : 9 < k) (t f : Bool) (l : List UInt8) (hl : l.length ≤ 8) :
    FnV (acall B xf gf (k + 1)) n_ref01_Number [.islc t f 1 (BL l)] (if leN l ≤ 4611686018427387903 then .tup [.int .i64 (leN l : Nat), .bool true] else .tup [.int .i64 0, .bool false]) := by
  refine fn_of B_ref01_Number rfl ?_
  unfold ref01_Number
  repeat' (first
   | refine q_s ?_ | refine q_z ?_ | refine q_b ?_ | refine q_mv ?_ | refine q_load ?_ | refine q_loadI ?_ | refine q_loadR ?_ | refine q_cmp ?_ | refine q_cmp2 (fun _ => ?_) (fun _ => ?_)
    | refine q_add ?_ | refine q_sub ?_ | refine q_mul ?_ | refine q_quo ?_ | refine q_bin ?_ | refine q_len ?_ | refine q_lenS ?_ | refine q_len0 ?_ | refine q_to64 ?_ | refine q_cvi ?_
    | refine q_at ?_)
  refine (ref_Number_loop (l := l) (t := t) (f := f) hl hk ?_).mono ?_
  · exact ⟨rfl, rfl, rfl, trivial⟩
  rintro ex T2 H2 ⟨rfl, ⟨rfl, hle, h4⟩ | ⟨rfl, hle, h2, h3⟩⟩
  · rw [Has.eq (T := T2) (ps := [(4, _)]) ⟨h4, trivial⟩, if_pos hle]
    simp only [over]
    show W _ _
    repeat' (first
     | refine q_s ?_ | refine q_z ?_ | refine q_b ?_ | refine q_mv ?_ | refine q_load ?_ | refine q_loadI ?_ | refine q_loadR ?_ | refine q_cmp ?_ | refine q_cmp2 (fun _ => ?_) (fun _ => ?_)
      | refine q_add ?_ | refine q_sub ?_ | refine q_mul ?_ | refine q_quo ?_ | refine q_bin ?_ | refine q_len ?_ | refine q_lenS ?_ | refine q_len0 ?_ | refine q_to64 ?_ | refine q_cvi ?_
      | refine q_at ?_)
    exact ⟨Or.inr rfl, _, rfl, rfl⟩
  · rw [if_neg (by omega)]
    refine ⟨Or.inr rfl, .tup [T2 2, T2 3], rfl, ?_⟩
    rw [h2, h3]; rfl

theorem e_ref_Get4 (k : Nat) (hk : 9 < k) (t f : Bool) (l : List UInt8) (a : Nat) (ha : a + 4 ≤ l.length) (hl : l.length < 1000000) : FnV (acall B xf gf (k + 2)) n_ref01_Get4 [.islc t f 1 (BL l), .int .i64 a] (.int .i64 (leN ((l.drop a).take 4) : Nat)) := by
  have hlt := leN_lt ((l.drop a).take 4)
  have hlen : ((l.drop a).take 4).length = 4 := by simp; omega
  rw [hlen] at hlt
  have e : (l.drop (a : Int).toNat).take (((a : Int) + 4).toNat - (a : Int).toNat) = (l.drop a).take 4 := by
    rw [Int.toNat_natCast]
    congr 1
    omega
  have h := fun f => e_ref_Number (xf := xf) (gf := gf) k hk t f ((l.drop a).take 4) (by omega)
  simp only [if_pos (show leN ((l.drop a).take 4) ≤ 4611686018427387903 by omega)] at h
  refine fn_of B_ref01_Get4 rfl ?_
  unfold ref01_Get4
  repeat' (first
   | refine q_s ?_ | refine q_z ?_ | (refine wo_call (h _) rfl (by rw [← e]; rfl) rfl ?_) | refine q_mv ?_ | refine q_add ?_ | refine q_ex ?_ | refine q_slice0 ?_ | refine q_sliceE ?_
    | refine q_sliceM ?_)
  exact ⟨Or.inr rfl, _, rfl, rfl⟩

end Go.Proofs.YtnakicjkolpacaaDoor

/- The document's answers: is a command right? -/
set_option linter.unusedSimpArgs false
set_option linter.unusedVariables false
set_option maxRecDepth 10000
set_option maxHeartbeats 16000000
namespace Go.Proofs.YtnakicjkolpacaaDoor
open Go.AI
attribute [local irreducible] aops aexec acall aiter aop W WO

variable {xf : ExtF} {gf : CallF}

/-- What a right command is, in one. -/
def rightD (c : Cmd) : Prop :=
  (c.kind = 1 ∧ ((1 ≤ c.id ∧ c.id ≤ 4611686018427387903) ∧ c.parent ≠ c.id ∧ (c.parent = 0 ∨ (1 ≤ c.parent ∧ c.parent ≤ 4611686018427387903))) ∧ (0 ≤ c.size ∧ c.size ≤ 512) ∧ (0 ≤ c.count ∧ c.count ≤ 65535) ∧ c.frm = 0 ∧ c.source = 0 ∧ c.digest = 0 ∧ c.data.length = 0) ∨
  (c.kind = 2 ∧ (c.data.length % 64 = 0 ∧ 64 ≤ c.data.length ∧ c.data.length ≤ 512) ∧ (0 ≤ c.frm ∧ c.frm ≤ 512 - (c.data.length / 64 : Int)) ∧ c.id = 0 ∧ c.parent = 0 ∧ c.size = 0 ∧ c.count = 0 ∧ c.source = 0 ∧ c.digest = 0) ∨
  (c.kind = 3 ∧ 0 < c.count ∧ (0 ≤ c.frm ∧ c.count ≤ 512 ∧ c.frm ≤ 512 - c.count) ∧ c.id = 0 ∧ c.parent = 0 ∧ c.size = 0 ∧ c.source = 0 ∧ c.digest = 0 ∧ c.data.length = 0) ∨
  (c.kind = 4 ∧ 0 < c.count ∧ (0 ≤ c.frm ∧ c.count ≤ 512 ∧ c.frm ≤ 512 - c.count) ∧ (0 ≤ c.source ∧ c.source ≤ 512 - c.count) ∧ c.id = 0 ∧ c.parent = 0 ∧ c.size = 0 ∧ c.digest = 0 ∧ c.data.length = 0) ∨
  (c.kind = 5 ∧ (0 ≤ c.size ∧ c.size ≤ 512) ∧ c.id = 0 ∧ c.parent = 0 ∧ c.frm = 0 ∧ c.count = 0 ∧ c.source = 0 ∧ c.digest = 0 ∧ c.data.length = 0) ∨
  (c.kind = 6 ∧ (0 ≤ c.count ∧ c.count ≤ 65535) ∧ (0 ≤ c.digest ∧ c.digest ≤ 4294967295) ∧ c.id = 0 ∧ c.parent = 0 ∧ c.size = 0 ∧ c.frm = 0 ∧ c.source = 0 ∧ c.data.length = 0)

theorem chkP_iff {c : Cmd} : chkP c ↔ rightD c := by
  constructor
  · intro h
    unfold rightD
    rcases chkP_inv h with hC | hC | hC | hC | hC | hC
    · refine .inl ⟨hC.1, parentsP_iff.1 hC.2.1, hC.2.2.1, hC.2.2.2.1, hC.2.2.2.2.1, hC.2.2.2.2.2.1, hC.2.2.2.2.2.2.1, by rw [hC.2.2.2.2.2.2.2]; rfl⟩
    · exact .inr (.inl hC)
    · obtain ⟨h1, h2, h3, h4, h5, h6, h7, h8, h9⟩ := hC
      exact .inr (.inr (.inl ⟨h1, h2, h3, h4, h5, h6, h7, h8, by rw [h9]; rfl⟩))
    · obtain ⟨h1, h2, h3, h4, h5, h6, h7, h8, h9⟩ := hC
      exact .inr (.inr (.inr (.inl ⟨h1, h2, h3, h4, h5, h6, h7, h8, by rw [h9]; rfl⟩)))
    · obtain ⟨h1, h2, h3, h4, h5, h6, h7, h8, h9⟩ := hC
      exact .inr (.inr (.inr (.inr (.inl ⟨h1, h2, h3, h4, h5, h6, h7, h8, by rw [h9]; rfl⟩))))
    · obtain ⟨h1, h2, h3, h4, h5, h6, h7, h8, h9⟩ := hC
      exact .inr (.inr (.inr (.inr (.inr ⟨h1, h2, h3, h4, h5, h6, h7, h8, by rw [h9]; rfl⟩))))
  · intro h
    obtain ⟨k, i, p, s, f, n, o, g, x⟩ := c
    unfold rightD at h
    simp only at h
    rcases h with h | h | h | h | h | h
    all_goals (obtain ⟨rfl, h⟩ := h)
    · obtain ⟨h1, h2, h3, rfl, rfl, rfl, h7⟩ := h
      simp only [chkP, bareP, if_true, Bool.and_eq_true, inR_iff, parentsP_iff]
      exact ⟨⟨⟨h1, h2⟩, h3⟩, by simp, by simp, by simp, by simp, by simp, by simp, by simp, h7⟩
    · obtain ⟨h1, h2, rfl, rfl, rfl, rfl, rfl, rfl⟩ := h
      simp only [chkP, bareP, show ¬ ((2 : Int) = 1) by decide, if_true, if_false, writesP, Bool.and_eq_true, inR_iff, withinP_iff, decide_eq_true_eq]
      exact ⟨⟨⟨h1.1, by omega⟩, by omega⟩, by simp, by simp, by simp, by simp, by simp, by simp, by simp, by simp⟩
    · obtain ⟨h1, h2, rfl, rfl, rfl, rfl, rfl, h7⟩ := h
      simp only [chkP, bareP, show ¬ ((3 : Int) = 1) by decide, show ¬ ((3 : Int) = 2) by decide, if_true, if_false, Bool.and_eq_true, withinP_iff, decide_eq_true_eq]
      exact ⟨⟨h1, by omega⟩, by simp, by simp, by simp, by simp, by simp, by simp, by simp, h7⟩
    · obtain ⟨h1, h2, h3, rfl, rfl, rfl, rfl, h7⟩ := h
      simp only [chkP, bareP, show ¬ ((4 : Int) = 1) by decide, show ¬ ((4 : Int) = 2) by decide, show ¬ ((4 : Int) = 3) by decide, if_true, if_false, Bool.and_eq_true, withinP_iff, decide_eq_true_eq]
      exact ⟨⟨⟨h1, by omega⟩, by omega⟩, by simp, by simp, by simp, by simp, by simp, by simp, by simp, h7⟩
    · obtain ⟨h1, rfl, rfl, rfl, rfl, rfl, rfl, h7⟩ := h
      simp only [chkP, bareP, show ¬ ((5 : Int) = 1) by decide, show ¬ ((5 : Int) = 2) by decide, show ¬ ((5 : Int) = 3) by decide, show ¬ ((5 : Int) = 4) by decide, if_true, if_false, inR_iff]
      exact ⟨h1, by simp, by simp, by simp, by simp, by simp, by simp, by simp, h7⟩
    · obtain ⟨h1, h2, rfl, rfl, rfl, rfl, rfl, h7⟩ := h
      simp only [chkP, bareP, show ¬ ((6 : Int) = 1) by decide, show ¬ ((6 : Int) = 2) by decide, show ¬ ((6 : Int) = 3) by decide, show ¬ ((6 : Int) = 4) by decide, show ¬ ((6 : Int) = 5) by decide, if_true, if_false, Bool.and_eq_true, inR_iff]
      exact ⟨⟨h1, h2⟩, by simp, by simp, by simp, by simp, by simp, by simp, by simp, h7⟩

theorem inR_f {n lo hi : Int} : inR n lo hi = false ↔ ¬ (lo ≤ n ∧ n ≤ hi) := by
  rw [Bool.eq_false_iff, ne_eq, inR_iff]
theorem runP_iff {a c : Int} : runP a c = true ↔ (0 ≤ a ∧ a ≤ 512) ∧ (1 ≤ c ∧ c ≤ 512) ∧ a + c ≤ 512 := by
  simp only [runP, Bool.and_eq_true, inR_iff, decide_eq_true_eq, and_assoc]
theorem runP_f {a c : Int} : runP a c = false ↔ ¬ ((0 ≤ a ∧ a ≤ 512) ∧ (1 ≤ c ∧ c ≤ 512) ∧ a + c ≤ 512) := by
  rw [Bool.eq_false_iff, ne_eq, runP_iff]

end Go.Proofs.YtnakicjkolpacaaDoor

/- The document's answers: is a command right? -/
set_option linter.unusedSimpArgs false
set_option linter.unusedVariables false
set_option maxRecDepth 10000
set_option maxHeartbeats 16000000
namespace Go.Proofs.YtnakicjkolpacaaDoor
open Go.AI
attribute [local irreducible] aops aexec acall aiter aop W WO

variable {xf : ExtF} {gf : CallF}

theorem chkP_k1 {i p s f n o g : Int} {x : List UInt8} : chkP ⟨1, i, p, s, f, n, o, g, x⟩ ↔ (((1 ≤ i ∧ i ≤ 4611686018427387903) ∧ p ≠ i ∧ (p = 0 ∨ (1 ≤ p ∧ p ≤ 4611686018427387903))) ∧ (0 ≤ s ∧ s ≤ 512) ∧ (0 ≤ n ∧ n ≤ 65535) ∧ f = 0 ∧ o = 0 ∧ g = 0 ∧ x.length = 0) := by
  rw [chkP_iff]
  constructor
  · intro h
    unfold rightD at h
    rcases h with h | h | h | h | h | h
    · exact h.2
    · exact absurd (show (1 : Int) = 2 from h.1) (by decide)
    · exact absurd (show (1 : Int) = 3 from h.1) (by decide)
    · exact absurd (show (1 : Int) = 4 from h.1) (by decide)
    · exact absurd (show (1 : Int) = 5 from h.1) (by decide)
    · exact absurd (show (1 : Int) = 6 from h.1) (by decide)
  · intro h
    exact .inl ⟨rfl, h⟩

theorem e_ref_Command1 (k : Nat) (t fl : Bool) (sz : Nat) (i p s f n o g : Int) (x : List UInt8) (hl : x.length < 1000000) : FnV (acall B xf gf (k + 3)) n_ref01_Command [Cmd.av t fl sz ⟨1, i, p, s, f, n, o, g, x⟩] (.bool (decide (chkP ⟨1, i, p, s, f, n, o, g, x⟩))) := by
  refine fn_of B_ref01_Command rfl ?_
  unfold ref01_Command Cmd.av
  repeat' (first
   | refine q_s ?_ | refine q_z ?_ | refine q_b ?_ | refine wo_lenG (n := x.length) rfl (by simp) rfl rfl ?_ | refine wo_rem (a := (x.length : Int)) rfl rfl (by omega) (by omega) rfl rfl ?_
    | refine wo_quo (a := (x.length : Int)) rfl rfl (by omega) (by omega) rfl rfl ?_ | refine q_n ?_ | refine q_nn ?_ | refine q_mv ?_ | refine q_faddr ?_ | refine q_load ?_ | refine q_loadI ?_
    | refine q_loadR ?_ | refine q_cmp ?_ | refine q_cmp2 (fun _ => ?_) (fun _ => ?_) | refine q_rem ?_ | refine q_quo ?_ | refine q_bin ?_ | refine q_pickT ?_ | refine q_pickF ?_
    | refine q_notT ?_ | refine q_notF ?_ | refine q_len ?_ | refine q_lenS ?_ | refine q_len0 ?_ | refine q_store ?_ | refine q_storeR ?_ | refine q_box ?_ | refine q_build ?_
    | refine q_callB (e_ref_Id k _) (fun _ => ?_) (fun _ => ?_) | refine q_call (e_ref_Id k _) ?_ | refine q_callB (e_ref_In (k + 1) _ _ _) (fun _ => ?_) (fun _ => ?_)
    | refine q_call (e_ref_In (k + 1) _ _ _) ?_ | refine q_callB (e_ref_run k _ _) (fun _ => ?_) (fun _ => ?_) | refine q_call (e_ref_run k _ _) ?_)
  all_goals (refine ⟨Or.inr rfl, _, rfl, ?_⟩; show AV.bool _ = AV.bool _; congr 1; symm; simp only [cmpP, inR_iff, inR_f, runP_iff, runP_f] at *)
  all_goals first
    | (refine decide_eq_true (chkP_k1.2 ?_); omega)
    | (refine decide_eq_false (fun hh => ?_); rw [chkP_k1] at hh; omega)

end Go.Proofs.YtnakicjkolpacaaDoor

/- The document's answers: is a command right? -/
set_option linter.unusedSimpArgs false
set_option linter.unusedVariables false
set_option maxRecDepth 10000
set_option maxHeartbeats 16000000
namespace Go.Proofs.YtnakicjkolpacaaDoor
open Go.AI
attribute [local irreducible] aops aexec acall aiter aop W WO

variable {xf : ExtF} {gf : CallF}

theorem chkP_k2 {i p s f n o g : Int} {x : List UInt8} : chkP ⟨2, i, p, s, f, n, o, g, x⟩ ↔ ((x.length % 64 = 0 ∧ 64 ≤ x.length ∧ x.length ≤ 512) ∧ (0 ≤ f ∧ f ≤ 512 - (x.length / 64 : Int)) ∧ i = 0 ∧ p = 0 ∧ s = 0 ∧ n = 0 ∧ o = 0 ∧ g = 0) := by
  rw [chkP_iff]
  constructor
  · intro h
    unfold rightD at h
    rcases h with h | h | h | h | h | h
    · exact absurd (show (2 : Int) = 1 from h.1) (by decide)
    · exact h.2
    · exact absurd (show (2 : Int) = 3 from h.1) (by decide)
    · exact absurd (show (2 : Int) = 4 from h.1) (by decide)
    · exact absurd (show (2 : Int) = 5 from h.1) (by decide)
    · exact absurd (show (2 : Int) = 6 from h.1) (by decide)
  · intro h
    exact .inr (.inl ⟨rfl, h⟩)

theorem e_ref_Command2 (k : Nat) (t fl : Bool) (sz : Nat) (i p s f n o g : Int) (x : List UInt8) (hl : x.length < 1000000) : FnV (acall B xf gf (k + 3)) n_ref01_Command [Cmd.av t fl sz ⟨2, i, p, s, f, n, o, g, x⟩] (.bool (decide (chkP ⟨2, i, p, s, f, n, o, g, x⟩))) := by
  refine fn_of B_ref01_Command rfl ?_
  unfold ref01_Command Cmd.av
  repeat' (first
   | refine q_s ?_ | refine q_z ?_ | refine q_b ?_ | refine wo_lenG (n := x.length) rfl (by simp) rfl rfl ?_ | refine wo_rem (a := (x.length : Int)) rfl rfl (by omega) (by omega) rfl rfl ?_
    | refine wo_quo (a := (x.length : Int)) rfl rfl (by omega) (by omega) rfl rfl ?_ | refine q_n ?_ | refine q_nn ?_ | refine q_mv ?_ | refine q_faddr ?_ | refine q_load ?_ | refine q_loadI ?_
    | refine q_loadR ?_ | refine q_cmp ?_ | refine q_cmp2 (fun _ => ?_) (fun _ => ?_) | refine q_rem ?_ | refine q_quo ?_ | refine q_bin ?_ | refine q_pickT ?_ | refine q_pickF ?_
    | refine q_notT ?_ | refine q_notF ?_ | refine q_len ?_ | refine q_lenS ?_ | refine q_len0 ?_ | refine q_store ?_ | refine q_storeR ?_ | refine q_box ?_ | refine q_build ?_
    | refine q_callB (e_ref_Id k _) (fun _ => ?_) (fun _ => ?_) | refine q_call (e_ref_Id k _) ?_ | refine q_callB (e_ref_In (k + 1) _ _ _) (fun _ => ?_) (fun _ => ?_)
    | refine q_call (e_ref_In (k + 1) _ _ _) ?_ | refine q_callB (e_ref_run k _ _) (fun _ => ?_) (fun _ => ?_) | refine q_call (e_ref_run k _ _) ?_)
  all_goals (refine ⟨Or.inr rfl, _, rfl, ?_⟩; show AV.bool _ = AV.bool _; congr 1; symm; simp only [cmpP, inR_iff, inR_f, runP_iff, runP_f] at *)
  all_goals first
    | (refine decide_eq_true (chkP_k2.2 ?_); omega)
    | (refine decide_eq_false (fun hh => ?_); rw [chkP_k2] at hh; omega)

theorem chkP_k3 {i p s f n o g : Int} {x : List UInt8} : chkP ⟨3, i, p, s, f, n, o, g, x⟩ ↔ (0 < n ∧ (0 ≤ f ∧ n ≤ 512 ∧ f ≤ 512 - n) ∧ i = 0 ∧ p = 0 ∧ s = 0 ∧ o = 0 ∧ g = 0 ∧ x.length = 0) := by
  rw [chkP_iff]
  constructor
  · intro h
    unfold rightD at h
    rcases h with h | h | h | h | h | h
    · exact absurd (show (3 : Int) = 1 from h.1) (by decide)
    · exact absurd (show (3 : Int) = 2 from h.1) (by decide)
    · exact h.2
    · exact absurd (show (3 : Int) = 4 from h.1) (by decide)
    · exact absurd (show (3 : Int) = 5 from h.1) (by decide)
    · exact absurd (show (3 : Int) = 6 from h.1) (by decide)
  · intro h
    exact .inr (.inr (.inl ⟨rfl, h⟩))

theorem e_ref_Command3 (k : Nat) (t fl : Bool) (sz : Nat) (i p s f n o g : Int) (x : List UInt8) (hl : x.length < 1000000) : FnV (acall B xf gf (k + 3)) n_ref01_Command [Cmd.av t fl sz ⟨3, i, p, s, f, n, o, g, x⟩] (.bool (decide (chkP ⟨3, i, p, s, f, n, o, g, x⟩))) := by
  refine fn_of B_ref01_Command rfl ?_
  unfold ref01_Command Cmd.av
  repeat' (first
   | refine q_s ?_ | refine q_z ?_ | refine q_b ?_ | refine wo_lenG (n := x.length) rfl (by simp) rfl rfl ?_ | refine wo_rem (a := (x.length : Int)) rfl rfl (by omega) (by omega) rfl rfl ?_
    | refine wo_quo (a := (x.length : Int)) rfl rfl (by omega) (by omega) rfl rfl ?_ | refine q_n ?_ | refine q_nn ?_ | refine q_mv ?_ | refine q_faddr ?_ | refine q_load ?_ | refine q_loadI ?_
    | refine q_loadR ?_ | refine q_cmp ?_ | refine q_cmp2 (fun _ => ?_) (fun _ => ?_) | refine q_rem ?_ | refine q_quo ?_ | refine q_bin ?_ | refine q_pickT ?_ | refine q_pickF ?_
    | refine q_notT ?_ | refine q_notF ?_ | refine q_len ?_ | refine q_lenS ?_ | refine q_len0 ?_ | refine q_store ?_ | refine q_storeR ?_ | refine q_box ?_ | refine q_build ?_
    | refine q_callB (e_ref_Id k _) (fun _ => ?_) (fun _ => ?_) | refine q_call (e_ref_Id k _) ?_ | refine q_callB (e_ref_In (k + 1) _ _ _) (fun _ => ?_) (fun _ => ?_)
    | refine q_call (e_ref_In (k + 1) _ _ _) ?_ | refine q_callB (e_ref_run k _ _) (fun _ => ?_) (fun _ => ?_) | refine q_call (e_ref_run k _ _) ?_)
  all_goals (refine ⟨Or.inr rfl, _, rfl, ?_⟩; show AV.bool _ = AV.bool _; congr 1; symm; simp only [cmpP, inR_iff, inR_f, runP_iff, runP_f] at *)
  all_goals first
    | (refine decide_eq_true (chkP_k3.2 ?_); omega)
    | (refine decide_eq_false (fun hh => ?_); rw [chkP_k3] at hh; omega)

end Go.Proofs.YtnakicjkolpacaaDoor

/- The document's answers: is a command right? -/
set_option linter.unusedSimpArgs false
set_option linter.unusedVariables false
set_option maxRecDepth 10000
set_option maxHeartbeats 16000000
namespace Go.Proofs.YtnakicjkolpacaaDoor
open Go.AI
attribute [local irreducible] aops aexec acall aiter aop W WO

variable {xf : ExtF} {gf : CallF}

theorem chkP_k4 {i p s f n o g : Int} {x : List UInt8} : chkP ⟨4, i, p, s, f, n, o, g, x⟩ ↔ (0 < n ∧ (0 ≤ f ∧ n ≤ 512 ∧ f ≤ 512 - n) ∧ (0 ≤ o ∧ o ≤ 512 - n) ∧ i = 0 ∧ p = 0 ∧ s = 0 ∧ g = 0 ∧ x.length = 0) := by
  rw [chkP_iff]
  constructor
  · intro h
    unfold rightD at h
    rcases h with h | h | h | h | h | h
    · exact absurd (show (4 : Int) = 1 from h.1) (by decide)
    · exact absurd (show (4 : Int) = 2 from h.1) (by decide)
    · exact absurd (show (4 : Int) = 3 from h.1) (by decide)
    · exact h.2
    · exact absurd (show (4 : Int) = 5 from h.1) (by decide)
    · exact absurd (show (4 : Int) = 6 from h.1) (by decide)
  · intro h
    exact .inr (.inr (.inr (.inl ⟨rfl, h⟩)))

theorem e_ref_Command4 (k : Nat) (t fl : Bool) (sz : Nat) (i p s f n o g : Int) (x : List UInt8) (hl : x.length < 1000000) : FnV (acall B xf gf (k + 3)) n_ref01_Command [Cmd.av t fl sz ⟨4, i, p, s, f, n, o, g, x⟩] (.bool (decide (chkP ⟨4, i, p, s, f, n, o, g, x⟩))) := by
  refine fn_of B_ref01_Command rfl ?_
  unfold ref01_Command Cmd.av
  repeat' (first
   | refine q_s ?_ | refine q_z ?_ | refine q_b ?_ | refine wo_lenG (n := x.length) rfl (by simp) rfl rfl ?_ | refine wo_rem (a := (x.length : Int)) rfl rfl (by omega) (by omega) rfl rfl ?_
    | refine wo_quo (a := (x.length : Int)) rfl rfl (by omega) (by omega) rfl rfl ?_ | refine q_n ?_ | refine q_nn ?_ | refine q_mv ?_ | refine q_faddr ?_ | refine q_load ?_ | refine q_loadI ?_
    | refine q_loadR ?_ | refine q_cmp ?_ | refine q_cmp2 (fun _ => ?_) (fun _ => ?_) | refine q_rem ?_ | refine q_quo ?_ | refine q_bin ?_ | refine q_pickT ?_ | refine q_pickF ?_
    | refine q_notT ?_ | refine q_notF ?_ | refine q_len ?_ | refine q_lenS ?_ | refine q_len0 ?_ | refine q_store ?_ | refine q_storeR ?_ | refine q_box ?_ | refine q_build ?_
    | refine q_callB (e_ref_Id k _) (fun _ => ?_) (fun _ => ?_) | refine q_call (e_ref_Id k _) ?_ | refine q_callB (e_ref_In (k + 1) _ _ _) (fun _ => ?_) (fun _ => ?_)
    | refine q_call (e_ref_In (k + 1) _ _ _) ?_ | refine q_callB (e_ref_run k _ _) (fun _ => ?_) (fun _ => ?_) | refine q_call (e_ref_run k _ _) ?_)
  all_goals (refine ⟨Or.inr rfl, _, rfl, ?_⟩; show AV.bool _ = AV.bool _; congr 1; symm; simp only [cmpP, inR_iff, inR_f, runP_iff, runP_f] at *)
  all_goals first
    | (refine decide_eq_true (chkP_k4.2 ?_); omega)
    | (refine decide_eq_false (fun hh => ?_); rw [chkP_k4] at hh; omega)

theorem chkP_k5 {i p s f n o g : Int} {x : List UInt8} : chkP ⟨5, i, p, s, f, n, o, g, x⟩ ↔ ((0 ≤ s ∧ s ≤ 512) ∧ i = 0 ∧ p = 0 ∧ f = 0 ∧ n = 0 ∧ o = 0 ∧ g = 0 ∧ x.length = 0) := by
  rw [chkP_iff]
  constructor
  · intro h
    unfold rightD at h
    rcases h with h | h | h | h | h | h
    · exact absurd (show (5 : Int) = 1 from h.1) (by decide)
    · exact absurd (show (5 : Int) = 2 from h.1) (by decide)
    · exact absurd (show (5 : Int) = 3 from h.1) (by decide)
    · exact absurd (show (5 : Int) = 4 from h.1) (by decide)
    · exact h.2
    · exact absurd (show (5 : Int) = 6 from h.1) (by decide)
  · intro h
    exact .inr (.inr (.inr (.inr (.inl ⟨rfl, h⟩))))

theorem e_ref_Command5 (k : Nat) (t fl : Bool) (sz : Nat) (i p s f n o g : Int) (x : List UInt8) (hl : x.length < 1000000) : FnV (acall B xf gf (k + 3)) n_ref01_Command [Cmd.av t fl sz ⟨5, i, p, s, f, n, o, g, x⟩] (.bool (decide (chkP ⟨5, i, p, s, f, n, o, g, x⟩))) := by
  refine fn_of B_ref01_Command rfl ?_
  unfold ref01_Command Cmd.av
  repeat' (first
   | refine q_s ?_ | refine q_z ?_ | refine q_b ?_ | refine wo_lenG (n := x.length) rfl (by simp) rfl rfl ?_ | refine wo_rem (a := (x.length : Int)) rfl rfl (by omega) (by omega) rfl rfl ?_
    | refine wo_quo (a := (x.length : Int)) rfl rfl (by omega) (by omega) rfl rfl ?_ | refine q_n ?_ | refine q_nn ?_ | refine q_mv ?_ | refine q_faddr ?_ | refine q_load ?_ | refine q_loadI ?_
    | refine q_loadR ?_ | refine q_cmp ?_ | refine q_cmp2 (fun _ => ?_) (fun _ => ?_) | refine q_rem ?_ | refine q_quo ?_ | refine q_bin ?_ | refine q_pickT ?_ | refine q_pickF ?_
    | refine q_notT ?_ | refine q_notF ?_ | refine q_len ?_ | refine q_lenS ?_ | refine q_len0 ?_ | refine q_store ?_ | refine q_storeR ?_ | refine q_box ?_ | refine q_build ?_
    | refine q_callB (e_ref_Id k _) (fun _ => ?_) (fun _ => ?_) | refine q_call (e_ref_Id k _) ?_ | refine q_callB (e_ref_In (k + 1) _ _ _) (fun _ => ?_) (fun _ => ?_)
    | refine q_call (e_ref_In (k + 1) _ _ _) ?_ | refine q_callB (e_ref_run k _ _) (fun _ => ?_) (fun _ => ?_) | refine q_call (e_ref_run k _ _) ?_)
  all_goals (refine ⟨Or.inr rfl, _, rfl, ?_⟩; show AV.bool _ = AV.bool _; congr 1; symm; simp only [cmpP, inR_iff, inR_f, runP_iff, runP_f] at *)
  all_goals first
    | (refine decide_eq_true (chkP_k5.2 ?_); omega)
    | (refine decide_eq_false (fun hh => ?_); rw [chkP_k5] at hh; omega)

theorem chkP_k6 {i p s f n o g : Int} {x : List UInt8} : chkP ⟨6, i, p, s, f, n, o, g, x⟩ ↔ ((0 ≤ n ∧ n ≤ 65535) ∧ (0 ≤ g ∧ g ≤ 4294967295) ∧ i = 0 ∧ p = 0 ∧ s = 0 ∧ f = 0 ∧ o = 0 ∧ x.length = 0) := by
  rw [chkP_iff]
  constructor
  · intro h
    unfold rightD at h
    rcases h with h | h | h | h | h | h
    · exact absurd (show (6 : Int) = 1 from h.1) (by decide)
    · exact absurd (show (6 : Int) = 2 from h.1) (by decide)
    · exact absurd (show (6 : Int) = 3 from h.1) (by decide)
    · exact absurd (show (6 : Int) = 4 from h.1) (by decide)
    · exact absurd (show (6 : Int) = 5 from h.1) (by decide)
    · exact h.2
  · intro h
    exact .inr (.inr (.inr (.inr (.inr (⟨rfl, h⟩)))))

theorem e_ref_Command6 (k : Nat) (t fl : Bool) (sz : Nat) (i p s f n o g : Int) (x : List UInt8) (hl : x.length < 1000000) : FnV (acall B xf gf (k + 3)) n_ref01_Command [Cmd.av t fl sz ⟨6, i, p, s, f, n, o, g, x⟩] (.bool (decide (chkP ⟨6, i, p, s, f, n, o, g, x⟩))) := by
  refine fn_of B_ref01_Command rfl ?_
  unfold ref01_Command Cmd.av
  repeat' (first
   | refine q_s ?_ | refine q_z ?_ | refine q_b ?_ | refine wo_lenG (n := x.length) rfl (by simp) rfl rfl ?_ | refine wo_rem (a := (x.length : Int)) rfl rfl (by omega) (by omega) rfl rfl ?_
    | refine wo_quo (a := (x.length : Int)) rfl rfl (by omega) (by omega) rfl rfl ?_ | refine q_n ?_ | refine q_nn ?_ | refine q_mv ?_ | refine q_faddr ?_ | refine q_load ?_ | refine q_loadI ?_
    | refine q_loadR ?_ | refine q_cmp ?_ | refine q_cmp2 (fun _ => ?_) (fun _ => ?_) | refine q_rem ?_ | refine q_quo ?_ | refine q_bin ?_ | refine q_pickT ?_ | refine q_pickF ?_
    | refine q_notT ?_ | refine q_notF ?_ | refine q_len ?_ | refine q_lenS ?_ | refine q_len0 ?_ | refine q_store ?_ | refine q_storeR ?_ | refine q_box ?_ | refine q_build ?_
    | refine q_callB (e_ref_Id k _) (fun _ => ?_) (fun _ => ?_) | refine q_call (e_ref_Id k _) ?_ | refine q_callB (e_ref_In (k + 1) _ _ _) (fun _ => ?_) (fun _ => ?_)
    | refine q_call (e_ref_In (k + 1) _ _ _) ?_ | refine q_callB (e_ref_run k _ _) (fun _ => ?_) (fun _ => ?_) | refine q_call (e_ref_run k _ _) ?_)
  all_goals (refine ⟨Or.inr rfl, _, rfl, ?_⟩; show AV.bool _ = AV.bool _; congr 1; symm; simp only [cmpP, inR_iff, inR_f, runP_iff, runP_f] at *)
  all_goals first
    | (refine decide_eq_true (chkP_k6.2 ?_); omega)
    | (refine decide_eq_false (fun hh => ?_); rw [chkP_k6] at hh; omega)

end Go.Proofs.YtnakicjkolpacaaDoor

/- The document's answers: is a command right? -/
set_option linter.unusedSimpArgs false
set_option linter.unusedVariables false
set_option maxRecDepth 10000
set_option maxHeartbeats 16000000
namespace Go.Proofs.YtnakicjkolpacaaDoor
open Go.AI
attribute [local irreducible] aops aexec acall aiter aop W WO

variable {xf : ExtF} {gf : CallF}

theorem e_ref_Command (k : Nat) (t f : Bool) (s : Nat) (c : Cmd) (hl : c.data.length < 1000000) : FnV (acall B xf gf (k + 3)) n_ref01_Command [c.av t f s] (.bool (decide (chkP c))) := by
  obtain ⟨kd, i, p, sz, fr, n, o, g, x⟩ := c
  by_cases h1 : kd = 1
  · subst h1; exact e_ref_Command1 k t f s i p sz fr n o g x hl
  by_cases h2 : kd = 2
  · subst h2; exact e_ref_Command2 k t f s i p sz fr n o g x hl
  by_cases h3 : kd = 3
  · subst h3; exact e_ref_Command3 k t f s i p sz fr n o g x hl
  by_cases h4 : kd = 4
  · subst h4; exact e_ref_Command4 k t f s i p sz fr n o g x hl
  by_cases h5 : kd = 5
  · subst h5; exact e_ref_Command5 k t f s i p sz fr n o g x hl
  by_cases h6 : kd = 6
  · subst h6; exact e_ref_Command6 k t f s i p sz fr n o g x hl
  have hn : ¬ chkP ⟨kd, i, p, sz, fr, n, o, g, x⟩ := by
    intro h
    have := chk_kind h
    simp only at this
    omega
  rw [decide_eq_false hn]
  refine fn_of B_ref01_Command rfl ?_
  unfold ref01_Command Cmd.av
  repeat' (first
   | refine q_s ?_ | refine q_z ?_ | refine q_b ?_ | refine q_n ?_ | refine q_nn ?_ | refine q_mv ?_ | refine q_faddr ?_ | refine q_load ?_ | refine q_loadI ?_ | refine q_loadR ?_
    | refine q_cmp ?_ | refine q_cmp2 (fun _ => ?_) (fun _ => ?_) | refine q_rem ?_ | refine q_quo ?_ | refine q_bin ?_ | refine q_pickT ?_ | refine q_pickF ?_ | refine q_notT ?_
    | refine q_notF ?_ | refine q_len ?_ | refine q_lenS ?_ | refine q_len0 ?_ | refine q_store ?_ | refine q_storeR ?_ | refine q_box ?_ | refine q_build ?_)
  exact ⟨Or.inr rfl, _, rfl, rfl⟩

end Go.Proofs.YtnakicjkolpacaaDoor

/- The document's answers: the command of a payload. -/
set_option linter.unusedSimpArgs false
set_option linter.unusedVariables false
set_option maxRecDepth 10000
set_option maxHeartbeats 16000000
namespace Go.Proofs.YtnakicjkolpacaaDoor
open Go.AI
attribute [local irreducible] aops aexec acall aiter aop W WO

variable {xf : ExtF} {gf : CallF}

theorem e_ref_Get8 (k : Nat) (hk : 9 < k) (t f : Bool) (l : List UInt8) (a : Nat) (ha : a + 8 ≤ l.length) (hl : l.length < 1000000) :
    FnV (acall B xf gf (k + 2)) n_ref01_Get8 [.islc t f 1 (BL l), .int .i64 a] (.tup [.int .i64 (getP l a 8).1, .bool (decide ((getP l a 8).2 = 0))]) := by
  have e : (l.drop (a : Int).toNat).take (((a : Int) + 8).toNat - (a : Int).toNat) = (l.drop a).take 8 := by
    rw [Int.toNat_natCast]
    congr 1
    omega
  have h := fun f => e_ref_Number (xf := xf) (gf := gf) k hk t f ((l.drop a).take 8) (by simp; omega)
  have hg : getP l a 8 = if leN ((l.drop a).take 8) ≤ 4611686018427387903 then ((leN ((l.drop a).take 8) : Int), 0) else (0, 1) := by
    unfold getP
    rw [if_pos ⟨by omega, by omega⟩, Int.toNat_natCast]
  by_cases hle : leN ((l.drop a).take 8) ≤ 4611686018427387903
  · rw [if_pos hle] at hg
    simp only [if_pos hle] at h
    rw [hg]
    refine fn_of B_ref01_Get8 rfl ?_
    unfold ref01_Get8
    repeat' (first
     | refine q_s ?_ | refine q_z ?_ | (refine wo_call (h _) rfl (by rw [← e]; rfl) rfl ?_) | refine q_mv ?_ | refine q_add ?_ | refine q_ex ?_ | refine q_slice0 ?_ | refine q_sliceE ?_
      | refine q_sliceM ?_)
    exact ⟨Or.inr rfl, _, rfl, rfl⟩
  · rw [if_neg hle] at hg
    simp only [if_neg hle] at h
    rw [hg]
    refine fn_of B_ref01_Get8 rfl ?_
    unfold ref01_Get8
    repeat' (first
     | refine q_s ?_ | refine q_z ?_ | (refine wo_call (h _) rfl (by rw [← e]; rfl) rfl ?_) | refine q_mv ?_ | refine q_add ?_ | refine q_ex ?_ | refine q_slice0 ?_ | refine q_sliceE ?_
      | refine q_sliceM ?_)
    exact ⟨Or.inr rfl, _, rfl, rfl⟩

theorem getP4n {l : List UInt8} {a : Nat} (h : a + 4 ≤ l.length) : getP l (a : Int) 4 = ((leN ((l.drop a).take 4) : Int), 0) := by
  rw [getP4 (by omega) (by omega), Int.toNat_natCast]

/-- A number of four bytes. -/
def g4 (l : List UInt8) (a : Nat) : Int := leN ((l.drop a).take 4)

theorem num44 {b : List UInt8} (h : b.length = 8) : numB b [4, 4] = true ∧ numO b [4, 4] = [g4 b 0, g4 b 4] := by
  have e : numGo b 0 [4, 4] = some ([g4 b 0, g4 b 4], 8) := by
    simp only [numGo]
    rw [getP4n (a := 0) (by omega), getP4n (a := 0 + 4) (by omega)]
    rfl
  unfold numB numO
  rw [e]
  exact ⟨decide_eq_true h.symm, rfl⟩
theorem num444 {b : List UInt8} (h : b.length = 12) : numB b [4, 4, 4] = true ∧ numO b [4, 4, 4] = [g4 b 0, g4 b 4, g4 b 8] := by
  have e : numGo b 0 [4, 4, 4] = some ([g4 b 0, g4 b 4, g4 b 8], 12) := by
    simp only [numGo]
    rw [getP4n (a := 0) (by omega), getP4n (a := 0 + 4) (by omega), getP4n (a := 0 + 4 + 4) (by omega)]
    rfl
  unfold numB numO
  rw [e]
  exact ⟨decide_eq_true h.symm, rfl⟩
theorem num4 {b : List UInt8} (h : b.length = 4) : numB b [4] = true ∧ numO b [4] = [g4 b 0] := by
  have e : numGo b 0 [4] = some ([g4 b 0], 4) := by
    simp only [numGo]
    rw [getP4n (a := 0) (by omega)]
    rfl
  unfold numB numO
  rw [e]
  exact ⟨decide_eq_true h.symm, rfl⟩
theorem num8844 {b : List UInt8} (h : b.length = 24) : numB b [8, 8, 4, 4] = (decide ((getP b (0 : Nat) 8).2 = 0) && decide ((getP b (8 : Nat) 8).2 = 0)) ∧
    ((getP b (0 : Nat) 8).2 = 0 → (getP b (8 : Nat) 8).2 = 0 → numO b [8, 8, 4, 4] = [(getP b (0 : Nat) 8).1, (getP b (8 : Nat) 8).1, g4 b 16, g4 b 20]) := by
  have e : numGo b 0 [8, 8, 4, 4] = if (getP b (0 : Nat) 8).2 = 0 then (if (getP b (8 : Nat) 8).2 = 0 then some ([(getP b (0 : Nat) 8).1, (getP b (8 : Nat) 8).1, g4 b 16, g4 b 20], 24) else none) else none := by
    simp only [numGo]
    rw [getP4n (a := 0 + 8 + 8) (by omega), getP4n (a := 0 + 8 + 8 + 4) (by omega)]
    split
    · split
      · rfl
      · rfl
    · rfl
  unfold numB numO
  rw [e]
  by_cases h1 : (getP b (0 : Nat) 8).2 = 0
  · by_cases h2 : (getP b (8 : Nat) 8).2 = 0
    · rw [if_pos h1, if_pos h2]
      exact ⟨by show decide (24 = b.length) = _; rw [decide_eq_true h.symm, decide_eq_true h1, decide_eq_true h2]; rfl, fun _ _ => rfl⟩
    · rw [if_pos h1, if_neg h2]
      exact ⟨by show false = _; rw [decide_eq_true h1, decide_eq_false h2]; rfl, fun _ hh => absurd hh h2⟩
  · rw [if_neg h1]
    exact ⟨by show false = _; rw [decide_eq_false h1]; rfl, fun hh => absurd hh h1⟩

/-- Is a payload a right command of a kind? -/
def okC (kind : Int) (b : List UInt8) : Bool := rawB kind b && decide (chkP (rawC kind b))

/-- What the document's 'command' answers. -/
def CmdAns (cf : CallF) (kind : Int) (t f : Bool) (b : List UInt8) : Prop :=
  ∃ c' f' s', FnV cf n_ref01_command [.int .i64 kind, .islc t f 1 (BL b)] (.tup [Cmd.av false f' s' c', .bool (okC kind b)]) ∧ (okC kind b = true → Cmd.av false f' s' c' = rawAv kind b)

theorem e_ref_command3 (k : Nat) (hk : 9 < k) (t f : Bool) (b : List UInt8) (hb : b.length < 900000) : CmdAns (acall B xf gf (k + 4)) 3 t f b := by
  by_cases hl : b.length = 8
  · obtain ⟨q1, q2⟩ := num44 hl
    have hg0 := e_ref_Get4 (xf := xf) (gf := gf) (k + 1) (by omega) t f b 0 (by omega) (by omega)
    change FnV _ _ _ (.int .i64 (g4 b 0)) at hg0
    have hg4 := e_ref_Get4 (xf := xf) (gf := gf) (k + 1) (by omega) t f b 4 (by omega) (by omega)
    change FnV _ _ _ (.int .i64 (g4 b 4)) at hg4
    have hrc : rawC 3 b = ⟨3, 0, 0, 0, g4 b 0, g4 b 4, 0, 0, []⟩ := by simp [rawC, q1, q2]
    have hrb : rawB 3 b = true := by simp [rawB, q1]
    have hrd : rawD 3 b = false := by simp [rawD]
    have hcc := e_ref_Command (xf := xf) (gf := gf) k false true 0 ⟨3, 0, 0, 0, g4 b 0, g4 b 4, 0, 0, []⟩ (by simp)
    refine ⟨⟨3, 0, 0, 0, g4 b 0, g4 b 4, 0, 0, []⟩, true, 0, ?_, fun _ => by unfold rawAv; rw [hrc, hrd]; rfl⟩
    unfold okC
    rw [hrb, hrc, Bool.true_and]
    unfold Cmd.av at hcc
    refine fn_of B_ref01_command rfl ?_
    unfold ref01_command
    repeat' (first
     | refine q_s ?_ | refine q_z ?_ | refine q_b ?_ | refine wo_call hg0 rfl rfl rfl ?_ | refine wo_call hg4 rfl rfl rfl ?_ | refine wo_call hcc rfl rfl rfl ?_ | refine q_n ?_ | refine q_nn ?_
      | refine q_mv ?_ | refine q_faddr ?_ | refine q_load ?_ | refine q_loadI ?_ | refine q_loadR ?_ | refine q_cmp ?_ | refine q_cmp2 (fun _ => ?_) (fun _ => ?_) | refine q_add ?_
      | refine q_mul ?_ | refine q_pickT ?_ | refine q_pickF ?_ | refine q_len ?_ | refine q_lenS ?_ | refine q_len0 ?_ | refine q_ex ?_ | refine q_store ?_ | refine q_storeR ?_
      | refine q_box ?_ | refine q_build ?_ | refine q_app fun _ => ?_ | refine q_slice0 ?_ | refine q_sliceE ?_ | refine q_sliceM ?_)
    exact ⟨Or.inr rfl, _, rfl, rfl⟩
  · have hrb : rawB 3 b = false := by
      cases h : rawB 3 b with
      | false => rfl
      | true =>
        have : numB b [4, 4] = true := by simpa [rawB] using h
        exact absurd (by have := numB_len this; simpa using this) hl
    refine ⟨⟨3, 0, 0, 0, 0, 0, 0, 0, []⟩, true, 0, ?_, fun h => ?_⟩
    · unfold okC
      rw [hrb, Bool.false_and]
      refine fn_of B_ref01_command rfl ?_
      unfold ref01_command
      repeat' (first
       | refine q_s ?_ | refine q_z ?_ | refine q_b ?_ | refine q_n ?_ | refine q_nn ?_ | refine q_mv ?_ | refine q_faddr ?_ | refine q_load ?_ | refine q_loadI ?_ | refine q_loadR ?_
        | refine q_cmp ?_ | refine q_cmp2 (fun _ => ?_) (fun _ => ?_) | refine q_add ?_ | refine q_mul ?_ | refine q_pickT ?_ | refine q_pickF ?_ | refine q_len ?_ | refine q_lenS ?_
        | refine q_len0 ?_ | refine q_ex ?_ | refine q_store ?_ | refine q_storeR ?_ | refine q_box ?_ | refine q_build ?_ | refine q_app fun _ => ?_ | refine q_slice0 ?_ | refine q_sliceE ?_
        | refine q_sliceM ?_)
      exact ⟨Or.inr rfl, _, rfl, rfl⟩
    · unfold okC at h
      rw [hrb, Bool.false_and] at h
      cases h

theorem e_ref_command4 (k : Nat) (hk : 9 < k) (t f : Bool) (b : List UInt8) (hb : b.length < 900000) : CmdAns (acall B xf gf (k + 4)) 4 t f b := by
  by_cases hl : b.length = 12
  · obtain ⟨q1, q2⟩ := num444 hl
    have hg0 := e_ref_Get4 (xf := xf) (gf := gf) (k + 1) (by omega) t f b 0 (by omega) (by omega)
    change FnV _ _ _ (.int .i64 (g4 b 0)) at hg0
    have hg4 := e_ref_Get4 (xf := xf) (gf := gf) (k + 1) (by omega) t f b 4 (by omega) (by omega)
    change FnV _ _ _ (.int .i64 (g4 b 4)) at hg4
    have hg8 := e_ref_Get4 (xf := xf) (gf := gf) (k + 1) (by omega) t f b 8 (by omega) (by omega)
    change FnV _ _ _ (.int .i64 (g4 b 8)) at hg8
    have hrc : rawC 4 b = ⟨4, 0, 0, 0, g4 b 0, g4 b 4, g4 b 8, 0, []⟩ := by simp [rawC, q1, q2]
    have hrb : rawB 4 b = true := by simp [rawB, q1]
    have hrd : rawD 4 b = false := by simp [rawD]
    have hcc := e_ref_Command (xf := xf) (gf := gf) k false true 0 ⟨4, 0, 0, 0, g4 b 0, g4 b 4, g4 b 8, 0, []⟩ (by simp)
    refine ⟨⟨4, 0, 0, 0, g4 b 0, g4 b 4, g4 b 8, 0, []⟩, true, 0, ?_, fun _ => by unfold rawAv; rw [hrc, hrd]; rfl⟩
    unfold okC
    rw [hrb, hrc, Bool.true_and]
    unfold Cmd.av at hcc
    refine fn_of B_ref01_command rfl ?_
    unfold ref01_command
    repeat' (first
     | refine q_s ?_ | refine q_z ?_ | refine q_b ?_ | refine wo_call hg0 rfl rfl rfl ?_ | refine wo_call hg4 rfl rfl rfl ?_ | refine wo_call hg8 rfl rfl rfl ?_
      | refine wo_call hcc rfl rfl rfl ?_ | refine q_n ?_ | refine q_nn ?_ | refine q_mv ?_ | refine q_faddr ?_ | refine q_load ?_ | refine q_loadI ?_ | refine q_loadR ?_ | refine q_cmp ?_
      | refine q_cmp2 (fun _ => ?_) (fun _ => ?_) | refine q_add ?_ | refine q_mul ?_ | refine q_pickT ?_ | refine q_pickF ?_ | refine q_len ?_ | refine q_lenS ?_ | refine q_len0 ?_
      | refine q_ex ?_ | refine q_store ?_ | refine q_storeR ?_ | refine q_box ?_ | refine q_build ?_ | refine q_app fun _ => ?_ | refine q_slice0 ?_ | refine q_sliceE ?_ | refine q_sliceM ?_)
    exact ⟨Or.inr rfl, _, rfl, rfl⟩
  · have hrb : rawB 4 b = false := by
      cases h : rawB 4 b with
      | false => rfl
      | true =>
        have : numB b [4, 4, 4] = true := by simpa [rawB] using h
        exact absurd (by have := numB_len this; simpa using this) hl
    refine ⟨⟨4, 0, 0, 0, 0, 0, 0, 0, []⟩, true, 0, ?_, fun h => ?_⟩
    · unfold okC
      rw [hrb, Bool.false_and]
      refine fn_of B_ref01_command rfl ?_
      unfold ref01_command
      repeat' (first
       | refine q_s ?_ | refine q_z ?_ | refine q_b ?_ | refine q_n ?_ | refine q_nn ?_ | refine q_mv ?_ | refine q_faddr ?_ | refine q_load ?_ | refine q_loadI ?_ | refine q_loadR ?_
        | refine q_cmp ?_ | refine q_cmp2 (fun _ => ?_) (fun _ => ?_) | refine q_add ?_ | refine q_mul ?_ | refine q_pickT ?_ | refine q_pickF ?_ | refine q_len ?_ | refine q_lenS ?_
        | refine q_len0 ?_ | refine q_ex ?_ | refine q_store ?_ | refine q_storeR ?_ | refine q_box ?_ | refine q_build ?_ | refine q_app fun _ => ?_ | refine q_slice0 ?_ | refine q_sliceE ?_
        | refine q_sliceM ?_)
      exact ⟨Or.inr rfl, _, rfl, rfl⟩
    · unfold okC at h
      rw [hrb, Bool.false_and] at h
      cases h

theorem e_ref_command5 (k : Nat) (hk : 9 < k) (t f : Bool) (b : List UInt8) (hb : b.length < 900000) : CmdAns (acall B xf gf (k + 4)) 5 t f b := by
  by_cases hl : b.length = 4
  · obtain ⟨q1, q2⟩ := num4 hl
    have hg0 := e_ref_Get4 (xf := xf) (gf := gf) (k + 1) (by omega) t f b 0 (by omega) (by omega)
    change FnV _ _ _ (.int .i64 (g4 b 0)) at hg0
    have hrc : rawC 5 b = ⟨5, 0, 0, g4 b 0, 0, 0, 0, 0, []⟩ := by simp [rawC, q1, q2]
    have hrb : rawB 5 b = true := by simp [rawB, q1]
    have hrd : rawD 5 b = false := by simp [rawD]
    have hcc := e_ref_Command (xf := xf) (gf := gf) k false true 0 ⟨5, 0, 0, g4 b 0, 0, 0, 0, 0, []⟩ (by simp)
    refine ⟨⟨5, 0, 0, g4 b 0, 0, 0, 0, 0, []⟩, true, 0, ?_, fun _ => by unfold rawAv; rw [hrc, hrd]; rfl⟩
    unfold okC
    rw [hrb, hrc, Bool.true_and]
    unfold Cmd.av at hcc
    refine fn_of B_ref01_command rfl ?_
    unfold ref01_command
    repeat' (first
     | refine q_s ?_ | refine q_z ?_ | refine q_b ?_ | refine wo_call hg0 rfl rfl rfl ?_ | refine wo_call hcc rfl rfl rfl ?_ | refine q_n ?_ | refine q_nn ?_ | refine q_mv ?_
      | refine q_faddr ?_ | refine q_load ?_ | refine q_loadI ?_ | refine q_loadR ?_ | refine q_cmp ?_ | refine q_cmp2 (fun _ => ?_) (fun _ => ?_) | refine q_add ?_ | refine q_mul ?_
      | refine q_pickT ?_ | refine q_pickF ?_ | refine q_len ?_ | refine q_lenS ?_ | refine q_len0 ?_ | refine q_ex ?_ | refine q_store ?_ | refine q_storeR ?_ | refine q_box ?_
      | refine q_build ?_ | refine q_app fun _ => ?_ | refine q_slice0 ?_ | refine q_sliceE ?_ | refine q_sliceM ?_)
    exact ⟨Or.inr rfl, _, rfl, rfl⟩
  · have hrb : rawB 5 b = false := by
      cases h : rawB 5 b with
      | false => rfl
      | true =>
        have : numB b [4] = true := by simpa [rawB] using h
        exact absurd (by have := numB_len this; simpa using this) hl
    refine ⟨⟨5, 0, 0, 0, 0, 0, 0, 0, []⟩, true, 0, ?_, fun h => ?_⟩
    · unfold okC
      rw [hrb, Bool.false_and]
      refine fn_of B_ref01_command rfl ?_
      unfold ref01_command
      repeat' (first
       | refine q_s ?_ | refine q_z ?_ | refine q_b ?_ | refine q_n ?_ | refine q_nn ?_ | refine q_mv ?_ | refine q_faddr ?_ | refine q_load ?_ | refine q_loadI ?_ | refine q_loadR ?_
        | refine q_cmp ?_ | refine q_cmp2 (fun _ => ?_) (fun _ => ?_) | refine q_add ?_ | refine q_mul ?_ | refine q_pickT ?_ | refine q_pickF ?_ | refine q_len ?_ | refine q_lenS ?_
        | refine q_len0 ?_ | refine q_ex ?_ | refine q_store ?_ | refine q_storeR ?_ | refine q_box ?_ | refine q_build ?_ | refine q_app fun _ => ?_ | refine q_slice0 ?_ | refine q_sliceE ?_
        | refine q_sliceM ?_)
      exact ⟨Or.inr rfl, _, rfl, rfl⟩
    · unfold okC at h
      rw [hrb, Bool.false_and] at h
      cases h

theorem e_ref_command6 (k : Nat) (hk : 9 < k) (t f : Bool) (b : List UInt8) (hb : b.length < 900000) : CmdAns (acall B xf gf (k + 4)) 6 t f b := by
  by_cases hl : b.length = 8
  · obtain ⟨q1, q2⟩ := num44 hl
    have hg0 := e_ref_Get4 (xf := xf) (gf := gf) (k + 1) (by omega) t f b 0 (by omega) (by omega)
    change FnV _ _ _ (.int .i64 (g4 b 0)) at hg0
    have hg4 := e_ref_Get4 (xf := xf) (gf := gf) (k + 1) (by omega) t f b 4 (by omega) (by omega)
    change FnV _ _ _ (.int .i64 (g4 b 4)) at hg4
    have hrc : rawC 6 b = ⟨6, 0, 0, 0, 0, g4 b 0, 0, g4 b 4, []⟩ := by simp [rawC, q1, q2]
    have hrb : rawB 6 b = true := by simp [rawB, q1]
    have hrd : rawD 6 b = false := by simp [rawD]
    have hcc := e_ref_Command (xf := xf) (gf := gf) k false true 0 ⟨6, 0, 0, 0, 0, g4 b 0, 0, g4 b 4, []⟩ (by simp)
    refine ⟨⟨6, 0, 0, 0, 0, g4 b 0, 0, g4 b 4, []⟩, true, 0, ?_, fun _ => by unfold rawAv; rw [hrc, hrd]; rfl⟩
    unfold okC
    rw [hrb, hrc, Bool.true_and]
    unfold Cmd.av at hcc
    refine fn_of B_ref01_command rfl ?_
    unfold ref01_command
    repeat' (first
     | refine q_s ?_ | refine q_z ?_ | refine q_b ?_ | refine wo_call hg0 rfl rfl rfl ?_ | refine wo_call hg4 rfl rfl rfl ?_ | refine wo_call hcc rfl rfl rfl ?_ | refine q_n ?_ | refine q_nn ?_
      | refine q_mv ?_ | refine q_faddr ?_ | refine q_load ?_ | refine q_loadI ?_ | refine q_loadR ?_ | refine q_cmp ?_ | refine q_cmp2 (fun _ => ?_) (fun _ => ?_) | refine q_add ?_
      | refine q_mul ?_ | refine q_pickT ?_ | refine q_pickF ?_ | refine q_len ?_ | refine q_lenS ?_ | refine q_len0 ?_ | refine q_ex ?_ | refine q_store ?_ | refine q_storeR ?_
      | refine q_box ?_ | refine q_build ?_ | refine q_app fun _ => ?_ | refine q_slice0 ?_ | refine q_sliceE ?_ | refine q_sliceM ?_)
    exact ⟨Or.inr rfl, _, rfl, rfl⟩
  · have hrb : rawB 6 b = false := by
      cases h : rawB 6 b with
      | false => rfl
      | true =>
        have : numB b [4, 4] = true := by simpa [rawB] using h
        exact absurd (by have := numB_len this; simpa using this) hl
    refine ⟨⟨6, 0, 0, 0, 0, 0, 0, 0, []⟩, true, 0, ?_, fun h => ?_⟩
    · unfold okC
      rw [hrb, Bool.false_and]
      refine fn_of B_ref01_command rfl ?_
      unfold ref01_command
      repeat' (first
       | refine q_s ?_ | refine q_z ?_ | refine q_b ?_ | refine q_n ?_ | refine q_nn ?_ | refine q_mv ?_ | refine q_faddr ?_ | refine q_load ?_ | refine q_loadI ?_ | refine q_loadR ?_
        | refine q_cmp ?_ | refine q_cmp2 (fun _ => ?_) (fun _ => ?_) | refine q_add ?_ | refine q_mul ?_ | refine q_pickT ?_ | refine q_pickF ?_ | refine q_len ?_ | refine q_lenS ?_
        | refine q_len0 ?_ | refine q_ex ?_ | refine q_store ?_ | refine q_storeR ?_ | refine q_box ?_ | refine q_build ?_ | refine q_app fun _ => ?_ | refine q_slice0 ?_ | refine q_sliceE ?_
        | refine q_sliceM ?_)
      exact ⟨Or.inr rfl, _, rfl, rfl⟩
    · unfold okC at h
      rw [hrb, Bool.false_and] at h
      cases h

theorem e_ref_command1 (k : Nat) (hk : 9 < k) (t f : Bool) (b : List UInt8) (hb : b.length < 900000) : CmdAns (acall B xf gf (k + 4)) 1 t f b := by
  by_cases hl : b.length = 24
  · obtain ⟨q1, q2⟩ := num8844 hl
    have hr0 := e_ref_Get8 (xf := xf) (gf := gf) (k + 1) (by omega) t f b 0 (by omega) (by omega)
    have hr8 := e_ref_Get8 (xf := xf) (gf := gf) (k + 1) (by omega) t f b 8 (by omega) (by omega)
    have hg16 := e_ref_Get4 (xf := xf) (gf := gf) (k + 1) (by omega) t f b 16 (by omega) (by omega)
    have hg20 := e_ref_Get4 (xf := xf) (gf := gf) (k + 1) (by omega) t f b 20 (by omega) (by omega)
    change FnV _ _ _ (.int .i64 (g4 b 16)) at hg16
    change FnV _ _ _ (.int .i64 (g4 b 20)) at hg20
    have hrd : rawD 1 b = false := by simp [rawD]
    have hcc := e_ref_Command (xf := xf) (gf := gf) k false true 0 ⟨1, (getP b (0 : Nat) 8).1, (getP b (8 : Nat) 8).1, g4 b 16, 0, g4 b 20, 0, 0, []⟩ (by simp)
    refine ⟨⟨1, (getP b (0 : Nat) 8).1, (getP b (8 : Nat) 8).1, g4 b 16, 0, g4 b 20, 0, 0, []⟩, true, 0, ?_, fun h => ?_⟩
    · unfold okC
      rw [show rawB 1 b = numB b [8, 8, 4, 4] by simp [rawB], q1]
      unfold Cmd.av at hcc
      by_cases h1 : (getP b (0 : Nat) 8).2 = 0
      · rw [decide_eq_true h1] at hr0 ⊢
        by_cases h2 : (getP b (8 : Nat) 8).2 = 0
        · rw [decide_eq_true h2] at hr8 ⊢
          rw [h1, h2] at q1
          have hrc : rawC 1 b = ⟨1, (getP b (0 : Nat) 8).1, (getP b (8 : Nat) 8).1, g4 b 16, 0, g4 b 20, 0, 0, []⟩ := by simp [rawC, q1, q2 h1 h2]
          rw [hrc, Bool.true_and, Bool.true_and]
          refine fn_of B_ref01_command rfl ?_
          unfold ref01_command
          repeat' (first
           | refine q_s ?_ | refine q_z ?_ | refine q_b ?_ | refine wo_call hr0 rfl rfl rfl ?_ | refine wo_call hr8 rfl rfl rfl ?_ | refine wo_call hg16 rfl rfl rfl ?_
            | refine wo_call hg20 rfl rfl rfl ?_ | refine wo_call hcc rfl rfl rfl ?_ | refine q_n ?_ | refine q_nn ?_ | refine q_mv ?_ | refine q_faddr ?_ | refine q_load ?_ | refine q_loadI ?_
            | refine q_loadR ?_ | refine q_cmp ?_ | refine q_cmp2 (fun _ => ?_) (fun _ => ?_) | refine q_add ?_ | refine q_mul ?_ | refine q_pickT ?_ | refine q_pickF ?_ | refine q_len ?_
            | refine q_lenS ?_ | refine q_len0 ?_ | refine q_ex ?_ | refine q_store ?_ | refine q_storeR ?_ | refine q_box ?_ | refine q_build ?_ | refine q_app fun _ => ?_ | refine q_slice0 ?_
            | refine q_sliceE ?_ | refine q_sliceM ?_)
          exact ⟨Or.inr rfl, _, rfl, rfl⟩
        · rw [decide_eq_false h2] at hr8 ⊢
          rw [Bool.and_false, Bool.false_and]
          refine fn_of B_ref01_command rfl ?_
          unfold ref01_command
          repeat' (first
           | refine q_s ?_ | refine q_z ?_ | refine q_b ?_ | refine wo_call hr0 rfl rfl rfl ?_ | refine wo_call hr8 rfl rfl rfl ?_ | refine wo_call hg16 rfl rfl rfl ?_
            | refine wo_call hg20 rfl rfl rfl ?_ | refine q_n ?_ | refine q_nn ?_ | refine q_mv ?_ | refine q_faddr ?_ | refine q_load ?_ | refine q_loadI ?_ | refine q_loadR ?_
            | refine q_cmp ?_ | refine q_cmp2 (fun _ => ?_) (fun _ => ?_) | refine q_add ?_ | refine q_mul ?_ | refine q_pickT ?_ | refine q_pickF ?_ | refine q_len ?_ | refine q_lenS ?_
            | refine q_len0 ?_ | refine q_ex ?_ | refine q_store ?_ | refine q_storeR ?_ | refine q_box ?_ | refine q_build ?_ | refine q_app fun _ => ?_ | refine q_slice0 ?_
            | refine q_sliceE ?_ | refine q_sliceM ?_)
          exact ⟨Or.inr rfl, _, rfl, rfl⟩
      · rw [decide_eq_false h1] at hr0 ⊢
        rw [Bool.false_and, Bool.false_and]
        refine fn_of B_ref01_command rfl ?_
        unfold ref01_command
        repeat' (first
         | refine q_s ?_ | refine q_z ?_ | refine q_b ?_ | refine wo_call hr0 rfl rfl rfl ?_ | refine wo_call hr8 rfl rfl rfl ?_ | refine wo_call hg16 rfl rfl rfl ?_
          | refine wo_call hg20 rfl rfl rfl ?_ | refine q_n ?_ | refine q_nn ?_ | refine q_mv ?_ | refine q_faddr ?_ | refine q_load ?_ | refine q_loadI ?_ | refine q_loadR ?_ | refine q_cmp ?_
          | refine q_cmp2 (fun _ => ?_) (fun _ => ?_) | refine q_add ?_ | refine q_mul ?_ | refine q_pickT ?_ | refine q_pickF ?_ | refine q_len ?_ | refine q_lenS ?_ | refine q_len0 ?_
          | refine q_ex ?_ | refine q_store ?_ | refine q_storeR ?_ | refine q_box ?_ | refine q_build ?_ | refine q_app fun _ => ?_ | refine q_slice0 ?_ | refine q_sliceE ?_
          | refine q_sliceM ?_)
        exact ⟨Or.inr rfl, _, rfl, rfl⟩
    · unfold okC at h
      simp only [Bool.and_eq_true] at h
      have h3 : numB b [8, 8, 4, 4] = true := by simpa [rawB] using h.1
      rw [q1, Bool.and_eq_true] at h3
      have h1 := of_decide_eq_true h3.1
      have h2 := of_decide_eq_true h3.2
      rw [h1, h2] at q1
      unfold rawAv
      rw [hrd, show rawC 1 b = ⟨1, (getP b (0 : Nat) 8).1, (getP b (8 : Nat) 8).1, g4 b 16, 0, g4 b 20, 0, 0, []⟩ by simp [rawC, q1, q2 h1 h2]]
      rfl
  · have hrb : rawB 1 b = false := by
      cases h : rawB 1 b with
      | false => rfl
      | true =>
        have : numB b [8, 8, 4, 4] = true := by simpa [rawB] using h
        exact absurd (by have := numB_len this; simpa using this) hl
    refine ⟨⟨1, 0, 0, 0, 0, 0, 0, 0, []⟩, true, 0, ?_, fun h => ?_⟩
    · unfold okC
      rw [hrb, Bool.false_and]
      refine fn_of B_ref01_command rfl ?_
      unfold ref01_command
      repeat' (first
       | refine q_s ?_ | refine q_z ?_ | refine q_b ?_ | refine q_n ?_ | refine q_nn ?_ | refine q_mv ?_ | refine q_faddr ?_ | refine q_load ?_ | refine q_loadI ?_ | refine q_loadR ?_
        | refine q_cmp ?_ | refine q_cmp2 (fun _ => ?_) (fun _ => ?_) | refine q_add ?_ | refine q_mul ?_ | refine q_pickT ?_ | refine q_pickF ?_ | refine q_len ?_ | refine q_lenS ?_
        | refine q_len0 ?_ | refine q_ex ?_ | refine q_store ?_ | refine q_storeR ?_ | refine q_box ?_ | refine q_build ?_ | refine q_app fun _ => ?_ | refine q_slice0 ?_ | refine q_sliceE ?_
        | refine q_sliceM ?_)
      exact ⟨Or.inr rfl, _, rfl, rfl⟩
    · unfold okC at h
      rw [hrb, Bool.false_and] at h
      cases h

theorem g4_take {b : List UInt8} {a : Nat} (h : a + 4 ≤ 8) : g4 (b.take 8) a = g4 b a := by
  unfold g4
  rw [List.drop_take, List.take_take, show min 4 (8 - a) = 4 by omega]

theorem e_ref_command2 (k : Nat) (hk : 9 < k) (t f : Bool) (b : List UInt8) (hb : b.length < 900000) : CmdAns (acall B xf gf (k + 4)) 2 t f b := by
  by_cases h8 : b.length ≤ 8
  · have hok : okC 2 b = false := by
      unfold okC
      cases h : rawB 2 b && decide (chkP (rawC 2 b)) with
      | false => rfl
      | true =>
        simp only [Bool.and_eq_true, decide_eq_true_eq] at h
        have hn : numB (b.take 8) [4, 4] = true := by
          have := h.1
          simp only [rawB, show ¬ ((2 : Int) = 1) by decide, if_false, if_true, Bool.and_eq_true] at this
          exact this.1
        have hrc : rawC 2 b = ⟨2, 0, 0, 0, (numO (b.take 8) [4, 4]).getD 0 0, 0, 0, 0, b.drop 8⟩ := by simp [rawC, hn]
        have h2 := h.2
        rw [hrc, chkP_iff] at h2
        unfold rightD at h2
        simp only [List.length_drop] at h2
        omega
    refine ⟨⟨2, 0, 0, 0, 0, 0, 0, 0, []⟩, true, 0, ?_, fun h => by rw [hok] at h; cases h⟩
    rw [hok]
    refine fn_of B_ref01_command rfl ?_
    unfold ref01_command
    repeat' (first
     | refine q_s ?_ | refine q_z ?_ | refine q_b ?_ | refine q_n ?_ | refine q_nn ?_ | refine q_mv ?_ | refine q_faddr ?_ | refine q_load ?_ | refine q_loadI ?_ | refine q_loadR ?_
      | refine q_cmp ?_ | refine q_cmp2 (fun _ => ?_) (fun _ => ?_) | refine q_add ?_ | refine q_mul ?_ | refine q_pickT ?_ | refine q_pickF ?_ | refine q_len ?_ | refine q_lenS ?_
      | refine q_len0 ?_ | refine q_ex ?_ | refine q_store ?_ | refine q_storeR ?_ | refine q_box ?_ | refine q_build ?_ | refine q_app fun _ => ?_ | refine q_slice0 ?_ | refine q_sliceE ?_
      | refine q_sliceM ?_)
    exact ⟨Or.inr rfl, _, rfl, rfl⟩
  have hg0 := e_ref_Get4 (xf := xf) (gf := gf) (k + 1) (by omega) t f b 0 (by omega) (by omega)
  have hg4 := e_ref_Get4 (xf := xf) (gf := gf) (k + 1) (by omega) t f b 4 (by omega) (by omega)
  change FnV _ _ _ (.int .i64 (g4 b 0)) at hg0
  change FnV _ _ _ (.int .i64 (g4 b 4)) at hg4
  have hr4 : 0 ≤ g4 b 4 ∧ g4 b 4 ≤ 4294967295 := by
    have h := leN_lt ((b.drop 4).take 4)
    have h2 : 256 ^ ((b.drop 4).take 4).length ≤ 256 ^ 4 := Nat.pow_le_pow_right (by decide) (by simp; omega)
    unfold g4
    omega
  obtain ⟨q1, q2⟩ := num44 (b := b.take 8) (by simp; omega)
  rw [g4_take (by omega), g4_take (by omega)] at q2
  have hrc : rawC 2 b = ⟨2, 0, 0, 0, g4 b 0, 0, 0, 0, b.drop 8⟩ := by simp [rawC, q1, q2]
  have hrb : rawB 2 b = decide (g4 b 4 = ((b.drop 8).length / 64 : Int)) := by simp [rawB, q1, q2]
  have hrd : rawD 2 b = true := by simp [rawD, q1]
  by_cases hlen : (b.length : Int) = 8 + 64 * g4 b 4
  · have hcc := e_ref_Command (xf := xf) (gf := gf) k true false 1 ⟨2, 0, 0, 0, g4 b 0, 0, 0, 0, b.drop 8⟩ (by simp; omega)
    have hcm : (8 : Int).toNat = 8 := rfl
    refine ⟨⟨2, 0, 0, 0, g4 b 0, 0, 0, 0, b.drop 8⟩, false, 1, ?_, fun _ => by unfold rawAv; rw [hrc, hrd]; rfl⟩
    unfold okC
    rw [hrb, hrc, decide_eq_true (by simp only [List.length_drop]; omega), Bool.true_and]
    refine fn_of B_ref01_command rfl ?_
    unfold ref01_command
    repeat' (first
     | refine q_s ?_ | refine q_z ?_ | refine q_b ?_ | refine wo_call hg0 rfl rfl rfl ?_ | refine wo_call hg4 rfl rfl rfl ?_
      | (refine wo_app0 (l := b.drop 8) rfl rfl (fun hh => by have := congrArg List.length hh; simp at this; omega) (by simp; omega) rfl rfl ?_)
      | refine wo_call hcc rfl (ha_cmdR rfl rfl rfl) rfl ?_ | refine q_n ?_ | refine q_nn ?_ | refine q_mv ?_ | refine q_faddr ?_ | refine q_load ?_ | refine q_loadI ?_ | refine q_loadR ?_
      | refine q_cmp ?_ | refine q_cmp2 (fun _ => ?_) (fun _ => ?_) | refine q_add ?_ | refine q_mul ?_ | refine q_pickT ?_ | refine q_pickF ?_ | refine q_len ?_ | refine q_lenS ?_
      | refine q_len0 ?_ | refine q_ex ?_ | refine q_store ?_ | refine q_storeR ?_ | refine q_box ?_ | refine q_build ?_ | refine q_app fun _ => ?_ | refine q_slice0 ?_ | refine q_sliceE ?_
      | refine q_sliceM ?_)
    refine ⟨Or.inr rfl, _, rfl, ?_⟩
    show AV.tup [AV.agg [_, _, _, _, _, _, _, _, fz true (2 + 2) _ (AV.slc _ _ _ _ _ _ _)], _] = _
    rw [fz_out (l := b.drop 8) rfl rfl]
    rfl
  · have hok : okC 2 b = false := by
      unfold okC
      cases h : rawB 2 b && decide (chkP (rawC 2 b)) with
      | false => rfl
      | true =>
        simp only [Bool.and_eq_true, decide_eq_true_eq] at h
        have h2 := h.2
        have h3 := h.1
        rw [hrb, decide_eq_true_eq] at h3
        rw [hrc, chkP_iff] at h2
        unfold rightD at h2
        simp only [List.length_drop] at h2 h3
        omega
    refine ⟨⟨2, 0, 0, 0, 0, 0, 0, 0, []⟩, true, 0, ?_, fun h => by rw [hok] at h; cases h⟩
    rw [hok]
    refine fn_of B_ref01_command rfl ?_
    unfold ref01_command
    repeat' (first
     | refine q_s ?_ | refine q_z ?_ | refine q_b ?_ | refine wo_call hg4 rfl rfl rfl ?_ | refine q_n ?_ | refine q_nn ?_ | refine q_mv ?_ | refine q_faddr ?_ | refine q_load ?_
      | refine q_loadI ?_ | refine q_loadR ?_ | refine q_cmp ?_ | refine q_cmp2 (fun _ => ?_) (fun _ => ?_) | refine q_add ?_ | refine q_mul ?_ | refine q_pickT ?_ | refine q_pickF ?_
      | refine q_len ?_ | refine q_lenS ?_ | refine q_len0 ?_ | refine q_ex ?_ | refine q_store ?_ | refine q_storeR ?_ | refine q_box ?_ | refine q_build ?_ | refine q_app fun _ => ?_
      | refine q_slice0 ?_ | refine q_sliceE ?_ | refine q_sliceM ?_)
    exact ⟨Or.inr rfl, _, rfl, rfl⟩

theorem e_ref_command (k : Nat) (hk : 9 < k) (t f : Bool) (kind : Int) (b : List UInt8) (hb : b.length < 900000) : CmdAns (acall B xf gf (k + 4)) kind t f b := by
  by_cases h1 : kind = 1
  · subst h1; exact e_ref_command1 k hk t f b hb
  by_cases h2 : kind = 2
  · subst h2; exact e_ref_command2 k hk t f b hb
  by_cases h3 : kind = 3
  · subst h3; exact e_ref_command3 k hk t f b hb
  by_cases h4 : kind = 4
  · subst h4; exact e_ref_command4 k hk t f b hb
  by_cases h5 : kind = 5
  · subst h5; exact e_ref_command5 k hk t f b hb
  by_cases h6 : kind = 6
  · subst h6; exact e_ref_command6 k hk t f b hb
  have hok : okC kind b = false := by simp [okC, rawB, *]
  refine ⟨⟨kind, 0, 0, 0, 0, 0, 0, 0, []⟩, true, 0, ?_, fun h => by rw [hok] at h; cases h⟩
  rw [hok]
  refine fn_of B_ref01_command rfl ?_
  unfold ref01_command
  repeat' (first
   | refine q_s ?_ | refine q_z ?_ | refine q_b ?_ | refine q_n ?_ | refine q_nn ?_ | refine q_mv ?_ | refine q_faddr ?_ | refine q_load ?_ | refine q_loadI ?_ | refine q_loadR ?_
    | refine q_cmp ?_ | refine q_cmp2 (fun _ => ?_) (fun _ => ?_) | refine q_add ?_ | refine q_mul ?_ | refine q_pickT ?_ | refine q_pickF ?_ | refine q_len ?_ | refine q_lenS ?_
    | refine q_len0 ?_ | refine q_ex ?_ | refine q_store ?_ | refine q_storeR ?_ | refine q_box ?_ | refine q_build ?_ | refine q_app fun _ => ?_ | refine q_slice0 ?_ | refine q_sliceE ?_
    | refine q_sliceM ?_)
  exact ⟨Or.inr rfl, _, rfl, rfl⟩

end Go.Proofs.YtnakicjkolpacaaDoor

/- The document's answers: sums. -/
set_option linter.unusedSimpArgs false
set_option linter.unusedVariables false
set_option maxRecDepth 10000
set_option maxHeartbeats 16000000
namespace Go.Proofs.YtnakicjkolpacaaDoor
open Go.AI
attribute [local irreducible] aops aexec acall aiter aop W WO

variable {xf : ExtF} {gf : CallF}

theorem ref_bits {cf : CallF} {base fuel : Nat} {H : Heap} {T : Tmps} {n : Nat} (hn : n < 4294967296) (hk : 8 < fuel) {v0 v1 v6 : AV} (hT : Has T [(5, .int .u32 n), (7, .int .i64 0), (0, v0), (1, v1), (6, v6)]) :
    W (aexec cf xf base fuel (.loop ref01_More_l0) T H) (fun ex T' H' => ex = .exit 2 ∧ H' = H ∧ Has T' [(5, .int .u32 (crcBits 8 n)), (0, v0), (1, v1), (6, v6)]) := by
  refine w_loop (fun m T' H' => m ≤ 8 ∧ H' = H ∧ ∃ n' : Nat, n' < 4294967296 ∧ crcBits m n' = crcBits 8 n ∧ Has T' [(5, .int .u32 n'), (7, .int .i64 (8 - m : Int)), (0, v0), (1, v1), (6, v6)]) 8 ⟨by omega, rfl, n, hn, rfl, by simpa using hT⟩ hk ?_
  rintro m T H hm ⟨_, rfl, n', hn', hg, hT⟩
  rw [hT.eq]
  simp only [over]
  unfold ref01_More_l0
  have hd : (n' : Int) / 2 = ((n' / 2 : Nat) : Int) := by omega
  repeat' (first
   | refine q_s ?_ | refine q_z ?_ | refine q_b ?_ | refine wo_rem rfl rfl (by omega) (by omega) rfl rfl ?_ | (refine wo_quo32 rfl rfl (by omega) (by omega) rfl rfl ?_; rw [hd])
    | refine wo_xorC rfl (by omega) (by decide) rfl rfl ?_ | refine q_mv ?_ | refine q_cmp ?_ | refine q_cmp2 (fun _ => ?_) (fun _ => ?_) | refine q_add ?_ | refine q_rem ?_ | refine q_quo ?_
    | refine q_bin ?_)
  · rename_i h1
    simp only [cmpP] at h1
    refine ⟨by omega, by omega, rfl, crcBit n', crcBit_lt hn', ?_, ?_, by show AV.int _ _ = _; congr 1; omega, rfl, rfl, rfl, trivial⟩
    · rw [← hg]; obtain ⟨m', rfl⟩ : ∃ m', m = m' + 1 := ⟨m - 1, by omega⟩; rfl
    · show AV.int _ _ = AV.int _ _
      rw [crcBit, if_pos (by omega)]; rfl
  · rename_i h1
    simp only [cmpP] at h1
    refine ⟨by omega, by omega, rfl, crcBit n', crcBit_lt hn', ?_, ?_, by show AV.int _ _ = _; congr 1; omega, rfl, rfl, rfl, trivial⟩
    · rw [← hg]; obtain ⟨m', rfl⟩ : ∃ m', m = m' + 1 := ⟨m - 1, by omega⟩; rfl
    · show AV.int _ _ = AV.int _ _
      rw [crcBit, if_neg (by omega)]
  · rename_i h1
    simp only [cmpP] at h1
    obtain rfl : m = 0 := by omega
    exact ⟨rfl, rfl, by rw [← hg]; rfl, rfl, rfl, rfl, trivial⟩

theorem ref_bytes {cf : CallF} {base fuel : Nat} {H : Heap} {T : Tmps} {n : Nat} {t f : Bool} {l : List UInt8} {v0 : AV} (hn : n < 4294967296) (hl : l.length < 1000000) (hk : 1000000 ≤ fuel)
    (hT : Has T [(5, .int .u32 n), (0, v0), (1, .islc t f 1 (BL l)), (6, .int .i64 0)]) :
    W (aexec cf xf base fuel (.loop ref01_More_l1) T H) (fun ex T' H' => ex = .exit 0 ∧ H' = H ∧ T' 5 = .int .u32 (crcReg n l)) := by
  refine w_loop (fun m T' H' => m ≤ l.length ∧ H' = H ∧ ∃ n' : Nat, n' < 4294967296 ∧ crcReg n' (l.drop (l.length - m)) = crcReg n l ∧ Has T' [(5, .int .u32 n'), (0, v0), (1, .islc t f 1 (BL l)), (6, .int .i64 (l.length - m : Int))])
    l.length ⟨by omega, rfl, n, hn, by simp, by simpa using hT⟩ (by omega) ?_
  rintro m T H hm ⟨_, rfl, n', hn', hg, hT⟩
  rw [hT.eq]
  simp only [over]
  unfold ref01_More_l1
  repeat' (first
   | refine q_s ?_ | refine q_z ?_ | refine q_b ?_ | refine wo_cv32 rfl (u8_lt32 _) rfl rfl ?_ | refine wo_xor32 rfl rfl hn' (u8_lt32 _) rfl rfl ?_ | refine q_mv ?_ | refine q_load ?_
    | refine q_loadI ?_ | refine q_loadR ?_ | refine q_cmp ?_ | refine q_cmp2 (fun _ => ?_) (fun _ => ?_) | refine q_add ?_ | refine q_bin ?_ | refine q_len ?_ | refine q_lenS ?_
    | refine q_len0 ?_ | refine q_cvi ?_ | refine q_at ?_)
  · refine (ref_bits (v0 := v0) (v1 := .islc t f 1 (BL l)) (v6 := .int .i64 (l.length - m : Int)) (Nat.xor_lt_two_pow (n := 32) (by omega) (by have := u8_lt (bAt l (l.length - m)); omega)) (by omega) ⟨rfl, rfl, rfl, rfl, rfl, trivial⟩).mono ?_
    rintro ex T2 H2 ⟨rfl, rfl, h2⟩
    rw [h2.eq]
    simp only [over]
    show W _ _
    repeat' (first
     | refine q_s ?_ | refine q_z ?_ | refine q_b ?_ | refine q_mv ?_ | refine q_load ?_ | refine q_loadI ?_ | refine q_loadR ?_ | refine q_cmp ?_ | refine q_cmp2 (fun _ => ?_) (fun _ => ?_)
      | refine q_add ?_ | refine q_bin ?_ | refine q_len ?_ | refine q_lenS ?_ | refine q_len0 ?_ | refine q_cvi ?_ | refine q_at ?_)
    have hd : l.drop (l.length - m) = bAt l (l.length - m) :: l.drop (l.length - (m - 1)) := by
      have hlt : l.length - m < l.length := by omega
      have e1 : ((l.length : Int) - m).toNat = l.length - m := by omega
      rw [show l.length - (m - 1) = l.length - m + 1 by omega, List.drop_eq_getElem_cons hlt]
      simp [bAt, e1, hlt]
    refine ⟨by omega, by omega, rfl, _, crcByte_lt (bAt l (l.length - m)) hn', ?_, rfl, rfl, rfl, by show AV.int _ _ = _; congr 1; omega, trivial⟩
    rw [← hg, hd]; rfl
  · obtain rfl : m = 0 := by omega
    refine ⟨rfl, rfl, ?_⟩
    show AV.int _ _ = _
    rw [← hg]; simp [crcReg]

theorem e_ref_Sum (k : Nat) (hk : 1000000 ≤ k) (t f : Bool) (l : List UInt8) (hl : l.length < 1000000) : FnV (acall B xf gf (k + 2)) n_ref01_Sum [.islc t f 1 (BL l)] (.int .i64 (crcMore 0 l)) := by
  have hm : FnV (acall B xf gf (k + 1)) n_ref01_More [.int .i64 0, .islc t f 1 (BL l)] (.int .i64 (crcMore 0 l)) := by
    refine fn_of B_ref01_More rfl ?_
    unfold ref01_More
    repeat' (first
     | refine q_s ?_ | refine q_z ?_ | refine q_b ?_ | refine wo_cv32 (a := 0) rfl (by omega) rfl rfl ?_ | refine wo_not32 (a := 0) rfl (by omega) rfl rfl ?_ | refine q_mv ?_ | refine q_load ?_
      | refine q_loadI ?_ | refine q_loadR ?_ | refine q_cmp ?_ | refine q_cmp2 (fun _ => ?_) (fun _ => ?_) | refine q_add ?_ | refine q_rem ?_ | refine q_quo ?_ | refine q_bin ?_
      | refine q_notT ?_ | refine q_notF ?_ | refine q_len ?_ | refine q_lenS ?_ | refine q_len0 ?_ | refine q_to64 ?_ | refine q_cvi ?_ | refine q_at ?_)
    refine (ref_bytes (n := 4294967295) (l := l) (t := t) (f := f) (v0 := .int .i64 0) (by omega) hl hk ?_).mono ?_
    · exact ⟨rfl, rfl, rfl, rfl, trivial⟩
    rintro ex T2 H2 ⟨rfl, rfl, h2⟩
    have hr : crcReg 4294967295 l < 4294967296 := crcReg_lt l (by omega)
    rw [Has.eq (T := T2) (ps := [(5, _)]) ⟨h2, trivial⟩]
    simp only [over]
    show W _ _
    repeat' (first
     | refine q_s ?_ | refine q_z ?_ | refine q_b ?_ | refine wo_not32 rfl hr rfl rfl ?_ | refine q_mv ?_ | refine q_load ?_ | refine q_loadI ?_ | refine q_loadR ?_ | refine q_cmp ?_
      | refine q_cmp2 (fun _ => ?_) (fun _ => ?_) | refine q_add ?_ | refine q_rem ?_ | refine q_quo ?_ | refine q_bin ?_ | refine q_notT ?_ | refine q_notF ?_ | refine q_len ?_
      | refine q_lenS ?_ | refine q_len0 ?_ | refine q_to64 ?_ | refine q_cvi ?_ | refine q_at ?_)
    refine ⟨Or.inr rfl, _, rfl, ?_⟩
    show AV.int _ _ = AV.int _ _
    congr 1
    show ((4294967295 - crcReg 4294967295 l : Nat) : Int) = (4294967295 : Int) - (crcReg 4294967295 l : Nat)
    omega
  refine fn_of B_ref01_Sum rfl ?_
  unfold ref01_Sum
  repeat' (first
   | refine q_s ?_ | refine q_z ?_ | refine wo_call hm rfl rfl rfl ?_ | refine q_mv ?_)
  exact ⟨Or.inr rfl, _, rfl, rfl⟩

theorem e_ref_Good (k : Nat) (hk : 1000000 ≤ k) (t f : Bool) (l : List UInt8) (hl : l.length < 1000000) : FnV (acall B xf gf (k + 3)) n_ref01_Good [.islc t f 1 (BL l)] (.bool (goodP l)) := by
  by_cases h4 : 4 ≤ l.length
  · have e : ((l.length : Int) - 4).toNat = l.length - 4 := by omega
    have ei : ((l.length : Int) - 4) = ((l.length - 4 : Nat) : Int) := by omega
    have hg := e_ref_Get4 (xf := xf) (gf := gf) k (by omega) t f l (l.length - 4) (by omega) hl
    rw [List.take_of_length_le (by simp; omega), ← ei] at hg
    have hs := fun f => e_ref_Sum (xf := xf) (gf := gf) k hk t f (l.take ((l.length : Int) - 4).toNat) (by simp; omega)
    refine fn_of B_ref01_Good rfl ?_
    unfold ref01_Good
    repeat' (first
     | refine q_s ?_ | refine q_z ?_ | refine wo_call hg rfl rfl rfl ?_ | refine wo_call (hs _) rfl rfl rfl ?_ | refine q_n ?_ | refine q_nn ?_ | refine q_mv ?_ | refine q_cmp ?_
      | refine q_cmp2 (fun _ => ?_) (fun _ => ?_) | refine q_sub ?_ | refine q_pickT ?_ | refine q_pickF ?_ | refine q_len ?_ | refine q_lenS ?_ | refine q_len0 ?_ | refine q_slice0 ?_
      | refine q_sliceE ?_ | refine q_sliceM ?_)
    all_goals (refine ⟨Or.inr rfl, _, rfl, ?_⟩; show AV.bool _ = AV.bool _; congr 1; symm; rename_i h; simp only [cmpP] at h; rw [e] at h)
    · exact decide_eq_true ⟨h4, h⟩
    · exact decide_eq_false (fun hh => h hh.2)
  · refine fn_of B_ref01_Good rfl ?_
    unfold ref01_Good
    repeat' (first
     | refine q_s ?_ | refine q_z ?_ | refine q_n ?_ | refine q_nn ?_ | refine q_mv ?_ | refine q_cmp ?_ | refine q_cmp2 (fun _ => ?_) (fun _ => ?_) | refine q_sub ?_ | refine q_pickT ?_
      | refine q_pickF ?_ | refine q_len ?_ | refine q_lenS ?_ | refine q_len0 ?_ | refine q_slice0 ?_ | refine q_sliceE ?_ | refine q_sliceM ?_)
    refine ⟨Or.inr rfl, _, rfl, ?_⟩
    show AV.bool _ = AV.bool _
    congr 1; symm
    exact decide_eq_false (fun hh => h4 hh.1)

end Go.Proofs.YtnakicjkolpacaaDoor

/- The document's answers: is a command right? Its payload, its frame. -/
set_option linter.unusedSimpArgs false
set_option linter.unusedVariables false
set_option maxRecDepth 10000
set_option maxHeartbeats 16000000
namespace Go.Proofs.YtnakicjkolpacaaDoor
open Go.AI
attribute [local irreducible] aops aexec acall aiter aop W WO

variable {xf : ExtF} {gf : CallF}

theorem e_ref_Payload (k : Nat) (hk : 8 < k) (t f : Bool) (s : Nat) (c : Cmd) (hc : chkP c) (hs : s = 1 ∨ c.data = []) : FnV (acall B xf gf (k + 2)) n_ref01_Payload [c.av t f s] (.islc false false 1 (BL (payB c))) := by
  have h4 := fun n (hn : 0 ≤ n ∧ n ≤ 9223372036854775807) => e_ref_Bytes (xf := xf) (gf := gf) k hk n 4 hn (by omega)
  have h8 := fun n (hn : 0 ≤ n ∧ n ≤ 9223372036854775807) => e_ref_Bytes (xf := xf) (gf := gf) k hk n 8 hn (by omega)
  obtain ⟨kd, i, p, sz, fr, n, o, g, x⟩ := c
  rcases chkP_inv hc with hC | hC | hC | hC | hC | hC
  · simp only at hC
    obtain ⟨rfl, h1, h2, h3, rfl, rfl, rfl, rfl⟩ := hC
    rw [parentsP_iff] at h1
    refine fn_of B_ref01_Payload rfl ?_
    unfold ref01_Payload Cmd.av
    repeat' (first
     | refine q_s ?_ | refine q_z ?_ | refine q_b ?_ | refine wo_fresh (h8 i (by omega)) rfl rfl rfl ?_ | refine wo_fresh (h8 p (by omega)) rfl rfl rfl ?_
      | refine wo_fresh (h4 sz (by omega)) rfl rfl rfl ?_ | refine wo_fresh (h4 n (by omega)) rfl rfl rfl ?_
      | refine wo_appR rfl rfl rfl rfl (by first | (simp; done) | (simp; omega)) (by first | (simp; done) | (simp; omega)) (by first | (simp; done) | (simp; omega)) (by first | (simp; done) | (simp; omega)) (by first | (simp; done) | (simp; omega)) rfl rfl (fun _ => ?_)
      | refine wo_quo (a := (x.length : Int)) rfl rfl (by omega) (by omega) rfl rfl ?_
      | refine wo_app rfl rfl (by first | exact Or.inl rfl | assumption) rfl (by first | (simp; done) | (simp; omega)) (by simp; omega) rfl rfl (fun _ => ?_) | refine q_mv ?_
      | refine q_faddr ?_ | refine q_load ?_ | refine q_loadI ?_ | refine q_loadR ?_ | refine q_cmp ?_ | refine q_cmp2 (fun _ => ?_) (fun _ => ?_) | refine q_quo ?_ | refine q_bin ?_
      | refine q_len ?_ | refine q_lenS ?_ | refine q_len0 ?_ | refine q_box ?_ | refine q_nilrow ?_ | refine q_app fun _ => ?_)
    refine ⟨Or.inr rfl, _, rfl, (fz_out (n := 4) rfl (by first | (simp; done) | (simp; omega))).trans ?_⟩
    simp [payB, putB_cons, putB_nil]
  · simp only at hC
    obtain ⟨rfl, h1, h2, rfl, rfl, rfl, rfl, rfl, rfl⟩ := hC
    refine fn_of B_ref01_Payload rfl ?_
    unfold ref01_Payload Cmd.av
    repeat' (first
     | refine q_s ?_ | refine q_z ?_ | refine q_b ?_ | refine wo_fresh (h4 fr (by omega)) rfl rfl rfl ?_ | refine wo_fresh (h4 (x.length / 64 : Int) (by omega)) rfl rfl rfl ?_
      | refine wo_appR rfl rfl rfl rfl (by first | (simp; done) | (simp; omega)) (by first | (simp; done) | (simp; omega)) (by first | (simp; done) | (simp; omega)) (by first | (simp; done) | (simp; omega)) (by first | (simp; done) | (simp; omega)) rfl rfl (fun _ => ?_)
      | refine wo_quo (a := (x.length : Int)) rfl rfl (by omega) (by omega) rfl rfl ?_
      | refine wo_app rfl rfl (by first | exact Or.inl rfl | assumption) rfl (by first | (simp; done) | (simp; omega)) (by simp; omega) rfl rfl (fun _ => ?_) | refine q_mv ?_
      | refine q_faddr ?_ | refine q_load ?_ | refine q_loadI ?_ | refine q_loadR ?_ | refine q_cmp ?_ | refine q_cmp2 (fun _ => ?_) (fun _ => ?_) | refine q_quo ?_ | refine q_bin ?_
      | refine q_len ?_ | refine q_lenS ?_ | refine q_len0 ?_ | refine q_box ?_ | refine q_nilrow ?_ | refine q_app fun _ => ?_)
    refine ⟨Or.inr rfl, _, rfl, (fz_out (n := 4) rfl (by first | (simp; done) | (simp; omega))).trans ?_⟩
    simp [payB, putB_cons, putB_nil]
  · simp only at hC
    obtain ⟨rfl, h1, h2, rfl, rfl, rfl, rfl, rfl, rfl⟩ := hC
    refine fn_of B_ref01_Payload rfl ?_
    unfold ref01_Payload Cmd.av
    repeat' (first
     | refine q_s ?_ | refine q_z ?_ | refine q_b ?_ | refine wo_fresh (h4 fr (by omega)) rfl rfl rfl ?_ | refine wo_fresh (h4 n (by omega)) rfl rfl rfl ?_
      | refine wo_appR rfl rfl rfl rfl (by first | (simp; done) | (simp; omega)) (by first | (simp; done) | (simp; omega)) (by first | (simp; done) | (simp; omega)) (by first | (simp; done) | (simp; omega)) (by first | (simp; done) | (simp; omega)) rfl rfl (fun _ => ?_)
      | refine wo_quo (a := (x.length : Int)) rfl rfl (by omega) (by omega) rfl rfl ?_
      | refine wo_app rfl rfl (by first | exact Or.inl rfl | assumption) rfl (by first | (simp; done) | (simp; omega)) (by simp; omega) rfl rfl (fun _ => ?_) | refine q_mv ?_
      | refine q_faddr ?_ | refine q_load ?_ | refine q_loadI ?_ | refine q_loadR ?_ | refine q_cmp ?_ | refine q_cmp2 (fun _ => ?_) (fun _ => ?_) | refine q_quo ?_ | refine q_bin ?_
      | refine q_len ?_ | refine q_lenS ?_ | refine q_len0 ?_ | refine q_box ?_ | refine q_nilrow ?_ | refine q_app fun _ => ?_)
    refine ⟨Or.inr rfl, _, rfl, (fz_out (n := 4) rfl (by first | (simp; done) | (simp; omega))).trans ?_⟩
    simp [payB, putB_cons, putB_nil]
  · simp only at hC
    obtain ⟨rfl, h1, h2, h3, rfl, rfl, rfl, rfl, rfl⟩ := hC
    refine fn_of B_ref01_Payload rfl ?_
    unfold ref01_Payload Cmd.av
    repeat' (first
     | refine q_s ?_ | refine q_z ?_ | refine q_b ?_ | refine wo_fresh (h4 fr (by omega)) rfl rfl rfl ?_ | refine wo_fresh (h4 n (by omega)) rfl rfl rfl ?_
      | refine wo_fresh (h4 o (by omega)) rfl rfl rfl ?_
      | refine wo_appR rfl rfl rfl rfl (by first | (simp; done) | (simp; omega)) (by first | (simp; done) | (simp; omega)) (by first | (simp; done) | (simp; omega)) (by first | (simp; done) | (simp; omega)) (by first | (simp; done) | (simp; omega)) rfl rfl (fun _ => ?_)
      | refine wo_quo (a := (x.length : Int)) rfl rfl (by omega) (by omega) rfl rfl ?_
      | refine wo_app rfl rfl (by first | exact Or.inl rfl | assumption) rfl (by first | (simp; done) | (simp; omega)) (by simp; omega) rfl rfl (fun _ => ?_) | refine q_mv ?_
      | refine q_faddr ?_ | refine q_load ?_ | refine q_loadI ?_ | refine q_loadR ?_ | refine q_cmp ?_ | refine q_cmp2 (fun _ => ?_) (fun _ => ?_) | refine q_quo ?_ | refine q_bin ?_
      | refine q_len ?_ | refine q_lenS ?_ | refine q_len0 ?_ | refine q_box ?_ | refine q_nilrow ?_ | refine q_app fun _ => ?_)
    refine ⟨Or.inr rfl, _, rfl, (fz_out (n := 4) rfl (by first | (simp; done) | (simp; omega))).trans ?_⟩
    simp [payB, putB_cons, putB_nil]
  · simp only at hC
    obtain ⟨rfl, h1, rfl, rfl, rfl, rfl, rfl, rfl, rfl⟩ := hC
    refine fn_of B_ref01_Payload rfl ?_
    unfold ref01_Payload Cmd.av
    repeat' (first
     | refine q_s ?_ | refine q_z ?_ | refine q_b ?_ | refine wo_fresh (h4 sz (by omega)) rfl rfl rfl ?_
      | refine wo_appR rfl rfl rfl rfl (by first | (simp; done) | (simp; omega)) (by first | (simp; done) | (simp; omega)) (by first | (simp; done) | (simp; omega)) (by first | (simp; done) | (simp; omega)) (by first | (simp; done) | (simp; omega)) rfl rfl (fun _ => ?_)
      | refine wo_quo (a := (x.length : Int)) rfl rfl (by omega) (by omega) rfl rfl ?_
      | refine wo_app rfl rfl (by first | exact Or.inl rfl | assumption) rfl (by first | (simp; done) | (simp; omega)) (by simp; omega) rfl rfl (fun _ => ?_) | refine q_mv ?_
      | refine q_faddr ?_ | refine q_load ?_ | refine q_loadI ?_ | refine q_loadR ?_ | refine q_cmp ?_ | refine q_cmp2 (fun _ => ?_) (fun _ => ?_) | refine q_quo ?_ | refine q_bin ?_
      | refine q_len ?_ | refine q_lenS ?_ | refine q_len0 ?_ | refine q_box ?_ | refine q_nilrow ?_ | refine q_app fun _ => ?_)
    refine ⟨Or.inr rfl, _, rfl, (fz_out (n := 4) rfl (by first | (simp; done) | (simp; omega))).trans ?_⟩
    simp [payB, putB_cons, putB_nil]
  · simp only at hC
    obtain ⟨rfl, h1, h2, rfl, rfl, rfl, rfl, rfl, rfl⟩ := hC
    refine fn_of B_ref01_Payload rfl ?_
    unfold ref01_Payload Cmd.av
    repeat' (first
     | refine q_s ?_ | refine q_z ?_ | refine q_b ?_ | refine wo_fresh (h4 n (by omega)) rfl rfl rfl ?_ | refine wo_fresh (h4 g (by omega)) rfl rfl rfl ?_
      | refine wo_appR rfl rfl rfl rfl (by first | (simp; done) | (simp; omega)) (by first | (simp; done) | (simp; omega)) (by first | (simp; done) | (simp; omega)) (by first | (simp; done) | (simp; omega)) (by first | (simp; done) | (simp; omega)) rfl rfl (fun _ => ?_)
      | refine wo_quo (a := (x.length : Int)) rfl rfl (by omega) (by omega) rfl rfl ?_
      | refine wo_app rfl rfl (by first | exact Or.inl rfl | assumption) rfl (by first | (simp; done) | (simp; omega)) (by simp; omega) rfl rfl (fun _ => ?_) | refine q_mv ?_
      | refine q_faddr ?_ | refine q_load ?_ | refine q_loadI ?_ | refine q_loadR ?_ | refine q_cmp ?_ | refine q_cmp2 (fun _ => ?_) (fun _ => ?_) | refine q_quo ?_ | refine q_bin ?_
      | refine q_len ?_ | refine q_lenS ?_ | refine q_len0 ?_ | refine q_box ?_ | refine q_nilrow ?_ | refine q_app fun _ => ?_)
    refine ⟨Or.inr rfl, _, rfl, (fz_out (n := 4) rfl (by first | (simp; done) | (simp; omega))).trans ?_⟩
    simp [payB, putB_cons, putB_nil]

theorem e_ref_FrameBytes (k : Nat) (hk : 1000000 ≤ k) (t f : Bool) (s : Nat) (seq : Int) (c : Cmd) (hc : chkP c) (hq : 0 ≤ seq ∧ seq ≤ 4294967295) (hs : s = 1 ∨ c.data = []) : FnV (acall B xf gf (k + 3)) n_ref01_FrameBytes [.int .i64 seq, c.av t f s] (.islc false false 1 (BL (frB seq c))) := by
  have hp := e_ref_Payload (xf := xf) (gf := gf) k (by omega) t f s c hc hs
  have hkd := chk_kind hc
  have hpl := payB_le hc
  have hcr := crcMore_range (frH seq c)
  have b1 := e_ref_Bytes (xf := xf) (gf := gf) (k + 1) (by omega) seq 4 (by omega) (by omega)
  have b2 := e_ref_Bytes (xf := xf) (gf := gf) (k + 1) (by omega) c.kind 4 (by omega) (by omega)
  have b3 := e_ref_Bytes (xf := xf) (gf := gf) (k + 1) (by omega) ((payB c).length : Int) 4 (by omega) (by omega)
  have b4 := e_ref_Bytes (xf := xf) (gf := gf) (k + 1) (by omega) (crcMore 0 (frH seq c)) 4 (by omega) (by omega)
  have hH : frH seq c = [70, 82, 65, 77] ++ leB 4 seq ++ leB 4 c.kind ++ leB 4 ((payB c).length : Int) ++ payB c := by simp [frH, putB_cons, putB_nil]
  have hsum := e_ref_Sum (xf := xf) (gf := gf) k hk true false (frH seq c) (by rw [frH_length]; omega)
  rw [hH] at hsum b4
  refine fn_of B_ref01_FrameBytes rfl ?_
  unfold ref01_FrameBytes Cmd.av
  unfold Cmd.av at hp
  repeat' (first
   | refine q_s ?_ | refine q_z ?_ | refine wo_call hp rfl rfl rfl ?_ | refine wo_fresh b1 rfl rfl rfl ?_ | refine wo_fresh b2 rfl rfl rfl ?_ | refine wo_fresh b3 rfl rfl rfl ?_
    | refine wo_fresh b4 rfl rfl rfl ?_
    | refine wo_appR (l := [70, 82, 65, 77]) rfl rfl rfl rfl (by first | (simp; done) | (simp; omega)) (by first | (simp; done) | (simp; omega)) (by first | (simp; done) | (simp; omega)) (by first | (simp; done) | (simp; omega)) (by first | (simp; done) | (simp; omega)) rfl rfl (fun _ => ?_)
    | refine wo_appR rfl rfl rfl rfl (by first | (simp; done) | (simp; omega)) (by first | (simp; done) | (simp; omega)) (by first | (simp; done) | (simp; omega)) (by first | (simp; done) | (simp; omega)) (by first | (simp; done) | (simp; omega)) rfl rfl (fun _ => ?_)
    | refine wo_call hsum rfl (ha_slc rfl rfl (by first | (simp; done) | (simp; omega))) rfl ?_ | refine q_mv ?_ | refine q_faddr ?_ | refine q_load ?_ | refine q_loadI ?_ | refine q_loadR ?_
    | refine q_len ?_ | refine q_lenS ?_ | refine q_len0 ?_ | refine q_box ?_ | refine q_nilrow ?_ | refine q_buildS ?_ | refine q_app fun _ => ?_ | refine q_ss ?_)
  refine ⟨Or.inr rfl, _, rfl, (fz_out (n := 4) rfl (by first | (simp; done) | (simp; omega))).trans ?_⟩
  rw [frB, putB_cons, putB_nil, List.append_nil, hH]

end Go.Proofs.YtnakicjkolpacaaDoor

/- The document's answers: the command that bytes begin with. -/
set_option linter.unusedSimpArgs false
set_option linter.unusedVariables false
set_option maxRecDepth 10000
set_option maxHeartbeats 16000000
namespace Go.Proofs.YtnakicjkolpacaaDoor
open Go.AI

section
variable {cf : CallF} {xf : ExtF} {base : Nat} {T : Tmps} {H : Heap} {QO : Tmps → Heap → Prop} {log : List FP} {g : Option (Nat × Bool)} {un : List Nat} {r : List SOper} {d : Nat}
theorem wo_indexS {x y : SArg} {b : ByteArray} {k : IntKind} {n : Int} {c : UInt8} (hx : x.ev T = .str b) (hy : y.ev T = .int k n) (h0 : 0 ≤ n) (hc : b.data.toList[n.toNat]? = some c) (hw : awanted T g = some true) (hl : logOk log .z un = true)
    (h : WO (aops cf xf base r (log ++ [.z]) (T.upd d (.int .u8 c.toNat)) H) QO) : WO (aops cf xf base (⟨some d, .indexS x y, g, un⟩ :: r) log T H) QO :=
  wo_step (v := .int .u8 c.toNat) hw (by simp only [aop, hx, hy, natOf, if_pos h0, Option.bind_eq_bind, Option.bind_some, hc, rv]) hl h
end

attribute [local irreducible] aops aexec acall aiter aop W WO

variable {xf : ExtF} {gf : CallF}

theorem ParseFrame_loop {cf : CallF} {base fuel : Nat} {T : Tmps} {H : Heap} {t f : Bool} {l : List UInt8} {v9 : AV} (hk : 5 < fuel) (hl : l.length < 1000000)
    (h1 : H 1 = ⟨1, false, .row 9 [c0Av]⟩) (h0 : H 0 = ⟨1, false, .row 9 [c0Av]⟩)
    (hT : Has T [(0, .islc t f 1 (BL l)), (2, .ptr 0 1 1 9 0 0), (6, .ptr 1 1 1 9 0 0), (7, .str ⟨#[70, 82, 65, 77]⟩), (8, .int .i64 0)]) :
    W (aexec cf xf base fuel (.loop ref01_ParseFrame_l0) T H) (fun ex T' H' => (ex = .ret ∧ ¬ l.take 4 = ([70, 82, 65, 77] : List UInt8).take l.length ∧ H' 0 = ⟨1, false, .row 9 [c0Av]⟩ ∧ T' 2 = .ptr 0 1 1 9 0 0 ∧ T' 3 = .int .i64 0 ∧ T' 4 = .int .i64 0 ∧ T' 5 = .int .i64 13) ∨
      (ex = .exit 0 ∧ H' = H ∧ l.take 4 = ([70, 82, 65, 77] : List UInt8).take l.length ∧ T' 0 = .islc t f 1 (BL l) ∧ T' 2 = .ptr 0 1 1 9 0 0 ∧ T' 6 = .ptr 1 1 1 9 0 0)) := by
  refine w_loop (fun m T' H' => m ≤ 4 ∧ 4 - m ≤ l.length ∧ H' = H ∧ l.take (4 - m) = ([70, 82, 65, 77] : List UInt8).take (4 - m) ∧ Has T' [(0, .islc t f 1 (BL l)), (2, .ptr 0 1 1 9 0 0), (6, .ptr 1 1 1 9 0 0), (7, .str ⟨#[70, 82, 65, 77]⟩), (8, .int .i64 ((4 - m : Nat) : Int))])
    4 ⟨Nat.le_refl _, by omega, rfl, by simp, ⟨hT.1, hT.2.1, hT.2.2.1, hT.2.2.2.1, by rw [hT.2.2.2.2.1]; rfl, trivial⟩⟩ (by omega) ?_
  rintro m T H1 hm ⟨_, hle, rfl, heq, hT⟩
  obtain ⟨i, hi⟩ : ∃ i, i = 4 - m := ⟨_, rfl⟩
  rw [← hi] at hT heq hle
  have hfin : (i = 4 ∨ i = l.length) → l.take 4 = ([70, 82, 65, 77] : List UInt8).take l.length := by
    rintro (h | h)
    · rw [← h, heq, h, List.take_of_length_le (by simp), List.take_of_length_le (by simp; omega)]
    · rw [h, List.take_length] at heq
      rw [List.take_of_length_le (by omega)]
      exact heq
  by_cases hgo : i < 4 ∧ i < l.length
  · have hc : (⟨#[70, 82, 65, 77]⟩ : ByteArray).data.toList[(i : Int).toNat]? = some (([70, 82, 65, 77] : List UInt8)[i]'(by simp; omega)) := by
      rw [Int.toNat_natCast]
      exact List.getElem?_eq_getElem (by simp; omega)
    have hbi : bAt l (i : Int) = l[i] := by simp [bAt, hgo.2]
    rw [hT.eq]
    simp only [over]
    unfold ref01_ParseFrame_l0
    repeat' (first
     | refine q_s ?_ | refine q_z ?_ | refine q_b ?_ | refine wo_indexS rfl rfl (by omega) hc rfl rfl ?_ | refine wo_load c0Av rfl (row_of h1 rfl) rfl (Nat.le_of_ble_eq_true rfl) rfl rfl rfl ?_
      | refine wo_storeR rfl h0 rfl rfl rfl rfl rfl rfl (Nat.le_of_ble_eq_true rfl) rfl rfl ?_ | refine q_n ?_ | refine q_nn ?_ | refine q_mv ?_ | refine q_load ?_ | refine q_loadI ?_
      | refine q_loadR ?_ | refine q_cmp ?_ | refine q_cmp2 (fun _ => ?_) (fun _ => ?_) | refine q_add ?_ | refine q_pickT ?_ | refine q_pickF ?_ | refine q_len ?_ | refine q_lenS ?_
      | refine q_len0 ?_ | refine q_store ?_ | refine q_storeR ?_ | refine q_at ?_)
    · rename_i h2
      simp only [cmpP] at h2
      refine .inl ⟨rfl, fun hh => h2 ?_, rfl, rfl, rfl, rfl, rfl⟩
      have e : l[i]? = ([70, 82, 65, 77] : List UInt8)[i]? := by
        have e1 : (l.take 4)[i]? = (([70, 82, 65, 77] : List UInt8).take l.length)[i]? := by rw [hh]
        rwa [List.getElem?_take_of_lt hgo.1, List.getElem?_take_of_lt hgo.2] at e1
      rw [List.getElem?_eq_getElem hgo.2, List.getElem?_eq_getElem (by simp; omega)] at e
      rw [hbi]
      have := Option.some.inj e
      rw [this]
    · rename_i h2
      simp only [cmpP] at h2
      have h3 := Classical.not_not.1 h2
      rw [hbi] at h3
      have h4 : l[i] = ([70, 82, 65, 77] : List UInt8)[i]'(by simp; omega) := UInt8.toNat_inj.1 (by omega)
      refine ⟨by omega, by omega, by omega, rfl, ?_, rfl, rfl, rfl, rfl, by show AV.int _ _ = AV.int _ _; congr 1; omega, trivial⟩
      rw [show 4 - (m - 1) = i + 1 by omega, List.take_succ_eq_append_getElem hgo.2, List.take_succ_eq_append_getElem (by simp; omega), heq, h4]
  · by_cases h4 : i < 4
    · rw [hT.eq]
      simp only [over]
      unfold ref01_ParseFrame_l0
      repeat' (first
       | refine q_s ?_ | refine q_z ?_ | refine q_b ?_ | refine q_n ?_ | refine q_nn ?_ | refine q_mv ?_ | refine q_load ?_ | refine q_loadI ?_ | refine q_loadR ?_ | refine q_cmp ?_
        | refine q_cmp2 (fun _ => ?_) (fun _ => ?_) | refine q_add ?_ | refine q_pickT ?_ | refine q_pickF ?_ | refine q_len ?_ | refine q_lenS ?_ | refine q_len0 ?_ | refine q_store ?_
        | refine q_storeR ?_ | refine q_at ?_)
      exact .inr ⟨rfl, rfl, hfin (.inr (by omega)), rfl, rfl, rfl⟩
    · rw [hT.eq]
      simp only [over]
      unfold ref01_ParseFrame_l0
      repeat' (first
       | refine q_s ?_ | refine q_z ?_ | refine q_b ?_ | refine q_n ?_ | refine q_nn ?_ | refine q_mv ?_ | refine q_load ?_ | refine q_loadI ?_ | refine q_loadR ?_ | refine q_cmp ?_
        | refine q_cmp2 (fun _ => ?_) (fun _ => ?_) | refine q_add ?_ | refine q_pickT ?_ | refine q_pickF ?_ | refine q_len ?_ | refine q_lenS ?_ | refine q_len0 ?_ | refine q_store ?_
        | refine q_storeR ?_ | refine q_at ?_)
      exact .inr ⟨rfl, rfl, hfin (.inl (by omega)), rfl, rfl, rfl⟩

theorem e_ref_ParseFrame (k : Nat) (hk : 1000000 ≤ k) (t f : Bool) (l : List UInt8) (hl : l.length < 900000) : FnV (acall B xf gf (k + 5)) n_ref01_ParseFrame [.islc t f 1 (BL l)] (parseAv l) := by
  refine fn_of B_ref01_ParseFrame rfl ?_
  unfold ref01_ParseFrame
  repeat' (first
   | refine q_s ?_ | refine q_z ?_ | refine q_b ?_ | refine q_n ?_ | refine q_nn ?_ | refine q_mv ?_ | refine q_load ?_ | refine q_loadI ?_ | refine q_loadR ?_ | refine q_cmp ?_
    | refine q_cmp2 (fun _ => ?_) (fun _ => ?_) | refine q_add ?_ | refine q_pickT ?_ | refine q_pickF ?_ | refine q_notT ?_ | refine q_notF ?_ | refine q_len ?_ | refine q_lenS ?_
    | refine q_len0 ?_ | refine q_ex ?_ | refine q_store ?_ | refine q_storeR ?_ | refine q_box ?_ | refine q_at ?_ | refine q_build ?_ | refine q_slice0 ?_ | refine q_sliceE ?_
    | refine q_sliceM ?_)
  refine (ParseFrame_loop (l := l) (t := t) (f := f) (v9 := .undef) (by omega) (by omega) rfl rfl ?_).mono ?_
  · exact ⟨rfl, rfl, rfl, rfl, rfl, trivial⟩
  rintro ex T2 H2 (⟨rfl, hne, h0, h2, h3, h4, h5⟩ | ⟨rfl, rfl, hpre, h0, h2, h6⟩)
  · have hP : lenP l = (0, 13) := by unfold lenP; rw [if_pos hne]
    have he : pErr l = 13 := by unfold pErr; rw [hP]; rfl
    unfold parseAv
    rw [he, if_neg (by decide)]
    refine ⟨Or.inr rfl, .tup [c0Av, .int .i64 0, .int .i64 0, .int .i64 13], ?_, rfl⟩
    show aresults T2 H2 [.cell 2 9 true, .tmp 3, .tmp 4, .tmp 5] = _
    simp only [aresults, ares, List.mapM_cons, List.mapM_nil, h2, h3, h4, h5, row_of (ver := 1) h0 rfl]
    rfl
  · rw [Has.eq (T := T2) (ps := [(0, _), (2, _), (6, _)]) ⟨h0, h2, h6, trivial⟩]
    simp only [over]
    show W _ _
    by_cases h16 : l.length < 16
    · have hP : lenP l = (0, 16) := by unfold lenP; rw [if_neg (fun h => h hpre), if_pos h16]
      have he : pErr l = 16 := by unfold pErr; rw [hP]; rfl
      unfold parseAv
      rw [he, if_neg (by decide)]
      repeat' (first
       | refine q_s ?_ | refine q_z ?_ | refine q_b ?_ | refine q_n ?_ | refine q_nn ?_ | refine q_mv ?_ | refine q_load ?_ | refine q_loadI ?_ | refine q_loadR ?_ | refine q_cmp ?_
        | refine q_cmp2 (fun _ => ?_) (fun _ => ?_) | refine q_add ?_ | refine q_pickT ?_ | refine q_pickF ?_ | refine q_notT ?_ | refine q_notF ?_ | refine q_len ?_ | refine q_lenS ?_
        | refine q_len0 ?_ | refine q_ex ?_ | refine q_store ?_ | refine q_storeR ?_ | refine q_box ?_ | refine q_at ?_ | refine q_build ?_ | refine q_slice0 ?_ | refine q_sliceE ?_
        | refine q_sliceM ?_)
      exact ⟨Or.inr rfl, _, rfl, rfl⟩
    have hg12 := e_ref_Get4 (xf := xf) (gf := gf) (k + 2) (by omega) t f l 12 (by omega) (by omega)
    obtain ⟨n, hn⟩ : ∃ n, n = leN ((l.drop 12).take 4) := ⟨_, rfl⟩
    rw [← hn] at hg12
    by_cases h520 : 520 < n
    · have hP : lenP l = (0, 13) := by unfold lenP; rw [if_neg (fun h => h hpre), if_neg h16, ← hn, if_pos h520]
      have he : pErr l = 13 := by unfold pErr; rw [hP]; rfl
      unfold parseAv
      rw [he, if_neg (by decide)]
      repeat' (first
       | refine q_s ?_ | refine q_z ?_ | refine q_b ?_ | refine wo_call hg12 rfl rfl rfl ?_ | refine q_n ?_ | refine q_nn ?_ | refine q_mv ?_ | refine q_load ?_ | refine q_loadI ?_
        | refine q_loadR ?_ | refine q_cmp ?_ | refine q_cmp2 (fun _ => ?_) (fun _ => ?_) | refine q_add ?_ | refine q_pickT ?_ | refine q_pickF ?_ | refine q_notT ?_ | refine q_notF ?_
        | refine q_len ?_ | refine q_lenS ?_ | refine q_len0 ?_ | refine q_ex ?_ | refine q_store ?_ | refine q_storeR ?_ | refine q_box ?_ | refine q_at ?_ | refine q_build ?_
        | refine q_slice0 ?_ | refine q_sliceE ?_ | refine q_sliceM ?_)
      exact ⟨Or.inr rfl, _, rfl, rfl⟩
    by_cases hlt : l.length < 20 + n
    · have hP : lenP l = (0, 16) := by unfold lenP; rw [if_neg (fun h => h hpre), if_neg h16, ← hn, if_neg h520, if_pos hlt]
      have he : pErr l = 16 := by unfold pErr; rw [hP]; rfl
      unfold parseAv
      rw [he, if_neg (by decide)]
      repeat' (first
       | refine q_s ?_ | refine q_z ?_ | refine q_b ?_ | refine wo_call hg12 rfl rfl rfl ?_ | refine q_n ?_ | refine q_nn ?_ | refine q_mv ?_ | refine q_load ?_ | refine q_loadI ?_
        | refine q_loadR ?_ | refine q_cmp ?_ | refine q_cmp2 (fun _ => ?_) (fun _ => ?_) | refine q_add ?_ | refine q_pickT ?_ | refine q_pickF ?_ | refine q_notT ?_ | refine q_notF ?_
        | refine q_len ?_ | refine q_lenS ?_ | refine q_len0 ?_ | refine q_ex ?_ | refine q_store ?_ | refine q_storeR ?_ | refine q_box ?_ | refine q_at ?_ | refine q_build ?_
        | refine q_slice0 ?_ | refine q_sliceE ?_ | refine q_sliceM ?_)
      exact ⟨Or.inr rfl, _, rfl, rfl⟩
    have hP : lenP l = (((20 + n : Nat) : Int), 0) := by unfold lenP; rw [if_neg (fun h => h hpre), if_neg h16, ← hn, if_neg h520, if_neg hlt]
    have hD : l.take ((20 : Int) + (n : Int)).toNat = pD l := by unfold pD; rw [hP]; congr 1
    have hdl : (pD l).length = 20 + n := by unfold pD; rw [hP]; simp; omega
    have sub : ∀ a, a + 4 ≤ 20 + n → ((pD l).drop a).take 4 = (l.drop a).take 4 := by
      intro a ha
      unfold pD
      rw [hP]
      simp only [Int.toNat_natCast]
      rw [List.drop_take, List.take_take, show min 4 (20 + n - a) = 4 by omega]
    have hg4 := e_ref_Get4 (xf := xf) (gf := gf) (k + 2) (by omega) t f l 4 (by omega) (by omega)
    have hg8 := e_ref_Get4 (xf := xf) (gf := gf) (k + 2) (by omega) t f l 8 (by omega) (by omega)
    rw [← sub 4 (by omega)] at hg4
    rw [← sub 8 (by omega)] at hg8
    change FnV _ _ _ (.int .i64 (pSeq l)) at hg4
    change FnV _ _ _ (.int .i64 (pKind l)) at hg8
    have hgood := fun f => e_ref_Good (xf := xf) (gf := gf) (k + 1) (by omega) t f (pD l) (by omega)
    have hpay : (l.drop (16 : Int).toNat).take (((16 : Int) + (n : Int)).toNat - (16 : Int).toNat) = pPay l := by
      unfold pPay pD
      rw [hP]
      simp only [Int.toNat_natCast]
      rw [List.drop_take, List.take_take]
      rw [show (16 : Int).toNat = 16 from rfl]
      congr 1
      omega
    have hcl : (pPay l).length < 900000 := by unfold pPay; simp; omega
    cases hgd : goodP (pD l) with
    | false =>
      simp only [hgd] at hgood
      have he : pErr l = 5 := by unfold pErr; rw [hP, hgd]; rfl
      unfold parseAv
      rw [he, if_neg (by decide)]
      repeat' (first
       | refine q_s ?_ | refine q_z ?_ | refine q_b ?_ | refine wo_call hg12 rfl rfl rfl ?_ | refine wo_call (hgood _) rfl (by rw [← hD]; rfl) rfl ?_ | refine q_n ?_ | refine q_nn ?_
        | refine q_mv ?_ | refine q_load ?_ | refine q_loadI ?_ | refine q_loadR ?_ | refine q_cmp ?_ | refine q_cmp2 (fun _ => ?_) (fun _ => ?_) | refine q_add ?_ | refine q_pickT ?_
        | refine q_pickF ?_ | refine q_notT ?_ | refine q_notF ?_ | refine q_len ?_ | refine q_lenS ?_ | refine q_len0 ?_ | refine q_ex ?_ | refine q_store ?_ | refine q_storeR ?_
        | refine q_box ?_ | refine q_at ?_ | refine q_build ?_ | refine q_slice0 ?_ | refine q_sliceE ?_ | refine q_sliceM ?_)
      exact ⟨Or.inr rfl, _, rfl, rfl⟩
    | true =>
      simp only [hgd] at hgood
      cases hok : okC (pKind l) (pPay l) with
      | false =>
        have he : pErr l = 13 := by
          unfold pErr
          rw [hP, hgd]
          unfold okC at hok
          rw [hok]
          rfl
        unfold parseAv
        rw [he, if_neg (by decide)]
        obtain ⟨c', f', s', hcm, hcok⟩ := e_ref_command (xf := xf) (gf := gf) k (by omega) t (f && decide (((16 : Int) + (n : Int)).toNat = l.length)) (pKind l) (pPay l) hcl
        rw [hok] at hcm
        unfold Cmd.av at hcm
        repeat' (first
         | refine q_s ?_ | refine q_z ?_ | refine q_b ?_ | refine wo_call hg12 rfl rfl rfl ?_ | refine wo_call (hgood _) rfl (by rw [← hD]; rfl) rfl ?_ | refine wo_call hg8 rfl rfl rfl ?_
          | refine wo_call hg4 rfl rfl rfl ?_ | refine wo_call hcm rfl (by rw [← hpay]; rfl) rfl ?_ | refine q_n ?_ | refine q_nn ?_ | refine q_mv ?_ | refine q_load ?_ | refine q_loadI ?_
          | refine q_loadR ?_ | refine q_cmp ?_ | refine q_cmp2 (fun _ => ?_) (fun _ => ?_) | refine q_add ?_ | refine q_pickT ?_ | refine q_pickF ?_ | refine q_notT ?_ | refine q_notF ?_
          | refine q_len ?_ | refine q_lenS ?_ | refine q_len0 ?_ | refine q_ex ?_ | refine q_store ?_ | refine q_storeR ?_ | refine q_box ?_ | refine q_at ?_ | refine q_build ?_
          | refine q_slice0 ?_ | refine q_sliceE ?_ | refine q_sliceM ?_)
        exact ⟨Or.inr rfl, _, rfl, rfl⟩
      | true =>
        have he : pErr l = 0 := by
          unfold pErr
          rw [hP, hgd]
          unfold okC at hok
          rw [hok]
          rfl
        unfold parseAv
        rw [he, if_pos rfl, hP]
        obtain ⟨c', f', s', hcm, hcok⟩ := e_ref_command (xf := xf) (gf := gf) k (by omega) t (f && decide (((16 : Int) + (n : Int)).toNat = l.length)) (pKind l) (pPay l) hcl
        rw [hok, hcok hok] at hcm
        unfold rawAv Cmd.av at hcm ⊢
        repeat' (first
         | refine q_s ?_ | refine q_z ?_ | refine q_b ?_ | refine wo_call hg12 rfl rfl rfl ?_ | refine wo_call (hgood _) rfl (by rw [← hD]; rfl) rfl ?_ | refine wo_call hg8 rfl rfl rfl ?_
          | refine wo_call hg4 rfl rfl rfl ?_ | refine wo_call hcm rfl (by rw [← hpay]; rfl) rfl ?_ | refine q_n ?_ | refine q_nn ?_ | refine q_mv ?_ | refine q_load ?_ | refine q_loadI ?_
          | refine q_loadR ?_ | refine q_cmp ?_ | refine q_cmp2 (fun _ => ?_) (fun _ => ?_) | refine q_add ?_ | refine q_pickT ?_ | refine q_pickF ?_ | refine q_notT ?_ | refine q_notF ?_
          | refine q_len ?_ | refine q_lenS ?_ | refine q_len0 ?_ | refine q_ex ?_ | refine q_store ?_ | refine q_storeR ?_ | refine q_box ?_ | refine q_at ?_ | refine q_build ?_
          | refine q_slice0 ?_ | refine q_sliceE ?_ | refine q_sliceM ?_)
        exact ⟨Or.inr rfl, _, rfl, rfl⟩

end Go.Proofs.YtnakicjkolpacaaDoor
