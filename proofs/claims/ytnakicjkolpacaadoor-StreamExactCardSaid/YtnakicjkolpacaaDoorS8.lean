/- What the functions answer: numbers read out of bytes. -/
import Derived.Test.YtnakicjkolpacaaDoorS7
set_option linter.unusedSimpArgs false
set_option linter.unusedVariables false
set_option maxRecDepth 10000
set_option maxHeartbeats 16000000
namespace Go.Proofs.YtnakicjkolpacaaDoor
open Go.AI
attribute [local irreducible] aops aexec acall aiter aop W WO

variable {xf : ExtF} {gf : CallF}

/-- The number of bytes, the least one first. -/
def leN : List UInt8 → Nat
  | [] => 0
  | c :: l => c.toNat + 256 * leN l

theorem leN_append : ∀ a b : List UInt8, leN (a ++ b) = leN a + 256 ^ a.length * leN b
  | [], b => by simp [leN]
  | c :: a, b => by
    have := leN_append a b
    simp only [List.cons_append, leN, this, List.length_cons, Nat.pow_succ, Nat.mul_add]
    rw [Nat.mul_comm (256 ^ a.length) 256, Nat.mul_assoc]; omega
theorem leN_lt : ∀ a : List UInt8, leN a < 256 ^ a.length
  | [] => by simp [leN]
  | c :: a => by
    have h1 := leN_lt a
    have h2 := u8_lt c
    simp only [leN, List.length_cons, Nat.pow_succ]
    omega

theorem take_drop_succ {l : List UInt8} {a i : Nat} (h : a + i < l.length) : (l.drop a).take (i + 1) = (l.drop a).take i ++ [bAt l (a + i : Nat)] := by
  have h2 : i < (l.drop a).length := by simp; omega
  rw [List.take_succ_eq_append_getElem h2]
  congr 2
  simp only [List.getElem_drop, bAt, Int.toNat_natCast, List.getD, List.getElem?_eq_getElem h, Option.getD_some]

def getP (l : List UInt8) (a : Int) (s : Nat) : Int × Int :=
  if 0 ≤ a ∧ a ≤ l.length - s then
    if leN ((l.drop a.toNat).take s) ≤ 4611686018427387903 then (leN ((l.drop a.toNat).take s), 0) else (0, 1)
  else (0, 3)

theorem le_Get_loop {cf : CallF} {base fuel : Nat} {H : Heap} {T : Tmps} {t f : Bool} {l : List UInt8} {a s : Nat} (hs : s ≤ 8) (ha : a + s ≤ l.length) (hl : l.length < 1000000) (hk : 8 < fuel)
    (hT : Has T [(0, .islc t f 1 (BL l)), (1, .int .i64 a), (8, .int .u64 0), (20, .int .i64 s), (21, .int .i64 0)]) :
    W (aexec cf xf base fuel (.loop le_Get_l0) T H) (fun ex T' H' => ex = .exit 1 ∧ H' = H ∧ T' 8 = .int .u64 (leN ((l.drop a).take s) : Nat)) := by
  refine w_loop (fun m T' H' => m ≤ s ∧ H' = H ∧ Has T' [(0, .islc t f 1 (BL l)), (1, .int .i64 a), (8, .int .u64 (leN ((l.drop a).take (s - m)) : Nat)), (20, .int .i64 s), (21, .int .i64 ((s - m : Nat) : Int))])
    s ⟨by omega, rfl, ?_⟩ (by omega) ?_
  · obtain ⟨h0, h1, h2, h3, h4, _⟩ := hT
    exact ⟨h0, h1, by rw [h2]; simp [leN], h3, by rw [h4]; simp, trivial⟩
  rintro m T H1 hm ⟨_, rfl, hT⟩
  obtain ⟨i, hi⟩ : ∃ i, i = s - m := ⟨_, rfl⟩
  rw [← hi] at hT
  by_cases hm0 : m = 0
  · have his : i = s := by omega
    rw [hT.eq]
    simp only [over]
    unfold le_Get_l0
    repeat' (first
     | refine q_s ?_ | refine q_z ?_ | refine q_b ?_ | refine q_mv ?_ | refine q_load ?_ | refine q_loadI ?_ | refine q_loadR ?_ | refine q_cmp ?_ | refine q_cmp2 (fun _ => ?_) (fun _ => ?_)
      | refine q_add ?_ | refine q_mul ?_ | refine q_bin ?_ | refine q_tou64 ?_ | refine q_cvu ?_ | refine q_cvi ?_ | refine q_at ?_)
    exact ⟨rfl, rfl, by rw [his]; rfl⟩
  have hlen : ((l.drop a).take i).length = i := by simp; omega
  have hlt := leN_lt ((l.drop a).take i)
  rw [hlen] at hlt
  have hp : 256 ^ i = 2 ^ (8 * i) := by rw [Nat.pow_mul]
  rw [hp] at hlt
  have hc := u8_lt (bAt l (a + i : Nat))
  have h8 : 2 ^ (8 * i) * 256 ≤ 18446744073709551616 := by
    have : 2 ^ (8 * i) ≤ 2 ^ 56 := Nat.pow_le_pow_right (by decide) (by omega)
    omega
  have hb1 : (bAt l (a + i : Nat)).toNat * 2 ^ (8 * i) + 2 ^ (8 * i) ≤ 2 ^ (8 * i) * 256 := by
    have : ((bAt l (a + i : Nat)).toNat + 1) * 2 ^ (8 * i) ≤ 256 * 2 ^ (8 * i) := Nat.mul_le_mul_right _ (by omega)
    rw [Nat.add_mul] at this; omega
  have e8 : ((8 : Int) * i).toNat = 8 * i := by omega
  have ea : ((a : Int) + i) = ((a + i : Nat) : Int) := by omega
  rw [hT.eq]
  simp only [over]
  unfold le_Get_l0
  repeat' (first
   | refine q_s ?_ | refine q_z ?_ | refine q_b ?_ | (refine wo_at rfl (n := (a + i : Nat)) (by show AV.int _ _ = AV.int _ _; rw [ea]) (by omega) (by omega) rfl rfl ?_)
    | (refine wo_tou64 rfl (by omega) rfl rfl ?_) | (refine wo_shl64 (a := (bAt l (a + i : Nat)).toNat) (b := 8 * (i : Int)) rfl rfl (by omega) (by rw [e8]; omega) rfl rfl ?_)
    | (refine wo_orAdd (a := leN ((l.drop a).take i)) (c := (bAt l (a + i : Nat)).toNat) (i := 8 * i) rfl (by show AV.int _ _ = AV.int _ _; rw [e8]) hlt (by omega) rfl rfl ?_) | refine q_mv ?_
    | refine q_load ?_ | refine q_loadI ?_ | refine q_loadR ?_ | refine q_cmp ?_ | refine q_cmp2 (fun _ => ?_) (fun _ => ?_) | refine q_add ?_ | refine q_mul ?_ | refine q_tou64 ?_
    | refine q_cvu ?_ | refine q_cvi ?_ | refine q_at ?_)
  refine ⟨by omega, by omega, rfl, rfl, rfl, ?_, rfl, by show AV.int _ _ = AV.int _ _; congr 1; omega, trivial⟩
  show AV.int _ _ = AV.int _ _
  congr 2
  have e1 : s - (m - 1) = i + 1 := by omega
  rw [e1, take_drop_succ (by omega), leN_append, hlen, hp]
  simp only [leN, Nat.mul_zero, Nat.add_zero]
  rw [Nat.mul_comm]; omega

theorem e_le_Get (k : Nat) (hk : 8 < k) (t f : Bool) (l : List UInt8) (a : Int) (s : Nat) (hs : s = 1 ∨ s = 2 ∨ s = 4 ∨ s = 8) (hl : l.length < 1000000) :
    FnV (acall B xf gf (k + 1)) n_le_Get [.islc t f 1 (BL l), .int .i64 a, .int .i64 s] (.tup [.int .i64 (getP l a s).1, .int .i64 (getP l a s).2]) := by
  obtain ⟨k, rfl⟩ : ∃ k', k = k' + 1 := ⟨k - 1, by omega⟩
  have hr := e_le_right (xf := xf) (gf := gf) k s
  rw [decide_eq_true (by omega)] at hr
  have hw := e_le_within (xf := xf) (gf := gf) k t f l a s (by omega) (by omega)
  refine fn_of B_le_Get rfl ?_
  unfold le_Get
  by_cases hin : 0 ≤ a ∧ a ≤ l.length - s
  · rw [decide_eq_true hin] at hw
    obtain ⟨a, rfl⟩ : ∃ a' : Nat, a = a' := ⟨a.toNat, by omega⟩
    repeat' (first
     | refine q_s ?_ | refine q_z ?_ | refine q_b ?_ | refine wo_call hr rfl rfl rfl ?_ | refine wo_call hw rfl rfl rfl ?_ | refine q_mv ?_ | refine q_load ?_ | refine q_loadI ?_
      | refine q_loadR ?_ | refine q_cmp ?_ | refine q_cmp2 (fun _ => ?_) (fun _ => ?_) | refine q_add ?_ | refine q_mul ?_ | refine q_bin ?_ | refine q_notT ?_ | refine q_notF ?_
      | refine q_to64 ?_ | refine q_tou64 ?_ | refine q_cvu ?_ | refine q_cvi ?_ | refine q_at ?_)
    refine (le_Get_loop (t := t) (f := f) (l := l) (a := a) (s := s) (by omega) (by omega) hl hk ?_).mono ?_
    · exact ⟨rfl, rfl, rfl, rfl, rfl, trivial⟩
    rintro ex T2 H2 ⟨rfl, rfl, h0⟩
    have hlt := leN_lt ((l.drop a).take s)
    have hlen : ((l.drop a).take s).length = s := by simp; omega
    have hp : 256 ^ s = 2 ^ (8 * s) := by rw [Nat.pow_mul]
    have hp2 : 2 ^ (8 * s) ≤ 2 ^ 64 := Nat.pow_le_pow_right (by decide) (by omega)
    rw [hlen, hp] at hlt
    rw [Has.eq (T := T2) (ps := [(8, _)]) ⟨h0, trivial⟩]
    simp only [over]
    show W _ _
    repeat' (first
     | refine q_s ?_ | refine q_z ?_ | refine q_b ?_ | refine q_mv ?_ | refine q_load ?_ | refine q_loadI ?_ | refine q_loadR ?_ | refine q_cmp ?_ | refine q_cmp2 (fun _ => ?_) (fun _ => ?_)
      | refine q_add ?_ | refine q_mul ?_ | refine q_bin ?_ | refine q_notT ?_ | refine q_notF ?_ | refine q_to64 ?_ | refine q_tou64 ?_ | refine q_cvu ?_ | refine q_cvi ?_ | refine q_at ?_)
    · rename_i h1
      refine ⟨Or.inr rfl, _, rfl, ?_⟩
      simp only [cmpP] at h1
      rw [getP, if_pos hin, Int.toNat_natCast, if_neg (by omega)]; rfl
    · rename_i h1
      refine ⟨Or.inr rfl, _, rfl, ?_⟩
      simp only [cmpP] at h1
      rw [getP, if_pos hin, Int.toNat_natCast, if_pos (by omega)]; rfl
  · rw [decide_eq_false hin] at hw
    repeat' (first
     | refine q_s ?_ | refine q_z ?_ | refine q_b ?_ | refine wo_call hr rfl rfl rfl ?_ | refine wo_call hw rfl rfl rfl ?_ | refine q_mv ?_ | refine q_load ?_ | refine q_loadI ?_
      | refine q_loadR ?_ | refine q_cmp ?_ | refine q_cmp2 (fun _ => ?_) (fun _ => ?_) | refine q_add ?_ | refine q_mul ?_ | refine q_bin ?_ | refine q_notT ?_ | refine q_notF ?_
      | refine q_to64 ?_ | refine q_tou64 ?_ | refine q_cvu ?_ | refine q_cvi ?_ | refine q_at ?_)
    refine ⟨Or.inr rfl, _, rfl, ?_⟩
    rw [getP, if_neg hin]; rfl

end Go.Proofs.YtnakicjkolpacaaDoor
