/- What the functions answer: numbers, sums. -/
import Derived.Test.YtnakicjkolpacaaDoorT
import Derived.Test.YtnakicjkolpacaaDoorMC
set_option linter.unusedSimpArgs false
set_option linter.unusedVariables false
set_option maxRecDepth 10000
namespace Go.Proofs.YtnakicjkolpacaaDoor
open Go.AI
attribute [local irreducible] aops aexec acall aiter aop W WO

variable {xf : ExtF} {gf : CallF}

theorem e_frame_in (k : Nat) (a lo hi : Int) : FnV (acall B xf gf (k + 1)) n_frame_in [.int .i64 a, .int .i64 lo, .int .i64 hi] (.bool (decide (a ≥ lo) && decide (a ≤ hi))) := by
  refine fn_of B_frame_in rfl ?_
  unfold frame_in
  repeat' (first
   | refine q_s ?_ | refine q_z ?_ | refine q_n ?_ | refine q_nn ?_ | refine q_mv ?_ | refine q_cmp ?_ | refine q_cmp2 (fun _ => ?_) (fun _ => ?_) | refine q_pickT ?_ | refine q_pickF ?_)
  all_goals (refine ⟨Or.inr rfl, _, rfl, ?_⟩; show AV.bool _ = _; simp [cmpP, *] at *; try omega)

theorem e_le_within (k : Nat) (t f : Bool) (l : List UInt8) (a s : Int) (hl : l.length < 4611686018427387904) (hs : 0 ≤ s ∧ s < 4611686018427387904) :
    FnV (acall B xf gf (k + 1)) n_le_within [.islc t f 1 (BL l), .int .i64 a, .int .i64 s] (.bool (decide (0 ≤ a ∧ a ≤ l.length - s))) := by
  refine fn_of B_le_within rfl ?_
  unfold le_within
  repeat' (first
   | refine q_s ?_ | refine q_z ?_ | refine q_n ?_ | refine q_nn ?_ | refine q_mv ?_ | refine q_cmp ?_ | refine q_cmp2 (fun _ => ?_) (fun _ => ?_) | refine q_sub ?_ | refine q_pickT ?_
    | refine q_pickF ?_ | refine q_len ?_ | refine q_lenS ?_ | refine q_len0 ?_)
  all_goals (refine ⟨Or.inr rfl, _, rfl, ?_⟩; show AV.bool _ = _; simp [cmpP, *] at *; try omega)

theorem e_le_right (k : Nat) (a : Int) : FnV (acall B xf gf (k + 1)) n_le_right [.int .i64 a] (.bool (decide (a = 1 ∨ a = 2 ∨ a = 4 ∨ a = 8))) := by
  refine fn_of B_le_right rfl ?_
  unfold le_right
  repeat' (first
   | refine q_s ?_ | refine q_z ?_ | refine q_n ?_ | refine q_nn ?_ | refine q_mv ?_ | refine q_cmp ?_ | refine q_cmp2 (fun _ => ?_) (fun _ => ?_) | refine q_pickT ?_ | refine q_pickF ?_)
  all_goals (refine ⟨Or.inr rfl, _, rfl, ?_⟩; show AV.bool _ = _; simp [cmpP, *] at *; try omega)

/-- The sum's register. -/
def crcBit (n : Nat) : Nat := if n % 2 = 1 then (n / 2) ^^^ 2197175160 else n / 2
def crcBits : Nat → Nat → Nat
  | 0, n => n
  | k + 1, n => crcBits k (crcBit n)
def crcByte (n : Nat) (c : UInt8) : Nat := crcBits 8 (n ^^^ c.toNat)
def crcReg (n : Nat) (l : List UInt8) : Nat := l.foldl crcByte n

theorem crcBit_lt {n : Nat} (h : n < 4294967296) : crcBit n < 4294967296 := by
  unfold crcBit
  split
  · exact Nat.xor_lt_two_pow (n := 32) (by omega) (by omega)
  · omega
theorem crcBits_lt : ∀ (k : Nat) {n : Nat}, n < 4294967296 → crcBits k n < 4294967296
  | 0, _, h => h
  | k + 1, _, h => crcBits_lt k (crcBit_lt h)
theorem u8_lt (c : UInt8) : c.toNat < 256 := UInt8.toNat_lt c
theorem u8_lt32 (c : UInt8) : c.toNat < 4294967296 := by have := u8_lt c; omega
theorem crcByte_lt {n : Nat} (c : UInt8) (h : n < 4294967296) : crcByte n c < 4294967296 := crcBits_lt 8 (Nat.xor_lt_two_pow (n := 32) (by omega) (by have := u8_lt c; omega))
theorem crcReg_lt : ∀ (l : List UInt8) {n : Nat}, n < 4294967296 → crcReg n l < 4294967296
  | [], _, h => h
  | c :: l, _, h => crcReg_lt l (crcByte_lt c h)

theorem crc_bits {cf : CallF} {base fuel : Nat} {H : Heap} {T : Tmps} {n : Nat} (hn : n < 4294967296) (hk : 8 < fuel) {v13 v14 v15 : AV} (hT : Has T [(5, .int .u32 n), (23, .int .i64 0), (13, v13), (14, v14), (15, v15)]) :
    W (aexec cf xf base fuel (.loop crc_More_l0) T H) (fun ex T' H' => ex = .exit 2 ∧ H' = H ∧ Has T' [(5, .int .u32 (crcBits 8 n)), (13, v13), (14, v14), (15, v15)]) := by
  refine w_loop (fun m T' H' => m ≤ 8 ∧ H' = H ∧ ∃ n' : Nat, n' < 4294967296 ∧ crcBits m n' = crcBits 8 n ∧ Has T' [(5, .int .u32 n'), (23, .int .i64 (8 - m : Int)), (13, v13), (14, v14), (15, v15)]) 8 ⟨by omega, rfl, n, hn, rfl, by simpa using hT⟩ hk ?_
  rintro m T H hm ⟨_, rfl, n', hn', hg, hT⟩
  rw [hT.eq]
  simp only [over]
  unfold crc_More_l0
  repeat' (first
   | refine q_s ?_ | refine q_z ?_ | refine q_b ?_ | refine wo_and1 rfl hn' rfl rfl ?_ | refine wo_shr1 rfl hn' rfl rfl ?_ | refine wo_xorC rfl (by omega) (by decide) rfl rfl ?_
    | refine q_mv ?_ | refine q_cmp ?_ | refine q_cmp2 (fun _ => ?_) (fun _ => ?_) | refine q_add ?_ | refine q_bin ?_)
  · refine ⟨by omega, by omega, rfl, crcBit n', crcBit_lt hn', ?_, ?_, by show AV.int _ _ = _; congr 1; omega, rfl, rfl, rfl, trivial⟩
    · rw [← hg]; obtain ⟨m', rfl⟩ : ∃ m', m = m' + 1 := ⟨m - 1, by omega⟩; rfl
    · rename_i h1
      simp only [cmpP] at h1
      show AV.int _ _ = AV.int _ _
      rw [crcBit, if_pos (by omega)]; rfl
  · refine ⟨by omega, by omega, rfl, crcBit n', crcBit_lt hn', ?_, ?_, by show AV.int _ _ = _; congr 1; omega, rfl, rfl, rfl, trivial⟩
    · rw [← hg]; obtain ⟨m', rfl⟩ : ∃ m', m = m' + 1 := ⟨m - 1, by omega⟩; rfl
    · rename_i h1
      simp only [cmpP] at h1
      show AV.int _ _ = AV.int _ _
      rw [crcBit, if_neg (by omega)]
  · rename_i h1
    simp only [cmpP] at h1
    obtain rfl : m = 0 := by omega
    exact ⟨rfl, rfl, by rw [← hg]; rfl, rfl, rfl, rfl, trivial⟩

def crcMore (sum : Int) (l : List UInt8) : Int := 4294967295 - (crcReg (4294967295 - (sum % 4294967296).toNat) l : Nat)

theorem crc_bytes {cf : CallF} {base fuel : Nat} {H : Heap} {T : Tmps} {n : Nat} {t f : Bool} {l : List UInt8} (hn : n < 4294967296) (hl : l.length < 1000000) (hk : 1000000 ≤ fuel)
    (hT : Has T [(5, .int .u32 n), (13, .islc t f 1 (BL l)), (14, .int .i64 l.length), (15, .int .i64 0)]) :
    W (aexec cf xf base fuel (.loop crc_More_l1) T H) (fun ex T' H' => ex = .exit 0 ∧ H' = H ∧ T' 5 = .int .u32 (crcReg n l)) := by
  refine w_loop (fun m T' H' => m ≤ l.length ∧ H' = H ∧ ∃ n' : Nat, n' < 4294967296 ∧ crcReg n' (l.drop (l.length - m)) = crcReg n l ∧ Has T' [(5, .int .u32 n'), (13, .islc t f 1 (BL l)), (14, .int .i64 l.length), (15, .int .i64 (l.length - m : Int))])
    l.length ⟨by omega, rfl, n, hn, by simp, by simpa using hT⟩ (by omega) ?_
  rintro m T H hm ⟨_, rfl, n', hn', hg, hT⟩
  rw [hT.eq]
  simp only [over]
  unfold crc_More_l1
  repeat' (first
   | refine q_s ?_ | refine q_z ?_ | refine q_b ?_ | refine wo_cv32 rfl (u8_lt32 _) rfl rfl ?_ | refine wo_xor32 rfl rfl hn' (u8_lt32 _) rfl rfl ?_ | refine q_mv ?_ | refine q_load ?_
    | refine q_loadI ?_ | refine q_loadR ?_ | refine q_cmp ?_ | refine q_cmp2 (fun _ => ?_) (fun _ => ?_) | refine q_add ?_ | refine q_bin ?_ | refine q_cvi ?_ | refine q_at ?_)
  · refine (crc_bits (Nat.xor_lt_two_pow (n := 32) (by omega) (by have := u8_lt (bAt l (l.length - m)); omega)) (by omega) ⟨rfl, rfl, rfl, rfl, rfl, trivial⟩).mono ?_
    rintro ex T2 H2 ⟨rfl, rfl, h2⟩
    rw [h2.eq]
    simp only [over]
    show W _ _
    repeat' (first
     | refine q_s ?_ | refine q_z ?_ | refine q_b ?_ | refine q_mv ?_ | refine q_load ?_ | refine q_loadI ?_ | refine q_loadR ?_ | refine q_cmp ?_ | refine q_cmp2 (fun _ => ?_) (fun _ => ?_)
      | refine q_add ?_ | refine q_bin ?_ | refine q_cvi ?_ | refine q_at ?_)
    have hd : l.drop (l.length - m) = bAt l (l.length - m) :: l.drop (l.length - (m - 1)) := by
      have hlt : l.length - m < l.length := by omega
      have e1 : ((l.length : Int) - m).toNat = l.length - m := by omega
      rw [show l.length - (m - 1) = l.length - m + 1 by omega, List.drop_eq_getElem_cons hlt]
      simp [bAt, e1, hlt]
    refine ⟨by omega, by omega, rfl, _, crcByte_lt (bAt l (l.length - m)) hn', ?_, rfl, rfl, rfl, by show AV.int _ _ = _; congr 1; omega, trivial⟩
    rw [← hg, hd]; rfl
  · obtain rfl : m = 0 := by omega
    refine ⟨rfl, rfl, ?_⟩
    show AV.int _ _ = _
    rw [← hg]; simp [crcReg]

theorem e_crc_More (k : Nat) (hk : 1000000 ≤ k) (t f : Bool) (l : List UInt8) (sum : Int) (hl : l.length < 1000000) (hs : 0 ≤ sum ∧ sum ≤ 4294967295) :
    FnV (acall B xf gf (k + 1)) n_crc_More [.int .i64 sum, .islc t f 1 (BL l)] (.int .i64 (crcMore sum l)) := by
  obtain ⟨s, rfl⟩ : ∃ s : Nat, sum = s := ⟨sum.toNat, by omega⟩
  refine fn_of B_crc_More rfl ?_
  unfold crc_More
  repeat' (first
   | refine q_s ?_ | refine q_z ?_ | refine q_b ?_ | refine wo_cv32 rfl (by omega) rfl rfl ?_ | refine wo_not32 rfl (by omega) rfl rfl ?_ | refine q_mv ?_ | refine q_load ?_ | refine q_loadI ?_
    | refine q_loadR ?_ | refine q_cmp ?_ | refine q_cmp2 (fun _ => ?_) (fun _ => ?_) | refine q_add ?_ | refine q_bin ?_ | refine q_notT ?_ | refine q_notF ?_ | refine q_len ?_
    | refine q_lenS ?_ | refine q_len0 ?_ | refine q_to64 ?_ | refine q_tou64 ?_ | refine q_cvu ?_ | refine q_cvi ?_ | refine q_at ?_)
  refine (crc_bytes (n := 4294967295 - s) (by omega) hl hk ⟨rfl, rfl, rfl, rfl, trivial⟩).mono ?_
  rintro ex T2 H2 ⟨rfl, rfl, h2⟩
  have hr : crcReg (4294967295 - s) l < 4294967296 := crcReg_lt l (by omega)
  rw [Has.eq (T := T2) (ps := [(5, _)]) ⟨h2, trivial⟩]
  simp only [over]
  show W _ _
  repeat' (first
   | refine q_s ?_ | refine q_z ?_ | refine q_b ?_ | refine wo_not32 rfl hr rfl rfl ?_ | refine q_mv ?_ | refine q_load ?_ | refine q_loadI ?_ | refine q_loadR ?_ | refine q_cmp ?_
    | refine q_cmp2 (fun _ => ?_) (fun _ => ?_) | refine q_add ?_ | refine q_bin ?_ | refine q_notT ?_ | refine q_notF ?_ | refine q_len ?_ | refine q_lenS ?_ | refine q_len0 ?_
    | refine q_to64 ?_ | refine q_tou64 ?_ | refine q_cvu ?_ | refine q_cvi ?_ | refine q_at ?_)
  refine ⟨Or.inr rfl, _, rfl, ?_⟩
  show AV.int _ _ = AV.int _ _
  congr 1
  have e : ((s : Int) % 4294967296).toNat = s := by omega
  rw [crcMore, e]; omega

theorem e_crc_Sum (k : Nat) (hk : 1000000 ≤ k) (t f : Bool) (l : List UInt8) (hl : l.length < 1000000) :
    FnV (acall B xf gf (k + 2)) n_crc_Sum [.islc t f 1 (BL l)] (.int .i64 (crcMore 0 l)) := by
  refine fn_of B_crc_Sum rfl ?_
  unfold crc_Sum
  repeat' (first
   | refine q_s ?_ | refine q_z ?_ | refine q_mv ?_ | refine q_callB (e_crc_More k hk t f l 0 hl (by omega)) (fun _ => ?_) (fun _ => ?_)
    | refine q_call (e_crc_More k hk t f l 0 hl (by omega)) ?_)
  refine ⟨Or.inr rfl, _, rfl, rfl⟩

end Go.Proofs.YtnakicjkolpacaaDoor
