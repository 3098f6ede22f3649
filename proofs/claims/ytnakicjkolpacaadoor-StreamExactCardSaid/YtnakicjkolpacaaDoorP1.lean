/- Plain laws of numbers in bytes, of frames' bytes. -/
import Derived.Test.YtnakicjkolpacaaDoorS9
set_option linter.unusedSimpArgs false
set_option linter.unusedVariables false
set_option maxRecDepth 10000
namespace Go.Proofs.YtnakicjkolpacaaDoor
open Go.AI

theorem leAt_succ (n : Int) (i : Nat) : leAt n (i + 1) = leAt (n / 256) i := by
  unfold leAt
  have h : n / 2 ^ (8 * (i + 1)) = n / 256 / 2 ^ (8 * i) := by
    have e : (2 : Int) ^ (8 * (i + 1)) = 256 * 2 ^ (8 * i) := by
      rw [show 8 * (i + 1) = 8 + 8 * i by omega, Int.pow_add]; rfl
    rw [e, ← Int.ediv_ediv_of_nonneg (by decide)]
  rw [h]

theorem leB_succ (s : Nat) (n : Int) : leB (s + 1) n = leAt n 0 :: leB s (n / 256) := by
  unfold leB
  rw [List.range_succ_eq_map, List.map_cons, List.map_map]
  congr 1
  apply List.map_congr_left
  intro i _
  exact leAt_succ n i

theorem leN_leB : ∀ (s : Nat) (n : Int), 0 ≤ n → n < 256 ^ s → (leN (leB s n) : Int) = n
  | 0, n, h0, h1 => by
    simp at h1
    simp [leB, leN]; omega
  | s + 1, n, h0, h1 => by
    have h2 : n / 256 < 256 ^ s := by
      rw [Int.pow_succ] at h1
      exact Int.ediv_lt_of_lt_mul (by decide) h1
    have ih := leN_leB s (n / 256) (Int.ediv_nonneg h0 (by decide)) h2
    have h3 := leAt_toNat n 0
    simp only [Nat.mul_zero, Int.pow_zero, Int.ediv_one] at h3
    rw [leB_succ]
    simp only [leN]
    push_cast
    rw [ih, h3]
    omega

theorem leB_leN : ∀ l : List UInt8, leB l.length (leN l : Nat) = l
  | [] => rfl
  | c :: l => by
    have hc := u8_lt c
    have h1 : ((leN (c :: l) : Nat) : Int) / 256 = (leN l : Nat) := by
      simp only [leN]; push_cast; omega
    have h2 : leAt ((leN (c :: l) : Nat) : Int) 0 = c := by
      apply UInt8.toNat_inj.1
      have h3 := leAt_toNat ((leN (c :: l) : Nat) : Int) 0
      simp only [Nat.mul_zero, Int.pow_zero, Int.ediv_one, leN] at h3
      simp only [leN]
      omega
    rw [List.length_cons, leB_succ, h1, h2, leB_leN l]

theorem leN_leB4 {n : Int} (h0 : 0 ≤ n) (h1 : n < 4294967296) : (leN (leB 4 n) : Int) = n := leN_leB 4 n h0 h1
theorem leN_leB8 {n : Int} (h0 : 0 ≤ n) (h1 : n < 4611686018427387904) : (leN (leB 8 n) : Int) = n := leN_leB 8 n h0 (by omega)

/-- A number that stands in bytes. -/
theorem getP_at {a b : List UInt8} {n at0 : Int} (h0 : 0 ≤ n) (h1 : n < 4294967296) (ha : at0 = a.length) : getP (a ++ (leB 4 n ++ b)) at0 4 = (n, 0) := by
  subst ha
  rw [getP4 (by omega) (by simp; omega)]
  rw [Int.toNat_natCast, List.drop_left, List.take_append_of_le_length (by simp), List.take_of_length_le (by simp), leN_leB4 h0 h1]

theorem putB_cons (s : Nat) (n : Int) (l : List Int) : putB s (n :: l) = leB s n ++ putB s l := rfl
theorem putB_nil (s : Nat) : putB s [] = [] := rfl

theorem frB_eq (seq : Int) (c : Cmd) : frB seq c = [70, 82, 65, 77] ++ (leB 4 seq ++ (leB 4 c.kind ++ (leB 4 ((payB c).length : Int) ++ (payB c ++ leB 4 (crcMore 0 (frH seq c)))))) := by
  simp [frB, frH, putB_cons, putB_nil]
theorem frB_length (seq : Int) (c : Cmd) : (frB seq c).length = 20 + (payB c).length := by
  simp [frB_eq]; omega

theorem frB_seq {seq : Int} {c : Cmd} (h : 0 ≤ seq ∧ seq ≤ 4294967295) : getP (frB seq c) 4 4 = (seq, 0) := by
  rw [frB_eq]; exact getP_at h.1 (by omega) rfl
theorem frB_kind {seq : Int} {c : Cmd} (h : 0 ≤ c.kind ∧ c.kind ≤ 4294967295) : getP (frB seq c) 8 4 = (c.kind, 0) := by
  rw [frB_eq, ← List.append_assoc]; exact getP_at h.1 (by omega) (by simp)
theorem frB_len {seq : Int} {c : Cmd} (h : (payB c).length ≤ 4294967295) : getP (frB seq c) 12 4 = (((payB c).length : Int), 0) := by
  rw [frB_eq, ← List.append_assoc, ← List.append_assoc]; exact getP_at (by omega) (by omega) (by simp)
theorem frB_pay {seq n : Int} {c : Cmd} {b : List UInt8} (hp : payB c = leB 4 n ++ b) (h : 0 ≤ n ∧ n ≤ 4294967295) : getP (frB seq c) 16 4 = (n, 0) := by
  rw [frB_eq, ← List.append_assoc, ← List.append_assoc, ← List.append_assoc, hp, List.append_assoc (leB 4 n)]; exact getP_at h.1 (by omega) (by simp)
theorem frB_take4 (seq : Int) (c : Cmd) : (frB seq c).take 4 = [70, 82, 65, 77] := by
  rw [frB_eq]; rfl

end Go.Proofs.YtnakicjkolpacaaDoor
