/- Plain laws: a sum tells any four bytes side by side from others. -/
import Derived.Test.YtnakicjkolpacaaDoorP3
set_option linter.unusedSimpArgs false
set_option linter.unusedVariables false
set_option maxRecDepth 10000
namespace Go.Proofs.YtnakicjkolpacaaDoor
open Go.AI

theorem crcBit_xor (a b : Nat) : crcBit (a ^^^ b) = crcBit a ^^^ crcBit b := by
  have h1 : (a ^^^ b) / 2 = a / 2 ^^^ b / 2 := Nat.xor_div_two
  have h2 : (a ^^^ b) % 2 = (a % 2) ^^^ (b % 2) := by
    have := Nat.xor_mod_two_pow (a := a) (b := b) (n := 1)
    simpa using this
  unfold crcBit
  rcases Nat.mod_two_eq_zero_or_one a with ha | ha <;> rcases Nat.mod_two_eq_zero_or_one b with hb | hb <;> rw [ha, hb] at h2 <;> rw [h1]
  · rw [if_neg (by rw [h2]; decide), if_neg (by omega), if_neg (by omega)]
  · rw [if_pos (by rw [h2]; rfl), if_neg (by omega), if_pos hb, Nat.xor_assoc]
  · rw [if_pos (by rw [h2]; rfl), if_pos ha, if_neg (by omega), Nat.xor_assoc, Nat.xor_assoc]
    congr 1
    exact Nat.xor_comm _ _
  · rw [if_neg (by rw [h2]; decide), if_pos ha, if_pos hb]
    have : a / 2 ^^^ 2197175160 ^^^ (b / 2 ^^^ 2197175160) = a / 2 ^^^ b / 2 ^^^ (2197175160 ^^^ 2197175160) := by
      simp only [Nat.xor_assoc]
      congr 1
      rw [← Nat.xor_assoc, Nat.xor_comm 2197175160, Nat.xor_assoc]
    rw [this, Nat.xor_self, Nat.xor_zero]

theorem crcBit_zero {x : Nat} (hx : x < 4294967296) (h : crcBit x = 0) : x = 0 := by
  unfold crcBit at h
  split at h
  · have : x / 2 = 2197175160 := by
      have h3 : x / 2 ^^^ 2197175160 ^^^ 2197175160 = 0 ^^^ 2197175160 := by rw [h]
      rw [Nat.xor_assoc, Nat.xor_self, Nat.xor_zero, Nat.zero_xor] at h3
      exact h3
    omega
  · omega

theorem xor_eq_zero' {a b : Nat} (h : a ^^^ b = 0) : a = b := by
  have h3 : a ^^^ b ^^^ b = 0 ^^^ b := by rw [h]
  rw [Nat.xor_assoc, Nat.xor_self, Nat.xor_zero, Nat.zero_xor] at h3
  exact h3
theorem xor_lt32 {a b : Nat} (ha : a < 4294967296) (hb : b < 4294967296) : a ^^^ b < 4294967296 := Nat.xor_lt_two_pow (n := 32) (by omega) (by omega)
theorem xor_cancel {a b c : Nat} (h : a ^^^ b = a ^^^ c) : b = c := by
  have h3 : a ^^^ (a ^^^ b) = a ^^^ (a ^^^ c) := by rw [h]
  rw [← Nat.xor_assoc, ← Nat.xor_assoc, Nat.xor_self, Nat.zero_xor, Nat.zero_xor] at h3
  exact h3
theorem xor_cancelR {a b c : Nat} (h : b ^^^ a = c ^^^ a) : b = c := xor_cancel (a := a) (by rw [Nat.xor_comm a b, Nat.xor_comm a c, h])

theorem crcBit_inj {a b : Nat} (ha : a < 4294967296) (hb : b < 4294967296) (h : crcBit a = crcBit b) : a = b := by
  apply xor_eq_zero'
  apply crcBit_zero (xor_lt32 ha hb)
  rw [crcBit_xor, h, Nat.xor_self]

theorem crcBits_xor : ∀ (k a b : Nat), crcBits k (a ^^^ b) = crcBits k a ^^^ crcBits k b
  | 0, _, _ => rfl
  | k + 1, a, b => by simp only [crcBits, crcBit_xor, crcBits_xor k]
theorem crcBits_inj : ∀ (k : Nat) {a b : Nat}, a < 4294967296 → b < 4294967296 → crcBits k a = crcBits k b → a = b
  | 0, _, _, _, _, h => h
  | k + 1, _, _, ha, hb, h => crcBit_inj ha hb (crcBits_inj k (crcBit_lt ha) (crcBit_lt hb) h)
theorem crcBits_shift : ∀ (k m : Nat), crcBits k (2 ^ k * m) = m
  | 0, m => by simp [crcBits]
  | k + 1, m => by
    have e : 2 ^ (k + 1) * m = 2 * (2 ^ k * m) := by rw [Nat.pow_succ, Nat.mul_comm (2 ^ k) 2, Nat.mul_assoc]
    have h : crcBit (2 ^ (k + 1) * m) = 2 ^ k * m := by
      rw [e]
      unfold crcBit
      rw [if_neg (by omega)]
      omega
    simp only [crcBits, h, crcBits_shift k m]
theorem crcBits_add : ∀ (j k n : Nat), crcBits (j + k) n = crcBits k (crcBits j n)
  | 0, k, n => by simp [crcBits]
  | j + 1, k, n => by
    rw [show j + 1 + k = (j + k) + 1 by omega]
    simp only [crcBits, crcBits_add j k]

theorem xor_add {c m : Nat} (h : c < 256) : c ^^^ (256 * m) = c + 256 * m := by
  apply Nat.eq_of_testBit_eq
  intro i
  have h1 : (256 * m).testBit i = (decide (8 ≤ i) && m.testBit (i - 8)) := by
    have := Nat.testBit_two_pow_mul (i := 8) (a := m) (j := i)
    simpa using this
  have h2 : (c + 256 * m).testBit i = if i < 8 then c.testBit i else m.testBit (i - 8) := by
    have := Nat.testBit_two_pow_mul_add m (b := c) (i := 8) (by omega) i
    rw [Nat.add_comm]
    simpa using this
  rw [Nat.testBit_xor, h1, h2]
  by_cases hi : i < 8
  · rw [if_pos hi]
    have : ¬ 8 ≤ i := by omega
    simp [this]
  · rw [if_neg hi]
    have h3 : c.testBit i = false := Nat.testBit_lt_two_pow (Nat.lt_of_lt_of_le h (by
      have : 2 ^ 8 ≤ 2 ^ i := Nat.pow_le_pow_right (by decide) (by omega)
      omega))
    have : 8 ≤ i := by omega
    simp [h3, this]

/-- So many bytes at once. -/
theorem crcReg_leN : ∀ (l : List UInt8) (r : Nat), crcReg r l = crcBits (8 * l.length) (r ^^^ leN l)
  | [], r => by simp [crcReg, leN, crcBits]
  | c :: l, r => by
    have ih := crcReg_leN l (crcByte r c)
    have h1 : crcReg r (c :: l) = crcReg (crcByte r c) l := rfl
    rw [h1, ih, List.length_cons, show 8 * (l.length + 1) = 8 + 8 * l.length by omega, crcBits_add]
    congr 1
    have h2 : leN l = crcBits 8 (2 ^ 8 * leN l) := (crcBits_shift 8 (leN l)).symm
    have h3 : leN (c :: l) = c.toNat ^^^ (256 * leN l) := (xor_add (u8_lt c)).symm
    rw [h3, ← Nat.xor_assoc, crcBits_xor]
    unfold crcByte
    congr 1

theorem crcReg_append (r : Nat) (a b : List UInt8) : crcReg r (a ++ b) = crcReg (crcReg r a) b := by simp [crcReg]

theorem crcByte_inj {a b : Nat} {c : UInt8} (ha : a < 4294967296) (hb : b < 4294967296) (h : crcByte a c = crcByte b c) : a = b :=
  xor_cancelR (crcBits_inj 8 (xor_lt32 ha (u8_lt32 c)) (xor_lt32 hb (u8_lt32 c)) h)
theorem crcReg_inj : ∀ (s : List UInt8) {a b : Nat}, a < 4294967296 → b < 4294967296 → crcReg a s = crcReg b s → a = b
  | [], _, _, _, _, h => h
  | c :: s, a, b, ha, hb, h => crcByte_inj ha hb (crcReg_inj s (crcByte_lt c ha) (crcByte_lt c hb) h)

theorem leN_inj {a b : List UInt8} (hl : a.length = b.length) (h : leN a = leN b) : a = b := by
  rw [← leB_leN a, ← leB_leN b, hl, h]

theorem xor_ones {x : Nat} (h : x < 4294967296) : x ^^^ (4294967295 - x) = 4294967295 := by
  have h1 : ((BitVec.ofNat 32 x) ^^^ ~~~(BitVec.ofNat 32 x)).toNat = (BitVec.allOnes 32).toNat := by
    congr 1
    ext i hi
    simp only [BitVec.getElem_xor, BitVec.getElem_not, BitVec.getElem_allOnes]
    cases (BitVec.ofNat 32 x)[i] <;> rfl
  rw [BitVec.toNat_xor, BitVec.toNat_not, BitVec.toNat_ofNat, BitVec.toNat_allOnes, Nat.mod_eq_of_lt (by simpa using h)] at h1
  simpa using h1

/-- What ends with its sum leaves one register. -/
theorem goodP_reg {l : List UInt8} (h : goodP l = true) : crcReg 4294967295 l = crcBits 32 4294967295 := by
  unfold goodP at h
  simp only [decide_eq_true_eq] at h
  obtain ⟨h4, h⟩ := h
  have hR : crcReg 4294967295 (l.take (l.length - 4)) < 4294967296 := crcReg_lt _ (by omega)
  have e : crcMore 0 (l.take (l.length - 4)) = (4294967295 : Int) - (crcReg 4294967295 (l.take (l.length - 4)) : Nat) := rfl
  rw [e] at h
  have ht : leN (l.drop (l.length - 4)) = 4294967295 - crcReg 4294967295 (l.take (l.length - 4)) := by omega
  have hl : l = l.take (l.length - 4) ++ l.drop (l.length - 4) := (List.take_append_drop _ _).symm
  rw [hl, crcReg_append, crcReg_leN (l.drop (l.length - 4)), ht, xor_ones hR]
  congr 1
  simp
  omega

/-- Up to four bytes side by side that are changed are found. -/
theorem burst {p w w' s : List UInt8} (hw : w.length = w'.length) (h4 : w.length ≤ 4) (h : goodP (p ++ w ++ s) = true) (h' : goodP (p ++ w' ++ s) = true) : w = w' := by
  have e := (goodP_reg h).trans (goodP_reg h').symm
  rw [crcReg_append, crcReg_append, crcReg_append, crcReg_append] at e
  have hp : crcReg 4294967295 p < 4294967296 := crcReg_lt _ (by omega)
  have e2 := crcReg_inj s (crcReg_lt _ hp) (crcReg_lt _ hp) e
  rw [crcReg_leN w, crcReg_leN w', hw] at e2
  have hb : ∀ x : List UInt8, x.length ≤ 4 → leN x < 4294967296 := fun x hx => Nat.lt_of_lt_of_le (leN_lt x) (by
    have : 256 ^ x.length ≤ 256 ^ 4 := Nat.pow_le_pow_right (by decide) hx
    omega)
  exact leN_inj hw (xor_cancel (crcBits_inj _ (xor_lt32 hp (hb w h4)) (xor_lt32 hp (hb w' (by omega))) e2))

end Go.Proofs.YtnakicjkolpacaaDoor
