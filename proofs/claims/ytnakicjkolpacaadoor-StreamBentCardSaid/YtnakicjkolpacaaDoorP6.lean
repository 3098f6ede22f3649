/- Plain laws: bytes bent are found. -/
import Derived.Test.YtnakicjkolpacaaDoorP5
set_option linter.unusedSimpArgs false
set_option linter.unusedVariables false
set_option maxRecDepth 10000
namespace Go.Proofs.YtnakicjkolpacaaDoor
open Go.AI

/-- Bytes with so many of four changed from a place on. -/
def bent (l : List UInt8) (a : Nat) (x : List UInt8) : Nat → List UInt8
  | 0 => l
  | i + 1 => (bent l a x i).set (a + i) (bAt (bent l a x i) ((a + i : Nat) : Int) ^^^ x.getD i 0)
def chF (x : List UInt8) : Nat → Bool
  | 0 => false
  | i + 1 => chF x i || (x.getD i 0 != 0)

theorem bent_length (l : List UInt8) (a : Nat) (x : List UInt8) : ∀ i, (bent l a x i).length = l.length
  | 0 => rfl
  | i + 1 => by simp [bent, bent_length l a x i]

theorem bent_get (l : List UInt8) (a : Nat) (x : List UInt8) : ∀ (i j : Nat), a + i ≤ l.length → (bent l a x i)[j]? = if a ≤ j ∧ j < a + i then (l[j]?).map (· ^^^ x.getD (j - a) 0) else l[j]?
  | 0, j, _ => by
    rw [if_neg (by omega)]; rfl
  | i + 1, j, h => by
    have ih := fun j => bent_get l a x i j (by omega)
    simp only [bent, List.getElem?_set, bent_length]
    by_cases hj : a + i = j
    · subst hj
      rw [if_pos rfl, if_pos (by omega), if_pos (by omega)]
      have h1 := ih (a + i)
      rw [if_neg (by omega)] at h1
      have h2 : bAt (bent l a x i) ((a + i : Nat) : Int) = l[a + i]'(by omega) := by
        unfold bAt
        rw [Int.toNat_natCast, List.getD_eq_getElem?_getD, h1, List.getElem?_eq_getElem (by omega)]
        rfl
      rw [h2, List.getElem?_eq_getElem (by omega), Nat.add_sub_cancel_left]
      rfl
    · rw [if_neg hj, ih j]
      by_cases hc : a ≤ j ∧ j < a + i
      · rw [if_pos hc, if_pos (by omega)]
      · rw [if_neg hc, if_neg (by omega)]

theorem chF_false {x : List UInt8} : ∀ {i : Nat}, chF x i = false → ∀ j, j < i → x.getD j 0 = 0
  | 0, _, j, h => by omega
  | i + 1, hc, j, h => by
    simp only [chF, Bool.or_eq_false_iff, bne_eq_false_iff_eq] at hc
    by_cases hj : j = i
    · rw [hj]; exact hc.2
    · exact chF_false hc.1 j (by omega)
theorem chF_true {x : List UInt8} : ∀ {i : Nat}, chF x i = true → ∃ j, j < i ∧ x.getD j 0 ≠ 0
  | 0, h => by cases h
  | i + 1, hc => by
    simp only [chF, Bool.or_eq_true, bne_iff_ne, ne_eq] at hc
    rcases hc with hc | hc
    · obtain ⟨j, h1, h2⟩ := chF_true hc
      exact ⟨j, by omega, h2⟩
    · exact ⟨i, by omega, hc⟩

theorem bent_same {l : List UInt8} {a : Nat} {x : List UInt8} (h : a + 4 ≤ l.length) (hc : chF x 4 = false) : bent l a x 4 = l := by
  apply List.ext_getElem?
  intro j
  rw [bent_get l a x 4 j h]
  split
  · rename_i hj
    rw [chF_false hc (j - a) (by omega)]
    cases l[j]? <;> simp
  · rfl

theorem u8_xor_ne {a b : UInt8} (h : b ≠ 0) : a ^^^ b ≠ a := by
  intro hh
  apply h
  have h2 : a ^^^ (a ^^^ b) = a ^^^ a := by rw [hh]
  rw [← UInt8.xor_assoc, UInt8.xor_self, UInt8.zero_xor] at h2
  exact h2

/-- With up to four bytes side by side changed, out of its length, a frame is none, or open. -/
theorem parse_bent {seq : Int} {c : Cmd} (h : chkP c) {a : Nat} {x : List UInt8} (ha : a + 4 ≤ (frB seq c).length) (hc : chF x 4 = true) (hp : ¬ (a < 16 ∧ 12 < a + 4)) : pErr (bent (frB seq c) a x 4) ≠ 0 := by
  intro h0
  obtain ⟨e0, hg, _, _⟩ := pErr_ok h0
  obtain ⟨n, hn1, hn2, hn3, hn4, hn5⟩ := lenP_ok e0
  have hlen := bent_length (frB seq c) a x 4
  have hfl := frB_length seq c
  have hpl := payB_le h
  have hget := fun j => bent_get (frB seq c) a x 4 j ha
  have e12 : ((bent (frB seq c) a x 4).drop 12).take 4 = ((frB seq c).drop 12).take 4 := by
    apply List.ext_getElem?
    intro j
    by_cases hj : j < 4
    · rw [List.getElem?_take_of_lt hj, List.getElem?_take_of_lt hj, List.getElem?_drop, List.getElem?_drop, hget, if_neg (by omega)]
    · rw [List.getElem?_eq_none (by simp; omega), List.getElem?_eq_none (by simp; omega)]
  rw [e12, frB_len4 hpl] at hn4
  have hD : pD (bent (frB seq c) a x 4) = bent (frB seq c) a x 4 := by
    unfold pD
    rw [hn1, List.take_of_length_le (by rw [hlen, hfl]; omega)]
  rw [hD] at hg
  have hp1 : (bent (frB seq c) a x 4).take a = (frB seq c).take a := by
    apply List.ext_getElem?
    intro j
    by_cases hj : j < a
    · rw [List.getElem?_take_of_lt hj, List.getElem?_take_of_lt hj, hget, if_neg (by omega)]
    · rw [List.getElem?_eq_none (by simp; omega), List.getElem?_eq_none (by simp; omega)]
  have hp2 : (bent (frB seq c) a x 4).drop (a + 4) = (frB seq c).drop (a + 4) := by
    apply List.ext_getElem?
    intro j
    rw [List.getElem?_drop, List.getElem?_drop, hget, if_neg (by omega)]
  have split (l : List UInt8) : l = l.take a ++ (l.drop a).take 4 ++ l.drop (a + 4) := by
    rw [List.append_assoc, ← List.drop_drop, List.take_append_drop, List.take_append_drop]
  have g1 := frB_good seq c
  rw [split (frB seq c)] at g1
  rw [split (bent (frB seq c) a x 4), hp1, hp2] at hg
  have hw := burst (by simp; omega) (by simp; omega) g1 hg
  obtain ⟨j, hj1, hj2⟩ := chF_true hc
  have hwj : (((frB seq c).drop a).take 4)[j]? = (((bent (frB seq c) a x 4).drop a).take 4)[j]? := by rw [hw]
  rw [List.getElem?_take_of_lt hj1, List.getElem?_take_of_lt hj1, List.getElem?_drop, List.getElem?_drop, hget, if_pos (by omega), List.getElem?_eq_getElem (by omega)] at hwj
  simp only [Option.map_some, Option.some.injEq, Nat.add_sub_cancel_left] at hwj
  exact u8_xor_ne hj2 hwj.symm

end Go.Proofs.YtnakicjkolpacaaDoor
