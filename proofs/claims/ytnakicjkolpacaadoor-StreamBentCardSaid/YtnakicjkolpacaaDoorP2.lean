/- Plain laws: what is read is what is written. -/
import Derived.Test.YtnakicjkolpacaaDoorS14
set_option linter.unusedSimpArgs false
set_option linter.unusedVariables false
set_option maxRecDepth 10000
namespace Go.Proofs.YtnakicjkolpacaaDoor
open Go.AI

/-- Numbers side by side, in bytes. -/
def zipB : List Nat → List Int → List UInt8
  | s :: ss, n :: ns => leB s n ++ zipB ss ns
  | _, _ => []

theorem getP_ok {l : List UInt8} {a s : Nat} (h : (getP l a s).2 = 0) : a + s ≤ l.length ∧ leB s (getP l a s).1 = (l.drop a).take s ∧ 0 ≤ (getP l a s).1 ∧ (getP l a s).1 ≤ 4611686018427387903 := by
  unfold getP at h ⊢
  split at h
  · rename_i h1
    split at h
    · rename_i h2
      rw [if_pos h1, if_pos h2]
      have hs : ((l.drop (a : Int).toNat).take s).length = s := by simp; omega
      have := leB_leN ((l.drop (a : Int).toNat).take s)
      rw [hs] at this
      exact ⟨by omega, this, by omega, by simp only; omega⟩
    · simp at h
  · simp at h

theorem numGo_zip : ∀ {l : List UInt8} {ss : List Nat} {a : Nat} {o : List Int} {e : Nat}, numGo l a ss = some (o, e) → l.drop a = zipB ss o ++ l.drop e
  | l, [], a, o, e, h => by
    simp only [numGo, Option.some.injEq, Prod.mk.injEq] at h
    rw [← h.2]; rfl
  | l, s :: r, a, o, e, h => by
    simp only [numGo] at h
    split at h
    · rename_i h0
      simp only [Option.map_eq_some_iff] at h
      obtain ⟨⟨o', e'⟩, h1, h2⟩ := h
      simp only [Prod.mk.injEq] at h2
      obtain ⟨rfl, rfl⟩ := h2
      have ih := numGo_zip h1
      obtain ⟨g1, g2, _⟩ := getP_ok h0
      simp only [zipB]
      rw [g2, List.append_assoc, ← ih, ← List.drop_drop, List.take_append_drop]
    · cases h

theorem numB_zip {l : List UInt8} {ss : List Nat} (h : numB l ss = true) : l = zipB ss (numO l ss) := by
  unfold numB at h
  unfold numO
  cases hg : numGo l 0 ss with
  | none => rw [hg] at h; cases h
  | some p =>
    rw [hg] at h
    have := numGo_zip hg
    simp only [decide_eq_true_eq] at h
    rw [h, List.drop_length, List.append_nil, List.drop_zero] at this
    exact this

/-- What is read is what is written. -/
theorem payB_rawC {kind : Int} {b : List UInt8} (h : rawB kind b = true) : payB (rawC kind b) = b := by
  unfold rawB at h
  split at h
  · rename_i h1
    subst h1
    have hz := numB_zip h
    rw [list4 (numO_len h)] at hz
    have : payB (rawC 1 b) = zipB [8, 8, 4, 4] [(numO b [8, 8, 4, 4]).getD 0 0, (numO b [8, 8, 4, 4]).getD 1 0, (numO b [8, 8, 4, 4]).getD 2 0, (numO b [8, 8, 4, 4]).getD 3 0] := by
      simp [rawC, h, payB, zipB, putB_cons, putB_nil]
    rw [this, ← hz]
  split at h
  · rename_i _ h1
    subst h1
    simp only [Bool.and_eq_true, decide_eq_true_eq] at h
    have hz := numB_zip h.1
    rw [list2 (numO_len h.1)] at hz
    have hr : rawC 2 b = ⟨2, 0, 0, 0, (numO (b.take 8) [4, 4]).getD 0 0, 0, 0, 0, b.drop 8⟩ := by simp [rawC, h.1]
    have e2 : payB (rawC 2 b) = putB 4 [(numO (b.take 8) [4, 4]).getD 0 0, ((b.drop 8).length / 64 : Int)] ++ b.drop 8 := by
      rw [hr, payB, if_neg (show ¬ (2 : Int) = 1 by decide), if_pos rfl]
    have e3 : putB 4 [(numO (b.take 8) [4, 4]).getD 0 0, (numO (b.take 8) [4, 4]).getD 1 0] = b.take 8 := by
      refine Eq.trans ?_ hz.symm
      simp [zipB, putB_cons, putB_nil]
    have this : payB (rawC 2 b) = b.take 8 ++ b.drop 8 := by
      rw [e2, ← h.2, e3]
    rw [this, List.take_append_drop]
  split at h
  · rename_i _ _ h1
    subst h1
    have hz := numB_zip h
    rw [list2 (numO_len h)] at hz
    have : payB (rawC 3 b) = zipB [4, 4] [(numO b [4, 4]).getD 0 0, (numO b [4, 4]).getD 1 0] := by
      simp [rawC, h, payB, zipB, putB_cons, putB_nil]
    rw [this, ← hz]
  split at h
  · rename_i _ _ _ h1
    subst h1
    have hz := numB_zip h
    rw [list3 (numO_len h)] at hz
    have : payB (rawC 4 b) = zipB [4, 4, 4] [(numO b [4, 4, 4]).getD 0 0, (numO b [4, 4, 4]).getD 1 0, (numO b [4, 4, 4]).getD 2 0] := by
      simp [rawC, h, payB, zipB, putB_cons, putB_nil]
    rw [this, ← hz]
  split at h
  · rename_i _ _ _ _ h1
    subst h1
    have hz := numB_zip h
    rw [list1 (numO_len h)] at hz
    have : payB (rawC 5 b) = zipB [4] [(numO b [4]).getD 0 0] := by
      simp [rawC, h, payB, zipB, putB_cons, putB_nil]
    rw [this, ← hz]
  split at h
  · rename_i _ _ _ _ _ h1
    subst h1
    have hz := numB_zip h
    rw [list2 (numO_len h)] at hz
    have : payB (rawC 6 b) = zipB [4, 4] [(numO b [4, 4]).getD 0 0, (numO b [4, 4]).getD 1 0] := by
      simp [rawC, h, payB, zipB, putB_cons, putB_nil]
    rw [this, ← hz]
  · cases h

theorem rawB_len {kind : Int} {b : List UInt8} (h : rawB kind b = true) : 4 ≤ b.length := by
  unfold rawB at h
  repeat' split at h
  all_goals first
    | (have := numB_len h; simp at this; omega)
    | (simp only [Bool.and_eq_true] at h; have := numB_len h.1; simp at this; omega)
    | cases h

theorem rawC_kind {kind : Int} {b : List UInt8} : (rawC kind b).kind = kind := by
  unfold rawC
  repeat' split
  all_goals simp_all
theorem rawC_data {kind : Int} {b : List UInt8} (h : rawD kind b = false) : (rawC kind b).data = [] := by
  unfold rawC
  unfold rawD at h
  repeat' split
  all_goals simp_all
theorem rawC_len {kind : Int} {b : List UInt8} : (rawC kind b).data.length ≤ b.length := by
  unfold rawC
  repeat' split
  all_goals simp

theorem pErr_ok {l : List UInt8} (h : pErr l = 0) : (lenP l).2 = 0 ∧ goodP (pD l) = true ∧ rawB (pKind l) (pPay l) = true ∧ chkP (pCmd l) := by
  unfold pErr at h
  split at h
  · rename_i h1; exact absurd h h1
  split at h
  · simp at h
  split at h
  · rename_i h1 h2 h3
    simp only [Bool.and_eq_true, decide_eq_true_eq] at h3
    exact ⟨Classical.not_not.1 h1, by simpa using h2, h3.1, h3.2⟩
  · simp at h

theorem leB4_take {d : List UInt8} {a : Nat} (h : a + 4 ≤ d.length) : leB 4 (leN ((d.drop a).take 4) : Nat) = (d.drop a).take 4 := by
  have := leB_leN ((d.drop a).take 4)
  rwa [show ((d.drop a).take 4).length = 4 by simp; omega] at this

theorem pSeq_range (l : List UInt8) : 0 ≤ pSeq l ∧ pSeq l ≤ 4294967295 := by
  have h := leN_lt (((pD l).drop 4).take 4)
  have h2 : 256 ^ (((pD l).drop 4).take 4).length ≤ 256 ^ 4 := Nat.pow_le_pow_right (by decide) (by simp; omega)
  unfold pSeq
  omega

/-- What is read as a frame begins with just what its command is written to. -/
theorem frB_parse {l : List UInt8} (h : pErr l = 0) : frB (pSeq l) (pCmd l) = l.take (lenP l).1.toNat ∧ 24 ≤ (lenP l).1 ∧ (lenP l).1 ≤ l.length := by
  obtain ⟨h0, hg, hB, hc⟩ := pErr_ok h
  obtain ⟨n, hn1, hn2, hn3, hn4, hn5⟩ := lenP_ok h0
  have hsz : (lenP l).1.toNat = 20 + n := by omega
  have hD : pD l = l.take (20 + n) := by rw [pD, hsz]
  have hdl : (pD l).length = 20 + n := by rw [hD]; simp; omega
  have hpl : (pPay l).length = n := by simp [pPay, hdl, hsz]; omega
  have hp : payB (pCmd l) = pPay l := payB_rawC hB
  have hk : (pCmd l).kind = pKind l := rawC_kind
  have h4 := rawB_len hB
  refine ⟨?_, by omega, by omega⟩
  have e0 : (pD l).take 4 = [70, 82, 65, 77] := by rw [hD, List.take_take, show min 4 (20 + n) = 4 by omega, hn5]
  have e1 : leB 4 (pSeq l) = ((pD l).drop 4).take 4 := leB4_take (by omega)
  have e2 : leB 4 (pKind l) = ((pD l).drop 8).take 4 := leB4_take (by omega)
  have e3 : leB 4 ((pPay l).length : Int) = ((pD l).drop 12).take 4 := by
    rw [hpl]
    have e : ((pD l).drop 12).take 4 = (l.drop 12).take 4 := by
      rw [hD, List.drop_take, List.take_take, show min 4 (20 + n - 12) = 4 by omega]
    rw [e, hn4]
    exact leB4_take (by omega)
  have hH : frH (pSeq l) (pCmd l) = (pD l).take (16 + n) := by
    have q : frH (pSeq l) (pCmd l) = (pD l).take 4 ++ (((pD l).drop 4).take 4 ++ (((pD l).drop 8).take 4 ++ (((pD l).drop 12).take 4 ++ pPay l))) := by
      rw [e0, ← e1, ← e2, ← e3]
      simp [frH, putB_cons, putB_nil, hp, hk]
    have s (a m : Nat) (x : List UInt8) (hx : x = ((pD l).drop (a + 4)).take m) : ((pD l).drop a).take 4 ++ x = ((pD l).drop a).take (4 + m) := by
      rw [hx, ← List.drop_drop, List.take_add]
    have s1 : ((pD l).drop 12).take 4 ++ pPay l = ((pD l).drop 12).take (4 + n) := s 12 n _ (by rw [pPay, hsz]; congr 1; omega)
    rw [q, s1, s 8 (4 + n) _ rfl, s 4 (4 + (4 + n)) _ rfl]
    have := s 0 (4 + (4 + (4 + n))) _ rfl
    rw [List.drop_zero, Nat.zero_add] at this
    rw [this]
    congr 1
    omega
  have hs : leB 4 (crcMore 0 (frH (pSeq l) (pCmd l))) = (pD l).drop (16 + n) := by
    unfold goodP at hg
    simp only [decide_eq_true_eq] at hg
    rw [hdl, show 20 + n - 4 = 16 + n by omega] at hg
    rw [hH, ← hg.2]
    have := leB_leN ((pD l).drop (16 + n))
    rwa [show ((pD l).drop (16 + n)).length = 4 by simp; omega] at this
  unfold frB
  rw [putB_cons, putB_nil, List.append_nil, hs, hH, List.take_append_drop, hD, hsz]

end Go.Proofs.YtnakicjkolpacaaDoor
