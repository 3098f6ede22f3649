/- Texts P2 to P7. -/
import Derived.Test.YtnakicjkolpacaaDoorS14

/- Plain laws: what is read is what is written. -/
set_option linter.unusedSimpArgs false
set_option linter.unusedVariables false
set_option maxRecDepth 10000
namespace Go.Proofs.YtnakicjkolpacaaDoor
open Go.AI

/-- Numbers side by side, in bytes. -/
def zipB : List Nat → List Int → List UInt8
  | s :: ss, n :: ns => leB s n ++ zipB ss ns
  | _, _ => []

theorem getP_ok {l : List UInt8} {a s : Nat} (h : (getP l a s).2 = 0) : a + s ≤ l.length ∧ leB s (getP l a s).1 = (l.drop a).take s ∧ 0 ≤ (getP l a s).1 ∧ (getP l a s).1 ≤ 4611686018427387903 := by
  unfold getP at h ⊢
  split at h
  · rename_i h1
    split at h
    · rename_i h2
      rw [if_pos h1, if_pos h2]
      have hs : ((l.drop (a : Int).toNat).take s).length = s := by simp; omega
      have := leB_leN ((l.drop (a : Int).toNat).take s)
      rw [hs] at this
      exact ⟨by omega, this, by omega, by simp only; omega⟩
    · simp at h
  · simp at h

theorem numGo_zip : ∀ {l : List UInt8} {ss : List Nat} {a : Nat} {o : List Int} {e : Nat}, numGo l a ss = some (o, e) → l.drop a = zipB ss o ++ l.drop e
  | l, [], a, o, e, h => by
    simp only [numGo, Option.some.injEq, Prod.mk.injEq] at h
    rw [← h.2]; rfl
  | l, s :: r, a, o, e, h => by
    simp only [numGo] at h
    split at h
    · rename_i h0
      simp only [Option.map_eq_some_iff] at h
      obtain ⟨⟨o', e'⟩, h1, h2⟩ := h
      simp only [Prod.mk.injEq] at h2
      obtain ⟨rfl, rfl⟩ := h2
      have ih := numGo_zip h1
      obtain ⟨g1, g2, _⟩ := getP_ok h0
      simp only [zipB]
      rw [g2, List.append_assoc, ← ih, ← List.drop_drop, List.take_append_drop]
    · cases h

theorem numB_zip {l : List UInt8} {ss : List Nat} (h : numB l ss = true) : l = zipB ss (numO l ss) := by
  unfold numB at h
  unfold numO
  cases hg : numGo l 0 ss with
  | none => rw [hg] at h; cases h
  | some p =>
    rw [hg] at h
    have := numGo_zip hg
    simp only [decide_eq_true_eq] at h
    rw [h, List.drop_length, List.append_nil, List.drop_zero] at this
    exact this

/-- What is read is what is written. -/
theorem payB_rawC {kind : Int} {b : List UInt8} (h : rawB kind b = true) : payB (rawC kind b) = b := by
  unfold rawB at h
  split at h
  · rename_i h1
    subst h1
    have hz := numB_zip h
    rw [list4 (numO_len h)] at hz
    have : payB (rawC 1 b) = zipB [8, 8, 4, 4] [(numO b [8, 8, 4, 4]).getD 0 0, (numO b [8, 8, 4, 4]).getD 1 0, (numO b [8, 8, 4, 4]).getD 2 0, (numO b [8, 8, 4, 4]).getD 3 0] := by
      simp [rawC, h, payB, zipB, putB_cons, putB_nil]
    rw [this, ← hz]
  split at h
  · rename_i _ h1
    subst h1
    simp only [Bool.and_eq_true, decide_eq_true_eq] at h
    have hz := numB_zip h.1
    rw [list2 (numO_len h.1)] at hz
    have hr : rawC 2 b = ⟨2, 0, 0, 0, (numO (b.take 8) [4, 4]).getD 0 0, 0, 0, 0, b.drop 8⟩ := by simp [rawC, h.1]
    have e2 : payB (rawC 2 b) = putB 4 [(numO (b.take 8) [4, 4]).getD 0 0, ((b.drop 8).length / 64 : Int)] ++ b.drop 8 := by
      rw [hr, payB, if_neg (show ¬ (2 : Int) = 1 by decide), if_pos rfl]
    have e3 : putB 4 [(numO (b.take 8) [4, 4]).getD 0 0, (numO (b.take 8) [4, 4]).getD 1 0] = b.take 8 := by
      refine Eq.trans ?_ hz.symm
      simp [zipB, putB_cons, putB_nil]
    have this : payB (rawC 2 b) = b.take 8 ++ b.drop 8 := by
      rw [e2, ← h.2, e3]
    rw [this, List.take_append_drop]
  split at h
  · rename_i _ _ h1
    subst h1
    have hz := numB_zip h
    rw [list2 (numO_len h)] at hz
    have : payB (rawC 3 b) = zipB [4, 4] [(numO b [4, 4]).getD 0 0, (numO b [4, 4]).getD 1 0] := by
      simp [rawC, h, payB, zipB, putB_cons, putB_nil]
    rw [this, ← hz]
  split at h
  · rename_i _ _ _ h1
    subst h1
    have hz := numB_zip h
    rw [list3 (numO_len h)] at hz
    have : payB (rawC 4 b) = zipB [4, 4, 4] [(numO b [4, 4, 4]).getD 0 0, (numO b [4, 4, 4]).getD 1 0, (numO b [4, 4, 4]).getD 2 0] := by
      simp [rawC, h, payB, zipB, putB_cons, putB_nil]
    rw [this, ← hz]
  split at h
  · rename_i _ _ _ _ h1
    subst h1
    have hz := numB_zip h
    rw [list1 (numO_len h)] at hz
    have : payB (rawC 5 b) = zipB [4] [(numO b [4]).getD 0 0] := by
      simp [rawC, h, payB, zipB, putB_cons, putB_nil]
    rw [this, ← hz]
  split at h
  · rename_i _ _ _ _ _ h1
    subst h1
    have hz := numB_zip h
    rw [list2 (numO_len h)] at hz
    have : payB (rawC 6 b) = zipB [4, 4] [(numO b [4, 4]).getD 0 0, (numO b [4, 4]).getD 1 0] := by
      simp [rawC, h, payB, zipB, putB_cons, putB_nil]
    rw [this, ← hz]
  · cases h

theorem rawB_len {kind : Int} {b : List UInt8} (h : rawB kind b = true) : 4 ≤ b.length := by
  unfold rawB at h
  repeat' split at h
  all_goals first
    | (have := numB_len h; simp at this; omega)
    | (simp only [Bool.and_eq_true] at h; have := numB_len h.1; simp at this; omega)
    | cases h

theorem rawC_kind {kind : Int} {b : List UInt8} : (rawC kind b).kind = kind := by
  unfold rawC
  repeat' split
  all_goals simp_all
theorem rawC_data {kind : Int} {b : List UInt8} (h : rawD kind b = false) : (rawC kind b).data = [] := by
  unfold rawC
  unfold rawD at h
  repeat' split
  all_goals simp_all
theorem rawC_len {kind : Int} {b : List UInt8} : (rawC kind b).data.length ≤ b.length := by
  unfold rawC
  repeat' split
  all_goals simp

theorem pErr_ok {l : List UInt8} (h : pErr l = 0) : (lenP l).2 = 0 ∧ goodP (pD l) = true ∧ rawB (pKind l) (pPay l) = true ∧ chkP (pCmd l) := by
  unfold pErr at h
  split at h
  · rename_i h1; exact absurd h h1
  split at h
  · simp at h
  split at h
  · rename_i h1 h2 h3
    simp only [Bool.and_eq_true, decide_eq_true_eq] at h3
    exact ⟨Classical.not_not.1 h1, by simpa using h2, h3.1, h3.2⟩
  · simp at h

theorem leB4_take {d : List UInt8} {a : Nat} (h : a + 4 ≤ d.length) : leB 4 (leN ((d.drop a).take 4) : Nat) = (d.drop a).take 4 := by
  have := leB_leN ((d.drop a).take 4)
  rwa [show ((d.drop a).take 4).length = 4 by simp; omega] at this

theorem pSeq_range (l : List UInt8) : 0 ≤ pSeq l ∧ pSeq l ≤ 4294967295 := by
  have h := leN_lt (((pD l).drop 4).take 4)
  have h2 : 256 ^ (((pD l).drop 4).take 4).length ≤ 256 ^ 4 := Nat.pow_le_pow_right (by decide) (by simp; omega)
  unfold pSeq
  omega

/-- What is read as a frame begins with just what its command is written to. -/
theorem frB_parse {l : List UInt8} (h : pErr l = 0) : frB (pSeq l) (pCmd l) = l.take (lenP l).1.toNat ∧ 24 ≤ (lenP l).1 ∧ (lenP l).1 ≤ l.length := by
  obtain ⟨h0, hg, hB, hc⟩ := pErr_ok h
  obtain ⟨n, hn1, hn2, hn3, hn4, hn5⟩ := lenP_ok h0
  have hsz : (lenP l).1.toNat = 20 + n := by omega
  have hD : pD l = l.take (20 + n) := by rw [pD, hsz]
  have hdl : (pD l).length = 20 + n := by rw [hD]; simp; omega
  have hpl : (pPay l).length = n := by simp [pPay, hdl, hsz]; omega
  have hp : payB (pCmd l) = pPay l := payB_rawC hB
  have hk : (pCmd l).kind = pKind l := rawC_kind
  have h4 := rawB_len hB
  refine ⟨?_, by omega, by omega⟩
  have e0 : (pD l).take 4 = [70, 82, 65, 77] := by rw [hD, List.take_take, show min 4 (20 + n) = 4 by omega, hn5]
  have e1 : leB 4 (pSeq l) = ((pD l).drop 4).take 4 := leB4_take (by omega)
  have e2 : leB 4 (pKind l) = ((pD l).drop 8).take 4 := leB4_take (by omega)
  have e3 : leB 4 ((pPay l).length : Int) = ((pD l).drop 12).take 4 := by
    rw [hpl]
    have e : ((pD l).drop 12).take 4 = (l.drop 12).take 4 := by
      rw [hD, List.drop_take, List.take_take, show min 4 (20 + n - 12) = 4 by omega]
    rw [e, hn4]
    exact leB4_take (by omega)
  have hH : frH (pSeq l) (pCmd l) = (pD l).take (16 + n) := by
    have q : frH (pSeq l) (pCmd l) = (pD l).take 4 ++ (((pD l).drop 4).take 4 ++ (((pD l).drop 8).take 4 ++ (((pD l).drop 12).take 4 ++ pPay l))) := by
      rw [e0, ← e1, ← e2, ← e3]
      simp [frH, putB_cons, putB_nil, hp, hk]
    have s (a m : Nat) (x : List UInt8) (hx : x = ((pD l).drop (a + 4)).take m) : ((pD l).drop a).take 4 ++ x = ((pD l).drop a).take (4 + m) := by
      rw [hx, ← List.drop_drop, List.take_add]
    have s1 : ((pD l).drop 12).take 4 ++ pPay l = ((pD l).drop 12).take (4 + n) := s 12 n _ (by rw [pPay, hsz]; congr 1; omega)
    rw [q, s1, s 8 (4 + n) _ rfl, s 4 (4 + (4 + n)) _ rfl]
    have := s 0 (4 + (4 + (4 + n))) _ rfl
    rw [List.drop_zero, Nat.zero_add] at this
    rw [this]
    congr 1
    omega
  have hs : leB 4 (crcMore 0 (frH (pSeq l) (pCmd l))) = (pD l).drop (16 + n) := by
    unfold goodP at hg
    simp only [decide_eq_true_eq] at hg
    rw [hdl, show 20 + n - 4 = 16 + n by omega] at hg
    rw [hH, ← hg.2]
    have := leB_leN ((pD l).drop (16 + n))
    rwa [show ((pD l).drop (16 + n)).length = 4 by simp; omega] at this
  unfold frB
  rw [putB_cons, putB_nil, List.append_nil, hs, hH, List.take_append_drop, hD, hsz]

end Go.Proofs.YtnakicjkolpacaaDoor

/- Plain laws: right commands of one kind that are unlike have unlike payloads. -/
set_option linter.unusedSimpArgs false
set_option linter.unusedVariables false
set_option maxRecDepth 10000
namespace Go.Proofs.YtnakicjkolpacaaDoor
open Go.AI

theorem parentsP_iff {a b : Int} : parentsP a b = true ↔ ((1 ≤ a ∧ a ≤ 4611686018427387903) ∧ b ≠ a ∧ (b = 0 ∨ (1 ≤ b ∧ b ≤ 4611686018427387903))) := by simp only [parentsP, decide_eq_true_eq]
theorem inR_iff {n lo hi : Int} : inR n lo hi = true ↔ (lo ≤ n ∧ n ≤ hi) := by simp only [inR, Bool.and_eq_true, decide_eq_true_eq, ge_iff_le]
theorem withinP_iff {a c o : Int} : withinP a c o = true ↔ (0 ≤ a ∧ 0 ≤ c ∧ c ≤ o ∧ a ≤ o - c) := by simp only [withinP, decide_eq_true_eq]

/-- What a right command is. -/
theorem chkP_inv {c : Cmd} (h : chkP c) :
    (c.kind = 1 ∧ parentsP c.id c.parent = true ∧ (0 ≤ c.size ∧ c.size ≤ 512) ∧ (0 ≤ c.count ∧ c.count ≤ 65535) ∧ c.frm = 0 ∧ c.source = 0 ∧ c.digest = 0 ∧ c.data = []) ∨
    (c.kind = 2 ∧ (c.data.length % 64 = 0 ∧ 64 ≤ c.data.length ∧ c.data.length ≤ 512) ∧ (0 ≤ c.frm ∧ c.frm ≤ 512 - (c.data.length / 64 : Int)) ∧ c.id = 0 ∧ c.parent = 0 ∧ c.size = 0 ∧ c.count = 0 ∧ c.source = 0 ∧ c.digest = 0) ∨
    (c.kind = 3 ∧ 0 < c.count ∧ (0 ≤ c.frm ∧ c.count ≤ 512 ∧ c.frm ≤ 512 - c.count) ∧ c.id = 0 ∧ c.parent = 0 ∧ c.size = 0 ∧ c.source = 0 ∧ c.digest = 0 ∧ c.data = []) ∨
    (c.kind = 4 ∧ 0 < c.count ∧ (0 ≤ c.frm ∧ c.count ≤ 512 ∧ c.frm ≤ 512 - c.count) ∧ (0 ≤ c.source ∧ c.source ≤ 512 - c.count) ∧ c.id = 0 ∧ c.parent = 0 ∧ c.size = 0 ∧ c.digest = 0 ∧ c.data = []) ∨
    (c.kind = 5 ∧ (0 ≤ c.size ∧ c.size ≤ 512) ∧ c.id = 0 ∧ c.parent = 0 ∧ c.frm = 0 ∧ c.count = 0 ∧ c.source = 0 ∧ c.digest = 0 ∧ c.data = []) ∨
    (c.kind = 6 ∧ (0 ≤ c.count ∧ c.count ≤ 65535) ∧ (0 ≤ c.digest ∧ c.digest ≤ 4294967295) ∧ c.id = 0 ∧ c.parent = 0 ∧ c.size = 0 ∧ c.frm = 0 ∧ c.source = 0 ∧ c.data = []) := by
  unfold chkP bareP at h
  split at h
  · rename_i hk
    simp only [Bool.and_eq_true, inR_iff] at h
    obtain ⟨⟨⟨h1, h2⟩, h3⟩, -, -, -, h4, -, h5, h6, h7⟩ := h
    exact .inl ⟨hk, h1, h2, h3, h4, h5, h6, List.eq_nil_of_length_eq_zero h7⟩
  split at h
  · rename_i _ hk
    simp only [writesP, Bool.and_eq_true, inR_iff, withinP_iff, decide_eq_true_eq] at h
    obtain ⟨⟨⟨h1, h2⟩, h3⟩, h4, h5, h6, -, h7, h8, h9, -⟩ := h
    exact .inr (.inl ⟨hk, ⟨h1, by omega, by omega⟩, by omega, h4, h5, h6, h7, h8, h9⟩)
  split at h
  · rename_i _ _ hk
    simp only [Bool.and_eq_true, withinP_iff, decide_eq_true_eq] at h
    obtain ⟨⟨h1, h2⟩, h4, h5, h6, -, -, h8, h9, h10⟩ := h
    exact .inr (.inr (.inl ⟨hk, h1, by omega, h4, h5, h6, h8, h9, List.eq_nil_of_length_eq_zero h10⟩))
  split at h
  · rename_i _ _ _ hk
    simp only [Bool.and_eq_true, withinP_iff, decide_eq_true_eq] at h
    obtain ⟨⟨⟨h1, h2⟩, h3⟩, h4, h5, h6, -, -, -, h9, h10⟩ := h
    exact .inr (.inr (.inr (.inl ⟨hk, h1, by omega, by omega, h4, h5, h6, h9, List.eq_nil_of_length_eq_zero h10⟩)))
  split at h
  · rename_i _ _ _ _ hk
    simp only [inR_iff] at h
    obtain ⟨h1, h4, h5, -, h6, h7, h8, h9, h10⟩ := h
    exact .inr (.inr (.inr (.inr (.inl ⟨hk, h1, h4, h5, h6, h7, h8, h9, List.eq_nil_of_length_eq_zero h10⟩))))
  split at h
  · rename_i _ _ _ _ _ hk
    simp only [Bool.and_eq_true, inR_iff] at h
    obtain ⟨⟨h1, h2⟩, h4, h5, h6, h7, -, h8, -, h10⟩ := h
    exact .inr (.inr (.inr (.inr (.inr ⟨hk, h1, h2, h4, h5, h6, h7, h8, List.eq_nil_of_length_eq_zero h10⟩))))
  · simp at h

theorem leB4_inj {a b : Int} {x y : List UInt8} (ha : 0 ≤ a ∧ a ≤ 4294967295) (hb : 0 ≤ b ∧ b ≤ 4294967295) (h : leB 4 a ++ x = leB 4 b ++ y) : a = b ∧ x = y := by
  obtain ⟨h1, h2⟩ := List.append_inj h (by simp)
  have := congrArg leN h1
  exact ⟨by rw [← leN_leB4 ha.1 (by omega), this, leN_leB4 hb.1 (by omega)], h2⟩
theorem leB8_inj {a b : Int} {x y : List UInt8} (ha : 0 ≤ a ∧ a ≤ 4611686018427387903) (hb : 0 ≤ b ∧ b ≤ 4611686018427387903) (h : leB 8 a ++ x = leB 8 b ++ y) : a = b ∧ x = y := by
  obtain ⟨h1, h2⟩ := List.append_inj h (by simp)
  have := congrArg leN h1
  exact ⟨by rw [← leN_leB8 ha.1 (by omega), this, leN_leB8 hb.1 (by omega)], h2⟩

theorem leB4_inj0 {a b : Int} (ha : 0 ≤ a ∧ a ≤ 4294967295) (hb : 0 ≤ b ∧ b ≤ 4294967295) (h : leB 4 a = leB 4 b) : a = b :=
  (leB4_inj (x := []) (y := []) ha hb (by simpa using h)).1

theorem payB_inj {c d : Cmd} (hc : chkP c) (hd : chkP d) (hk : c.kind = d.kind) (h : payB c = payB d) : c = d := by
  obtain ⟨k, i, p, s, f, n, o, g, x⟩ := c
  obtain ⟨k', i', p', s', f', n', o', g', x'⟩ := d
  simp only at hk
  subst hk
  rcases chkP_inv hc with hC | hC | hC | hC | hC | hC
  · simp only at hC
    obtain ⟨rfl, hC⟩ := hC
    rcases chkP_inv hd with hD | hD | hD | hD | hD | hD
    all_goals (simp only at hD; try (exact absurd hD.1 (by decide)))
    obtain ⟨-, hD⟩ := hD
    rw [parentsP_iff] at hC hD
    simp only [payB, if_true, if_false, putB_cons, putB_nil, List.append_nil, List.append_assoc] at h
    obtain ⟨e0, h0⟩ := leB8_inj (by omega) (by omega) h
    obtain ⟨e1, h1⟩ := leB8_inj (by omega) (by omega) h0
    obtain ⟨e2, h2⟩ := leB4_inj (by omega) (by omega) h1
    have e3 := leB4_inj0 (by omega) (by omega) h2
    obtain ⟨_, _, _, z1, z2, z3, z4⟩ := hC
    obtain ⟨_, _, _, y1, y2, y3, y4⟩ := hD
    simp only [Cmd.mk.injEq, true_and]
    simp [*]
  · simp only at hC
    obtain ⟨rfl, hC⟩ := hC
    rcases chkP_inv hd with hD | hD | hD | hD | hD | hD
    all_goals (simp only at hD; try (exact absurd hD.1 (by decide)))
    obtain ⟨-, hD⟩ := hD
    simp only [payB, show ¬ ((2 : Int) = 1) by decide, if_true, if_false, putB_cons, putB_nil, List.append_nil, List.append_assoc] at h
    obtain ⟨e0, h0⟩ := leB4_inj (by omega) (by omega) h
    obtain ⟨_, e1⟩ := leB4_inj (by omega) (by omega) h0
    obtain ⟨_, _, z1, z2, z3, z4, z5, z6⟩ := hC
    obtain ⟨_, _, y1, y2, y3, y4, y5, y6⟩ := hD
    simp only [Cmd.mk.injEq, true_and]
    simp [*]
  · simp only at hC
    obtain ⟨rfl, hC⟩ := hC
    rcases chkP_inv hd with hD | hD | hD | hD | hD | hD
    all_goals (simp only at hD; try (exact absurd hD.1 (by decide)))
    obtain ⟨-, hD⟩ := hD
    simp only [payB, show ¬ ((3 : Int) = 1) by decide, show ¬ ((3 : Int) = 2) by decide, if_true, if_false, putB_cons, putB_nil, List.append_nil, List.append_assoc] at h
    obtain ⟨e0, h0⟩ := leB4_inj (by omega) (by omega) h
    have e1 := leB4_inj0 (by omega) (by omega) h0
    obtain ⟨_, _, z1, z2, z3, z4, z5, z6⟩ := hC
    obtain ⟨_, _, y1, y2, y3, y4, y5, y6⟩ := hD
    simp only [Cmd.mk.injEq, true_and]
    simp [*]
  · simp only at hC
    obtain ⟨rfl, hC⟩ := hC
    rcases chkP_inv hd with hD | hD | hD | hD | hD | hD
    all_goals (simp only at hD; try (exact absurd hD.1 (by decide)))
    obtain ⟨-, hD⟩ := hD
    simp only [payB, show ¬ ((4 : Int) = 1) by decide, show ¬ ((4 : Int) = 2) by decide, show ¬ ((4 : Int) = 3) by decide, if_true, if_false, putB_cons, putB_nil, List.append_nil, List.append_assoc] at h
    obtain ⟨e0, h0⟩ := leB4_inj (by omega) (by omega) h
    obtain ⟨e1, h1⟩ := leB4_inj (by omega) (by omega) h0
    have e2 := leB4_inj0 (by omega) (by omega) h1
    obtain ⟨_, _, _, z1, z2, z3, z4, z5⟩ := hC
    obtain ⟨_, _, _, y1, y2, y3, y4, y5⟩ := hD
    simp only [Cmd.mk.injEq, true_and]
    simp [*]
  · simp only at hC
    obtain ⟨rfl, hC⟩ := hC
    rcases chkP_inv hd with hD | hD | hD | hD | hD | hD
    all_goals (simp only at hD; try (exact absurd hD.1 (by decide)))
    obtain ⟨-, hD⟩ := hD
    simp only [payB, show ¬ ((5 : Int) = 1) by decide, show ¬ ((5 : Int) = 2) by decide, show ¬ ((5 : Int) = 3) by decide, show ¬ ((5 : Int) = 4) by decide, if_true, if_false, putB_cons, putB_nil, List.append_nil, List.append_assoc] at h
    have e0 := leB4_inj0 (by omega) (by omega) h
    obtain ⟨_, z1, z2, z3, z4, z5, z6, z7⟩ := hC
    obtain ⟨_, y1, y2, y3, y4, y5, y6, y7⟩ := hD
    simp only [Cmd.mk.injEq, true_and]
    simp [*]
  · simp only at hC
    obtain ⟨rfl, hC⟩ := hC
    rcases chkP_inv hd with hD | hD | hD | hD | hD | hD
    all_goals (simp only at hD; try (exact absurd hD.1 (by decide)))
    obtain ⟨-, hD⟩ := hD
    simp only [payB, show ¬ ((6 : Int) = 1) by decide, show ¬ ((6 : Int) = 2) by decide, show ¬ ((6 : Int) = 3) by decide, show ¬ ((6 : Int) = 4) by decide, show ¬ ((6 : Int) = 5) by decide, if_true, if_false, putB_cons, putB_nil, List.append_nil, List.append_assoc] at h
    obtain ⟨e0, h0⟩ := leB4_inj (by omega) (by omega) h
    have e1 := leB4_inj0 (by omega) (by omega) h0
    obtain ⟨_, _, z1, z2, z3, z4, z5, z6⟩ := hC
    obtain ⟨_, _, y1, y2, y3, y4, y5, y6⟩ := hD
    simp only [Cmd.mk.injEq, true_and]
    simp [*]

theorem frB_mid (seq : Int) (c : Cmd) : ((frB seq c).drop 16).take ((frB seq c).length - 4 - 16) = payB c := by
  rw [frB_length]
  have : frB seq c = ([70, 82, 65, 77] ++ (leB 4 seq ++ (leB 4 c.kind ++ leB 4 ((payB c).length : Int)))) ++ (payB c ++ leB 4 (crcMore 0 (frH seq c))) := by
    rw [frB_eq]; simp
  rw [this, List.drop_left' (by simp), List.take_left' (by omega)]

end Go.Proofs.YtnakicjkolpacaaDoor

/- Plain laws: a sum tells any four bytes side by side from others. -/
set_option linter.unusedSimpArgs false
set_option linter.unusedVariables false
set_option maxRecDepth 10000
namespace Go.Proofs.YtnakicjkolpacaaDoor
open Go.AI

theorem crcBit_xor (a b : Nat) : crcBit (a ^^^ b) = crcBit a ^^^ crcBit b := by
  have h1 : (a ^^^ b) / 2 = a / 2 ^^^ b / 2 := Nat.xor_div_two
  have h2 : (a ^^^ b) % 2 = (a % 2) ^^^ (b % 2) := by
    have := Nat.xor_mod_two_pow (a := a) (b := b) (n := 1)
    simpa using this
  unfold crcBit
  rcases Nat.mod_two_eq_zero_or_one a with ha | ha <;> rcases Nat.mod_two_eq_zero_or_one b with hb | hb <;> rw [ha, hb] at h2 <;> rw [h1]
  · rw [if_neg (by rw [h2]; decide), if_neg (by omega), if_neg (by omega)]
  · rw [if_pos (by rw [h2]; rfl), if_neg (by omega), if_pos hb, Nat.xor_assoc]
  · rw [if_pos (by rw [h2]; rfl), if_pos ha, if_neg (by omega), Nat.xor_assoc, Nat.xor_assoc]
    congr 1
    exact Nat.xor_comm _ _
  · rw [if_neg (by rw [h2]; decide), if_pos ha, if_pos hb]
    have : a / 2 ^^^ 2197175160 ^^^ (b / 2 ^^^ 2197175160) = a / 2 ^^^ b / 2 ^^^ (2197175160 ^^^ 2197175160) := by
      simp only [Nat.xor_assoc]
      congr 1
      rw [← Nat.xor_assoc, Nat.xor_comm 2197175160, Nat.xor_assoc]
    rw [this, Nat.xor_self, Nat.xor_zero]

theorem crcBit_zero {x : Nat} (hx : x < 4294967296) (h : crcBit x = 0) : x = 0 := by
  unfold crcBit at h
  split at h
  · have : x / 2 = 2197175160 := by
      have h3 : x / 2 ^^^ 2197175160 ^^^ 2197175160 = 0 ^^^ 2197175160 := by rw [h]
      rw [Nat.xor_assoc, Nat.xor_self, Nat.xor_zero, Nat.zero_xor] at h3
      exact h3
    omega
  · omega

theorem xor_eq_zero' {a b : Nat} (h : a ^^^ b = 0) : a = b := by
  have h3 : a ^^^ b ^^^ b = 0 ^^^ b := by rw [h]
  rw [Nat.xor_assoc, Nat.xor_self, Nat.xor_zero, Nat.zero_xor] at h3
  exact h3
theorem xor_lt32 {a b : Nat} (ha : a < 4294967296) (hb : b < 4294967296) : a ^^^ b < 4294967296 := Nat.xor_lt_two_pow (n := 32) (by omega) (by omega)
theorem xor_cancel {a b c : Nat} (h : a ^^^ b = a ^^^ c) : b = c := by
  have h3 : a ^^^ (a ^^^ b) = a ^^^ (a ^^^ c) := by rw [h]
  rw [← Nat.xor_assoc, ← Nat.xor_assoc, Nat.xor_self, Nat.zero_xor, Nat.zero_xor] at h3
  exact h3
theorem xor_cancelR {a b c : Nat} (h : b ^^^ a = c ^^^ a) : b = c := xor_cancel (a := a) (by rw [Nat.xor_comm a b, Nat.xor_comm a c, h])

theorem crcBit_inj {a b : Nat} (ha : a < 4294967296) (hb : b < 4294967296) (h : crcBit a = crcBit b) : a = b := by
  apply xor_eq_zero'
  apply crcBit_zero (xor_lt32 ha hb)
  rw [crcBit_xor, h, Nat.xor_self]

theorem crcBits_xor : ∀ (k a b : Nat), crcBits k (a ^^^ b) = crcBits k a ^^^ crcBits k b
  | 0, _, _ => rfl
  | k + 1, a, b => by simp only [crcBits, crcBit_xor, crcBits_xor k]
theorem crcBits_inj : ∀ (k : Nat) {a b : Nat}, a < 4294967296 → b < 4294967296 → crcBits k a = crcBits k b → a = b
  | 0, _, _, _, _, h => h
  | k + 1, _, _, ha, hb, h => crcBit_inj ha hb (crcBits_inj k (crcBit_lt ha) (crcBit_lt hb) h)
theorem crcBits_shift : ∀ (k m : Nat), crcBits k (2 ^ k * m) = m
  | 0, m => by simp [crcBits]
  | k + 1, m => by
    have e : 2 ^ (k + 1) * m = 2 * (2 ^ k * m) := by rw [Nat.pow_succ, Nat.mul_comm (2 ^ k) 2, Nat.mul_assoc]
    have h : crcBit (2 ^ (k + 1) * m) = 2 ^ k * m := by
      rw [e]
      unfold crcBit
      rw [if_neg (by omega)]
      omega
    simp only [crcBits, h, crcBits_shift k m]
theorem crcBits_add : ∀ (j k n : Nat), crcBits (j + k) n = crcBits k (crcBits j n)
  | 0, k, n => by simp [crcBits]
  | j + 1, k, n => by
    rw [show j + 1 + k = (j + k) + 1 by omega]
    simp only [crcBits, crcBits_add j k]

theorem xor_add {c m : Nat} (h : c < 256) : c ^^^ (256 * m) = c + 256 * m := by
  apply Nat.eq_of_testBit_eq
  intro i
  have h1 : (256 * m).testBit i = (decide (8 ≤ i) && m.testBit (i - 8)) := by
    have := Nat.testBit_two_pow_mul (i := 8) (a := m) (j := i)
    simpa using this
  have h2 : (c + 256 * m).testBit i = if i < 8 then c.testBit i else m.testBit (i - 8) := by
    have := Nat.testBit_two_pow_mul_add m (b := c) (i := 8) (by omega) i
    rw [Nat.add_comm]
    simpa using this
  rw [Nat.testBit_xor, h1, h2]
  by_cases hi : i < 8
  · rw [if_pos hi]
    have : ¬ 8 ≤ i := by omega
    simp [this]
  · rw [if_neg hi]
    have h3 : c.testBit i = false := Nat.testBit_lt_two_pow (Nat.lt_of_lt_of_le h (by
      have : 2 ^ 8 ≤ 2 ^ i := Nat.pow_le_pow_right (by decide) (by omega)
      omega))
    have : 8 ≤ i := by omega
    simp [h3, this]

/-- So many bytes at once. -/
theorem crcReg_leN : ∀ (l : List UInt8) (r : Nat), crcReg r l = crcBits (8 * l.length) (r ^^^ leN l)
  | [], r => by simp [crcReg, leN, crcBits]
  | c :: l, r => by
    have ih := crcReg_leN l (crcByte r c)
    have h1 : crcReg r (c :: l) = crcReg (crcByte r c) l := rfl
    rw [h1, ih, List.length_cons, show 8 * (l.length + 1) = 8 + 8 * l.length by omega, crcBits_add]
    congr 1
    have h2 : leN l = crcBits 8 (2 ^ 8 * leN l) := (crcBits_shift 8 (leN l)).symm
    have h3 : leN (c :: l) = c.toNat ^^^ (256 * leN l) := (xor_add (u8_lt c)).symm
    rw [h3, ← Nat.xor_assoc, crcBits_xor]
    unfold crcByte
    congr 1

theorem crcReg_append (r : Nat) (a b : List UInt8) : crcReg r (a ++ b) = crcReg (crcReg r a) b := by simp [crcReg]

theorem crcByte_inj {a b : Nat} {c : UInt8} (ha : a < 4294967296) (hb : b < 4294967296) (h : crcByte a c = crcByte b c) : a = b :=
  xor_cancelR (crcBits_inj 8 (xor_lt32 ha (u8_lt32 c)) (xor_lt32 hb (u8_lt32 c)) h)
theorem crcReg_inj : ∀ (s : List UInt8) {a b : Nat}, a < 4294967296 → b < 4294967296 → crcReg a s = crcReg b s → a = b
  | [], _, _, _, _, h => h
  | c :: s, a, b, ha, hb, h => crcByte_inj ha hb (crcReg_inj s (crcByte_lt c ha) (crcByte_lt c hb) h)

theorem leN_inj {a b : List UInt8} (hl : a.length = b.length) (h : leN a = leN b) : a = b := by
  rw [← leB_leN a, ← leB_leN b, hl, h]

theorem xor_ones {x : Nat} (h : x < 4294967296) : x ^^^ (4294967295 - x) = 4294967295 := by
  have h1 : ((BitVec.ofNat 32 x) ^^^ ~~~(BitVec.ofNat 32 x)).toNat = (BitVec.allOnes 32).toNat := by
    congr 1
    ext i hi
    simp only [BitVec.getElem_xor, BitVec.getElem_not, BitVec.getElem_allOnes]
    cases (BitVec.ofNat 32 x)[i] <;> rfl
  rw [BitVec.toNat_xor, BitVec.toNat_not, BitVec.toNat_ofNat, BitVec.toNat_allOnes, Nat.mod_eq_of_lt (by simpa using h)] at h1
  simpa using h1

/-- What ends with its sum leaves one register. -/
theorem goodP_reg {l : List UInt8} (h : goodP l = true) : crcReg 4294967295 l = crcBits 32 4294967295 := by
  unfold goodP at h
  simp only [decide_eq_true_eq] at h
  obtain ⟨h4, h⟩ := h
  have hR : crcReg 4294967295 (l.take (l.length - 4)) < 4294967296 := crcReg_lt _ (by omega)
  have e : crcMore 0 (l.take (l.length - 4)) = (4294967295 : Int) - (crcReg 4294967295 (l.take (l.length - 4)) : Nat) := rfl
  rw [e] at h
  have ht : leN (l.drop (l.length - 4)) = 4294967295 - crcReg 4294967295 (l.take (l.length - 4)) := by omega
  have hl : l = l.take (l.length - 4) ++ l.drop (l.length - 4) := (List.take_append_drop _ _).symm
  rw [hl, crcReg_append, crcReg_leN (l.drop (l.length - 4)), ht, xor_ones hR]
  congr 1
  simp
  omega

/-- Up to four bytes side by side that are changed are found. -/
theorem burst {p w w' s : List UInt8} (hw : w.length = w'.length) (h4 : w.length ≤ 4) (h : goodP (p ++ w ++ s) = true) (h' : goodP (p ++ w' ++ s) = true) : w = w' := by
  have e := (goodP_reg h).trans (goodP_reg h').symm
  rw [crcReg_append, crcReg_append, crcReg_append, crcReg_append] at e
  have hp : crcReg 4294967295 p < 4294967296 := crcReg_lt _ (by omega)
  have e2 := crcReg_inj s (crcReg_lt _ hp) (crcReg_lt _ hp) e
  rw [crcReg_leN w, crcReg_leN w', hw] at e2
  have hb : ∀ x : List UInt8, x.length ≤ 4 → leN x < 4294967296 := fun x hx => Nat.lt_of_lt_of_le (leN_lt x) (by
    have : 256 ^ x.length ≤ 256 ^ 4 := Nat.pow_le_pow_right (by decide) hx
    omega)
  exact leN_inj hw (xor_cancel (crcBits_inj _ (xor_lt32 hp (hb w h4)) (xor_lt32 hp (hb w' (by omega))) e2))

end Go.Proofs.YtnakicjkolpacaaDoor

/- Plain laws: what is written is read, whatever stands behind; cut off it is open. -/
set_option linter.unusedSimpArgs false
set_option linter.unusedVariables false
set_option maxRecDepth 10000
namespace Go.Proofs.YtnakicjkolpacaaDoor
open Go.AI

/-- A number that has room in so many bytes. -/
def fitsN (s : Nat) (n : Int) : Prop := 0 ≤ n ∧ n < 256 ^ s ∧ n ≤ 4611686018427387903

theorem getP_gen {a b : List UInt8} {s : Nat} {n : Int} (h : fitsN s n) : getP (a ++ (leB s n ++ b)) (a.length : Nat) s = (n, 0) := by
  obtain ⟨h0, h1, h2⟩ := h
  have e : ((a ++ (leB s n ++ b)).drop ((a.length : Nat) : Int).toNat).take s = leB s n := by
    rw [Int.toNat_natCast, List.drop_left, List.take_append_of_le_length (by simp), List.take_of_length_le (by simp)]
  have e2 := leN_leB s n h0 h1
  unfold getP
  rw [if_pos ⟨by omega, by simp; omega⟩, e, if_pos (by omega), e2]

/-- Numbers that are written are read. -/
theorem numGo_mk : ∀ {ss : List Nat} {ns : List Int} {a b : List UInt8}, ns.length = ss.length → (∀ i (h : i < ss.length) (h' : i < ns.length), fitsN ss[i] ns[i]) → numGo (a ++ (zipB ss ns ++ b)) a.length ss = some (ns, a.length + ss.sum)
  | [], ns, a, b, hl, _ => by
    have : ns = [] := List.eq_nil_of_length_eq_zero hl
    subst this
    simp [numGo]
  | s :: ss, [], a, b, hl, _ => by simp at hl
  | s :: ss, n :: ns, a, b, hl, hf => by
    have h0 : fitsN s n := hf 0 (by simp) (by simp)
    have e : a ++ (zipB (s :: ss) (n :: ns) ++ b) = a ++ (leB s n ++ (zipB ss ns ++ b)) := by simp [zipB]
    have e2 : a ++ (leB s n ++ (zipB ss ns ++ b)) = (a ++ leB s n) ++ (zipB ss ns ++ b) := by simp
    have hg := getP_gen (a := a) (b := zipB ss ns ++ b) h0
    have ih := numGo_mk (ss := ss) (ns := ns) (a := a ++ leB s n) (b := b) (by simpa using hl) (fun i h h' => hf (i + 1) (by simp; omega) (by simp; omega))
    simp only [numGo]
    rw [e, hg]
    simp only [if_true]
    rw [e2, show a.length + s = (a ++ leB s n).length by simp, ih]
    simp only [Option.map_some, List.length_append, leB_length, List.sum_cons]
    congr 2
    omega

theorem numB_mk {ss : List Nat} {ns : List Int} (hl : ns.length = ss.length) (hf : ∀ i (h : i < ss.length) (h' : i < ns.length), fitsN ss[i] ns[i]) : numB (zipB ss ns) ss = true ∧ numO (zipB ss ns) ss = ns := by
  have h := numGo_mk (a := []) (b := []) hl hf
  simp only [List.nil_append, List.append_nil, List.length_nil, Nat.zero_add] at h
  have hlen : ∀ (ss : List Nat) (ns : List Int), ns.length = ss.length → (zipB ss ns).length = ss.sum := by
    intro ss
    induction ss with
    | nil => intro ns _; simp [zipB]
    | cons s ss ih =>
      intro ns hl
      cases ns with
      | nil => simp at hl
      | cons n ns => simp [zipB, ih ns (by simpa using hl)]
  unfold numB numO
  rw [h]
  exact ⟨decide_eq_true (hlen ss ns hl).symm, rfl⟩

theorem fits4 {n : Int} (h : 0 ≤ n ∧ n ≤ 4294967295) : fitsN 4 n := ⟨h.1, by omega, by omega⟩
theorem fits8 {n : Int} (h : 0 ≤ n ∧ n ≤ 4611686018427387903) : fitsN 8 n := ⟨h.1, by omega, h.2⟩

theorem f1 {s : Nat} {n : Int} (h : fitsN s n) : ∀ i (h1 : i < [s].length) (h2 : i < [n].length), fitsN [s][i] [n][i] := by
  intro i h1 h2
  match i, h1, h2 with
  | 0, _, _ => exact h
theorem fC {s : Nat} {n : Int} {ss : List Nat} {ns : List Int} (h : fitsN s n) (hr : ∀ i (h1 : i < ss.length) (h2 : i < ns.length), fitsN ss[i] ns[i]) : ∀ i (h1 : i < (s :: ss).length) (h2 : i < (n :: ns).length), fitsN (s :: ss)[i] (n :: ns)[i] := by
  intro i h1 h2
  match i, h1, h2 with
  | 0, _, _ => exact h
  | i + 1, h1, h2 => exact hr i (by simpa using h1) (by simpa using h2)

/-- What is written is read: payloads. -/
theorem rawC_payB {c : Cmd} (h : chkP c) : rawB c.kind (payB c) = true ∧ rawC c.kind (payB c) = c := by
  obtain ⟨k, i, p, s, f, n, o, g, x⟩ := c
  rcases chkP_inv h with hC | hC | hC | hC | hC | hC
  · simp only at hC
    obtain ⟨rfl, h1, h2, h3, rfl, rfl, rfl, rfl⟩ := hC
    rw [parentsP_iff] at h1
    have e : payB ⟨1, i, p, s, 0, n, 0, 0, []⟩ = zipB [8, 8, 4, 4] [i, p, s, n] := by simp [payB, zipB, putB_cons, putB_nil]
    obtain ⟨q1, q2⟩ := numB_mk (ss := [8, 8, 4, 4]) (ns := [i, p, s, n]) rfl (fC (fits8 (by omega)) (fC (fits8 (by omega)) (fC (fits4 (by omega)) (f1 (fits4 (by omega))))))
    rw [e]
    exact ⟨by simp [rawB, q1], by simp [rawC, q1, q2]⟩
  · simp only at hC
    obtain ⟨rfl, ⟨h1, h2, h3⟩, h4, rfl, rfl, rfl, rfl, rfl, rfl⟩ := hC
    have e : payB ⟨2, 0, 0, 0, f, 0, 0, 0, x⟩ = zipB [4, 4] [f, (x.length / 64 : Int)] ++ x := by simp [payB, zipB, putB_cons, putB_nil]
    have hz : (zipB [4, 4] [f, (x.length / 64 : Int)]).length = 8 := by simp [zipB]
    obtain ⟨q1, q2⟩ := numB_mk (ss := [4, 4]) (ns := [f, (x.length / 64 : Int)]) rfl (fC (fits4 (by omega)) (f1 (fits4 (by omega))))
    have t1 : (zipB [4, 4] [f, (x.length / 64 : Int)] ++ x).take 8 = zipB [4, 4] [f, (x.length / 64 : Int)] := by rw [← hz, List.take_left]
    have t2 : (zipB [4, 4] [f, (x.length / 64 : Int)] ++ x).drop 8 = x := by rw [← hz, List.drop_left]
    rw [e]
    exact ⟨by simp [rawB, t1, t2, q1, q2], by simp [rawC, t1, t2, q1, q2]⟩
  · simp only at hC
    obtain ⟨rfl, h1, h2, rfl, rfl, rfl, rfl, rfl, rfl⟩ := hC
    have e : payB ⟨3, 0, 0, 0, f, n, 0, 0, []⟩ = zipB [4, 4] [f, n] := by simp [payB, zipB, putB_cons, putB_nil]
    obtain ⟨q1, q2⟩ := numB_mk (ss := [4, 4]) (ns := [f, n]) rfl (fC (fits4 (by omega)) (f1 (fits4 (by omega))))
    rw [e]
    exact ⟨by simp [rawB, q1], by simp [rawC, q1, q2]⟩
  · simp only at hC
    obtain ⟨rfl, h1, h2, h3, rfl, rfl, rfl, rfl, rfl⟩ := hC
    have e : payB ⟨4, 0, 0, 0, f, n, o, 0, []⟩ = zipB [4, 4, 4] [f, n, o] := by simp [payB, zipB, putB_cons, putB_nil]
    obtain ⟨q1, q2⟩ := numB_mk (ss := [4, 4, 4]) (ns := [f, n, o]) rfl (fC (fits4 (by omega)) (fC (fits4 (by omega)) (f1 (fits4 (by omega)))))
    rw [e]
    exact ⟨by simp [rawB, q1], by simp [rawC, q1, q2]⟩
  · simp only at hC
    obtain ⟨rfl, h1, rfl, rfl, rfl, rfl, rfl, rfl, rfl⟩ := hC
    have e : payB ⟨5, 0, 0, s, 0, 0, 0, 0, []⟩ = zipB [4] [s] := by simp [payB, zipB, putB_cons, putB_nil]
    obtain ⟨q1, q2⟩ := numB_mk (ss := [4]) (ns := [s]) rfl (f1 (fits4 (by omega)))
    rw [e]
    exact ⟨by simp [rawB, q1], by simp [rawC, q1, q2]⟩
  · simp only at hC
    obtain ⟨rfl, h1, h2, rfl, rfl, rfl, rfl, rfl, rfl⟩ := hC
    have e : payB ⟨6, 0, 0, 0, 0, n, 0, g, []⟩ = zipB [4, 4] [n, g] := by simp [payB, zipB, putB_cons, putB_nil]
    obtain ⟨q1, q2⟩ := numB_mk (ss := [4, 4]) (ns := [n, g]) rfl (fC (fits4 (by omega)) (f1 (fits4 (by omega))))
    rw [e]
    exact ⟨by simp [rawB, q1], by simp [rawC, q1, q2]⟩

theorem payB_le {c : Cmd} (h : chkP c) : (payB c).length ≤ 520 := by
  rcases chkP_inv h with hC | hC | hC | hC | hC | hC
  all_goals (unfold payB; simp only [hC.1])
  all_goals simp
  obtain ⟨_, h1, _⟩ := hC
  omega

theorem chk_kind {c : Cmd} (h : chkP c) : 1 ≤ c.kind ∧ c.kind ≤ 6 := by
  rcases chkP_inv h with hC | hC | hC | hC | hC | hC
  all_goals (have := hC.1; omega)

theorem crcMore_range (l : List UInt8) : 0 ≤ crcMore 0 l ∧ crcMore 0 l ≤ 4294967295 := by
  have h := crcReg_lt l (n := 4294967295 - ((0 : Int) % 4294967296).toNat) (by omega)
  unfold crcMore
  omega

theorem take_of_append {a b : List UInt8} {n : Nat} (h : n ≤ a.length) : (a ++ b).take n = a.take n := List.take_append_of_le_length h
theorem drop_take_append {a b : List UInt8} {m n : Nat} (h : m + n ≤ a.length) : ((a ++ b).drop m).take n = (a.drop m).take n := by
  rw [List.drop_append_of_le_length (by omega), List.take_append_of_le_length (by simp; omega)]

theorem frB_len4 {seq : Int} {c : Cmd} (h : (payB c).length ≤ 520) : leN (((frB seq c).drop 12).take 4) = (payB c).length := by
  have e : frB seq c = ([70, 82, 65, 77] ++ (leB 4 seq ++ leB 4 c.kind)) ++ (leB 4 ((payB c).length : Int) ++ (payB c ++ leB 4 (crcMore 0 (frH seq c)))) := by rw [frB_eq]; simp
  rw [e, List.drop_left' (by simp), List.take_left' (by simp)]
  have := leN_leB4 (n := ((payB c).length : Int)) (by omega) (by omega)
  omega

theorem frB_good (seq : Int) (c : Cmd) : goodP (frB seq c) = true := by
  have hlen : (frB seq c).length - 4 = (frH seq c).length := by rw [frB_length, frH_length]; omega
  unfold goodP
  rw [hlen]
  have e : frB seq c = frH seq c ++ leB 4 (crcMore 0 (frH seq c)) := by simp [frB, putB_cons, putB_nil]
  have hr := crcMore_range (frH seq c)
  refine decide_eq_true ⟨by rw [frB_length]; omega, ?_⟩
  rw [e, List.drop_left, List.take_left]
  exact leN_leB4 hr.1 (by omega)

theorem lenP_frB {seq : Int} {c : Cmd} (h : chkP c) (more : List UInt8) : lenP (frB seq c ++ more) = (((frB seq c).length : Int), 0) := by
  have hn := payB_le h
  have hl := frB_length seq c
  have h4 : (frB seq c ++ more).take 4 = [70, 82, 65, 77] := by rw [take_of_append (by omega)]; exact frB_take4 seq c
  have hn4 : leN (((frB seq c ++ more).drop 12).take 4) = (payB c).length := by rw [drop_take_append (by omega)]; exact frB_len4 hn
  unfold lenP
  rw [h4, hn4, if_neg (fun hh => hh (by rw [List.take_of_length_le (by simp; omega)])), if_neg (by simp; omega), if_neg (by omega), if_neg (by simp; omega)]
  rw [hl]

/-- What is written is read, whatever stands behind. -/
theorem parse_frB {seq : Int} {c : Cmd} (h : chkP c) (hs : 0 ≤ seq ∧ seq ≤ 4294967295) (more : List UInt8) :
    pErr (frB seq c ++ more) = 0 ∧ pSeq (frB seq c ++ more) = seq ∧ pCmd (frB seq c ++ more) = c ∧ (lenP (frB seq c ++ more)).1 = (frB seq c).length ∧ pKind (frB seq c ++ more) = c.kind ∧ pPay (frB seq c ++ more) = payB c := by
  have hl := lenP_frB (seq := seq) h more
  have hk := chk_kind h
  have hD : pD (frB seq c ++ more) = frB seq c := by
    unfold pD
    rw [hl]
    simp
  have hsq : pSeq (frB seq c ++ more) = seq := by
    unfold pSeq
    rw [hD, frB_eq, List.drop_left' (by rfl), List.take_left' (by simp)]
    exact leN_leB4 hs.1 (by omega)
  have hkd : pKind (frB seq c ++ more) = c.kind := by
    unfold pKind
    have e : frB seq c = ([70, 82, 65, 77] ++ leB 4 seq) ++ (leB 4 c.kind ++ (leB 4 ((payB c).length : Int) ++ (payB c ++ leB 4 (crcMore 0 (frH seq c))))) := by rw [frB_eq]; simp
    rw [hD, e, List.drop_left' (by simp), List.take_left' (by simp)]
    exact leN_leB4 (by omega) (by omega)
  have hp : pPay (frB seq c ++ more) = payB c := by
    unfold pPay
    rw [hD, hl]
    have := frB_mid seq c
    simp only [Int.toNat_natCast]
    rw [← this]
    congr 1
  obtain ⟨r1, r2⟩ := rawC_payB h
  refine ⟨?_, hsq, ?_, by rw [hl], hkd, hp⟩
  · unfold pErr
    rw [hl, hD, frB_good, hkd, hp, r1, r2, decide_eq_true h]
    simp
  · unfold pCmd
    rw [hkd, hp]; exact r2

/-- Cut off it is open. -/
theorem parse_cut {seq : Int} {c : Cmd} (h : chkP c) {m : Nat} (hm : m < (frB seq c).length) : pErr ((frB seq c).take m) = 16 := by
  have hn := payB_le h
  have hl := frB_length seq c
  have hlt : ((frB seq c).take m).length = m := by simp; omega
  have h4 : ((frB seq c).take m).take 4 = ([70, 82, 65, 77] : List UInt8).take m := by
    rw [← frB_take4 seq c, List.take_take, List.take_take, Nat.min_comm]
  have hP : (lenP ((frB seq c).take m)).2 = 16 := by
    unfold lenP
    rw [hlt, h4, if_neg (fun hh => hh rfl)]
    by_cases h16 : m < 16
    · rw [if_pos h16]
    · have hn4 : leN ((((frB seq c).take m).drop 12).take 4) = (payB c).length := by
        rw [List.drop_take, List.take_take, show min 4 (m - 12) = 4 by omega]; exact frB_len4 hn
      rw [if_neg h16, hn4, if_neg (by omega), if_pos (by omega)]
  unfold pErr
  rw [hP]
  rfl

end Go.Proofs.YtnakicjkolpacaaDoor

/- Plain laws: bytes bent are found. -/
set_option linter.unusedSimpArgs false
set_option linter.unusedVariables false
set_option maxRecDepth 10000
namespace Go.Proofs.YtnakicjkolpacaaDoor
open Go.AI

/-- Bytes with so many of four changed from a place on. -/
def bent (l : List UInt8) (a : Nat) (x : List UInt8) : Nat → List UInt8
  | 0 => l
  | i + 1 => (bent l a x i).set (a + i) (bAt (bent l a x i) ((a + i : Nat) : Int) ^^^ x.getD i 0)
def chF (x : List UInt8) : Nat → Bool
  | 0 => false
  | i + 1 => chF x i || (x.getD i 0 != 0)

theorem bent_length (l : List UInt8) (a : Nat) (x : List UInt8) : ∀ i, (bent l a x i).length = l.length
  | 0 => rfl
  | i + 1 => by simp [bent, bent_length l a x i]

theorem bent_get (l : List UInt8) (a : Nat) (x : List UInt8) : ∀ (i j : Nat), a + i ≤ l.length → (bent l a x i)[j]? = if a ≤ j ∧ j < a + i then (l[j]?).map (· ^^^ x.getD (j - a) 0) else l[j]?
  | 0, j, _ => by
    rw [if_neg (by omega)]; rfl
  | i + 1, j, h => by
    have ih := fun j => bent_get l a x i j (by omega)
    simp only [bent, List.getElem?_set, bent_length]
    by_cases hj : a + i = j
    · subst hj
      rw [if_pos rfl, if_pos (by omega), if_pos (by omega)]
      have h1 := ih (a + i)
      rw [if_neg (by omega)] at h1
      have h2 : bAt (bent l a x i) ((a + i : Nat) : Int) = l[a + i]'(by omega) := by
        unfold bAt
        rw [Int.toNat_natCast, List.getD_eq_getElem?_getD, h1, List.getElem?_eq_getElem (by omega)]
        rfl
      rw [h2, List.getElem?_eq_getElem (by omega), Nat.add_sub_cancel_left]
      rfl
    · rw [if_neg hj, ih j]
      by_cases hc : a ≤ j ∧ j < a + i
      · rw [if_pos hc, if_pos (by omega)]
      · rw [if_neg hc, if_neg (by omega)]

theorem chF_false {x : List UInt8} : ∀ {i : Nat}, chF x i = false → ∀ j, j < i → x.getD j 0 = 0
  | 0, _, j, h => by omega
  | i + 1, hc, j, h => by
    simp only [chF, Bool.or_eq_false_iff, bne_eq_false_iff_eq] at hc
    by_cases hj : j = i
    · rw [hj]; exact hc.2
    · exact chF_false hc.1 j (by omega)
theorem chF_true {x : List UInt8} : ∀ {i : Nat}, chF x i = true → ∃ j, j < i ∧ x.getD j 0 ≠ 0
  | 0, h => by cases h
  | i + 1, hc => by
    simp only [chF, Bool.or_eq_true, bne_iff_ne, ne_eq] at hc
    rcases hc with hc | hc
    · obtain ⟨j, h1, h2⟩ := chF_true hc
      exact ⟨j, by omega, h2⟩
    · exact ⟨i, by omega, hc⟩

theorem bent_same {l : List UInt8} {a : Nat} {x : List UInt8} (h : a + 4 ≤ l.length) (hc : chF x 4 = false) : bent l a x 4 = l := by
  apply List.ext_getElem?
  intro j
  rw [bent_get l a x 4 j h]
  split
  · rename_i hj
    rw [chF_false hc (j - a) (by omega)]
    cases l[j]? <;> simp
  · rfl

theorem u8_xor_ne {a b : UInt8} (h : b ≠ 0) : a ^^^ b ≠ a := by
  intro hh
  apply h
  have h2 : a ^^^ (a ^^^ b) = a ^^^ a := by rw [hh]
  rw [← UInt8.xor_assoc, UInt8.xor_self, UInt8.zero_xor] at h2
  exact h2

/-- With up to four bytes side by side changed, out of its length, a frame is none, or open. -/
theorem parse_bent {seq : Int} {c : Cmd} (h : chkP c) {a : Nat} {x : List UInt8} (ha : a + 4 ≤ (frB seq c).length) (hc : chF x 4 = true) (hp : ¬ (a < 16 ∧ 12 < a + 4)) : pErr (bent (frB seq c) a x 4) ≠ 0 := by
  intro h0
  obtain ⟨e0, hg, _, _⟩ := pErr_ok h0
  obtain ⟨n, hn1, hn2, hn3, hn4, hn5⟩ := lenP_ok e0
  have hlen := bent_length (frB seq c) a x 4
  have hfl := frB_length seq c
  have hpl := payB_le h
  have hget := fun j => bent_get (frB seq c) a x 4 j ha
  have e12 : ((bent (frB seq c) a x 4).drop 12).take 4 = ((frB seq c).drop 12).take 4 := by
    apply List.ext_getElem?
    intro j
    by_cases hj : j < 4
    · rw [List.getElem?_take_of_lt hj, List.getElem?_take_of_lt hj, List.getElem?_drop, List.getElem?_drop, hget, if_neg (by omega)]
    · rw [List.getElem?_eq_none (by simp; omega), List.getElem?_eq_none (by simp; omega)]
  rw [e12, frB_len4 hpl] at hn4
  have hD : pD (bent (frB seq c) a x 4) = bent (frB seq c) a x 4 := by
    unfold pD
    rw [hn1, List.take_of_length_le (by rw [hlen, hfl]; omega)]
  rw [hD] at hg
  have hp1 : (bent (frB seq c) a x 4).take a = (frB seq c).take a := by
    apply List.ext_getElem?
    intro j
    by_cases hj : j < a
    · rw [List.getElem?_take_of_lt hj, List.getElem?_take_of_lt hj, hget, if_neg (by omega)]
    · rw [List.getElem?_eq_none (by simp; omega), List.getElem?_eq_none (by simp; omega)]
  have hp2 : (bent (frB seq c) a x 4).drop (a + 4) = (frB seq c).drop (a + 4) := by
    apply List.ext_getElem?
    intro j
    rw [List.getElem?_drop, List.getElem?_drop, hget, if_neg (by omega)]
  have split (l : List UInt8) : l = l.take a ++ (l.drop a).take 4 ++ l.drop (a + 4) := by
    rw [List.append_assoc, ← List.drop_drop, List.take_append_drop, List.take_append_drop]
  have g1 := frB_good seq c
  rw [split (frB seq c)] at g1
  rw [split (bent (frB seq c) a x 4), hp1, hp2] at hg
  have hw := burst (by simp; omega) (by simp; omega) g1 hg
  obtain ⟨j, hj1, hj2⟩ := chF_true hc
  have hwj : (((frB seq c).drop a).take 4)[j]? = (((bent (frB seq c) a x 4).drop a).take 4)[j]? := by rw [hw]
  rw [List.getElem?_take_of_lt hj1, List.getElem?_take_of_lt hj1, List.getElem?_drop, List.getElem?_drop, hget, if_pos (by omega), List.getElem?_eq_getElem (by omega)] at hwj
  simp only [Option.map_some, Option.some.injEq, Nat.add_sub_cancel_left] at hwj
  exact u8_xor_ne hj2 hwj.symm

end Go.Proofs.YtnakicjkolpacaaDoor

/- Plain laws of streams: what a reader of frames does. -/
set_option linter.unusedSimpArgs false
set_option linter.unusedVariables false
set_option maxRecDepth 10000
namespace Go.Proofs.YtnakicjkolpacaaDoor
open Go.AI

/-- A command, and how its data are held. -/
structure CV where
  c : Cmd
  f : Bool
  s : Nat
def CV.av (x : CV) : AV := x.c.av false x.f x.s
def CV.ok (x : CV) : Prop := x.s = 1 ∨ x.c.data = []
def rawV (kind : Int) (b : List UInt8) : CV := ⟨rawC kind b, !rawD kind b, if rawD kind b then 1 else 0⟩
def pCV (l : List UInt8) : CV := rawV (pKind l) (pPay l)
def cvOf (c : Cmd) : CV := ⟨c, !rawD c.kind (payB c), if rawD c.kind (payB c) then 1 else 0⟩

/-- A reader of a stream. -/
structure PS where
  l : List CV
  next : Int
  sum : Int

def PS.cnt (p : PS) : Int := (p.l.head?.map fun x => x.c.count).getD 0

/-- Why a frame is not taken. -/
def takeE (p : PS) (c : Cmd) (seq : Int) : Int :=
  if ¬ (p.l = [] ↔ c.kind = 1) ∨ seq ≠ p.next then 14
  else if c.kind = 6 then
    if c.count ≠ p.next - 1 then 14
    else if p.cnt = 0 ∧ c.digest ≠ p.sum then 15 else 0
  else 0

/-- Behind a frame that is taken. -/
def takeP (p : PS) (x : CV) : PS :=
  ⟨p.l ++ [x], (if x.c.kind = 1 then x.c.count else p.next) + 1, if x.c.kind = 1 ∨ x.c.kind = 6 then p.sum else crcMore p.sum (payB x.c)⟩

/-- Frames read one by one: the reader then, how far, why it ends. -/
def goS : Nat → PS → Nat → List UInt8 → PS × Nat × Int
  | 0, p, g, _ => (p, g, 0)
  | k + 1, p, g, r =>
    if pErr r ≠ 0 then (p, g, pErr r)
    else if takeE p (pCmd r) (pSeq r) ≠ 0 then (p, g, takeE p (pCmd r) (pSeq r))
    else if (pCmd r).kind = 6 then (takeP p (pCV r), g + (lenP r).1.toNat, if (lenP r).1.toNat < r.length then 13 else 0)
    else goS k (takeP p (pCV r)) (g + (lenP r).1.toNat) (r.drop (lenP r).1.toNat)

def ps0 : PS := ⟨[], 0, 0⟩
def parseS (b : List UInt8) : PS × Nat × Int := goS (b.length + 1) ps0 0 b

theorem lenP_pos {r : List UInt8} (h : pErr r = 0) : 20 ≤ (lenP r).1.toNat ∧ (lenP r).1.toNat ≤ r.length := by
  obtain ⟨e0, _, _, _⟩ := pErr_ok h
  obtain ⟨n, h1, h2, _⟩ := lenP_ok e0
  omega

/-- More steps than bytes are as many as are wanted. -/
theorem goS_fuel : ∀ (k k' : Nat) (p : PS) (g : Nat) (r : List UInt8), r.length < k → r.length < k' → goS k p g r = goS k' p g r
  | 0, _, _, _, _, h, _ => by omega
  | _ + 1, 0, _, _, _, _, h => by omega
  | k + 1, k' + 1, p, g, r, h, h' => by
    simp only [goS]
    by_cases h0 : pErr r = 0
    · have hl := lenP_pos h0
      rw [goS_fuel k k' _ _ (r.drop (lenP r).1.toNat) (by simp; omega) (by simp; omega)]
    · rw [if_pos h0, if_pos h0]

/-- How far it was right. -/
theorem goS_good : ∀ (k : Nat) (p : PS) (g : Nat) (r : List UInt8), (goS k p g r).2.1 ≤ g + r.length ∧ g ≤ (goS k p g r).2.1
  | 0, p, g, r => by simp [goS]
  | k + 1, p, g, r => by
    simp only [goS]
    split
    · simp
    split
    · simp
    rename_i h0 _
    have hl := lenP_pos (Classical.not_not.1 h0)
    split
    · simp; omega
    · have ih := goS_good k (takeP p (pCV r)) (g + (lenP r).1.toNat) (r.drop (lenP r).1.toNat)
      simp only [List.length_drop] at ih
      omega

/-- A frame that is right, ahead of others. -/
theorem goS_frame {k : Nat} {p : PS} {g : Nat} {seq : Int} {c : Cmd} {more : List UInt8} (hc : chkP c) (hs : 0 ≤ seq ∧ seq ≤ 4294967295) :
    goS (k + 1) p g (frB seq c ++ more) = if takeE p c seq ≠ 0 then (p, g, takeE p c seq)
      else if c.kind = 6 then (takeP p (cvOf c), g + (frB seq c).length, if more = [] then 0 else 13)
      else goS k (takeP p (cvOf c)) (g + (frB seq c).length) more := by
  obtain ⟨h1, h2, h3, h4, h5, h6⟩ := parse_frB hc hs more
  have hcv : pCV (frB seq c ++ more) = cvOf c := by
    unfold pCV rawV cvOf
    rw [h5, h6, (rawC_payB hc).2]
  simp only [goS]
  rw [if_neg (by rw [h1]; simp), h2, h3, h4, hcv, Int.toNat_natCast, List.drop_left]
  by_cases hm : more = []
  · subst hm
    have e : ¬ (frB seq c).length < (frB seq c ++ []).length := by simp
    rw [if_neg e, if_pos rfl]
  · have e : (frB seq c).length < (frB seq c ++ more).length := by have := List.length_pos_iff.2 hm; simp; omega
    rw [if_pos e, if_neg hm]

/-- Frames one behind the other. -/
def frsB : List (Int × Cmd) → List UInt8
  | [] => []
  | (q, c) :: r => frB q c ++ frsB r
def after (p : PS) (l : List (Int × Cmd)) : PS := l.foldl (fun p x => takeP p (cvOf x.2)) p
/-- Frames that are taken one by one, none of them an End. -/
def Mids : PS → List (Int × Cmd) → Prop
  | _, [] => True
  | p, (q, c) :: r => chkP c ∧ (0 ≤ q ∧ q ≤ 4294967295) ∧ takeE p c q = 0 ∧ c.kind ≠ 6 ∧ Mids (takeP p (cvOf c)) r

theorem frsB_append : ∀ (a b : List (Int × Cmd)), frsB (a ++ b) = frsB a ++ frsB b
  | [], _ => rfl
  | (q, c) :: a, b => by simp [frsB, frsB_append a b]
theorem after_append (p : PS) (a b : List (Int × Cmd)) : after p (a ++ b) = after (after p a) b := by simp [after]
theorem after_l : ∀ (a : List (Int × Cmd)) (p : PS), (after p a).l = p.l ++ a.map fun x => cvOf x.2
  | [], p => by simp [after]
  | (q, c) :: a, p => by
    have := after_l a (takeP p (cvOf c))
    show (after (takeP p (cvOf c)) a).l = _
    rw [this]
    simp [takeP]
theorem mids_append : ∀ (a b : List (Int × Cmd)) (p : PS), Mids p (a ++ b) ↔ Mids p a ∧ Mids (after p a) b
  | [], b, p => by simp [Mids, after]
  | (q, c) :: a, b, p => by
    have := mids_append a b (takeP p (cvOf c))
    simp only [List.cons_append, Mids, this]
    show _ ∧ _ ∧ _ ∧ _ ∧ _ ∧ Mids (after (takeP p (cvOf c)) a) b ↔ _
    simp only [and_assoc]
    rfl

theorem goS_mids : ∀ (a : List (Int × Cmd)) (k : Nat) (p : PS) (g : Nat) (rest : List UInt8), Mids p a → goS (k + a.length) p g (frsB a ++ rest) = goS k (after p a) (g + (frsB a).length) rest
  | [], k, p, g, rest, _ => by simp [frsB, after]
  | (q, c) :: a, k, p, g, rest, h => by
    obtain ⟨h1, h2, h3, h4, h5⟩ := h
    have ih := goS_mids a k (takeP p (cvOf c)) (g + (frB q c).length) rest h5
    show goS (k + a.length + 1) p g (frB q c ++ frsB a ++ rest) = _
    rw [List.append_assoc, goS_frame h1 h2, if_neg (by rw [h3]; simp), if_neg h4, ih]
    show _ = goS k _ (g + (frB q c ++ frsB a).length) _
    rw [List.length_append, Nat.add_assoc]
    rfl

/-- Frames cut off within. -/
theorem goS_cut : ∀ (a : List (Int × Cmd)) (q : Int) (c : Cmd) (k : Nat) (p : PS) (g m : Nat), Mids p a → chkP c → a.length < k → m < (frsB a ++ frB q c).length →
    ∃ j g', j ≤ a.length ∧ g' ≤ g + m ∧ goS k p g ((frsB a ++ frB q c).take m) = (after p (a.take j), g', 16)
  | [], q, c, 0, p, g, m, _, hc, hk, hm => by simp at hk
  | [], q, c, k + 1, p, g, m, _, hc, _, hm => by
    refine ⟨0, g, by simp, by omega, ?_⟩
    have := parse_cut (seq := q) hc (m := m) (by simpa [frsB] using hm)
    show goS (k + 1) p g ((frB q c).take m) = _
    simp only [goS]
    rw [this, if_pos (by decide)]
    rfl
  | (q0, c0) :: a, q, c, k, p, g, m, h, hc, hk, hm => by
    obtain ⟨h1, h2, h3, h4, h5⟩ := h
    obtain ⟨k, rfl⟩ : ∃ k', k = k' + 1 := ⟨k - 1, by simp at hk; omega⟩
    have e : frsB ((q0, c0) :: a) ++ frB q c = frB q0 c0 ++ (frsB a ++ frB q c) := by simp [frsB]
    rw [e] at hm ⊢
    by_cases hlt : m < (frB q0 c0).length
    · refine ⟨0, g, by simp, by omega, ?_⟩
      have := parse_cut (seq := q0) h1 hlt
      rw [List.take_append_of_le_length (by omega)]
      simp only [goS]
      rw [this, if_pos (by decide)]
      rfl
    · obtain ⟨j, g', hj, hg', ih⟩ := goS_cut a q c k (takeP p (cvOf c0)) (g + (frB q0 c0).length) (m - (frB q0 c0).length) h5 hc (by simp at hk; omega) (by rw [List.length_append] at hm; omega)
      refine ⟨j + 1, g', by simp; omega, by omega, ?_⟩
      rw [List.take_append, List.take_of_length_le (by omega), goS_frame h1 h2, if_neg (by rw [h3]; simp), if_neg h4, ih]
      rfl

/-- The bytes of commands, numbered from one on. -/
def bodyB : Nat → List Cmd → List UInt8
  | _, [] => []
  | i, c :: r => frB i c ++ bodyB (i + 1) r
def numd : Nat → List Cmd → List (Int × Cmd)
  | _, [] => []
  | i, c :: r => ((i : Int), c) :: numd (i + 1) r
theorem bodyB_numd : ∀ (i : Nat) (l : List Cmd), bodyB i l = frsB (numd i l)
  | _, [] => rfl
  | i, c :: r => by simp [bodyB, numd, frsB, bodyB_numd (i + 1) r]
theorem numd_length : ∀ (i : Nat) (l : List Cmd), (numd i l).length = l.length
  | _, [] => rfl
  | i, c :: r => by simp [numd, numd_length (i + 1) r]
theorem numd_append : ∀ (i : Nat) (a b : List Cmd), numd i (a ++ b) = numd i a ++ numd (i + a.length) b
  | i, [], b => by simp [numd]
  | i, c :: a, b => by
    simp only [List.cons_append, numd, numd_append (i + 1) a b, List.length_cons]
    rw [show i + 1 + a.length = i + (a.length + 1) by omega]
theorem numd_map : ∀ (i : Nat) (l : List Cmd), (numd i l).map (fun x => cvOf x.2) = l.map cvOf
  | _, [] => rfl
  | i, c :: r => by simp [numd, numd_map (i + 1) r]
theorem bodyB_append (i : Nat) (a b : List Cmd) : bodyB i (a ++ b) = bodyB i a ++ bodyB (i + a.length) b := by
  rw [bodyB_numd, bodyB_numd, bodyB_numd, numd_append, frsB_append]

/-- The sum of content. -/
def sumC (n : Int) (l : List Cmd) : Int := l.foldl (fun s c => if c.kind = 1 ∨ c.kind = 6 then s else crcMore s (payB c)) n
def content (c : Cmd) : Prop := 2 ≤ c.kind ∧ c.kind ≤ 5
instance (c : Cmd) : Decidable (content c) := by unfold content; infer_instance

theorem mids_content : ∀ (l : List Cmd) (i : Nat) (p : PS), (∀ c ∈ l, chkP c ∧ content c) → p.l ≠ [] → p.next = i → i + l.length ≤ 4294967295 → Mids p (numd i l)
  | [], _, _, _, _, _, _ => trivial
  | c :: l, i, p, hl, hp, hn, hi => by
    obtain ⟨h1, h2⟩ := hl c (by simp)
    unfold content at h2
    simp only [List.length_cons] at hi
    refine ⟨h1, by omega, ?_, by omega, ?_⟩
    · unfold takeE
      rw [if_neg, if_neg (by omega)]
      rintro (h | h)
      · exact h ⟨fun h => absurd h hp, fun h => by omega⟩
      · exact h hn.symm
    · refine mids_content l (i + 1) (takeP p (cvOf c)) (fun c hc => hl c (by simp [hc])) (by simp [takeP]) ?_ (by omega)
      show (if c.kind = 1 then _ else _) + 1 = _
      rw [if_neg (by omega), hn]
      omega

theorem after_content : ∀ (l : List Cmd) (i : Nat) (p : PS), (∀ c ∈ l, content c) → (after p (numd i l)).next = p.next + l.length ∧ (after p (numd i l)).sum = sumC p.sum l
  | [], i, p, _ => by simp [numd, after, sumC]
  | c :: l, i, p, h => by
    have h2 := h c (by simp)
    unfold content at h2
    obtain ⟨h3, h4⟩ := after_content l (i + 1) (takeP p (cvOf c)) (fun c hc => h c (by simp [hc]))
    have e : after p (numd i (c :: l)) = after (takeP p (cvOf c)) (numd (i + 1) l) := rfl
    rw [e, h3, h4]
    have e2 : (takeP p (cvOf c)).next = p.next + 1 := by
      show (if c.kind = 1 then _ else _) + 1 = _
      rw [if_neg (by omega)]
    have e3 : (takeP p (cvOf c)).sum = crcMore p.sum (payB c) := by
      show (if c.kind = 1 ∨ c.kind = 6 then _ else _) = _
      rw [if_neg (by omega)]
      rfl
    rw [e2, e3]
    refine ⟨by simp; omega, ?_⟩
    show _ = sumC (if c.kind = 1 ∨ c.kind = 6 then p.sum else crcMore p.sum (payB c)) l
    rw [if_neg (by omega)]

end Go.Proofs.YtnakicjkolpacaaDoor
