/- Plain laws: right commands of one kind that are unlike have unlike payloads. -/
import Derived.Test.YtnakicjkolpacaaDoorP2
set_option linter.unusedSimpArgs false
set_option linter.unusedVariables false
set_option maxRecDepth 10000
namespace Go.Proofs.YtnakicjkolpacaaDoor
open Go.AI

theorem parentsP_iff {a b : Int} : parentsP a b = true ↔ ((1 ≤ a ∧ a ≤ 4611686018427387903) ∧ b ≠ a ∧ (b = 0 ∨ (1 ≤ b ∧ b ≤ 4611686018427387903))) := by simp only [parentsP, decide_eq_true_eq]
theorem inR_iff {n lo hi : Int} : inR n lo hi = true ↔ (lo ≤ n ∧ n ≤ hi) := by simp only [inR, Bool.and_eq_true, decide_eq_true_eq, ge_iff_le]
theorem withinP_iff {a c o : Int} : withinP a c o = true ↔ (0 ≤ a ∧ 0 ≤ c ∧ c ≤ o ∧ a ≤ o - c) := by simp only [withinP, decide_eq_true_eq]

/-- What a right command is. -/
theorem chkP_inv {c : Cmd} (h : chkP c) :
    (c.kind = 1 ∧ parentsP c.id c.parent = true ∧ (0 ≤ c.size ∧ c.size ≤ 512) ∧ (0 ≤ c.count ∧ c.count ≤ 65535) ∧ c.frm = 0 ∧ c.source = 0 ∧ c.digest = 0 ∧ c.data = []) ∨
    (c.kind = 2 ∧ (c.data.length % 64 = 0 ∧ 64 ≤ c.data.length ∧ c.data.length ≤ 512) ∧ (0 ≤ c.frm ∧ c.frm ≤ 512 - (c.data.length / 64 : Int)) ∧ c.id = 0 ∧ c.parent = 0 ∧ c.size = 0 ∧ c.count = 0 ∧ c.source = 0 ∧ c.digest = 0) ∨
    (c.kind = 3 ∧ 0 < c.count ∧ (0 ≤ c.frm ∧ c.count ≤ 512 ∧ c.frm ≤ 512 - c.count) ∧ c.id = 0 ∧ c.parent = 0 ∧ c.size = 0 ∧ c.source = 0 ∧ c.digest = 0 ∧ c.data = []) ∨
    (c.kind = 4 ∧ 0 < c.count ∧ (0 ≤ c.frm ∧ c.count ≤ 512 ∧ c.frm ≤ 512 - c.count) ∧ (0 ≤ c.source ∧ c.source ≤ 512 - c.count) ∧ c.id = 0 ∧ c.parent = 0 ∧ c.size = 0 ∧ c.digest = 0 ∧ c.data = []) ∨
    (c.kind = 5 ∧ (0 ≤ c.size ∧ c.size ≤ 512) ∧ c.id = 0 ∧ c.parent = 0 ∧ c.frm = 0 ∧ c.count = 0 ∧ c.source = 0 ∧ c.digest = 0 ∧ c.data = []) ∨
    (c.kind = 6 ∧ (0 ≤ c.count ∧ c.count ≤ 65535) ∧ (0 ≤ c.digest ∧ c.digest ≤ 4294967295) ∧ c.id = 0 ∧ c.parent = 0 ∧ c.size = 0 ∧ c.frm = 0 ∧ c.source = 0 ∧ c.data = []) := by
  unfold chkP bareP at h
  split at h
  · rename_i hk
    simp only [Bool.and_eq_true, inR_iff] at h
    obtain ⟨⟨⟨h1, h2⟩, h3⟩, -, -, -, h4, -, h5, h6, h7⟩ := h
    exact .inl ⟨hk, h1, h2, h3, h4, h5, h6, List.eq_nil_of_length_eq_zero h7⟩
  split at h
  · rename_i _ hk
    simp only [writesP, Bool.and_eq_true, inR_iff, withinP_iff, decide_eq_true_eq] at h
    obtain ⟨⟨⟨h1, h2⟩, h3⟩, h4, h5, h6, -, h7, h8, h9, -⟩ := h
    exact .inr (.inl ⟨hk, ⟨h1, by omega, by omega⟩, by omega, h4, h5, h6, h7, h8, h9⟩)
  split at h
  · rename_i _ _ hk
    simp only [Bool.and_eq_true, withinP_iff, decide_eq_true_eq] at h
    obtain ⟨⟨h1, h2⟩, h4, h5, h6, -, -, h8, h9, h10⟩ := h
    exact .inr (.inr (.inl ⟨hk, h1, by omega, h4, h5, h6, h8, h9, List.eq_nil_of_length_eq_zero h10⟩))
  split at h
  · rename_i _ _ _ hk
    simp only [Bool.and_eq_true, withinP_iff, decide_eq_true_eq] at h
    obtain ⟨⟨⟨h1, h2⟩, h3⟩, h4, h5, h6, -, -, -, h9, h10⟩ := h
    exact .inr (.inr (.inr (.inl ⟨hk, h1, by omega, by omega, h4, h5, h6, h9, List.eq_nil_of_length_eq_zero h10⟩)))
  split at h
  · rename_i _ _ _ _ hk
    simp only [inR_iff] at h
    obtain ⟨h1, h4, h5, -, h6, h7, h8, h9, h10⟩ := h
    exact .inr (.inr (.inr (.inr (.inl ⟨hk, h1, h4, h5, h6, h7, h8, h9, List.eq_nil_of_length_eq_zero h10⟩))))
  split at h
  · rename_i _ _ _ _ _ hk
    simp only [Bool.and_eq_true, inR_iff] at h
    obtain ⟨⟨h1, h2⟩, h4, h5, h6, h7, -, h8, -, h10⟩ := h
    exact .inr (.inr (.inr (.inr (.inr ⟨hk, h1, h2, h4, h5, h6, h7, h8, List.eq_nil_of_length_eq_zero h10⟩))))
  · simp at h

theorem leB4_inj {a b : Int} {x y : List UInt8} (ha : 0 ≤ a ∧ a ≤ 4294967295) (hb : 0 ≤ b ∧ b ≤ 4294967295) (h : leB 4 a ++ x = leB 4 b ++ y) : a = b ∧ x = y := by
  obtain ⟨h1, h2⟩ := List.append_inj h (by simp)
  have := congrArg leN h1
  exact ⟨by rw [← leN_leB4 ha.1 (by omega), this, leN_leB4 hb.1 (by omega)], h2⟩
theorem leB8_inj {a b : Int} {x y : List UInt8} (ha : 0 ≤ a ∧ a ≤ 4611686018427387903) (hb : 0 ≤ b ∧ b ≤ 4611686018427387903) (h : leB 8 a ++ x = leB 8 b ++ y) : a = b ∧ x = y := by
  obtain ⟨h1, h2⟩ := List.append_inj h (by simp)
  have := congrArg leN h1
  exact ⟨by rw [← leN_leB8 ha.1 (by omega), this, leN_leB8 hb.1 (by omega)], h2⟩

theorem leB4_inj0 {a b : Int} (ha : 0 ≤ a ∧ a ≤ 4294967295) (hb : 0 ≤ b ∧ b ≤ 4294967295) (h : leB 4 a = leB 4 b) : a = b :=
  (leB4_inj (x := []) (y := []) ha hb (by simpa using h)).1

theorem payB_inj {c d : Cmd} (hc : chkP c) (hd : chkP d) (hk : c.kind = d.kind) (h : payB c = payB d) : c = d := by
  obtain ⟨k, i, p, s, f, n, o, g, x⟩ := c
  obtain ⟨k', i', p', s', f', n', o', g', x'⟩ := d
  simp only at hk
  subst hk
  rcases chkP_inv hc with hC | hC | hC | hC | hC | hC
  · simp only at hC
    obtain ⟨rfl, hC⟩ := hC
    rcases chkP_inv hd with hD | hD | hD | hD | hD | hD
    all_goals (simp only at hD; try (exact absurd hD.1 (by decide)))
    obtain ⟨-, hD⟩ := hD
    rw [parentsP_iff] at hC hD
    simp only [payB, if_true, if_false, putB_cons, putB_nil, List.append_nil, List.append_assoc] at h
    obtain ⟨e0, h0⟩ := leB8_inj (by omega) (by omega) h
    obtain ⟨e1, h1⟩ := leB8_inj (by omega) (by omega) h0
    obtain ⟨e2, h2⟩ := leB4_inj (by omega) (by omega) h1
    have e3 := leB4_inj0 (by omega) (by omega) h2
    obtain ⟨_, _, _, z1, z2, z3, z4⟩ := hC
    obtain ⟨_, _, _, y1, y2, y3, y4⟩ := hD
    simp only [Cmd.mk.injEq, true_and]
    simp [*]
  · simp only at hC
    obtain ⟨rfl, hC⟩ := hC
    rcases chkP_inv hd with hD | hD | hD | hD | hD | hD
    all_goals (simp only at hD; try (exact absurd hD.1 (by decide)))
    obtain ⟨-, hD⟩ := hD
    simp only [payB, show ¬ ((2 : Int) = 1) by decide, if_true, if_false, putB_cons, putB_nil, List.append_nil, List.append_assoc] at h
    obtain ⟨e0, h0⟩ := leB4_inj (by omega) (by omega) h
    obtain ⟨_, e1⟩ := leB4_inj (by omega) (by omega) h0
    obtain ⟨_, _, z1, z2, z3, z4, z5, z6⟩ := hC
    obtain ⟨_, _, y1, y2, y3, y4, y5, y6⟩ := hD
    simp only [Cmd.mk.injEq, true_and]
    simp [*]
  · simp only at hC
    obtain ⟨rfl, hC⟩ := hC
    rcases chkP_inv hd with hD | hD | hD | hD | hD | hD
    all_goals (simp only at hD; try (exact absurd hD.1 (by decide)))
    obtain ⟨-, hD⟩ := hD
    simp only [payB, show ¬ ((3 : Int) = 1) by decide, show ¬ ((3 : Int) = 2) by decide, if_true, if_false, putB_cons, putB_nil, List.append_nil, List.append_assoc] at h
    obtain ⟨e0, h0⟩ := leB4_inj (by omega) (by omega) h
    have e1 := leB4_inj0 (by omega) (by omega) h0
    obtain ⟨_, _, z1, z2, z3, z4, z5, z6⟩ := hC
    obtain ⟨_, _, y1, y2, y3, y4, y5, y6⟩ := hD
    simp only [Cmd.mk.injEq, true_and]
    simp [*]
  · simp only at hC
    obtain ⟨rfl, hC⟩ := hC
    rcases chkP_inv hd with hD | hD | hD | hD | hD | hD
    all_goals (simp only at hD; try (exact absurd hD.1 (by decide)))
    obtain ⟨-, hD⟩ := hD
    simp only [payB, show ¬ ((4 : Int) = 1) by decide, show ¬ ((4 : Int) = 2) by decide, show ¬ ((4 : Int) = 3) by decide, if_true, if_false, putB_cons, putB_nil, List.append_nil, List.append_assoc] at h
    obtain ⟨e0, h0⟩ := leB4_inj (by omega) (by omega) h
    obtain ⟨e1, h1⟩ := leB4_inj (by omega) (by omega) h0
    have e2 := leB4_inj0 (by omega) (by omega) h1
    obtain ⟨_, _, _, z1, z2, z3, z4, z5⟩ := hC
    obtain ⟨_, _, _, y1, y2, y3, y4, y5⟩ := hD
    simp only [Cmd.mk.injEq, true_and]
    simp [*]
  · simp only at hC
    obtain ⟨rfl, hC⟩ := hC
    rcases chkP_inv hd with hD | hD | hD | hD | hD | hD
    all_goals (simp only at hD; try (exact absurd hD.1 (by decide)))
    obtain ⟨-, hD⟩ := hD
    simp only [payB, show ¬ ((5 : Int) = 1) by decide, show ¬ ((5 : Int) = 2) by decide, show ¬ ((5 : Int) = 3) by decide, show ¬ ((5 : Int) = 4) by decide, if_true, if_false, putB_cons, putB_nil, List.append_nil, List.append_assoc] at h
    have e0 := leB4_inj0 (by omega) (by omega) h
    obtain ⟨_, z1, z2, z3, z4, z5, z6, z7⟩ := hC
    obtain ⟨_, y1, y2, y3, y4, y5, y6, y7⟩ := hD
    simp only [Cmd.mk.injEq, true_and]
    simp [*]
  · simp only at hC
    obtain ⟨rfl, hC⟩ := hC
    rcases chkP_inv hd with hD | hD | hD | hD | hD | hD
    all_goals (simp only at hD; try (exact absurd hD.1 (by decide)))
    obtain ⟨-, hD⟩ := hD
    simp only [payB, show ¬ ((6 : Int) = 1) by decide, show ¬ ((6 : Int) = 2) by decide, show ¬ ((6 : Int) = 3) by decide, show ¬ ((6 : Int) = 4) by decide, show ¬ ((6 : Int) = 5) by decide, if_true, if_false, putB_cons, putB_nil, List.append_nil, List.append_assoc] at h
    obtain ⟨e0, h0⟩ := leB4_inj (by omega) (by omega) h
    have e1 := leB4_inj0 (by omega) (by omega) h0
    obtain ⟨_, _, z1, z2, z3, z4, z5, z6⟩ := hC
    obtain ⟨_, _, y1, y2, y3, y4, y5, y6⟩ := hD
    simp only [Cmd.mk.injEq, true_and]
    simp [*]

theorem frB_mid (seq : Int) (c : Cmd) : ((frB seq c).drop 16).take ((frB seq c).length - 4 - 16) = payB c := by
  rw [frB_length]
  have : frB seq c = ([70, 82, 65, 77] ++ (leB 4 seq ++ (leB 4 c.kind ++ leB 4 ((payB c).length : Int)))) ++ (payB c ++ leB 4 (crcMore 0 (frH seq c))) := by
    rw [frB_eq]; simp
  rw [this, List.drop_left' (by simp), List.take_left' (by omega)]

end Go.Proofs.YtnakicjkolpacaaDoor
