/- The document's answers: is a command right? -/
import Derived.Test.YtoanjhiojpgioaaS17
set_option linter.unusedSimpArgs false
set_option linter.unusedVariables false
set_option maxRecDepth 10000
set_option maxHeartbeats 16000000
namespace Go.Proofs.Ytoanjhiojpgioaa
open Go.AI
attribute [local irreducible] aops aexec acall aiter aop W WO

variable {xf : ExtF} {gf : CallF}

/-- What a right command is, in one. -/
def rightD (c : Cmd) : Prop :=
  (c.kind = 1 ∧ ((1 ≤ c.id ∧ c.id ≤ 4611686018427387903) ∧ c.parent ≠ c.id ∧ (c.parent = 0 ∨ (1 ≤ c.parent ∧ c.parent ≤ 4611686018427387903))) ∧ (0 ≤ c.size ∧ c.size ≤ 512) ∧ (0 ≤ c.count ∧ c.count ≤ 65535) ∧ c.frm = 0 ∧ c.source = 0 ∧ c.digest = 0 ∧ c.data.length = 0) ∨
  (c.kind = 2 ∧ (c.data.length % 64 = 0 ∧ 64 ≤ c.data.length ∧ c.data.length ≤ 512) ∧ (0 ≤ c.frm ∧ c.frm ≤ 512 - (c.data.length / 64 : Int)) ∧ c.id = 0 ∧ c.parent = 0 ∧ c.size = 0 ∧ c.count = 0 ∧ c.source = 0 ∧ c.digest = 0) ∨
  (c.kind = 3 ∧ 0 < c.count ∧ (0 ≤ c.frm ∧ c.count ≤ 512 ∧ c.frm ≤ 512 - c.count) ∧ c.id = 0 ∧ c.parent = 0 ∧ c.size = 0 ∧ c.source = 0 ∧ c.digest = 0 ∧ c.data.length = 0) ∨
  (c.kind = 4 ∧ 0 < c.count ∧ (0 ≤ c.frm ∧ c.count ≤ 512 ∧ c.frm ≤ 512 - c.count) ∧ (0 ≤ c.source ∧ c.source ≤ 512 - c.count) ∧ c.id = 0 ∧ c.parent = 0 ∧ c.size = 0 ∧ c.digest = 0 ∧ c.data.length = 0) ∨
  (c.kind = 5 ∧ (0 ≤ c.size ∧ c.size ≤ 512) ∧ c.id = 0 ∧ c.parent = 0 ∧ c.frm = 0 ∧ c.count = 0 ∧ c.source = 0 ∧ c.digest = 0 ∧ c.data.length = 0) ∨
  (c.kind = 6 ∧ (0 ≤ c.count ∧ c.count ≤ 65535) ∧ (0 ≤ c.digest ∧ c.digest ≤ 4294967295) ∧ c.id = 0 ∧ c.parent = 0 ∧ c.size = 0 ∧ c.frm = 0 ∧ c.source = 0 ∧ c.data.length = 0)

theorem chkP_iff {c : Cmd} : chkP c ↔ rightD c := by
  constructor
  · intro h
    unfold rightD
    rcases chkP_inv h with hC | hC | hC | hC | hC | hC
    · refine .inl ⟨hC.1, parentsP_iff.1 hC.2.1, hC.2.2.1, hC.2.2.2.1, hC.2.2.2.2.1, hC.2.2.2.2.2.1, hC.2.2.2.2.2.2.1, by rw [hC.2.2.2.2.2.2.2]; rfl⟩
    · exact .inr (.inl hC)
    · obtain ⟨h1, h2, h3, h4, h5, h6, h7, h8, h9⟩ := hC
      exact .inr (.inr (.inl ⟨h1, h2, h3, h4, h5, h6, h7, h8, by rw [h9]; rfl⟩))
    · obtain ⟨h1, h2, h3, h4, h5, h6, h7, h8, h9⟩ := hC
      exact .inr (.inr (.inr (.inl ⟨h1, h2, h3, h4, h5, h6, h7, h8, by rw [h9]; rfl⟩)))
    · obtain ⟨h1, h2, h3, h4, h5, h6, h7, h8, h9⟩ := hC
      exact .inr (.inr (.inr (.inr (.inl ⟨h1, h2, h3, h4, h5, h6, h7, h8, by rw [h9]; rfl⟩))))
    · obtain ⟨h1, h2, h3, h4, h5, h6, h7, h8, h9⟩ := hC
      exact .inr (.inr (.inr (.inr (.inr ⟨h1, h2, h3, h4, h5, h6, h7, h8, by rw [h9]; rfl⟩))))
  · intro h
    obtain ⟨k, i, p, s, f, n, o, g, x⟩ := c
    unfold rightD at h
    simp only at h
    rcases h with h | h | h | h | h | h
    all_goals (obtain ⟨rfl, h⟩ := h)
    · obtain ⟨h1, h2, h3, rfl, rfl, rfl, h7⟩ := h
      simp only [chkP, bareP, if_true, Bool.and_eq_true, inR_iff, parentsP_iff]
      exact ⟨⟨⟨h1, h2⟩, h3⟩, by simp, by simp, by simp, by simp, by simp, by simp, by simp, h7⟩
    · obtain ⟨h1, h2, rfl, rfl, rfl, rfl, rfl, rfl⟩ := h
      simp only [chkP, bareP, show ¬ ((2 : Int) = 1) by decide, if_true, if_false, writesP, Bool.and_eq_true, inR_iff, withinP_iff, decide_eq_true_eq]
      exact ⟨⟨⟨h1.1, by omega⟩, by omega⟩, by simp, by simp, by simp, by simp, by simp, by simp, by simp, by simp⟩
    · obtain ⟨h1, h2, rfl, rfl, rfl, rfl, rfl, h7⟩ := h
      simp only [chkP, bareP, show ¬ ((3 : Int) = 1) by decide, show ¬ ((3 : Int) = 2) by decide, if_true, if_false, Bool.and_eq_true, withinP_iff, decide_eq_true_eq]
      exact ⟨⟨h1, by omega⟩, by simp, by simp, by simp, by simp, by simp, by simp, by simp, h7⟩
    · obtain ⟨h1, h2, h3, rfl, rfl, rfl, rfl, h7⟩ := h
      simp only [chkP, bareP, show ¬ ((4 : Int) = 1) by decide, show ¬ ((4 : Int) = 2) by decide, show ¬ ((4 : Int) = 3) by decide, if_true, if_false, Bool.and_eq_true, withinP_iff, decide_eq_true_eq]
      exact ⟨⟨⟨h1, by omega⟩, by omega⟩, by simp, by simp, by simp, by simp, by simp, by simp, by simp, h7⟩
    · obtain ⟨h1, rfl, rfl, rfl, rfl, rfl, rfl, h7⟩ := h
      simp only [chkP, bareP, show ¬ ((5 : Int) = 1) by decide, show ¬ ((5 : Int) = 2) by decide, show ¬ ((5 : Int) = 3) by decide, show ¬ ((5 : Int) = 4) by decide, if_true, if_false, inR_iff]
      exact ⟨h1, by simp, by simp, by simp, by simp, by simp, by simp, by simp, h7⟩
    · obtain ⟨h1, h2, rfl, rfl, rfl, rfl, rfl, h7⟩ := h
      simp only [chkP, bareP, show ¬ ((6 : Int) = 1) by decide, show ¬ ((6 : Int) = 2) by decide, show ¬ ((6 : Int) = 3) by decide, show ¬ ((6 : Int) = 4) by decide, show ¬ ((6 : Int) = 5) by decide, if_true, if_false, Bool.and_eq_true, inR_iff]
      exact ⟨⟨h1, h2⟩, by simp, by simp, by simp, by simp, by simp, by simp, by simp, h7⟩

theorem inR_f {n lo hi : Int} : inR n lo hi = false ↔ ¬ (lo ≤ n ∧ n ≤ hi) := by
  rw [Bool.eq_false_iff, ne_eq, inR_iff]
theorem runP_iff {a c : Int} : runP a c = true ↔ (0 ≤ a ∧ a ≤ 512) ∧ (1 ≤ c ∧ c ≤ 512) ∧ a + c ≤ 512 := by
  simp only [runP, Bool.and_eq_true, inR_iff, decide_eq_true_eq, and_assoc]
theorem runP_f {a c : Int} : runP a c = false ↔ ¬ ((0 ≤ a ∧ a ≤ 512) ∧ (1 ≤ c ∧ c ≤ 512) ∧ a + c ≤ 512) := by
  rw [Bool.eq_false_iff, ne_eq, runP_iff]

end Go.Proofs.Ytoanjhiojpgioaa
