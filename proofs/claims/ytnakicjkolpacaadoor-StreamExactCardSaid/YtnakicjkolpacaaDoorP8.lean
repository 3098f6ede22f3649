/- Plain laws of streams: what is read as a whole stream. -/
import Derived.Test.YtnakicjkolpacaaDoorS34
set_option linter.unusedSimpArgs false
set_option linter.unusedVariables false
set_option maxRecDepth 10000
namespace Go.Proofs.YtnakicjkolpacaaDoor
open Go.AI

theorem pErr_ne {r : List UInt8} (h : ¬ pErr r = 0) : ¬ (pErr r = 0) := h

theorem takeE_cases (p : PS) (c : Cmd) (seq : Int) : takeE p c seq = 0 ∨ takeE p c seq = 14 ∨ takeE p c seq = 15 := by
  unfold takeE
  repeat' split
  all_goals simp
theorem takeE_seq {p : PS} {c : Cmd} {seq : Int} (h : takeE p c seq = 0) : (p.l = [] ↔ c.kind = 1) ∧ seq = p.next := by
  unfold takeE at h
  split at h
  · simp at h
  · rename_i h1
    exact ⟨Classical.byContradiction fun hh => h1 (.inl hh), Classical.byContradiction fun hh => h1 (.inr hh)⟩

/-- Whatever is read, the reader fits. -/
theorem goS_fit : ∀ (k : Nat) (p : PS) (g : Nat) (r : List UInt8), p.fit → p.l.length + r.length < 1000000 → (goS k p g r).1.fit ∧ (goS k p g r).1.l.length ≤ p.l.length + r.length
  | 0, p, g, r, h, hl => ⟨h, by simp [goS]⟩
  | k + 1, p, g, r, h, hl => by
    simp only [goS]
    split
    · exact ⟨h, by simp⟩
    split
    · exact ⟨h, by simp⟩
    rename_i h0 _
    have h0' := Classical.not_not.1 h0
    obtain ⟨_, _, _, hchk⟩ := pErr_ok h0'
    have hlp := lenP_pos h0'
    have hf := takeP_fit h (pCV_ok r) hchk (by omega)
    have hl2 : (takeP p (pCV r)).l.length = p.l.length + 1 := by simp [takeP]
    split
    · exact ⟨hf, by show (takeP p (pCV r)).l.length ≤ _; omega⟩
    · obtain ⟨h1, h2⟩ := goS_fit k (takeP p (pCV r)) (g + (lenP r).1.toNat) (r.drop (lenP r).1.toNat) hf (by simp; omega)
      refine ⟨h1, ?_⟩
      rw [List.length_drop] at h2
      omega
theorem parseS_fit (b : List UInt8) (hb : b.length < 900000) : (parseS b).1.fit ∧ (parseS b).1.l.length ≤ b.length := by
  have := goS_fit (b.length + 1) ps0 0 b ⟨by simp [ps0], by simp [ps0], by simp [ps0], by simp [ps0]⟩ (by simp [ps0]; omega)
  simpa [ps0, parseS] using this

/-- The rest of a stream that is read whole. -/
theorem goS_rest : ∀ (k : Nat) (p : PS) (g : Nat) (r : List UInt8), r.length < k → p.fit → p.l ≠ [] → p.l.length + r.length < 1000000 → (goS k p g r).2.2 = 0 →
    ∃ cs : List CV, (goS k p g r).1.l = p.l ++ cs ∧ (∃ z, cs.getLast? = some z ∧ z.c.kind = 6) ∧ r = bodyB p.next.toNat (cs.map CV.c) ∧ (goS k p g r).2.1 = g + r.length
  | 0, p, g, r, hk, _, _, _, _ => by omega
  | k + 1, p, g, r, hk, hf, hne, hl, he => by
    simp only [goS] at he ⊢
    split at he
    · rename_i h0; exact absurd he h0
    split at he
    · rename_i _ h1; exact absurd he h1
    rename_i h0 h1
    rw [if_neg h0, if_neg h1]
    have h0' := Classical.not_not.1 h0
    have h1' := Classical.not_not.1 h1
    obtain ⟨_, _, _, hchk⟩ := pErr_ok h0'
    have hlp := lenP_pos h0'
    obtain ⟨hk1, hsq⟩ := takeE_seq h1'
    obtain ⟨hfr, hf1, hf2⟩ := frB_parse h0'
    have hn0 := hf.2.1.1
    have hfr2 : frB (p.next.toNat : Nat) (pCmd r) = r.take (lenP r).1.toNat := by
      rw [← hfr, hsq]; congr 1; omega
    split at he
    · rename_i h6
      rw [if_pos h6]
      simp only at he
      split at he
      · simp at he
      · rename_i hlt
        refine ⟨[pCV r], rfl, ⟨pCV r, rfl, h6⟩, ?_, by show g + (lenP r).1.toNat = _; omega⟩
        show r = frB (p.next.toNat : Nat) (pCmd r) ++ []
        rw [List.append_nil, hfr2, List.take_of_length_le (by omega)]
    · rename_i h6
      rw [if_neg h6]
      have hnk : (pCmd r).kind ≠ 1 := fun h => hne (hk1.2 h)
      have hf2 := takeP_fit hf (pCV_ok r) hchk (by omega)
      obtain ⟨cs, e1, e2, e3, e4⟩ := goS_rest k (takeP p (pCV r)) (g + (lenP r).1.toNat) (r.drop (lenP r).1.toNat) (by simp; omega) hf2 (by simp [takeP]) (by simp [takeP]; omega) he
      have hnx : (takeP p (pCV r)).next = p.next + 1 := by
        show (if (pCmd r).kind = 1 then _ else p.next) + 1 = _
        rw [if_neg hnk]
      obtain ⟨z, hz, hz6⟩ := e2
      refine ⟨pCV r :: cs, by rw [e1]; simp [takeP], ⟨z, by rw [List.getLast?_cons, hz]; rfl, hz6⟩, ?_, by rw [e4, List.length_drop]; omega⟩
      show r = frB (p.next.toNat : Nat) (pCmd r) ++ bodyB (p.next.toNat + 1) (cs.map CV.c)
      rw [hfr2, show p.next.toNat + 1 = (takeP p (pCV r)).next.toNat by rw [hnx]; omega, ← e3, List.take_append_drop]

/-- Whatever is read as a whole stream is what its commands are written to. -/
theorem parse_whole {b : List UInt8} (hb : b.length < 900000) (he : (parseS b).2.2 = 0) :
    ∃ (x : CV) (cs : List CV), (parseS b).1.l = x :: cs ∧ x.c.kind = 1 ∧ (∃ z, cs.getLast? = some z ∧ z.c.kind = 6) ∧ b = frB 0 x.c ++ bodyB (x.c.count.toNat + 1) (cs.map CV.c) ∧ (parseS b).2.1 = b.length ∧ 0 ≤ x.c.count := by
  unfold parseS at he ⊢
  simp only [goS] at he ⊢
  split at he
  · rename_i h0; exact absurd he h0
  split at he
  · rename_i _ h1; exact absurd he h1
  rename_i h0 h1
  rw [if_neg h0, if_neg h1]
  have h0' := Classical.not_not.1 h0
  have h1' := Classical.not_not.1 h1
  obtain ⟨_, _, _, hchk⟩ := pErr_ok h0'
  have hlp := lenP_pos h0'
  obtain ⟨hk1, hsq⟩ := takeE_seq h1'
  obtain ⟨hfr, hf1, hf2⟩ := frB_parse h0'
  have hkd : (pCmd b).kind = 1 := hk1.1 rfl
  have hcnt := (chk_small hchk).2.1 hkd
  split at he
  · omega
  rename_i h6
  rw [if_neg h6]
  have hf2 := takeP_fit (p := ps0) ⟨by simp [ps0], by simp [ps0], by simp [ps0], by simp [ps0]⟩ (pCV_ok b) hchk (by simp [ps0])
  obtain ⟨cs, e1, e2, e3, e4⟩ := goS_rest b.length (takeP ps0 (pCV b)) (0 + (lenP b).1.toNat) (b.drop (lenP b).1.toNat) (by simp; omega) hf2 (by simp [takeP]) (by simp [takeP, ps0]; omega) he
  have hnx : (takeP ps0 (pCV b)).next = (pCmd b).count + 1 := by
    show (if (pCmd b).kind = 1 then (pCmd b).count else _) + 1 = _
    rw [if_pos hkd]
  refine ⟨pCV b, cs, by rw [e1]; simp [takeP, ps0], hkd, e2, ?_, by rw [e4, List.length_drop]; omega, hcnt.1⟩
  have hb0 : frB 0 (pCmd b) = b.take (lenP b).1.toNat := by rw [← hfr, hsq]; rfl
  show b = frB 0 (pCmd b) ++ bodyB ((pCmd b).count.toNat + 1) (cs.map CV.c)
  rw [hb0, show (pCmd b).count.toNat + 1 = (takeP ps0 (pCV b)).next.toNat by rw [hnx]; omega, ← e3, List.take_append_drop]

end Go.Proofs.YtnakicjkolpacaaDoor
