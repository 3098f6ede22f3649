import Derived.Test.YtkaiiopoilpjeaaA30
set_option linter.unusedSimpArgs false
set_option linter.unusedVariables false
namespace Go.AI
section
variable {cf : Cx} {xf : ExtF} {base : Nat} {T : Tmps} {H : Heap} {QO : Tmps → Heap → Prop} {log : List FP} {g : Option (Nat × Bool)} {un : List Nat} {r : List SOper} {d : Nat}
theorem qH : ∀ (k n b : Nat), k ≤ n → (∀ i, i < k → (H (b + i)).gen ≠ 0) → (H (b + k)).gen = 0 → Im H b n = b + k
 | 0, 0, b, _, _, _ => rfl
 | 0, n + 1, b, _, _, h => by
  unfold Im
  have h : (H b).gen = 0 := h
  rw [h]; rfl
 | k + 1, 0, b, hk, _, _ => by omega
 | k + 1, n + 1, b, hk, h1, h2 => by
  unfold Im
  have h0 : Nat.beq (H b).gen 0 = false := by
   cases hb : Nat.beq (H b).gen 0 with
   | false => rfl
   | true => exact absurd (Dy hb) (h1 0 (by omega))
  rw [h0]
  show Im H (b + 1) n = _
  rw [qH k n (b + 1) (by omega) (fun i hi => by rw [show b + 1 + i = b + (i + 1) by omega]; exact h1 (i + 1) (by omega)) (by rw [show b + 1 + k = b + (k + 1) by omega]; exact h2)]
  omega
theorem uL {site s n : Nat} {z : AV} {ps : List (Nat × SArg)} {es : List AV} (j : Nat) (hz : z.cells.length = s) (hc : Je s (List.replicate n z) (ps.map fun (i, x) => (i, x.ev T)) = some es) (hj : Im H (base + site) many = j) (hw : Af T g = some true) (hl : Av log ⟨Wo (base + site) many, [j], false⟩ un = true)
  (h : WO (aops cf xf base r (log ++ [⟨Wo (base + site) many, [j], false⟩]) (T.upd d (.slc j ((H j).gen + 1) n s 0 n .none)) (H.newRow j s es)) QO) :
  WO (aops cf xf base (⟨some d, .buildSN site s n z ps, g, un⟩ :: r) log T H) QO :=
 Aq (v := .slc j ((H j).gen + 1) n s 0 n .none) (H' := H.newRow j s es) (fp := ⟨Wo (base + site) many, [j], false⟩) hw (by
  subst hj
  simp only [aop, hz, ne_eq, Mm, Bx]
  rw [hc]) hl h
end
end Go.AI

