/- Facts of the seat that every row asks. -/
import Derived.Test.YtoanjhiojpgioaaRows
import Derived.Test.YtoanjhiojpgioaaA26
import Derived.Test.YtoanjhiojpgioaaG1
import Derived.Test.YtoanjhiojpgioaaS15
import Derived.Eval
set_option linter.unusedSimpArgs false
set_option linter.unusedVariables false
namespace Go.Proofs.Ytoanjhiojpgioaa
open Go.AI
open Go.WideShapes

theorem seat_own : ownKnob Try.prog.godebug = none := by kernel_rfl
theorem seat_laidOut : laidOutB Try.prog = true := by kernel_rfl
theorem seat_mixed : Try.prog.follows .mixedOrders = true := Checked.mixed Try.checked
theorem no_ext {P : Program} : ExtOk P (fun _ _ => none) := fun _ _ _ _ _ _ h => by cases h

section
variable {H : Type} {enc : TypeId × Value → H} {W : World}

theorem opens_bytes : Opens enc Try.prog W 22 (List UInt8) (fun l => [.islc false false 1 (BL l)]) (fun l => l.length ≤ maxLen) :=
  opens_map (opens_slice Try.underlying22 (by kernel_rfl) (by decide) (opens_u8 Try.underlying5) u8 (fun _ => rfl) (fun _ => rfl)) id fun _ h => ⟨h.1, rfl⟩

theorem opens_cmd : Opens enc Try.prog W 24 Cmd Cmd.cells CmdR :=
  opens_map (opens_struct Try.underlying24 (by kernel_rfl) (opensF_cons rfl (k := 1) (by kernel_rfl) (opens_int Try.underlying3) (opensF_cons rfl (k := 1) (by kernel_rfl) (opens_int Try.underlying3) (opensF_cons rfl (k := 1) (by kernel_rfl) (opens_int Try.underlying3) (opensF_cons rfl (k := 1) (by kernel_rfl) (opens_int Try.underlying3)
    (opensF_cons rfl (k := 1) (by kernel_rfl) (opens_int Try.underlying3) (opensF_cons rfl (k := 1) (by kernel_rfl) (opens_int Try.underlying3) (opensF_cons rfl (k := 1) (by kernel_rfl) (opens_int Try.underlying3) (opensF_cons rfl (k := 1) (by kernel_rfl) (opens_int Try.underlying3)
    (opensF_cons rfl (k := 1) (by kernel_rfl) opens_bytes opensF_nil))))))))))
    (fun ⟨a1, a2, a3, a4, a5, a6, a7, a8, a9, _⟩ => ⟨a1, a2, a3, a4, a5, a6, a7, a8, a9⟩) (fun ⟨a1, a2, a3, a4, a5, a6, a7, a8, a9, _⟩ ⟨h1, h2, h3, h4, h5, h6, h7, h8, h9, _⟩ =>
      ⟨⟨i64R_of h1, i64R_of h2, i64R_of h3, i64R_of h4, i64R_of h5, i64R_of h6, i64R_of h7, i64R_of h8, h9⟩, rfl⟩)
end

theorem okWide_arr {P : Program} {w : World} {r : Reach} {base : Nat} {t e : TypeId} {n : Nat} {v : Value} (ht : P.underlying t = some (.array n e)) (h : Value.okWide P w r base t v) : ∃ cs, v = .agg cs := by
  simp only [Value.okWide, ht] at h
  obtain ⟨cs, h1, _⟩ := h
  exact ⟨cs, h1⟩

end Go.Proofs.Ytoanjhiojpgioaa
