/- Facts of the seat that every row asks. -/
import Derived.Test.YtnakicjkolpacaaDoorRows
import Derived.Test.YtnakicjkolpacaaDoorMC
import Derived.Test.YtnakicjkolpacaaDoorG2
import Derived.Test.YtnakicjkolpacaaDoorS15
import Derived.Eval
set_option linter.unusedSimpArgs false
set_option linter.unusedVariables false
namespace Go.Proofs.YtnakicjkolpacaaDoor
open Go.AI
open Go.WideShapes

theorem seat_own : ownKnob Tryd.prog.godebug = none := by kernel_rfl
theorem seat_laidOut : laidOutB Tryd.prog = true := by kernel_rfl
theorem seat_mixed : Tryd.prog.follows .mixedOrders = true := Checked.mixed Tryd.checked
theorem no_ext {P : Program} : ExtOk P (fun _ _ => none) := fun _ _ _ _ _ _ h => by cases h

section
variable {H : Type} {enc : TypeId × Value → H} {W : World}

theorem u8_nu (c : UInt8) (v : Value) (z : Int) (h : VR (Go.AI.start W) false false (u8 c) v) : v.cells.toList.head? ≠ some (.int .u64 z) := by
  simp only [u8, VR] at h
  subst h
  simp [Value.cells]

theorem opens_bytes (hg : GlAt W) : Opens enc Tryd.prog W 23 (List UInt8) (fun l => [.islc false false 1 (BL l)]) (fun l => l.length ≤ maxLen) :=
  opens_map (opens_slice Tryd.underlying23 (by kernel_rfl) (by decide) (opens_u8 Tryd.underlying5) u8 (fun _ => rfl) (fun _ => rfl) hg u8_nu) id fun _ h => ⟨h.1, rfl⟩

theorem opens_cmd (hg : GlAt W) : Opens enc Tryd.prog W 40 Cmd Cmd.cells CmdR :=
  opens_map (opens_struct Tryd.underlying40 (by kernel_rfl) (opensF_cons rfl (k := 1) (by kernel_rfl) (opens_int Tryd.underlying3) (opensF_cons rfl (k := 1) (by kernel_rfl) (opens_int Tryd.underlying3) (opensF_cons rfl (k := 1) (by kernel_rfl) (opens_int Tryd.underlying3) (opensF_cons rfl (k := 1) (by kernel_rfl) (opens_int Tryd.underlying3)
    (opensF_cons rfl (k := 1) (by kernel_rfl) (opens_int Tryd.underlying3) (opensF_cons rfl (k := 1) (by kernel_rfl) (opens_int Tryd.underlying3) (opensF_cons rfl (k := 1) (by kernel_rfl) (opens_int Tryd.underlying3) (opensF_cons rfl (k := 1) (by kernel_rfl) (opens_int Tryd.underlying3)
    (opensF_cons rfl (k := 1) (by kernel_rfl) (opens_bytes hg) opensF_nil))))))))))
    (fun ⟨a1, a2, a3, a4, a5, a6, a7, a8, a9, _⟩ => ⟨a1, a2, a3, a4, a5, a6, a7, a8, a9⟩) (fun ⟨a1, a2, a3, a4, a5, a6, a7, a8, a9, _⟩ ⟨h1, h2, h3, h4, h5, h6, h7, h8, h9, _⟩ =>
      ⟨⟨i64R_of h1, i64R_of h2, i64R_of h3, i64R_of h4, i64R_of h5, i64R_of h6, i64R_of h7, i64R_of h8, h9⟩, rfl⟩)
end

/-- A list of commands. -/
theorem opens_cmds {H : Type} {enc : TypeId × Value → H} {W : World} (hg : GlAt W) : Opens enc Tryd.prog W 22 (List Cmd) (fun l => [.islc false false 9 (l.map (Cmd.av false false 1))]) (fun l => l.length ≤ maxLen ∧ ∀ c ∈ l, CmdR c) :=
  opens_slice Tryd.underlying22 (by kernel_rfl) (by decide) (opens_cmd hg) (Cmd.av false false 1) (fun _ => rfl) (fun _ => rfl) hg fun c v z h => by
    simp only [Cmd.av, VR, VRL] at h
    obtain ⟨vs, rfl, v0, vs0, h1, _, rfl, _⟩ := h
    simp [Value.cells, h1]

theorem okWide_arr {P : Program} {w : World} {r : Reach} {base : Nat} {t e : TypeId} {n : Nat} {v : Value} (ht : P.underlying t = some (.array n e)) (h : Value.okWide P w r base t v) : ∃ cs, v = .agg cs := by
  simp only [Value.okWide, ht] at h
  obtain ⟨cs, h1, _⟩ := h
  exact ⟨cs, h1⟩

end Go.Proofs.YtnakicjkolpacaaDoor
