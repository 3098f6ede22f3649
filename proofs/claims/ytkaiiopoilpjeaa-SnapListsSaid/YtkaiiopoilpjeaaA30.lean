import Derived.Test.YtkaiiopoilpjeaaMC
set_option linter.unusedSimpArgs false
set_option linter.unusedVariables false
namespace Go.AI
section
variable {cf : Cx} {xf : ExtF} {base fuel : Nat} {T : Tmps} {H : Heap} {QO : Tmps → Heap → Prop} {Q : Ex → Tmps → Heap → Prop} {log : List FP} {r : List SOper}
theorem Aek {d : Nat} {g0 : Option (Nat × Bool)} {un : List Nat} {b fn : Nat} {xs : List SArg} {rest : List AV} {j g ver s off len : Nat} {cap : Option Nat} {s' : Nat} {es : List AV} {off' len' : Nat} {cap' : Option Nat} {Hc : Heap}
  (ha : xs.map (SArg.ev T) = .slc j g ver s off len cap :: rest) (hst : (H j).st = .row s' es) (hn : Bq rest = true) (hn2 : Bq es = true)
  (hF : cf fn (base + b) (.slc j g ver s off len cap :: rest) (Qz H j s' es) = some (.slc j g ver s off' len' cap', Hc)) (hrow : (Hc.row j g ver s).isSome = true)
  (hw : Af T g0 = some true) (hl : Av log ⟨[j], [], false⟩ un = true)
  (h : WO (aops cf xf base r (log ++ [⟨[j], [], false⟩]) (T.upd d (.slc j g ver s off' len' cap')) H) QO) : WO (aops cf xf base (⟨some d, .call (.peek b) fn xs, g0, un⟩ :: r) log T H) QO :=
 Aq (v := .slc j g ver s off' len' cap') (fp := ⟨[j], [], false⟩) hw (by simp [aop, Fu, mL, ha, hst, hn, hn2, hF, hrow]) hl h
end
end Go.AI

