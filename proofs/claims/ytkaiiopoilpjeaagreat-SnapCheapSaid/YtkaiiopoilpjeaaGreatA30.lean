import Derived.Test.YtkaiiopoilpjeaaGreatMC
set_option linter.unusedSimpArgs false
set_option linter.unusedVariables false
namespace Go.AI
section
variable {cf : Dk} {xf : ExtF} {base fuel : Nat} {T : Tmps} {H : Heap} {QO : Tmps → Heap → Prop} {Q : Ex → Tmps → Heap → Prop} {log : List FP} {r : List SOper}
theorem Aqb {d : Nat} {g0 : Option (Nat × Bool)} {un : List Nat} {b fn : Nat} {xs : List SArg} {rest : List AV} {t f f' : Bool} {s s' : Nat} {es es' : List AV} {cf : Dk} {xf : ExtF} {base : Nat} {T : Tmps} {H Hc : Heap} {QO : Tmps → Heap → Prop} {log : List FP} {r : List SOper} (ha : xs.map (SArg.ev T) = .islc t f s es :: rest) (hn : Ca rest = true) (hp : Xw es = true)
  (hF : cf fn (base + b) (.islc false f s es :: rest) Heap.none = some (.islc false f' s' es', Hc)) (hp' : Xw es' = true)
  (hw : Aj T g0 = some true) (hl : Bn log ⟨[], [], false⟩ un = true)
  (h : WO (aops cf xf base r (log ++ [⟨[], [], false⟩]) (T.upd d (.islc t f' s' es')) H) QO) : WO (aops cf xf base (⟨some d, .call (.peek b) fn xs, g0, un⟩ :: r) log T H) QO :=
 Bf (v := .islc t f' s' es') (fp := ⟨[], [], false⟩) hw (by simp [aop, Hj, rY, ha, hn, hp, hF, hp']) hl h
theorem Asd {d : Nat} {g0 : Option (Nat × Bool)} {un : List Nat} {b fn : Nat} {xs : List SArg} {rest : List AV} {j g ver s off len : Nat} {cap : Option Nat} {s' : Nat} {es : List AV} {off' len' : Nat} {cap' : Option Nat} {Hc : Heap}
  (ha : xs.map (SArg.ev T) = .slc j g ver s off len cap :: rest) (hst : (H j).st = .row s' es) (hn : Ca rest = true) (hn2 : Ca es = true)
  (hF : cf fn (base + b) (.slc j g ver s off len cap :: rest) (Wh H j s' es) = some (.slc j g ver s off' len' cap', Hc)) (hrow : (Hc.row j g ver s).isSome = true)
  (hw : Aj T g0 = some true) (hl : Bn log ⟨[j], [], false⟩ un = true)
  (h : WO (aops cf xf base r (log ++ [⟨[j], [], false⟩]) (T.upd d (.slc j g ver s off' len' cap')) H) QO) : WO (aops cf xf base (⟨some d, .call (.peek b) fn xs, g0, un⟩ :: r) log T H) QO :=
 Bf (v := .slc j g ver s off' len' cap') (fp := ⟨[j], [], false⟩) hw (by simp [aop, Hj, rY, ha, hst, hn, hn2, hF, hrow]) hl h
end
end Go.AI

