import Derived.Test.YtkaiiopoilpjeaaGreatMC
set_option linter.unusedSimpArgs false
set_option linter.unusedVariables false
namespace Go.AI
section
variable {cf : Dp} {xf : ExtF} {base fuel : Nat} {T : Tmps} {H : Heap} {QO : Tmps → Heap → Prop} {Q : Ex → Tmps → Heap → Prop} {log : List FP} {r : List SOper}
theorem Avq {d : Nat} {g0 : Option (Nat × Bool)} {un : List Nat} {b fn : Nat} {xs : List SArg} {rest : List AV} {t f f' : Bool} {s s' : Nat} {es es' : List AV} {cf : Dp} {xf : ExtF} {base : Nat} {T : Tmps} {H Hc : Heap} {QO : Tmps → Heap → Prop} {log : List FP} {r : List SOper} (ha : xs.map (SArg.ev T) = .islc t f s es :: rest) (hn : Cb rest = true) (hp : aT es = true)
  (hF : cf fn (base + b) (.islc false f s es :: rest) Heap.none = some (.islc false f' s' es', Hc)) (hp' : aT es' = true)
  (hw : Al T g0 = some true) (hl : Br log ⟨[], [], false⟩ un = true)
  (h : WO (aops cf xf base r (log ++ [⟨[], [], false⟩]) (T.upd d (.islc t f' s' es')) H) QO) : WO (aops cf xf base (⟨some d, .call (.peek b) fn xs, g0, un⟩ :: r) log T H) QO :=
 Bk (v := .islc t f' s' es') (fp := ⟨[], [], false⟩) hw (by simp [aop, Hq, yB, ha, hn, hp, hF, hp']) hl h
theorem Agd {d : Nat} {g0 : Option (Nat × Bool)} {un : List Nat} {b fn : Nat} {xs : List SArg} {rest : List AV} {j g ver s off len : Nat} {cap : Option Nat} {s' : Nat} {es : List AV} {off' len' : Nat} {cap' : Option Nat} {Hc : Heap}
  (ha : xs.map (SArg.ev T) = .slc j g ver s off len cap :: rest) (hst : (H j).st = .row s' es) (hn : Cb rest = true) (hn2 : Cb es = true)
  (hF : cf fn (base + b) (.slc j g ver s off len cap :: rest) (Ud H j s' es) = some (.slc j g ver s off' len' cap', Hc)) (hrow : (Hc.row j g ver s).isSome = true)
  (hw : Al T g0 = some true) (hl : Br log ⟨[j], [], false⟩ un = true)
  (h : WO (aops cf xf base r (log ++ [⟨[j], [], false⟩]) (T.upd d (.slc j g ver s off' len' cap')) H) QO) : WO (aops cf xf base (⟨some d, .call (.peek b) fn xs, g0, un⟩ :: r) log T H) QO :=
 Bk (v := .slc j g ver s off' len' cap') (fp := ⟨[j], [], false⟩) hw (by simp [aop, Hq, yB, ha, hst, hn, hn2, hF, hrow]) hl h
end
end Go.AI

