import Derived.Test.YtkpndfkpdnknkaaGreatMC
set_option linter.unusedSimpArgs false
set_option linter.unusedVariables false
namespace Go.AI
section
variable {cf : Dh} {xf : ExtF} {base fuel : Nat} {T : Tmps} {H : Heap} {QO : Tmps → Heap → Prop} {Q : Ex → Tmps → Heap → Prop} {log : List FP} {r : List SOper}
theorem Arr {d : Nat} {g0 : Option (Nat × Bool)} {un : List Nat} {b fn : Nat} {xs : List SArg} {rest : List AV} {t f f' : Bool} {s s' : Nat} {es es' : List AV} {cf : Dh} {xf : ExtF} {base : Nat} {T : Tmps} {H Hc : Heap} {QO : Tmps → Heap → Prop} {log : List FP} {r : List SOper} (ha : xs.map (SArg.ev T) = .islc t f s es :: rest) (hn : Cf rest = true) (hp : Yg es = true)
  (hF : cf fn (base + b) (.islc false f s es :: rest) Heap.none = some (.islc false f' s' es', Hc)) (hp' : Yg es' = true)
  (hw : Ai T g0 = some true) (hl : Bm log ⟨[], [], false⟩ un = true)
  (h : WO (aops cf xf base r (log ++ [⟨[], [], false⟩]) (T.upd d (.islc t f' s' es')) H) QO) : WO (aops cf xf base (⟨some d, .call (.peek b) fn xs, g0, un⟩ :: r) log T H) QO :=
 Bg (v := .islc t f' s' es') (fp := ⟨[], [], false⟩) hw (by simp [aop, Hp, rX, ha, hn, hp, hF, hp']) hl h
theorem Atg {d : Nat} {g0 : Option (Nat × Bool)} {un : List Nat} {b fn : Nat} {xs : List SArg} {rest : List AV} {j g ver s off len : Nat} {cap : Option Nat} {s' : Nat} {es : List AV} {off' len' : Nat} {cap' : Option Nat} {Hc : Heap}
  (ha : xs.map (SArg.ev T) = .slc j g ver s off len cap :: rest) (hst : (H j).st = .row s' es) (hn : Cf rest = true) (hn2 : Cf es = true)
  (hF : cf fn (base + b) (.slc j g ver s off len cap :: rest) (Xt H j s' es) = some (.slc j g ver s off' len' cap', Hc)) (hrow : (Hc.row j g ver s).isSome = true)
  (hw : Ai T g0 = some true) (hl : Bm log ⟨[j], [], false⟩ un = true)
  (h : WO (aops cf xf base r (log ++ [⟨[j], [], false⟩]) (T.upd d (.slc j g ver s off' len' cap')) H) QO) : WO (aops cf xf base (⟨some d, .call (.peek b) fn xs, g0, un⟩ :: r) log T H) QO :=
 Bg (v := .slc j g ver s off' len' cap') (fp := ⟨[j], [], false⟩) hw (by simp [aop, Hp, rX, ha, hst, hn, hn2, hF, hrow]) hl h
end
end Go.AI

