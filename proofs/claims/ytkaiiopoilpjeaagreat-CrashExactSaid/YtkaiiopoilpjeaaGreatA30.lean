import Derived.Test.YtkaiiopoilpjeaaGreatMC
set_option linter.unusedSimpArgs false
set_option linter.unusedVariables false
namespace Go.AI
def HasH (H : Heap) : List (Nat × Blk) → Prop
 | [] => True
 | (j, b) :: r => H j = b ∧ HasH H r
section
variable {cf : Dk} {xf : ExtF} {base fuel : Nat} {T : Tmps} {H : Heap} {QO : Tmps → Heap → Prop} {Q : Ex → Tmps → Heap → Prop} {log : List FP} {r : List SOper}
theorem Bkg (ps : List (Nat × AV)) (hs : List (Nat × Blk)) (hT : Has T ps) (hH : HasH H hs) (h : ∀ T H, Has T ps → HasH H hs → WO (aops cf xf base r log (over T ps) H) QO) : WO (aops cf xf base r log T H) QO := by
 have := h T H hT hH
 rwa [← hT.eq] at this
theorem Bgh {c : SCode} (ps : List (Nat × AV)) (hs : List (Nat × Blk)) (hT : Has T ps) (hH : HasH H hs) (h : ∀ T H, Has T ps → HasH H hs → W (Br cf xf base fuel c (over T ps) H) Q) : W (Br cf xf base fuel c T H) Q := by
 have := h T H hT hH
 rwa [← hT.eq] at this
theorem Beq (ps : List (Nat × AV)) (hT : Has T ps) (h : ∀ T, Has T ps → WO (aops cf xf base r log (over T ps) H) QO) : WO (aops cf xf base r log T H) QO := by
 have := h T hT
 rwa [← hT.eq] at this
theorem Biw {c : SCode} (ps : List (Nat × AV)) (hT : Has T ps) (h : ∀ T, Has T ps → W (Br cf xf base fuel c (over T ps) H) Q) : W (Br cf xf base fuel c T H) Q := by
 have := h T hT
 rwa [← hT.eq] at this
theorem Asd {d : Nat} {g0 : Option (Nat × Bool)} {un : List Nat} {b fn : Nat} {xs : List SArg} {rest : List AV} {j g ver s off len : Nat} {cap : Option Nat} {s' : Nat} {es : List AV} {off' len' : Nat} {cap' : Option Nat} {Hc : Heap}
  (ha : xs.map (SArg.ev T) = .slc j g ver s off len cap :: rest) (hst : (H j).st = .row s' es) (hn : Ca rest = true) (hn2 : Ca es = true)
  (hF : cf fn (base + b) (.slc j g ver s off len cap :: rest) (Wh H j s' es) = some (.slc j g ver s off' len' cap', Hc)) (hrow : (Hc.row j g ver s).isSome = true)
  (hw : Aj T g0 = some true) (hl : Bn log ⟨[j], [], false⟩ un = true)
  (h : WO (aops cf xf base r (log ++ [⟨[j], [], false⟩]) (T.upd d (.slc j g ver s off' len' cap')) H) QO) : WO (aops cf xf base (⟨some d, .call (.peek b) fn xs, g0, un⟩ :: r) log T H) QO :=
 Bf (v := .slc j g ver s off' len' cap') (fp := ⟨[j], [], false⟩) hw (by simp [aop, Hj, rY, ha, hst, hn, hn2, hF, hrow]) hl h
end
end Go.AI

