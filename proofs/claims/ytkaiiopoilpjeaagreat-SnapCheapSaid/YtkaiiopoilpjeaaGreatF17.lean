import Derived.Test.YtkaiiopoilpjeaaGreatF15
import Derived.Test.YtkaiiopoilpjeaaGreatMJ8
set_option linter.unusedSimpArgs false
set_option linter.unusedVariables false
set_option maxRecDepth 10000
namespace Go.Proofs.YtkaiiopoilpjeaaGreat
open Go.AI
def Aou (V : List (List UInt8)) (size : Nat) (f : Nat → Option (List UInt8)) : List (List UInt8) := (List.range size).map fun i => (f i).getD (V.getD i nW)
section
variable {l : List UInt8} {x : Img}
theorem Ajq (hI : IsImg l x) (hs : StOk (Ee x) (Dh x)) : StIn (Dh x) := by
 obtain ⟨w, ws, ht, _, hby, _⟩ := Hm hI
 have hm : (Dh x).m = w.m := by unfold Dh; rw [ht]; rfl
 exact ⟨fun i hi => by rw [hm]; exact beyond_iff.1 hby i hi, fun p hp => by cases hp⟩
theorem Akn (hI : IsImg l x) (hs : StOk (Ee x) (Dh x)) (i : Nat) : (Gq l x).head.getD i nW = Yl l (Dh x) i := by
 rw [← Anj hI hs, Af]
 by_cases h : i < (Dh x).size
 ·rw [Afz h]; rfl
 ·rw [Dt (by rw [Agz]; omega)]
  show nW = secB l ((Dh x).m.getD i 0)
  rw [(Ajq hI hs).zero i (by omega)]; rfl
theorem Ahq (hI : IsImg l x) (hs : StOk (Ee x) (Dh x)) {s : St} {size : Nat} {f : Nat → Option (List UInt8)} (hz : s.size = size) (h : ∀ i, i < size → Yl l s i = (f i).getD (Yl l (Dh x) i)) : Sc l s = Aou (Gq l x).head size f := by
 unfold Sc Aou
 rw [hz]
 exact Bk fun i hi => by rw [h i (Cc.1 hi), Akn hI hs i]
end
end Go.Proofs.YtkaiiopoilpjeaaGreat

