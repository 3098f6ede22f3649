import Derived.Test.YtkpndfkpdnknkaaGreatJ18
set_option linter.unusedSimpArgs false
set_option linter.unusedVariables false
set_option maxRecDepth 10000
set_option maxHeartbeats 16000000
namespace Go.Proofs.YtkpndfkpdnknkaaGreat
open Go.AI
theorem Adl (c : List Nat) : Avz (Cm c) := by
 have h : (Cm c).Pairwise (· < ·) := (List.pairwise_lt_range).filter _
 intro i hi
 have h2 := List.pairwise_iff_getElem.1 h i (i + 1) (by omega) hi (by omega)
 simp only [Ae, Aa hi, Aa (show i < (Cm c).length by omega), Asw]
 exact h2
theorem Amr (c : List Nat) : (Cm c).length ≤ c.length := by
 have := Fg (Lr c) (List.range c.length)
 unfold Cm
 simpa using this
attribute [local irreducible] aops Bp Cs Df aop W WO
def Ly : Except Nat (List IoV) → AV
 | .ok ios => .tup [.islc false false 3 (ios.map IoV.av), .int .i64 0]
 | .error e => .tup [.islc false true 0 [], .int .i64 e]
end Go.Proofs.YtkpndfkpdnknkaaGreat

