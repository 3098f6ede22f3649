import Derived.Test.YtkpndfkpdnknkaaGreatMJ4
set_option linter.unusedSimpArgs false
set_option linter.unusedVariables false
set_option maxRecDepth 10000
set_option maxHeartbeats 16000000
namespace Go.Proofs.YtkpndfkpdnknkaaGreat
open Go.AI
attribute [local irreducible] aops Bp Cs Df aop W WO
theorem Alw (k : Nat) (hk : 1000090 ≤ k) (f : Bool) (l : List UInt8) (hl : l.length < 1000000) : FnV (CF k) nT [.islc false f 1 (BL l)] (rB (lookQ l)) := by
 have hlk := cX (k - 1) (by omega) f l hl
 refine fnk (by omega) Agk rfl ?_
 unfold lY
 cases h : lookQ l with
 | error p =>
  obtain ⟨a, e⟩ := p
  have he := Jr h
  rw [h] at hlk
  unfold Ta at hlk
  unfold rB
  simp only at hlk ⊢
  have he0 : (e : Int) ≠ 0 := by omega
  repeat' (first | refine Bf (hlk) (fun _ => ?_) (fun _ => ?_) | refine Ab (hlk) ?_ | refine qQb ?_ | refine Af (fun _ => ?_) (fun _ => ?_))
  exact ⟨Or.inr rfl, _, rfl, rfl⟩
 | ok x =>
  rw [h] at hlk
  unfold Ta at hlk
  unfold rB
  simp only at hlk ⊢
  obtain ⟨s, slot, recs, blocks, trees⟩ := x
  unfold Img.cs at hlk
  unfold stCs
  simp only at hlk ⊢
  obtain ⟨f1, s1, hr, _⟩ := rIvF recs
  obtain ⟨f2, s2, hb, _⟩ := Kr blocks
  rw [hr, hb] at hlk
  rw [hr]
  repeat' (first | refine qS ?_ | refine Em ?_ | refine Bf (hlk) (fun _ => ?_) (fun _ => ?_) | refine Ab (hlk) ?_ | refine qQb ?_ | refine Af (fun _ => ?_) (fun _ => ?_))
  exact ⟨Or.inr rfl, _, rfl, rfl⟩
end Go.Proofs.YtkpndfkpdnknkaaGreat

