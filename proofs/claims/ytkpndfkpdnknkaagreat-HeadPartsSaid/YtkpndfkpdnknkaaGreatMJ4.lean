/- Lemmas. -/
import Derived.Test.YtkpndfkpdnknkaaGreatJ19
set_option linter.unusedSimpArgs false
set_option linter.unusedVariables false
set_option maxRecDepth 10000
set_option maxHeartbeats 16000000
namespace Go.Proofs.YtkpndfkpdnknkaaGreat
open Go.AI
def sO (l : List UInt8) : Except (Nat × Nat) Img := if devB l.length then Zr l else .error (0, 2)
theorem Jr {l : List UInt8} {a e : Nat} (h : sO l = .error (a, e)) : e = 2 ∨ e = 6 ∨ e = 7 ∨ e = 8 := by
 unfold sO at h
 split at h
 ·exact .inr (Amw h)
 ·cases h; exact .inl rfl
theorem jN {l : List UInt8} {x : Img} (hl : l.length < 1000000) (h : sO l = .ok x) : Dev l ∧ x.fit l := by
 unfold sO at h
 split at h
 ·rename_i hd; exact ⟨⟨hl, hd⟩, cM ⟨hl, hd⟩ h⟩
 ·cases h
def Mg (r : Rec) : Bool := decide (r.kind = 0)
def idOk (id : Int) : Prop := 1 ≤ id ∧ id ≤ 4611686018427387903
instance (id : Int) : Decidable (idOk id) := by unfold idOk; infer_instance
attribute [local irreducible] aops Bp Cs Df aop W WO
theorem cX (k : Nat) (hk : 1000070 ≤ k) (f : Bool) (l : List UInt8) (hl : l.length < 1000000) : FnV (CF k) Wg [.islc false f 1 (BL l)] (Ta f l (sO l)) := by
 unfold sO
 by_cases hd : devB l.length
 ·rw [if_pos hd]; exact Axg k hk f l ⟨hl, hd⟩
 ·rw [if_neg hd]; exact Ams k hk false f 1 l hl hd
theorem On (y : Except Nat (List IoV)) : ∃ (uf : Bool) (us : Nat) (ues : List AV) (e : Nat), Ly y = .tup [.islc false uf us ues, .int .i64 e] := by
 cases y with
 | error e => exact ⟨true, 0, [], e, rfl⟩
 | ok ios => exact ⟨false, 3, ios.map IoV.av, 0, rfl⟩
end Go.Proofs.YtkpndfkpdnknkaaGreat
