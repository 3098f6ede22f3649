import Derived.Test.YtkpndfkpdnknkaaGreatF18
import Derived.Test.YtkpndfkpdnknkaaGreatJ45
import Derived.Test.YtkpndfkpdnknkaaGreatMD1
set_option linter.unusedSimpArgs false
set_option linter.unusedVariables false
set_option maxRecDepth 10000
set_option maxHeartbeats 16000000
namespace Go.Proofs.YtkpndfkpdnknkaaGreat
open Go.AI
def wb18 : List UInt8 := [0, 0, 0, 0, 0, 9] ++ List.replicate 58 0
def wr18 : List IoV := match Jw (newP 16) 3 with | .ok a => a | .error _ => []
def w18a : List UInt8 := Bs (newP 16) wr18
def ww18 : List IoV := match Kc w18a 1 wb18 with | .ok a => a | .error _ => []
def w18b : List UInt8 := Bs w18a ww18
def wk18 : Bool :=
 (match Jw (newP 16) 3 with | .ok _ => true | .error _ => false) && (match Kc w18a 1 wb18 with | .ok _ => true | .error _ => false) && Nat.beq ww18.length 7 &&
 (match Nl w18b 1 1 with | .ok c => decide (c = wb18) | .error _ => false) && (match Sv w18b 3 1 with | .error e => Nat.beq e 3 | .ok _ => false)
theorem Anz : wk18 = true := by kernel_rfl
theorem Aim : Jw (newP 16) 3 = .ok wr18 ∧ Kc w18a 1 wb18 = .ok ww18 ∧ ww18.length = 7 ∧ Nl w18b 1 1 = .ok wb18 ∧ Sv w18b 3 1 = .error 3 := by
 have h := Anz
 unfold wk18 at h
 simp only [Co] at h
 obtain ⟨⟨⟨⟨h1, h2⟩, h3⟩, h4⟩, h5⟩ := h
 refine ⟨?_, ?_, Ql h3, ?_, ?_⟩
 ·unfold wr18
  cases hc : Jw (newP 16) 3 with
  | ok a => rfl
  | error e => rw [hc] at h1; cases h1
 ·unfold ww18
  cases hc : Kc w18a 1 wb18 with
  | ok a => rfl
  | error e => rw [hc] at h2; cases h2
 ·cases hc : Nl w18b 1 1 with
  | ok a => rw [hc] at h4; rw [Ei h4]
  | error e => rw [hc] at h4; cases h4
 ·cases hc : Sv w18b 3 1 with
  | ok a => rw [hc] at h5; cases h5
  | error e => rw [hc] at h5; rw [Ql h5]
attribute [local irreducible] aops Bp Cs Df aop W WO
theorem Ua (k : Nat) (hk : 1000500 ≤ k) : FnV (CF k) eG [] (.bool true) := by
 obtain ⟨f1, f2, f3, f4, f5⟩ := Aim
 have hl0 : (newP 16).length < 1000000 := by
  unfold newP
  rw [Am, Mt]; simp
 obtain ⟨ok1, _, x1, x1', _, hO1, _⟩ := bE hl0 f1
 have hla : w18a.length < 1000000 := by show (Bs (newP 16) wr18).length < _; rw [hO1.len]; exact hl0
 obtain ⟨ok2, _, x2, x2', _, _, hO2, _⟩ := fG hla f2
 have hlb : w18b.length < 1000000 := by show (Bs w18a ww18).length < _; rw [hO2.len]; exact hla
 have pN : FnV (CF (k - 1)) Yy [.int .i64 16] (.tup [.islc false false 1 (BL (newP 16)), .int .i64 0]) := Asn (k - 1) (by omega) 16 (by decide)
 have pR := Rb (k - 1) (by omega) false (newP 16) hl0 3
 rw [f1] at pR
 have pA := Rv (k - 1) (by omega) false false (newP 16) hl0 false false 3 wr18 (.inl rfl) ok1.1 (fun y hy => (ok1.2 y hy).1)
 unfold Ny at pA
 rw [if_neg (fun h => h hO1.right)] at pA
 have pW := Xp (k - 1) (by omega) false w18a hla 1 true false 1 wb18 (.inl rfl) (by decide)
 rw [f2] at pW
 have pA2 := Rv (k - 1) (by omega) false false w18a hla false false 3 ww18 (.inl rfl) ok2.1 (fun y hy => (ok2.2 y hy).1)
 unfold Ny at pA2
 rw [if_neg (fun h => h hO2.right)] at pA2
 have pD := Qk (k - 1) (by omega) false w18b hlb 1 1
 rw [f4] at pD
 have pZ := qU (k - 1) (by omega) false w18b hlb 3 1
 rw [f5] at pZ
 have pB := Tr (k - 1) (by omega) false false true false 1 1 wb18 wb18 (by decide) (by decide) (.inl rfl) (.inl rfl)
 rw [An rfl] at pB
 unfold Ly at pR pW pZ
 have pA' : FnV (CF (k - 1)) Sb [.islc false false 1 (BL (newP 16)), .islc false false 3 (wr18.map IoV.av)] (.tup [.islc false false 1 (BL w18a), .int .i64 0]) := pA
 have pA2' : FnV (CF (k - 1)) Sb [.islc false false 1 (BL w18a), .islc false false 3 (ww18.map IoV.av)] (.tup [.islc false false 1 (BL w18b), .int .i64 0]) := pA2
 have pD' : FnV (CF (k - 1)) bL [.islc false false 1 (BL w18b), .int .i64 1, .int .i64 1] (.tup [.islc false false 1 (BL wb18), .int .i64 0]) := by
  have hb : Yc wb18 = .islc false false 1 (BL wb18) := if_neg (by decide)
  unfold Ue at pD
  simp only at pD
  rwa [hb] at pD
 simp only at pR pW pZ
 have hwl : (ww18.map IoV.av).length = 7 := by rw [Ah]; exact f3
 have hfz : ∀ {H : Heap} {g : Nat}, H 0 = ⟨g, false, .row 1 (BL wb18)⟩ → fz false 6 H (.slc 0 g 64 1 0 64 none) = .islc true false 1 (BL wb18) := by
  intro H g h0
  have hb : (BL wb18).length = 64 := by rw [BL_length]; rfl
  have e : (BL wb18).map (fz false 5 H) = BL wb18 := by
   unfold BL
   rw [Fh]
   exact Av fun _ _ => rfl
  rw [Oi (Ev h0 (by omega)) (by omega), Cd, Aj (by omega), e]
  rfl
 generalize newP 16 = l0 at *
 generalize w18a = la at *
 generalize w18b = lb at *
 generalize ww18 = ws at *
 generalize wr18 = rs at *
 refine fnk (by omega) wN rfl ?_
 unfold bW
 repeat' (first
  | refine qS ?_ | refine qN ?_ | refine Ab pN ?_ | refine Ab pR ?_ | refine Ab pA' ?_ | refine Ry 64 rfl rfl rfl (by decide) rfl rfl rfl ?_
  | refine Ab pW ?_ rfl (by exact Bk (fun z => [_, _, z]) (hfz (by rfl))) | refine Ab pA2' ?_ | refine Ab pD' ?_ | refine Ab pZ ?_
  | refine Ab pB ?_ rfl (by exact Bk (fun z => [_, z]) (hfz (by rfl))) | refine Bi (n := 7) rfl hwl rfl rfl ?_ | refine qQb ?_ | fail)
 exact ⟨Or.inr rfl, _, rfl, rfl⟩
end Go.Proofs.YtkpndfkpdnknkaaGreat

