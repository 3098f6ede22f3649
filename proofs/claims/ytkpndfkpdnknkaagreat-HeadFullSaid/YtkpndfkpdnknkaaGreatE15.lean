import Derived.Test.YtkpndfkpdnknkaaGreatF18
import Derived.Test.YtkpndfkpdnknkaaGreatJ45
import Derived.Test.YtkpndfkpdnknkaaGreatMD1
set_option linter.unusedSimpArgs false
set_option linter.unusedVariables false
set_option maxRecDepth 10000
set_option maxHeartbeats 16000000
namespace Go.Proofs.YtkpndfkpdnknkaaGreat
open Go.AI
def wb18 : List UInt8 := [0, 0, 0, 0, 0, 9] ++ List.replicate 58 0
def wr18 : List IoV := match Jw (newP 16) 3 with | .ok a => a | .error _ => []
def w18a : List UInt8 := Bs (newP 16) wr18
def ww18 : List IoV := match Kc w18a 1 wb18 with | .ok a => a | .error _ => []
def w18b : List UInt8 := Bs w18a ww18
def wk18 : Bool :=
 (match Jw (newP 16) 3 with | .ok _ => true | .error _ => false) && (match Kc w18a 1 wb18 with | .ok _ => true | .error _ => false) && Nat.beq ww18.length 7 &&
 (match Nl w18b 1 1 with | .ok c => decide (c = wb18) | .error _ => false) && (match Sv w18b 3 1 with | .error e => Nat.beq e 3 | .ok _ => false)
theorem Anz : wk18 = true := by kernel_rfl
theorem Aim : Jw (newP 16) 3 = .ok wr18 ∧ Kc w18a 1 wb18 = .ok ww18 ∧ ww18.length = 7 ∧ Nl w18b 1 1 = .ok wb18 ∧ Sv w18b 3 1 = .error 3 := by
 have h := Anz
 unfold wk18 at h
 simp only [Co] at h
 obtain ⟨⟨⟨⟨h1, h2⟩, h3⟩, h4⟩, h5⟩ := h
 refine ⟨?_, ?_, Ql h3, ?_, ?_⟩
 ·unfold wr18
  cases hc : Jw (newP 16) 3 with
  | ok a => rfl
  | error e => rw [hc] at h1; cases h1
 ·unfold ww18
  cases hc : Kc w18a 1 wb18 with
  | ok a => rfl
  | error e => rw [hc] at h2; cases h2
 ·cases hc : Nl w18b 1 1 with
  | ok a => rw [hc] at h4; rw [Ei h4]
  | error e => rw [hc] at h4; cases h4
 ·cases hc : Sv w18b 3 1 with
  | ok a => rw [hc] at h5; cases h5
  | error e => rw [hc] at h5; rw [Ql h5]
theorem Axp {l : List UInt8} {a e : Nat} (h : lookQ l = .error (a, e)) (m frm count source : Int) (d : List UInt8) : doP l m frm count source d = .error e := by
 have key : ∀ chk st, hdoP l chk st = .error e := fun chk st => by unfold hdoP; rw [h]
 unfold doP
 split
 ·exact key _ _
 ·split
  ·exact key _ _
  ·split
   ·exact key _ _
   ·exact key _ _
attribute [local irreducible] aops Bp Cs Df aop W WO
theorem Ua (k : Nat) (hk : 1000500 ≤ k) : FnV (CF k) eG [] (.bool true) := by
 obtain ⟨f1, f2, f3, f4, f5⟩ := Aim
 have hl0 : (newP 16).length < 1000000 := by
  unfold newP
  rw [Am, Mt]; simp
 obtain ⟨ok1, _, x1, x1', _, hO1, _⟩ := bE hl0 f1
 have hla : w18a.length < 1000000 := by show (Bs (newP 16) wr18).length < _; rw [hO1.len]; exact hl0
 obtain ⟨ok2, _, x2, x2', _, _, hO2, _⟩ := fG hla f2
 have hlb : w18b.length < 1000000 := by show (Bs w18a ww18).length < _; rw [hO2.len]; exact hla
 have pN : FnV (CF (k - 1)) Yy [.int .i64 16] (.tup [.islc false false 1 (BL (newP 16)), .int .i64 0]) := Asn (k - 1) (by omega) 16 (by decide)
 have pR := Rb (k - 1) (by omega) false (newP 16) hl0 3
 rw [f1] at pR
 have pA := Rv (k - 1) (by omega) false false (newP 16) hl0 false false 3 wr18 (.inl rfl) ok1.1 (fun y hy => (ok1.2 y hy).1)
 unfold Ny at pA
 rw [if_neg (fun h => h hO1.right)] at pA
 have pW := Xp (k - 1) (by omega) false w18a hla 1 true false 1 wb18 (.inl rfl) (by decide)
 rw [f2] at pW
 have pA2 := Rv (k - 1) (by omega) false false w18a hla false false 3 ww18 (.inl rfl) ok2.1 (fun y hy => (ok2.2 y hy).1)
 unfold Ny at pA2
 rw [if_neg (fun h => h hO2.right)] at pA2
 have pD := Qk (k - 1) (by omega) false w18b hlb 1 1
 rw [f4] at pD
 have pZ := qU (k - 1) (by omega) false w18b hlb 3 1
 rw [f5] at pZ
 have pB := Tr (k - 1) (by omega) false false true false 1 1 wb18 wb18 (by decide) (by decide) (.inl rfl) (.inl rfl)
 rw [An rfl] at pB
 unfold Ly at pR pW pZ
 have pA' : FnV (CF (k - 1)) Sb [.islc false false 1 (BL (newP 16)), .islc false false 3 (wr18.map IoV.av)] (.tup [.islc false false 1 (BL w18a), .int .i64 0]) := pA
 have pA2' : FnV (CF (k - 1)) Sb [.islc false false 1 (BL w18a), .islc false false 3 (ww18.map IoV.av)] (.tup [.islc false false 1 (BL w18b), .int .i64 0]) := pA2
 have pD' : FnV (CF (k - 1)) bL [.islc false false 1 (BL w18b), .int .i64 1, .int .i64 1] (.tup [.islc false false 1 (BL wb18), .int .i64 0]) := by
  have hb : Yc wb18 = .islc false false 1 (BL wb18) := if_neg (by decide)
  unfold Ue at pD
  simp only at pD
  rwa [hb] at pD
 simp only at pR pW pZ
 have hwl : (ww18.map IoV.av).length = 7 := by rw [Ah]; exact f3
 have hfz : ∀ {H : Heap} {g : Nat}, H 0 = ⟨g, false, .row 1 (BL wb18)⟩ → fz false 6 H (.slc 0 g 64 1 0 64 none) = .islc true false 1 (BL wb18) := by
  intro H g h0
  have hb : (BL wb18).length = 64 := by rw [BL_length]; rfl
  have e : (BL wb18).map (fz false 5 H) = BL wb18 := by
   unfold BL
   rw [Fh]
   exact Av fun _ _ => rfl
  rw [Oi (Ev h0 (by omega)) (by omega), Cd, Aj (by omega), e]
  rfl
 generalize newP 16 = l0 at *
 generalize w18a = la at *
 generalize w18b = lb at *
 generalize ww18 = ws at *
 generalize wr18 = rs at *
 refine fnk (by omega) wN rfl ?_
 unfold bW
 repeat' (first
  | refine qS ?_ | refine qN ?_ | refine Ab pN ?_ | refine Ab pR ?_ | refine Ab pA' ?_ | refine Ry 64 rfl rfl rfl (by decide) rfl rfl rfl ?_
  | refine Ab pW ?_ rfl (by exact Bk (fun z => [_, _, z]) (hfz (by rfl))) | refine Ab pA2' ?_ | refine Ab pD' ?_ | refine Ab pZ ?_
  | refine Ab pB ?_ rfl (by exact Bk (fun z => [_, z]) (hfz (by rfl))) | refine Bi (n := 7) rfl hwl rfl rfl ?_ | refine qQb ?_ | fail)
 exact ⟨Or.inr rfl, _, rfl, rfl⟩
theorem wV (l : List UInt8) (hm : l.length ≤ maxLen) (kind frm count source : Int) (d : List UInt8) (hdm : d.length ≤ maxLen) : ∃ H, CF 1000700 Oz 0 [.islc false false 1 (BL l), .int .i64 kind, .int .i64 frm, .int .i64 count, .int .i64 source, .islc false false 1 (BL d)] Heap.none = some (.bool true, H) := by
 suffices h : FnV (CF 1000700) Oz [.islc false false 1 (BL l), .int .i64 kind, .int .i64 frm, .int .i64 count, .int .i64 source, .islc false false 1 (BL d)] (.bool true) by
  obtain ⟨u, H, h1, h2⟩ := h
  refine ⟨H, ?_⟩
  rw [h1, dO h2]
 have hH := jX (1000700 - 1) (by omega) false false l
 have hW := Ua (1000700 - 1) (by omega)
 have hdl : (BL d).length = d.length := BL_length d
 by_cases hl1 : l.length > 19200
 ·rw [An hl1] at hH
  refine fnk (by omega) Gi rfl ?_
  unfold Fx
  repeat' (first | refine qS ?_ | refine qN ?_ | refine Ab hH ?_ | refine qQ ?_ | fail)
  exact ⟨Or.inr rfl, _, rfl, rfl⟩
 rw [Ba hl1] at hH
 have hl : l.length < 1000000 := by omega
 by_cases hd1 : d.length > 1280
 ·have hd1' : (d.length : Int) > 1280 := by omega
  refine fnk (by omega) Gi rfl ?_
  unfold Fx
  repeat' (first | refine qS ?_ | refine qN ?_ | refine Ab hH ?_ | refine Bi (n := d.length) rfl hdl rfl rfl ?_ | refine qQ ?_ | fail)
  exact ⟨Or.inr rfl, _, rfl, rfl⟩
 have hd1' : ¬ (d.length : Int) > 1280 := by omega
 obtain ⟨m, hm3, hm4⟩ : ∃ m : Int, kind % 18446744073709551616 % 4 = m ∧ (m = 0 ∨ m = 1 ∨ m = 2 ∨ m = 3) := ⟨_, rfl, by omega⟩
 have hm0 : 0 ≤ m ∧ m < 4 := by omega
 have pO := c_Do (1000700 - 1) (by omega) false l hl m hm4 frm count source false false 1 d (.inl rfl) (by omega)
 have pL := Awc (1000700 - 1) (by omega) false l hl
 cases hq : lookQ l with
 | error p =>
  obtain ⟨a, e⟩ := p
  have he := Jr hq
  have he' : (e : Int) ≠ 0 := by omega
  rw [Axp hq] at pO
  rw [hq] at pL
  unfold Ly at pO
  unfold wD at pL
  simp only at pO pL
  refine fnk (by omega) Gi rfl ?_
  unfold Fx
  repeat' (first | refine qS ?_ | refine qN ?_ | refine Ab hH ?_ | refine Bi (n := d.length) rfl hdl rfl rfl ?_ | refine Ab pO ?_ | refine Ab pL ?_ | refine Ab hW ?_ | (rw [hm3]) | refine qQ ?_ | fail)
  exact ⟨Or.inr rfl, _, rfl, rfl⟩
 | ok x =>
  rw [hq] at pL
  unfold wD at pL
  simp only at pL
  by_cases h9 : doP l m frm count source d = .error 9
  ·obtain ⟨x', hq', c1, c2, c3⟩ := Atd hl hm4 h9
   rw [hq] at hq'
   obtain rfl := Except.ok.inj hq'
   rw [h9] at pO
   unfold Ly at pO
   simp only at pO
   generalize (Cm (Bn l x)).length = F at *
   rcases hm4 with rfl | rfl | rfl | rfl
   ·have c1 := c1 rfl
    have hc : (F : Int) < (d.length : Int) / 64 + min (3 * ((d.length : Int) / 64)) 73 := by omega
    refine fnk (by omega) Gi rfl ?_
    unfold Fx
    repeat' (first | refine qS ?_ | refine qN ?_ | refine Ab hH ?_ | refine Bi (n := d.length) rfl hdl rfl rfl ?_ | refine Ab pO ?_ | refine Ab pL ?_ | refine Ab hW ?_ | (rw [hm3]) | refine qQ ?_ | fail)
    exact ⟨Or.inr rfl, _, rfl, rfl⟩
   ·obtain ⟨c2, c4, c5⟩ := c2 (.inl rfl)
    have hc : (F : Int) < 0 + min (3 * count) 73 := by omega
    refine fnk (by omega) Gi rfl ?_
    unfold Fx
    repeat' (first | refine qS ?_ | refine qN ?_ | refine Ab hH ?_ | refine Bi (n := d.length) rfl hdl rfl rfl ?_ | refine Ab pO ?_ | refine Ab pL ?_ | refine Ab hW ?_ | (rw [hm3]) | refine qQ ?_ | fail)
    exact ⟨Or.inr rfl, _, rfl, rfl⟩
   ·obtain ⟨c2, c4, c5⟩ := c2 (.inr rfl)
    have hc : (F : Int) < 0 + min (3 * count) 73 := by omega
    refine fnk (by omega) Gi rfl ?_
    unfold Fx
    repeat' (first | refine qS ?_ | refine qN ?_ | refine Ab hH ?_ | refine Bi (n := d.length) rfl hdl rfl rfl ?_ | refine Ab pO ?_ | refine Ab pL ?_ | refine Ab hW ?_ | (rw [hm3]) | refine qQ ?_ | fail)
    exact ⟨Or.inr rfl, _, rfl, rfl⟩
   ·have c3 := c3 rfl
    refine fnk (by omega) Gi rfl ?_
    unfold Fx
    repeat' (first | refine qS ?_ | refine qN ?_ | refine Ab hH ?_ | refine Bi (n := d.length) rfl hdl rfl rfl ?_ | refine Ab pO ?_ | refine Ab pL ?_ | refine Ab hW ?_ | (rw [hm3]) | refine qQ ?_ | fail)
    exact ⟨Or.inr rfl, _, rfl, rfl⟩
  ·obtain ⟨f, s, es, e, hio, hne⟩ : ∃ (f : Bool) (s : Nat) (es : List AV) (e : Nat), Ly (doP l m frm count source d) = .tup [.islc false f s es, .int .i64 e] ∧ (e : Int) ≠ 9 := by
    cases hd : doP l m frm count source d with
    | error e => exact ⟨_, _, _, e, rfl, fun h => h9 (by rw [hd]; congr 1; omega)⟩
    | ok ios => exact ⟨_, _, _, 0, rfl, by decide⟩
   rw [hio] at pO
   refine fnk (by omega) Gi rfl ?_
   unfold Fx
   repeat' (first | refine qS ?_ | refine qN ?_ | refine Ab hH ?_ | refine Bi (n := d.length) rfl hdl rfl rfl ?_ | refine Ab pO ?_ | refine Ab pL ?_ | refine Ab hW ?_ | (rw [hm3]) | refine qQ ?_ | fail)
   exact ⟨Or.inr rfl, _, rfl, rfl⟩
end Go.Proofs.YtkpndfkpdnknkaaGreat

