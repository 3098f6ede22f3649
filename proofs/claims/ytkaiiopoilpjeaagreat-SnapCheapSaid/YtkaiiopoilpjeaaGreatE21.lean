import Derived.Test.YtkaiiopoilpjeaaGreatF21
import Derived.Test.YtkaiiopoilpjeaaGreatMF
import Derived.Test.YtkaiiopoilpjeaaGreatMD2b
set_option linter.unusedSimpArgs false
set_option linter.unusedVariables false
set_option maxRecDepth 10000
set_option maxHeartbeats 16000000
namespace Go.Proofs.YtkaiiopoilpjeaaGreat
open Go.AI
attribute [local irreducible] aops Br Cp Dp aop W WO
theorem tX (size id : Int) (d : List UInt8) (hdm : d.length ≤ maxLen) : ∃ H, CF 1000700 Pq 0 [.int .i64 size, .int .i64 id, .islc false false 1 (BL d)] Heap.none = some (.bool true, H) := by
 suffices h : FnV (CF 1000700) Pq [.int .i64 size, .int .i64 id, .islc false false 1 (BL d)] (.bool true) by
  obtain ⟨u, H, h1, h2⟩ := h
  refine ⟨H, ?_⟩
  rw [h1, Ato h2]
 have hW := Amj (1000700 - 1) (by omega)
 have hdl : (BL d).length = d.length := BL_length d
 by_cases hd1 : d.length > 1280
 ·have hd1' : (d.length : Int) > 1280 := by omega
  refine fnk (by omega) Mj rfl ?_
  unfold Kg
  repeat' (first | refine qS ?_ | refine qN ?_ | refine Bh (n := d.length) rfl hdl rfl rfl ?_ | refine qQ ?_ | fail)
  exact ⟨Or.inr rfl, _, rfl, rfl⟩
 have hd1' : ¬ (d.length : Int) > 1280 := by omega
 by_cases hd2 : d.length % 64 ≠ 0
 ·have hd2' : (d.length : Int) % 64 ≠ 0 := by omega
  refine fnk (by omega) Mj rfl ?_
  unfold Kg
  repeat' (first | refine qS ?_ | refine qN ?_ | refine Bh (n := d.length) rfl hdl rfl rfl ?_ | refine qQ ?_ | fail)
  exact ⟨Or.inr rfl, _, rfl, rfl⟩
 have hd2' : ¬ (d.length : Int) % 64 ≠ 0 := by omega
 obtain ⟨m, hm⟩ : ∃ m : Nat, (d.length : Int) / 64 = m := ⟨d.length / 64, by omega⟩
 obtain ⟨s, hs⟩ : ∃ s : Nat, size % 18446744073709551616 % 100 = s := ⟨(size % 18446744073709551616 % 100).toNat, by omega⟩
 obtain ⟨a, ha⟩ : ∃ a : Nat, 1 + id % 18446744073709551616 % 1000 = a := ⟨(1 + id % 18446744073709551616 % 1000).toNat, by omega⟩
 have hdm6 : d.length = 64 * m := by omega
 have hm20 : m ≤ 20 := by omega
 obtain ⟨rs, hrs, hok, hst, hl1, hcases⟩ := Akz (s := s) hm20 (by omega) hdm6
 have hl0 : (newP 140).length < 1000000 := by
  obtain ⟨x0, hB0, _⟩ := Adt (n := 140) (by decide) (by decide)
  exact hB0.dev.1
 have pN : FnV (CF (1000700 - 1)) Xg [.int .i64 140] (.tup [.islc false false 1 (BL (newP 140)), .int .i64 0]) := Aux (1000700 - 1) (by omega) 140 (by decide)
 have pZ := Aki (1000700 - 1) (by omega) false (newP 140) hl0 ((m : Int) + s)
 rw [hrs] at pZ
 unfold dG at pZ
 simp only at pZ
 have pA := iD (1000700 - 1) (by omega) false false (newP 140) hl0 false false 3 rs (.inl rfl) hok.1 (fun y hy => (hok.2 y hy).1)
 unfold Xv at pA
 rw [if_neg (fun h => h hst)] at pA
 generalize Bt (newP 140) rs = l1 at *
 generalize newP 140 = l0 at *
 have hX : ∃ (X : List UInt8) (x : Img) (g : Nat), Bare X x 140 g ∧ g ≤ 3 ∧ 1 ≤ (Cd (Ay X x)).length ∧ ((m = 0 ∧ X = l1) ∨ (0 < m ∧ ∃ ws : List IoV, FnV (CF (1000700 - 1)) Ww [.islc false false 1 (BL l1), .int .i64 (s : Nat), .islc false false 1 (BL d)] (.tup [.islc false false 3 (ws.map IoV.av), .int .i64 0]) ∧
   FnV (CF (1000700 - 1)) Uq [.islc false false 1 (BL l1), .islc false false 3 (ws.map IoV.av)] (.tup [.islc false false 1 (BL X), .int .i64 0]))) := by
  rcases hcases with ⟨h0, x, hB, hf⟩ | ⟨h0, ws, x, hw, hokw, hstw, hB, hf⟩
  ·exact ⟨l1, x, 2, hB, by omega, hf, .inl ⟨h0, rfl⟩⟩
  ·have pW := Aqy (1000700 - 1) (by omega) false l1 hl1 s false false 1 d (.inl rfl) (by omega)
   rw [hw] at pW
   unfold dG at pW
   simp only at pW
   have pB := iD (1000700 - 1) (by omega) false false l1 hl1 false false 3 ws (.inl rfl) hokw.1 (fun y hy => (hokw.2 y hy).1)
   unfold Xv at pB
   rw [if_neg (fun h => h hstw)] at pB
   exact ⟨_, x, 3, hB, by omega, hf, .inr ⟨h0, ws, pW, pB⟩⟩
 obtain ⟨X, x, g, hB, hg, hf, hcase⟩ := hX
 obtain ⟨c, e, x2, x3, hc, hokc, hstc, hq2, hl2, hcnt, he, hoke, hste, hq3, hl3, hcnt3, hv3⟩ := hB.cheap (by omega) (id := a) (by omega) (by omega) hf
 have hX1 := hB.dev.1
 have hq := hB.lk
 have pC := sV (1000700 - 1) (by omega) false X hX1 a
 rw [hc] at pC
 have qA := iD (1000700 - 1) (by omega) false false X hX1 false false 3 c (.inl rfl) hokc.1 (fun y hy => (hokc.2 y hy).1)
 unfold Xv at qA
 rw [if_neg (fun h => h hstc)] at qA
 have pE := Adq (1000700 - 1) (by omega) false (Bt X c) hl2 a
 rw [he] at pE
 have rA := iD (1000700 - 1) (by omega) false false (Bt X c) hl2 false false 3 e (.inl rfl) hoke.1 (fun y hy => (hoke.2 y hy).1)
 unfold Xv at rA
 rw [if_neg (fun h => h hste)] at rA
 have k1 := Afe (1000700 - 1) (by omega) false X hX1
 have k2 := Afe (1000700 - 1) (by omega) false (Bt X c) hl2
 have k3 := Afe (1000700 - 1) (by omega) false (Bt (Bt X c) e) hl3
 have v1 := vV (1000700 - 1) (by omega) false X hX1
 have v3 := vV (1000700 - 1) (by omega) false (Bt (Bt X c) e) hl3
 rw [hq] at k1 v1
 rw [hq2] at k2
 rw [hq3] at k3 v3
 unfold dG at pC pE
 unfold Abb at k1 k2 k3
 unfold Ajv at v1 v3
 simp only at pC pE k1 k2 k3 v1 v3
 rw [hv3] at v3
 have hvo := Aok hB.dev hB.fit
 have hFb : (Cd (Ay X x)).length ≤ 4096 := by
  have h1 := kW (Ay X x)
  have h2 := (Oe hB.fit).1
  have h3 := hB.dev.nb
  omega
 generalize (Cd (Ay X x)).length = F1 at *
 generalize (Cd (Ay (Bt X c) x2)).length = F2 at *
 generalize (Cd (Ay (Bt (Bt X c) e) x3)).length = F3 at *
 generalize Bt (Bt X c) e = X3 at *
 generalize Bt X c = X2 at *
 generalize Gq X x = v at *
 have kV := Avs (1000700 - 1) (by omega) v v hvo hvo
 rw [As rfl] at kV
 obtain ⟨a2, a3, b2, b3, hva⟩ := Afl v
 have hva' : AV.agg v.cs = _ := hva
 rw [hva'] at v1 v3
 rw [hva] at kV
 have hF1 : (F1 : Int) = (F2 : Int) + 1 := by omega
 have hF3 : (F3 : Int) = (F1 : Int) := by omega
 have hsub : (m : Int) + (s : Int) - (m : Int) = (s : Nat) := by omega
 rcases hcase with ⟨h0, hXl⟩ | ⟨h0, ws, pW, pB⟩
 ·subst hXl
  have h0' : ¬ (m : Int) > 0 := by omega
  refine fnk (by omega) Mj rfl ?_
  unfold Kg
  repeat' (first
   | refine qS ?_ | refine qN ?_ | refine Bh (n := d.length) rfl hdl rfl rfl ?_ | refine Ae pN ?_ | refine Ae pZ ?_ | refine Ae pA ?_ | refine Ae pC ?_
   | refine Ae qA ?_ | refine Ae pE ?_ | refine Ae rA ?_ | refine Ae k1 ?_ | refine Ae k2 ?_ | refine Ae k3 ?_ | refine Ae v1 ?_ | refine Ae v3 ?_
   | refine Ae kV ?_ | refine Ae hW ?_ | refine Iw ?_ (hl := by kernel_rfl) | (rw [hm]) | (rw [hs]) | (rw [ha]) | refine qQ ?_ | fail)
  exact ⟨Or.inr rfl, _, rfl, rfl⟩
 ·have h0' : (m : Int) > 0 := by omega
  refine fnk (by omega) Mj rfl ?_
  unfold Kg
  repeat' (first
   | refine qS ?_ | refine qN ?_ | refine Bh (n := d.length) rfl hdl rfl rfl ?_ | refine Ae pN ?_ | refine Ae pZ ?_ | refine Ae pA ?_ | refine Ae pW ?_
   | refine Ae pB ?_ | refine Ae pC ?_ | refine Ae qA ?_ | refine Ae pE ?_ | refine Ae rA ?_ | refine Ae k1 ?_ | refine Ae k2 ?_ | refine Ae k3 ?_
   | refine Ae v1 ?_ | refine Ae v3 ?_ | refine Ae kV ?_ | refine Ae hW ?_ | refine Iw ?_ (hl := by kernel_rfl) | (rw [hm]) | (rw [hs]) | (rw [ha]) | (rw [hsub])
   | refine qQ ?_ | fail)
  exact ⟨Or.inr rfl, _, rfl, rfl⟩
end Go.Proofs.YtkaiiopoilpjeaaGreat

