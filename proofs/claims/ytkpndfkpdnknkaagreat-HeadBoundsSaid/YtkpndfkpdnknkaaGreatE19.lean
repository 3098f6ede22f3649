import Derived.Test.YtkpndfkpdnknkaaGreatE18
import Derived.Test.YtkpndfkpdnknkaaGreatF19
set_option linter.unusedSimpArgs false
set_option linter.unusedVariables false
set_option maxRecDepth 10000
set_option maxHeartbeats 16000000
namespace Go.Proofs.YtkpndfkpdnknkaaGreat
open Go.AI
theorem Aav {z a m : Nat} (hz : z ≤ 512) (hm1 : 1 ≤ m) (hm6 : m ≤ 6) : ∃ (rs : List IoV) (l1 : List UInt8), Jw (newP 40) z = .ok rs ∧ Sn rs ∧ Kw (newP 40) rs = 0 ∧ Bs (newP 40) rs = l1 ∧ l1.length < 1000000 ∧
  (a + m ≤ z → Nl l1 a m = .ok (List.replicate (64 * m) 0) ∧ (∃ i, Kc l1 a (List.replicate (64 * m) 0) = .ok i) ∧ (∃ i, Sv l1 a m = .ok i) ∧ (∃ i, Rw l1 a m 0 = .ok i) ∧ ∃ i, Rw l1 0 m a = .ok i) ∧
  (z < a + m → Nl l1 a m = .error 3 ∧ Kc l1 a (List.replicate (64 * m) 0) = .error 3 ∧ Sv l1 a m = .error 3 ∧ Rw l1 a m 0 = .error 3 ∧ Rw l1 0 m a = .error 3) ∧
  Nl l1 z 0 = .ok [] ∧ Nl l1 ((z : Int) + 1) 0 = .error 3 ∧ Kc l1 0 (List.replicate (64 * m + 1) 0) = .error 1 ∧ Sv l1 0 0 = .error 1 ∧ Jw l1 (512 + m) = .error 1 := by
 obtain ⟨x0, hB0, hw0, hv0⟩ := vQ (n := 40) (by decide) (by decide)
 have hf0 := hB0.free (by rw [hw0]; rfl)
 obtain ⟨rs, x1, hrs, hO, hok, hB1, hs1, hv1, hz1⟩ := hB0.resize (by decide) hz (.inl (by omega))
 have hm0 : (Bh x0).m = ws0.m := by
  show (x0.trees.headD _).m = _
  have : Ez x0 = ws0 := hw0
  unfold Ez at this
  rw [this]
 have hw1 := hz1 fun i _ => by rw [hm0]; exact Aqa i
 have hf1 := hB1.free (by rw [hw1]; rfl)
 rw [hv0, Aig] at hv1
 have hl0 : (newP 40).length < 1000000 := hB0.dev.1
 have hl1 : (Bs (newP 40) rs).length < 1000000 := hB1.dev.1
 have hq1 := hB1.lk
 have hh1 : (Ci (Bs (newP 40) rs) x1).head = List.replicate z Iz := by rw [hv1]
 generalize hla : Bs (newP 40) rs = l1 at *
 have hhl : (Ci l1 x1).head.length = z := by rw [hh1, Ca]
 have hdl : (List.replicate (64 * m) (0 : UInt8)).length = 64 * m := Ca
 refine ⟨rs, l1, hrs, hok, hO.right, hla, hl1, fun hin => ⟨?_, ?_, ?_, ?_, ?_⟩, fun hout => ⟨?_, ?_, ?_, ?_, ?_⟩, ?_, ?_, ?_, ?_, ?_⟩
 ·rw [Sc hl1 hq1 (by rw [hhl]; exact hin), hh1]
  rw [List.drop_replicate, List.take_replicate, Kx (by omega), Zk]
 ·exact hB1.write (by decide) hdl hm1 (by rw [hs1]; exact hin) (by omega)
 ·exact hB1.zero (by decide) hm1 (by rw [hs1]; exact hin) (by omega)
 ·exact hB1.clone (b := 0) (by decide) hm1 (by rw [hs1]; exact hin) (by rw [hs1]; omega) (by omega)
 ·exact hB1.clone (a := 0) (by decide) hm1 (by rw [hs1]; omega) (by rw [hs1]; exact hin) (by omega)
 ·have hm : mayE (a : Int) (m : Int) 0 x1.sup.size = 3 := Ve (least := 0) (by omega) (by rw [hs1]; exact hout)
  unfold Nl
  rw [hq1]
  simp only
  rw [hm, if_pos (by decide)]
 ·refine fW hB1 (e := 3) ?_ (by decide)
  unfold Ku
  rw [if_neg (by omega), hdl, show 64 * m / 64 = m by omega]
  exact Ve (least := 1) hm1 (by rw [hs1]; exact hout)
 ·exact fW hB1 (e := 3) (Ve (least := 1) hm1 (by rw [hs1]; exact hout)) (by decide)
 ·refine fW hB1 (e := 3) ?_ (by decide)
  have h1 : mayE (a : Int) (m : Int) 1 x1.sup.size = 3 := Ve (least := 1) hm1 (by rw [hs1]; exact hout)
  unfold twoE
  rw [if_neg (by omega), h1, if_neg (by decide)]
 ·refine fW hB1 (e := 3) ?_ (by decide)
  have h1 : mayE (a : Int) (m : Int) 1 x1.sup.size = 3 := Ve (least := 1) hm1 (by rw [hs1]; exact hout)
  unfold twoE
  rw [if_neg (by omega)]
  split
  ·exact h1
  ·rename_i hh
   have : mayE (0 : Int) (m : Int) 1 x1.sup.size = 3 := by
    rcases Nat.lt_or_ge z m with h | h
    ·exact Ve (a := 0) (least := 1) hm1 (by rw [hs1]; omega)
    ·exact absurd (cQ (a := 0) (least := 1) hm1 (by rw [hs1]; omega)) hh
   exact this
 ·have := Sc hl1 hq1 (a := z) (n := 0) (by rw [hhl]; omega)
  rw [show ((0 : Nat) : Int) = 0 from rfl] at this
  rw [this, Rm]; rfl
 ·have hm : mayE ((z : Int) + 1) 0 0 x1.sup.size = 3 := Ve (a := z + 1) (n := 0) (least := 0) (by omega) (by rw [hs1]; omega)
  unfold Nl
  rw [hq1]
  simp only
  rw [hm, if_pos (by decide)]
 ·refine fW hB1 (e := 1) ?_ (by decide)
  unfold Ku
  rw [Ca, if_pos (by omega)]
 ·refine fW hB1 (e := 1) ?_ (by decide)
  show mayE 0 0 1 _ = 1
  unfold mayE
  rw [if_pos (by omega)]
 ·refine fW hB1 (e := 1) ?_ (by decide)
  unfold Km
  rw [if_pos (by omega)]
attribute [local irreducible] aops Bp Cs Df aop W WO
theorem vB (size frm n : Int) : ∃ H, CF 1000700 Oc 0 [.int .i64 size, .int .i64 frm, .int .i64 n] Heap.none = some (.bool true, H) := by
 suffices h : FnV (CF 1000700) Oc [.int .i64 size, .int .i64 frm, .int .i64 n] (.bool true) by
  obtain ⟨u, H, h1, h2⟩ := h
  refine ⟨H, ?_⟩
  rw [h1, dO h2]
 have hW := Ua (1000700 - 1) (by omega)
 obtain ⟨z, hz⟩ : ∃ z : Nat, size % 18446744073709551616 % 513 = z := ⟨(size % 18446744073709551616 % 513).toNat, by omega⟩
 obtain ⟨a, ha⟩ : ∃ a : Nat, frm % 18446744073709551616 % 520 = a := ⟨(frm % 18446744073709551616 % 520).toNat, by omega⟩
 obtain ⟨m, hm⟩ : ∃ m : Nat, 1 + n % 18446744073709551616 % 6 = m := ⟨(1 + n % 18446744073709551616 % 6).toNat, by omega⟩
 have hz5 : z ≤ 512 := by omega
 have ha5 : a < 520 := by omega
 have hm1 : 1 ≤ m := by omega
 have hm6 : m ≤ 6 := by omega
 obtain ⟨rs, l1, f1, hok, hst, hla, hl1, hin, hout, g1, g2, g3, g4, g5⟩ := Aav (a := a) hz5 hm1 hm6
 have hl0 : (newP 40).length < 1000000 := by
  unfold newP
  rw [Am, Mt]; simp
 have pN : FnV (CF (1000700 - 1)) Yy [.int .i64 40] (.tup [.islc false false 1 (BL (newP 40)), .int .i64 0]) := Asn (1000700 - 1) (by omega) 40 (by decide)
 have pZ := Rb (1000700 - 1) (by omega) false (newP 40) hl0 z
 rw [f1] at pZ
 have pA := Rv (1000700 - 1) (by omega) false false (newP 40) hl0 false false 3 rs (.inl rfl) hok.1 (fun y hy => (hok.2 y hy).1)
 unfold Ny at pA
 rw [if_neg (fun h => h hst), hla] at pA
 have r1 := Qk (1000700 - 1) (by omega) false l1 hl1 a m
 have r2 := Xp (1000700 - 1) (by omega) false l1 hl1 a true false 1 (List.replicate (64 * m) 0) (.inl rfl) (by rw [Ca]; omega)
 have r3 := qU (1000700 - 1) (by omega) false l1 hl1 a m
 have r4 := tA (1000700 - 1) (by omega) false l1 hl1 a m 0
 have r5 := tA (1000700 - 1) (by omega) false l1 hl1 0 m a
 have r6 := Qk (1000700 - 1) (by omega) false l1 hl1 z 0
 have r7 := Qk (1000700 - 1) (by omega) false l1 hl1 ((z : Int) + 1) 0
 have r8 := Xp (1000700 - 1) (by omega) false l1 hl1 0 true false 1 (List.replicate (64 * m + 1) 0) (.inl rfl) (by rw [Ca]; omega)
 have r9 := qU (1000700 - 1) (by omega) false l1 hl1 0 0
 have r10 := Rb (1000700 - 1) (by omega) false l1 hl1 (512 + m)
 rw [g1] at r6
 rw [g2] at r7
 rw [g3] at r8
 rw [g4] at r9
 rw [g5] at r10
 unfold Ly at pZ r8 r9 r10
 unfold Ue at r6 r7
 simp only at pZ r6 r7 r8 r9 r10
 have hb0 : Yc [] = .islc false true 0 [] := if_pos rfl
 rw [hb0] at r6
 have e1 : (m : Int) * 64 = ((64 * m : Nat) : Int) := by omega
 have e2 : ((64 * m : Nat) : Int) + 1 = ((64 * m + 1 : Nat) : Int) := by omega
 have hm' : 1 + (m : Int) - 1 = m := by omega
 generalize newP 40 = l0 at *
 rcases Nat.lt_or_ge z (a + m) with hlt | hge
 ·have hc : (a : Int) + (m : Int) > z := by omega
  obtain ⟨o1, o2, o3, o4, o5⟩ := hout hlt
  rw [o1] at r1
  rw [o2] at r2
  rw [o3] at r3
  rw [o4] at r4
  rw [o5] at r5
  unfold Ly at r2 r3 r4 r5
  unfold Ue at r1
  simp only at r1 r2 r3 r4 r5
  refine fnk (by omega) Uu rfl ?_
  unfold Nd
  repeat' (first
   | refine qS ?_ | refine qN ?_ | refine Ab pN ?_ | refine Ab pZ ?_ | refine Ab pA ?_ | refine Ab r1 ?_ | refine Ab r3 ?_ | refine Ab r4 ?_ | refine Ab r5 ?_
   | refine Ab r6 ?_ | refine Ab r7 ?_ | refine Ab r9 ?_ | refine Ab r10 ?_
   | refine Ab r2 ?_ rfl (by exact Bk (fun z => [_, _, z]) (Vg (n := 64 * m) (by rfl)))
   | refine Ab r8 ?_ rfl (by exact Bk (fun z => [_, _, z]) (Vg (n := 64 * m + 1) (by rfl))) | refine Ab hW ?_ | refine Bi (n := 0) rfl rfl rfl rfl ?_ | (rw [hz])
   | (rw [ha]) | (rw [hm]) | (rw [e1]) | (rw [e2]) | refine qQ ?_ | fail)
  exact ⟨Or.inr rfl, _, rfl, rfl⟩
 ·have hc : ¬ (a : Int) + (m : Int) > z := by omega
  obtain ⟨o1, ⟨i2, o2⟩, ⟨i3, o3⟩, ⟨i4, o4⟩, ⟨i5, o5⟩⟩ := hin hge
  rw [o1] at r1
  rw [o2] at r2
  rw [o3] at r3
  rw [o4] at r4
  rw [o5] at r5
  unfold Ly at r2 r3 r4 r5
  unfold Ue at r1
  simp only at r1 r2 r3 r4 r5
  obtain ⟨uf, us, hue, hu1⟩ := Up (List.replicate (64 * m) 0)
  rw [hue] at r1
  have pB := Tr (1000700 - 1) (by omega) false uf true false us 1 (List.replicate (64 * m) 0) (List.replicate (64 * m) 0) (by rw [Ca]; omega) (by rw [Ca]; omega) hu1 (.inl rfl)
  rw [An rfl] at pB
  refine fnk (by omega) Uu rfl ?_
  unfold Nd
  repeat' (first
   | refine qS ?_ | refine qN ?_ | refine Ab pN ?_ | refine Ab pZ ?_ | refine Ab pA ?_ | refine Ab r1 ?_ | refine Ab r3 ?_ | refine Ab r4 ?_ | refine Ab r5 ?_
   | refine Ab r6 ?_ | refine Ab r7 ?_ | refine Ab r9 ?_ | refine Ab r10 ?_
   | refine Ab r2 ?_ rfl (by exact Bk (fun z => [_, _, z]) (Vg (n := 64 * m) (by rfl)))
   | refine Ab r8 ?_ rfl (by exact Bk (fun z => [_, _, z]) (Vg (n := 64 * m + 1) (by rfl)))
   | refine Ab pB ?_ rfl (by exact Bk (fun z => [_, z]) (Vg (n := 64 * m) (by rfl))) | refine Ab hW ?_ | refine Bi (n := 0) rfl rfl rfl rfl ?_ | (rw [hz])
   | (rw [ha]) | (rw [hm]) | (rw [e1]) | (rw [e2]) | refine qQ ?_ | fail)
  exact ⟨Or.inr rfl, _, rfl, rfl⟩
end Go.Proofs.YtkpndfkpdnknkaaGreat

