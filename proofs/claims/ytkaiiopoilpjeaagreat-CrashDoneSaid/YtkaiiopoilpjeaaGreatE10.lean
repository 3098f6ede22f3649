import Derived.Test.YtkaiiopoilpjeaaGreatF14
import Derived.Test.YtkaiiopoilpjeaaGreatMJ8
set_option linter.unusedSimpArgs false
set_option linter.unusedVariables false
set_option maxRecDepth 10000
set_option maxHeartbeats 16000000
namespace Go.Proofs.YtkaiiopoilpjeaaGreat
open Go.AI
attribute [local irreducible] aops Bo Cn Dh aop W WO
theorem zV (l : List UInt8) (hm : l.length ≤ maxLen) (kind frm count source : Int) (d : List UInt8) (hdm : d.length ≤ maxLen) (keep : List Bool) (hkm : keep.length ≤ maxLen) : ∃ H, CF 1000700 Qt 0 [.islc false false 1 (BL l), .int .i64 kind, .int .i64 frm, .int .i64 count, .int .i64 source, .islc false false 1 (BL d), .islc false false 1 (keep.map AV.bool)] Heap.none = some (.bool true, H) := by
 suffices h : FnV (CF 1000700) Qt [.islc false false 1 (BL l), .int .i64 kind, .int .i64 frm, .int .i64 count, .int .i64 source, .islc false false 1 (BL d), .islc false false 1 (keep.map AV.bool)] (.bool true) by
  obtain ⟨u, H, h1, h2⟩ := h
  refine ⟨H, ?_⟩
  rw [h1, fB h2]
 have hH := Zd (1000700 - 1) (by omega) false false l
 have hW := fL (1000700 - 1) (by omega)
 have hkl : (keep.map AV.bool).length = keep.length := Ag _
 have hdl : (BL d).length = d.length := BL_length d
 by_cases hl1 : l.length > 19200
 ·rw [Aq hl1] at hH
  refine fnk (by omega) Ku rfl ?_
  unfold Jo
  repeat' (first | refine qS ?_ | refine qN ?_ | refine Aa hH ?_ | refine qQ ?_ | fail)
  exact ⟨Or.inr rfl, _, rfl, rfl⟩
 rw [Ay hl1] at hH
 have hl : l.length < 1000000 := by omega
 by_cases hd1 : d.length > 768
 ·have hd1' : (d.length : Int) > 768 := by omega
  refine fnk (by omega) Ku rfl ?_
  unfold Jo
  repeat' (first | refine qS ?_ | refine qN ?_ | refine Aa hH ?_ | refine Ak (n := d.length) rfl hdl rfl rfl ?_ | refine qQ ?_ | fail)
  exact ⟨Or.inr rfl, _, rfl, rfl⟩
 have hd1' : ¬ (d.length : Int) > 768 := by omega
 by_cases hk1 : keep.length > 200
 ·have hk1' : (keep.length : Int) > 200 := by omega
  refine fnk (by omega) Ku rfl ?_
  unfold Jo
  repeat' (first | refine qS ?_ | refine qN ?_ | refine Aa hH ?_ | refine Ak (n := d.length) rfl hdl rfl rfl ?_ | refine Ak (n := keep.length) rfl hkl rfl rfl ?_ | refine qQ ?_ | fail)
  exact ⟨Or.inr rfl, _, rfl, rfl⟩
 have hk1' : ¬ (keep.length : Int) > 200 := by omega
 obtain ⟨m, hm3, hm4⟩ : ∃ m : Int, kind % 18446744073709551616 % 4 = m ∧ (m = 0 ∨ m = 1 ∨ m = 2 ∨ m = 3) := ⟨_, rfl, by omega⟩
 have pO := c_Do (1000700 - 1) (by omega) false l hl m hm4 frm count source false false 1 d (.inl rfl) (by omega)
 have hm0 : 0 ≤ m ∧ m < 4 := by omega
 cases h : doP l m frm count source d with
 | error e =>
  rw [h] at pO
  have he := fK h
  have he' : (e : Int) ≠ 0 := by omega
  unfold Ma at pO
  simp only at pO
  refine fnk (by omega) Ku rfl ?_
  unfold Jo
  repeat' (first
   | refine qS ?_ | refine qN ?_ | refine Aa hH ?_ | refine Ak (n := d.length) rfl hdl rfl rfl ?_ | refine Ak (n := keep.length) rfl hkl rfl rfl ?_ | refine Aa pO ?_
   | refine Aa hW ?_ | refine Ak (n := 0) rfl rfl rfl rfl ?_ | (rw [hm3]) | refine qQ ?_ | fail)
  exact ⟨Or.inr rfl, _, rfl, rfl⟩
 | ok ios =>
  rw [h] at pO
  obtain ⟨⟨x, x', _, hO, _⟩, hok, hle⟩ := oM hl h
  unfold Ma at pO
  simp only at pO
  have hml : (ios.map IoV.av).length = ios.length := Ag _
  have hil := hok.1
  have hio := fun y hy => (hok.2 y hy).1
  have hd' := Pk hO.dev hO.len
  have hl' : (Bl l ios).length < 1000000 := by rw [hO.len]; exact hl
  have hq := (Fk hl).2 ⟨hO.dev, hO.img⟩
  have hq' := (Fk hl').2 ⟨hd', hO.img'⟩
  obtain ⟨n, hn, hf, _, _⟩ := hO.shape
  obtain ⟨_, xc, hxc, hv⟩ := hO.crash keep (Au _)
  have hcr : Ea l ios ios.length keep = Bl l ios := by
   rcases hv with ⟨_, h2⟩ | ⟨_, _, _, h3⟩
   ·rw [Ca, hf] at h2; simp at h2
   ·exact h3
  have pA := Up (1000700 - 1) (by omega) false false l hl false false 3 ios (.inl rfl) hil hio
  unfold Pf at pA
  rw [if_neg (fun h => h hO.right)] at pA
  have pV := Kt (1000700 - 1) (by omega) false l hl
  have pV' := Kt (1000700 - 1) (by omega) false (Bl l ios) hl'
  have pX := kX (1000700 - 1) (by omega) false false l hl false false 3 ios (.inl rfl) hil hio (0 : Int) false false 1 keep (.inl rfl) (by omega)
  have pY := kX (1000700 - 1) (by omega) false false l hl false false 3 ios (.inl rfl) hil hio (ios.length : Int) false false 1 keep (.inl rfl) (by omega)
  unfold kL at pX pY
  rw [if_neg (fun h => h hO.right), if_neg (by omega)] at pX pY
  rw [show (0 : Int).toNat = 0 from rfl, Aie] at pX
  rw [As, hcr] at pY
  have pS := xH (1000700 - 1) (by omega) false l hl false false ios hil hio
  rw [hO.states] at pS
  have pC := Acc (1000700 - 1) (by omega) false false 3 ios (.inl rfl) hil
  rw [hf, show [n, n + 2].length = 2 from rfl] at pC
  have pC1 : FnV (CF (1000700 - 1)) Tr [.islc false false 3 (ios.map IoV.av)] (.int .i64 1) := pC
  rw [hq] at pV pX
  rw [hq'] at pV' pY
  have hvo := Ns hO.dev (La hO.dev hO.img)
  have hwo := Ns hd' (La hd' hO.img')
  unfold Rv at pV pV' pX pY
  unfold stAv at pS
  simp only [Bc, Lz] at pV pV' pX pY pS
  generalize Cv l x = v at *
  generalize Cv (Bl l ios) x' = w at *
  have kV := xN (1000700 - 1) (by omega) v v hvo hvo
  have kW := xN (1000700 - 1) (by omega) w w hwo hwo
  rw [Aq rfl] at kV kW
  obtain ⟨a2, a3, b2, b3, hva⟩ := Nt v
  obtain ⟨g2, g3, r2, r3, hwa⟩ := Nt w
  have hva' : AV.agg v.cs = _ := hva
  have hwa' : AV.agg w.cs = _ := hwa
  rw [hva'] at pV pX
  rw [hwa'] at pV' pY
  rw [hva, hwa] at pS
  rw [hva] at kV
  rw [hwa] at kW
  have he0 : ([AV.agg [.islc false false 1 (v.head.map Et), .islc false a2 b2 (v.snaps.map SnapV.av), .islc false a3 b3 (v.opens.map SnapV.av)], AV.agg [.islc false false 1 (w.head.map Et), .islc false g2 r2 (w.snaps.map SnapV.av), .islc false g3 r3 (w.opens.map SnapV.av)]])[(0 : Int).toNat]? = some (.agg [.islc false false 1 (v.head.map Et), .islc false a2 b2 (v.snaps.map SnapV.av), .islc false a3 b3 (v.opens.map SnapV.av)]) := rfl
  have he1 : ([AV.agg [.islc false false 1 (v.head.map Et), .islc false a2 b2 (v.snaps.map SnapV.av), .islc false a3 b3 (v.opens.map SnapV.av)], AV.agg [.islc false false 1 (w.head.map Et), .islc false g2 r2 (w.snaps.map SnapV.av), .islc false g3 r3 (w.opens.map SnapV.av)]])[(1 : Int).toNat]? = some (.agg [.islc false false 1 (w.head.map Et), .islc false g2 r2 (w.snaps.map SnapV.av), .islc false g3 r3 (w.opens.map SnapV.av)]) := rfl
  refine fnk (by omega) Ku rfl ?_
  unfold Jo
  repeat' (first
   | refine qS ?_ | refine qN ?_ | refine Aa hH ?_ | refine Ak (n := d.length) rfl hdl rfl rfl ?_ | refine Ak (n := keep.length) rfl hkl rfl rfl ?_ | refine Aa pO ?_
   | refine Aa hW ?_ | refine Aa pA ?_ | refine Aa pV ?_ | refine Aa pV' ?_ | refine Aa pX ?_ | refine Aa pY ?_ | refine Aa pS ?_ | refine Aa pC1 ?_
   | refine Aa kV ?_ | refine Aa kW ?_ | refine Fp ?_ (hl := by kernel_rfl) | refine Ak (n := ios.length) rfl hml rfl rfl ?_ | refine Ak (n := 2) rfl rfl rfl rfl ?_
   | refine Ce rfl rfl (by decide) he0 rfl rfl ?_ | refine Ce rfl rfl (by decide) he1 rfl rfl ?_ | (rw [hm3]) | refine qQa ?_ | fail)
  exact ⟨Or.inr rfl, _, rfl, rfl⟩
end Go.Proofs.YtkaiiopoilpjeaaGreat

