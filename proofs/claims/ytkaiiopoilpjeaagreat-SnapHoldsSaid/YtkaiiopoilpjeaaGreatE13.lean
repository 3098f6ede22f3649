import Derived.Test.YtkaiiopoilpjeaaGreatF16
import Derived.Test.YtkaiiopoilpjeaaGreatMF
import Derived.Test.YtkaiiopoilpjeaaGreatMD2b
import Derived.Test.YtkaiiopoilpjeaaGreatMJ8
set_option linter.unusedSimpArgs false
set_option linter.unusedVariables false
set_option maxRecDepth 10000
set_option maxHeartbeats 16000000
namespace Go.Proofs.YtkaiiopoilpjeaaGreat
open Go.AI
attribute [local irreducible] aops Bo Cn Dh aop W WO
theorem Aap (l : List UInt8) (hm : l.length ≤ maxLen) (id kind frm count source : Int) (d : List UInt8) (hdm : d.length ≤ maxLen) : ∃ H, CF 1000700 Rb 0 [.islc false false 1 (BL l), .int .i64 id, .int .i64 kind, .int .i64 frm, .int .i64 count, .int .i64 source, .islc false false 1 (BL d)] Heap.none = some (.bool true, H) := by
 suffices h : FnV (CF 1000700) Rb [.islc false false 1 (BL l), .int .i64 id, .int .i64 kind, .int .i64 frm, .int .i64 count, .int .i64 source, .islc false false 1 (BL d)] (.bool true) by
  obtain ⟨u, H, h1, h2⟩ := h
  refine ⟨H, ?_⟩
  rw [h1, fB h2]
 have hH := Zd (1000700 - 1) (by omega) false false l
 have hW := Acp (1000700 - 1) (by omega)
 have hdl : (BL d).length = d.length := BL_length d
 by_cases hl1 : l.length > 19200
 ·rw [Aq hl1] at hH
  refine fnk (by omega) Ho rfl ?_
  unfold Gw
  repeat' (first | refine qS ?_ | refine qN ?_ | refine Aa hH ?_ | refine qQ ?_ | fail)
  exact ⟨Or.inr rfl, _, rfl, rfl⟩
 rw [Ay hl1] at hH
 have hl : l.length < 1000000 := by omega
 by_cases hd1 : d.length > 1280
 ·have hd1' : (d.length : Int) > 1280 := by omega
  refine fnk (by omega) Ho rfl ?_
  unfold Gw
  repeat' (first | refine qS ?_ | refine qN ?_ | refine Aa hH ?_ | refine Ak (n := d.length) rfl hdl rfl rfl ?_ | refine qQ ?_ | fail)
  exact ⟨Or.inr rfl, _, rfl, rfl⟩
 have hd1' : ¬ (d.length : Int) > 1280 := by omega
 have pC := Ym (1000700 - 1) (by omega) false l hl id
 cases h : Gx l id with
 | error e =>
  rw [h] at pC
  have he := cT h
  have he' : (e : Int) ≠ 0 := by omega
  unfold Ma at pC
  simp only at pC
  refine fnk (by omega) Ho rfl ?_
  unfold Gw
  repeat' (first | refine qS ?_ | refine qN ?_ | refine Aa hH ?_ | refine Ak (n := d.length) rfl hdl rfl rfl ?_ | refine Aa pC ?_ | refine Aa hW ?_ | refine Ak (n := 0) rfl rfl rfl rfl ?_ | refine qQ ?_ | fail)
  exact ⟨Or.inr rfl, _, rfl, rfl⟩
 | ok ios =>
  rw [h] at pC
  unfold Ma at pC
  simp only at pC
  obtain ⟨x, x2, hO, hpar, hop, hid, hv2⟩ := vT hl h
  have hok := Ve hl h
  have hil := hok.1
  have hio := fun y hy => (hok.2 y hy).1
  have pA := Up (1000700 - 1) (by omega) false false l hl false false 3 ios (.inl rfl) hil hio
  unfold Pf at pA
  rw [if_neg (fun h => h hO.right)] at pA
  have hd2 := Pk hO.dev hO.len
  have hl2 : (Bl l ios).length < 1000000 := by rw [hO.len]; exact hl
  have hq := (Fk hl).2 ⟨hO.dev, hO.img⟩
  have hq2 := (Fk hl2).2 ⟨hd2, hO.img'⟩
  have hI2 := hO.img'
  have pV := Kt (1000700 - 1) (by omega) false l hl
  have pV2 := Kt (1000700 - 1) (by omega) false (Bl l ios) hl2
  have pS := kP (1000700 - 1) (by omega) false (Bl l ios) hl2
  unfold Xj at pS
  rw [hq] at pV
  rw [hq2] at pV2 pS
  obtain ⟨m, hm3, hm4⟩ : ∃ m : Int, kind % 18446744073709551616 % 4 = m ∧ (m = 0 ∨ m = 1 ∨ m = 2 ∨ m = 3) := ⟨_, rfl, by omega⟩
  have hm0 : 0 ≤ m ∧ m < 4 := by omega
  have pO := c_Do (1000700 - 1) (by omega) false (Bl l ios) hl2 m hm4 frm count source false false 1 d (.inl rfl) (by omega)
  have hvo := Ns hO.dev (La hO.dev hO.img)
  have hSl := Bdt (La hO.dev hO.img)
  generalize Bl l ios = l2 at *
  unfold Rv at pV pV2
  simp only at pV pV2 pS
  generalize hvl : Cv l x = v at *
  obtain ⟨hdv, S, O⟩ := v
  obtain ⟨⟨vo1, vo2⟩, ⟨vo3, vo4⟩, vo5, vo6⟩ := hvo
  simp only at hSl hpar hop hv2 vo1 vo2 vo3 vo4 vo5 vo6
  subst hop
  obtain ⟨n, hn⟩ : ∃ n, n = id.toNat := ⟨_, rfl⟩
  have hni : (n : Int) = id := by omega
  rw [← hn, ← hpar] at hv2
  rw [hv2] at pV2
  unfold ViewV.cs at pV pV2
  simp only at pV pV2
  have kR := Pt (1000700 - 1) (by omega) false false false false 1 1 hdv hdv vo1 vo1 (.inl rfl) (.inl rfl) vo2 vo2
  obtain ⟨fS, sS, eS, hS⟩ := Hw S
  have kS := Mk (1000700 - 1) (by omega) false false false fS 5 sS S S vo3 vo3 (.inl rfl) hS vo4 vo4
  rw [Aq rfl] at kR kS
  obtain ⟨p, hp⟩ : ∃ p, p = Ahc S := ⟨_, rfl⟩
  rw [← hp] at pV2 hv2
  have eT : Rc (⟨n, p, hdv, 0, 0⟩ :: S) = .islc false false 5 ((⟨n, p, hdv, 0, 0⟩ :: S : List SnapV).map SnapV.av) := if_neg (by simp)
  have eO : Rc [] = .islc false true 0 [] := if_pos rfl
  rw [eT, eO] at pV2
  rw [eS, eO] at pV
  unfold Qs at pV pV2
  have hsl : (S.map SnapV.av).length = S.length := Ag _
  have hsl2 : ((⟨n, p, hdv, 0, 0⟩ :: S : List SnapV).map SnapV.av).length = S.length + 1 := by simp
  have he0 : ((⟨n, p, hdv, 0, 0⟩ :: S : List SnapV).map SnapV.av)[(0 : Int).toNat]? = some (.agg [.int .i64 n, .int .i64 p, .islc false false 1 (hdv.map Et), .int .i64 (0 : Nat), .int .i64 (0 : Nat)]) := rfl
  have hfz : ∀ (z : AV) (H : Heap), fz false 6 H z = z → [AV.islc false (false && decide (S.length + 1 = S.length + 1)) 5 ((((⟨n, p, hdv, 0, 0⟩ :: S : List SnapV).map SnapV.av).drop 1).take (S.length + 1 - 1)), z].map (fz false 6 H) = [.islc false false 5 (S.map SnapV.av), z] := by
   intro z H hz
   have e : (((⟨n, p, hdv, 0, 0⟩ :: S : List SnapV).map SnapV.av).drop 1).take (S.length + 1 - 1) = S.map SnapV.av := by
    rw [Bc, Ua, Bv, Ah (by simp)]
   rw [e]
   show [_, fz false 6 H z] = _
   rw [hz]; rfl
  have hcs : ((S.length + 1 : Nat) : Int) = (S.length : Int) + 1 := by omega
  have hfst : (S.length = 0 ∧ p = 0) ∨ 0 < S.length ∧ ∃ (z1 z2 z3 z4 z5 : AV), (S.map SnapV.av)[(0 : Int).toNat]? = some (.agg [.int .i64 p, z2, z3, z4, z5]) := by
   cases S with
   | nil => exact .inl ⟨rfl, hp⟩
   | cons s S => exact .inr ⟨by simp, .nilp, _, _, _, _, by rw [hp]; rfl⟩
  have hsS : ∀ {Q : Prop}, 0 < S.length → sS = 5 := fun h => hS.resolve_right fun hh => by rw [hh] at h; simp at h
  cases h2 : doP l2 m frm count source d with
  | error e =>
   rw [h2] at pO
   have he := fK h2
   have he' : (e : Int) ≠ 0 := by omega
   unfold Ma at pO
   simp only at pO
   rcases hfst with ⟨hz, hp0⟩ | ⟨hz, z1, z2, z3, z4, z5, hse⟩
   ·have hz' : ¬ (S.length : Int) > 0 := by omega
    have hp0' : (p : Int) = 0 := by omega
    refine fnk (by omega) Ho rfl ?_
    unfold Gw
    repeat' (first
     | refine qS ?_ | refine qN ?_ | refine Aa hH ?_ | refine Ak (n := d.length) rfl hdl rfl rfl ?_ | refine Aa pC ?_ | refine Aa pA ?_ | refine Aa pV ?_
     | refine Aa pV2 ?_ | refine Aa pS ?_ | refine Aa kR ?_ | refine Aa pO ?_ | refine Aa hW ?_ | refine Fp ?_ (hl := by kernel_rfl)
     | refine Ak (n := S.length) rfl hsl rfl rfl ?_ | refine Ak (n := S.length + 1) rfl hsl2 rfl rfl ?_ | refine Ce rfl rfl (by decide) he0 rfl rfl ?_
     | refine Cg (n := S.length + 1) (a := 1) (b := S.length + 1) rfl (.inl rfl) hsl2 (Dt rfl) rfl (by omega) (by omega) rfl rfl ?_
     | refine Aa kS ?_ rfl (by exact hfz _ _ rfl) | (rw [hm3]) | refine qQa ?_ | fail)
    exact ⟨Or.inr rfl, _, rfl, rfl⟩
   ·have hz' : (S.length : Int) > 0 := by omega
    obtain rfl := hsS (Q := True) hz
    refine fnk (by omega) Ho rfl ?_
    unfold Gw
    repeat' (first
     | refine qS ?_ | refine qN ?_ | refine Aa hH ?_ | refine Ak (n := d.length) rfl hdl rfl rfl ?_ | refine Aa pC ?_ | refine Aa pA ?_ | refine Aa pV ?_
     | refine Aa pV2 ?_ | refine Aa pS ?_ | refine Aa kR ?_ | refine Aa pO ?_ | refine Aa hW ?_ | refine Fp ?_ (hl := by kernel_rfl)
     | refine Ak (n := S.length) rfl hsl rfl rfl ?_ | refine Ak (n := S.length + 1) rfl hsl2 rfl rfl ?_ | refine Ce rfl rfl (by decide) he0 rfl rfl ?_
     | refine Ce rfl rfl (by decide) hse rfl rfl ?_
     | refine Cg (n := S.length + 1) (a := 1) (b := S.length + 1) rfl (.inl rfl) hsl2 (Dt rfl) rfl (by omega) (by omega) rfl rfl ?_
     | refine Aa kS ?_ rfl (by exact hfz _ _ rfl) | (rw [hm3]) | refine qQa ?_ | fail)
    exact ⟨Or.inr rfl, _, rfl, rfl⟩
  | ok ms =>
   rw [h2] at pO
   unfold Ma at pO
   simp only at pO
   obtain ⟨⟨x3, x4, hdu, hO2, hv4⟩, hok2, hle2⟩ := oM hl2 h2
   obtain rfl : x3 = x2 := by
    have a := (Fk hl2).2 ⟨hO2.dev, hO2.img⟩
    rw [hq2] at a
    exact (Except.ok.inj a).symm
   have hil2 := hok2.1
   have hio2 := fun y hy => (hok2.2 y hy).1
   have pA2 := Up (1000700 - 1) (by omega) false false l2 hl2 false false 3 ms (.inl rfl) hil2 hio2
   unfold Pf at pA2
   rw [if_neg (fun h => h hO2.right)] at pA2
   have hl3 : (Bl l2 ms).length < 1000000 := by rw [hO2.len]; exact hl2
   have hq3 := (Fk hl3).2 ⟨Pk hO2.dev hO2.len, hO2.img'⟩
   have pV3 := Kt (1000700 - 1) (by omega) false (Bl l2 ms) hl3
   rw [hq3] at pV3
   generalize Bl l2 ms = l3 at *
   unfold Rv at pV3
   simp only at pV3
   rw [hv4, hv2] at pV3
   unfold ViewV.cs at pV3
   simp only at pV3
   rw [eT, eO] at pV3
   unfold Qs at pV3
   have vo7 : ∀ s ∈ (⟨n, p, hdv, 0, 0⟩ :: S : List SnapV), Sa s.sectors := fun s hs => by
    rcases Ar.1 hs with rfl | hs
    ·exact ⟨vo1, vo2⟩
    ·exact vo4 s hs
   have kT := Mk (1000700 - 1) (by omega) false false false false 5 5 (⟨n, p, hdv, 0, 0⟩ :: S) (⟨n, p, hdv, 0, 0⟩ :: S) (by rw [Ap]; omega) (by rw [Ap]; omega) (.inl rfl) (.inl rfl) vo7 vo7
   rw [Aq rfl] at kT
   rcases hfst with ⟨hz, hp0⟩ | ⟨hz, z1, z2, z3, z4, z5, hse⟩
   ·have hz' : ¬ (S.length : Int) > 0 := by omega
    have hp0' : (p : Int) = 0 := by omega
    refine fnk (by omega) Ho rfl ?_
    unfold Gw
    repeat' (first
     | refine qS ?_ | refine qN ?_ | refine Aa hH ?_ | refine Ak (n := d.length) rfl hdl rfl rfl ?_ | refine Aa pC ?_ | refine Aa pA ?_ | refine Aa pV ?_
     | refine Aa pV2 ?_ | refine Aa pS ?_ | refine Aa kR ?_ | refine Aa pO ?_ | refine Aa pA2 ?_ | refine Aa pV3 ?_ | refine Aa kT ?_ | refine Aa hW ?_
     | refine Fp ?_ (hl := by kernel_rfl) | refine Ak (n := S.length) rfl hsl rfl rfl ?_ | refine Ak (n := S.length + 1) rfl hsl2 rfl rfl ?_
     | refine Ce rfl rfl (by decide) he0 rfl rfl ?_
     | refine Cg (n := S.length + 1) (a := 1) (b := S.length + 1) rfl (.inl rfl) hsl2 (Dt rfl) rfl (by omega) (by omega) rfl rfl ?_
     | refine Aa kS ?_ rfl (by exact hfz _ _ rfl) | (rw [hm3]) | refine qQa ?_ | fail)
    exact ⟨Or.inr rfl, _, rfl, rfl⟩
   ·have hz' : (S.length : Int) > 0 := by omega
    obtain rfl := hsS (Q := True) hz
    refine fnk (by omega) Ho rfl ?_
    unfold Gw
    repeat' (first
     | refine qS ?_ | refine qN ?_ | refine Aa hH ?_ | refine Ak (n := d.length) rfl hdl rfl rfl ?_ | refine Aa pC ?_ | refine Aa pA ?_ | refine Aa pV ?_
     | refine Aa pV2 ?_ | refine Aa pS ?_ | refine Aa kR ?_ | refine Aa pO ?_ | refine Aa pA2 ?_ | refine Aa pV3 ?_ | refine Aa kT ?_ | refine Aa hW ?_
     | refine Fp ?_ (hl := by kernel_rfl) | refine Ak (n := S.length) rfl hsl rfl rfl ?_ | refine Ak (n := S.length + 1) rfl hsl2 rfl rfl ?_
     | refine Ce rfl rfl (by decide) he0 rfl rfl ?_ | refine Ce rfl rfl (by decide) hse rfl rfl ?_
     | refine Cg (n := S.length + 1) (a := 1) (b := S.length + 1) rfl (.inl rfl) hsl2 (Dt rfl) rfl (by omega) (by omega) rfl rfl ?_
     | refine Aa kS ?_ rfl (by exact hfz _ _ rfl) | (rw [hm3]) | refine qQa ?_ | fail)
    exact ⟨Or.inr rfl, _, rfl, rfl⟩
end Go.Proofs.YtkaiiopoilpjeaaGreat

