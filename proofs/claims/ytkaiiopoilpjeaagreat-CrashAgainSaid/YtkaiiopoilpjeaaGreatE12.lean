import Derived.Test.YtkaiiopoilpjeaaGreatF14
import Derived.Test.YtkaiiopoilpjeaaGreatF16
import Derived.Test.YtkaiiopoilpjeaaGreatMJ8
set_option linter.unusedSimpArgs false
set_option linter.unusedVariables false
set_option maxRecDepth 10000
set_option maxHeartbeats 16000000
namespace Go.Proofs.YtkaiiopoilpjeaaGreat
open Go.AI
attribute [local irreducible] aops Bo Cn Dh aop W WO
theorem uM (l : List UInt8) (hm : l.length ≤ maxLen) (id frm cut again : Int) (d : List UInt8) (hdm : d.length ≤ maxLen) (keep : List Bool) (hkm : keep.length ≤ maxLen) : ∃ H, CF 1000700 Pp 0 [.islc false false 1 (BL l), .int .i64 id, .int .i64 frm, .int .i64 cut, .int .i64 again, .islc false false 1 (BL d), .islc false false 1 (keep.map AV.bool)] Heap.none = some (.bool true, H) := by
 have key : ∀ a, FnV (CF 1000700) Pp a (.bool true) → ∃ H, CF 1000700 Pp 0 a Heap.none = some (.bool true, H) := fun a ⟨u, H, h1, h2⟩ => ⟨H, by rw [h1, fB h2]⟩
 refine key _ ?_
 have hH := Zd (1000700 - 1) (by omega) false false l
 have hW := fL (1000700 - 1) (by omega)
 have hkl : (keep.map AV.bool).length = keep.length := Ag _
 have hdl : (BL d).length = d.length := BL_length d
 by_cases hl1 : l.length > 19200
 ·rw [Aq hl1] at hH
  refine fnk (by omega) Gy rfl ?_
  unfold Gg
  repeat' (first | refine qS ?_ | refine qN ?_ | refine Aa hH ?_ | refine qQ ?_ | fail)
  exact ⟨Or.inr rfl, _, rfl, rfl⟩
 rw [Ay hl1] at hH
 have hl : l.length < 1000000 := by omega
 by_cases hd1 : d.length > 512
 ·have hd1' : (d.length : Int) > 512 := by omega
  refine fnk (by omega) Gy rfl ?_
  unfold Gg
  repeat' (first | refine qS ?_ | refine qN ?_ | refine Aa hH ?_ | refine Ak (n := d.length) rfl hdl rfl rfl ?_ | refine qQ ?_ | fail)
  exact ⟨Or.inr rfl, _, rfl, rfl⟩
 have hd1' : ¬ (d.length : Int) > 512 := by omega
 by_cases hk1 : keep.length > 200
 ·have hk1' : (keep.length : Int) > 200 := by omega
  refine fnk (by omega) Gy rfl ?_
  unfold Gg
  repeat' (first | refine qS ?_ | refine qN ?_ | refine Aa hH ?_ | refine Ak (n := d.length) rfl hdl rfl rfl ?_ | refine Ak (n := keep.length) rfl hkl rfl rfl ?_ | refine qQ ?_ | fail)
  exact ⟨Or.inr rfl, _, rfl, rfl⟩
 have hk1' : ¬ (keep.length : Int) > 200 := by omega
 have pO := c_Do (1000700 - 1) (by omega) false l hl 0 (.inl rfl) frm 0 0 false false 1 d (.inl rfl) (by omega)
 cases h : doP l 0 frm 0 0 d with
 | error e =>
  rw [h] at pO
  have he := fK h
  have he' : (e : Int) ≠ 0 := by omega
  unfold Ma at pO
  simp only at pO
  refine fnk (by omega) Gy rfl ?_
  unfold Gg
  repeat' (first
   | refine qS ?_ | refine qN ?_ | refine Aa hH ?_ | refine Ak (n := d.length) rfl hdl rfl rfl ?_ | refine Ak (n := keep.length) rfl hkl rfl rfl ?_ | refine Aa pO ?_
   | refine Aa hW ?_ | refine Ak (n := 0) rfl rfl rfl rfl ?_ | refine qQ ?_ | fail)
  exact ⟨Or.inr rfl, _, rfl, rfl⟩
 | ok ios =>
  rw [h] at pO
  obtain ⟨⟨x, x', _, hO, _⟩, hok, hle⟩ := oM hl h
  unfold Ma at pO
  simp only at pO
  have hil := hok.1
  have hio := fun y hy => (hok.2 y hy).1
  have hml : (ios.map IoV.av).length = ios.length := Ag _
  obtain ⟨c, hc, hcl⟩ := modN cut (ios.length + 1) (by omega)
  have hc' : cut % 18446744073709551616 % ((ios.length : Int) + 1) = (c : Int) := hc
  obtain ⟨hxl, xc, hxc, _⟩ := hO.crash keep (cut := c) (by omega)
  have pX := uB (1000700 - 1) (by omega) false false l hl false false 3 ios (.inl rfl) hil hio (c : Int) false false 1 keep (.inl rfl) (by omega)
  unfold eX at pX
  rw [if_neg (fun h => h hO.right), if_neg (by omega), As] at pX
  generalize Ea l ios c keep = l2 at *
  have hl2 : l2.length < 1000000 := by omega
  have pC := Ym (1000700 - 1) (by omega) false l2 hl2 id
  cases h2 : Gx l2 id with
  | error e =>
   rw [h2] at pC
   have he := cT h2
   have he' : (e : Int) ≠ 0 := by omega
   unfold Ma at pC
   simp only at pC
   have pS := kP (1000700 - 1) (by omega) false l2 hl2
   unfold Xj at pS
   rw [hxc] at pS
   simp only at pS
   refine fnk (by omega) Gy rfl ?_
   unfold Gg
   repeat' (first
    | refine qS ?_ | refine qN ?_ | refine Aa hH ?_ | refine Ak (n := d.length) rfl hdl rfl rfl ?_ | refine Ak (n := keep.length) rfl hkl rfl rfl ?_ | refine Aa pO ?_
    | refine Aa pX ?_ | refine Aa pC ?_ | refine Aa pS ?_ | refine Aa hW ?_ | refine Ak (n := ios.length) rfl hml rfl rfl ?_
    | refine Ak (n := 0) rfl rfl rfl rfl ?_ | (rw [hc']) | refine qQ ?_ | fail)
   exact ⟨Or.inr rfl, _, rfl, rfl⟩
  | ok ios2 =>
   rw [h2] at pC
   unfold Ma at pC
   simp only at pC
   obtain ⟨x1, x2, hO2, _, _, hid, hv2⟩ := vT hl2 h2
   obtain rfl : x1 = xc := by
    have a := (Fk hl2).2 ⟨hO2.dev, hO2.img⟩
    rw [hxc] at a
    exact (Except.ok.inj a).symm
   have hok2 := Ve hl2 h2
   have hil2 := hok2.1
   have hio2 := fun y hy => (hok2.2 y hy).1
   have hml2 : (ios2.map IoV.av).length = ios2.length := Ag _
   obtain ⟨c2, hc2, hcl2⟩ := modN again (ios2.length + 1) (by omega)
   have hc2' : again % 18446744073709551616 % ((ios2.length : Int) + 1) = (c2 : Int) := hc2
   obtain ⟨hyl, y1, hy1, hv⟩ := hO2.crash keep (cut := c2) (by omega)
   have pY := uB (1000700 - 1) (by omega) false false l2 hl2 false false 3 ios2 (.inl rfl) hil2 hio2 (c2 : Int) false false 1 keep (.inl rfl) (by omega)
   unfold eX at pY
   rw [if_neg (fun h => h hO2.right), if_neg (by omega), As] at pY
   have hvv : Cv (Ea l2 ios2 c2 keep) y1 = Cv l2 x1 ∨ Cv (Ea l2 ios2 c2 keep) y1 = Cv (Bl l2 ios2) x2 := by
    rcases hv with ⟨h1, _⟩ | ⟨h1, _⟩
    ·exact .inl h1
    ·exact .inr h1
   clear hv
   rw [hv2] at hvv
   generalize Ea l2 ios2 c2 keep = l3 at *
   have hl3 : l3.length < 1000000 := by omega
   have pV := Kt (1000700 - 1) (by omega) false l2 hl2
   have pV' := Kt (1000700 - 1) (by omega) false l3 hl3
   have pS := kP (1000700 - 1) (by omega) false l3 hl3
   unfold Xj at pS
   rw [hxc] at pV
   rw [hy1] at pV' pS
   have hvo := Ns hO2.dev (La hO2.dev hO2.img)
   unfold Rv at pV pV'
   simp only at pV pV' pS
   generalize Cv l2 x1 = v at *
   generalize Cv l3 y1 = w at *
   rcases hvv with rfl | rfl
   case' inl =>
    have kV := xN (1000700 - 1) (by omega) w w hvo hvo
    rw [Aq rfl] at kV
    obtain ⟨⟨vo1, vo2⟩, _⟩ := hvo
    have kR := Pt (1000700 - 1) (by omega) false false false false 1 1 w.head w.head vo1 vo1 (.inl rfl) (.inl rfl) vo2 vo2
    rw [Aq rfl] at kR
    obtain ⟨a2, a3, b2, b3, hva⟩ := Nt w
    have hva' : AV.agg w.cs = _ := hva
    rw [hva'] at pV pV'
    rw [hva] at kV
    have hsl : (w.snaps.map SnapV.av).length = w.snaps.length := Ag _
   case' inr =>
    obtain ⟨hdv, S, O⟩ := v
    obtain ⟨⟨vo1, vo2⟩, ⟨vo3, vo4⟩, vo5, vo6⟩ := hvo
    unfold ViewV.cs at pV pV'
    simp only at pV pV' vo1 vo2 vo3 vo4 vo5 vo6
    have kR := Pt (1000700 - 1) (by omega) false false false false 1 1 hdv hdv vo1 vo1 (.inl rfl) (.inl rfl) vo2 vo2
    obtain ⟨fS, sS, eS, hS⟩ := Hw S
    obtain ⟨fO, sO, eO, hOs⟩ := Hw O
    have kS := Mk (1000700 - 1) (by omega) false false false fS 5 sS S S vo3 vo3 (.inl rfl) hS vo4 vo4
    rw [Aq rfl] at kR kS
    obtain ⟨n, hn⟩ : ∃ n, n = id.toNat := ⟨_, rfl⟩
    have hni : (n : Int) = id := by omega
    obtain ⟨p, hp⟩ : ∃ p, p = Ng x1.recs := ⟨_, rfl⟩
    rw [← hn, ← hp] at pV'
    have eT : Rc (⟨n, p, hdv, 0, 0⟩ :: S) = .islc false false 5 ((⟨n, p, hdv, 0, 0⟩ :: S : List SnapV).map SnapV.av) := if_neg (by simp)
    rw [eT, eO] at pV'
    rw [eS, eO] at pV
    unfold Qs at pV pV'
    have hsl : (S.map SnapV.av).length = S.length := Ag _
    have hsl2 : ((⟨n, p, hdv, 0, 0⟩ :: S : List SnapV).map SnapV.av).length = S.length + 1 := by simp
    have he0 : ((⟨n, p, hdv, 0, 0⟩ :: S : List SnapV).map SnapV.av)[(0 : Int).toNat]? = some (.agg [.int .i64 n, .int .i64 p, .islc false false 1 (hdv.map Et), .int .i64 (0 : Nat), .int .i64 (0 : Nat)]) := rfl
    have hfz : ∀ (z : AV) (H : Heap), fz false 6 H z = z → [AV.islc false (false && decide (S.length + 1 = S.length + 1)) 5 ((((⟨n, p, hdv, 0, 0⟩ :: S : List SnapV).map SnapV.av).drop 1).take (S.length + 1 - 1)), z].map (fz false 6 H) = [.islc false false 5 (S.map SnapV.av), z] := by
     intro z H hz
     have e : (((⟨n, p, hdv, 0, 0⟩ :: S : List SnapV).map SnapV.av).drop 1).take (S.length + 1 - 1) = S.map SnapV.av := by
      rw [Bc, Ua, Bv, Ah (by simp)]
     rw [e]
     show [_, fz false 6 H z] = _
     rw [hz]; rfl
    have hne : ¬ ((S.length : Int) + 1 = S.length) := by omega
   all_goals
    refine fnk (by omega) Gy rfl ?_
    unfold Gg
    repeat' (first
     | refine qS ?_ | refine qN ?_ | refine Aa hH ?_ | refine Ak (n := d.length) rfl hdl rfl rfl ?_ | refine Ak (n := keep.length) rfl hkl rfl rfl ?_ | refine Aa pO ?_
     | refine Aa pX ?_ | refine Aa pC ?_ | refine Aa pV ?_ | refine Aa pY ?_ | refine Aa pV' ?_ | refine Aa pS ?_ | refine Aa kR ?_ | refine Aa kV ?_ | refine Ak (n := w.snaps.length) rfl hsl rfl rfl ?_ | refine Aa hW ?_
     | refine Fp ?_ (hl := by kernel_rfl) | refine Ak (n := ios.length) rfl hml rfl rfl ?_ | refine Ak (n := ios2.length) rfl hml2 rfl rfl ?_
     | refine Ak (n := S.length) rfl hsl rfl rfl ?_ | refine Ak (n := S.length + 1) rfl hsl2 rfl rfl ?_ | refine Ce rfl rfl (by decide) he0 rfl rfl ?_
     | refine Cg (n := S.length + 1) (a := 1) (b := S.length + 1) rfl (.inl rfl) hsl2 (Dt rfl) rfl (by omega) (by omega) rfl rfl ?_
     | refine Aa kS ?_ rfl (by exact hfz _ _ rfl) | (rw [hc']) | (rw [hc2']) | refine qQa ?_ | fail)
   all_goals exact ⟨Or.inr rfl, _, rfl, rfl⟩
end Go.Proofs.YtkaiiopoilpjeaaGreat

