import Derived.Test.YtkaiiopoilpjeaaGreatMF
import Derived.Test.YtkaiiopoilpjeaaGreatMJ8
set_option linter.unusedSimpArgs false
set_option linter.unusedVariables false
set_option maxRecDepth 10000
set_option maxHeartbeats 16000000
namespace Go.Proofs.YtkaiiopoilpjeaaGreat
open Go.AI
attribute [local irreducible] aops Bo Cn Dh aop W WO
theorem zH (l : List UInt8) (hm : l.length ≤ maxLen) (kind frm count source : Int) (d : List UInt8) (hdm : d.length ≤ maxLen) (at0 : List Int) (hat : at0.length = 2) (keep : List Bool) (hkm : keep.length ≤ maxLen) : ∃ H, CF 1000700 Nd 0 [.islc false false 1 (BL l), .int .i64 kind, .int .i64 frm, .int .i64 count, .int .i64 source, .islc false false 1 (BL d), .agg (at0.flatMap fun n => [AV.int .i64 n]), .islc false false 1 (keep.map AV.bool)] Heap.none = some (.bool true, H) := by
 match at0, hat with
 | [cut, cut2], _ =>
 suffices h : FnV (CF 1000700) Nd [.islc false false 1 (BL l), .int .i64 kind, .int .i64 frm, .int .i64 count, .int .i64 source, .islc false false 1 (BL d), .agg [.int .i64 cut, .int .i64 cut2], .islc false false 1 (keep.map AV.bool)] (.bool true) by
  obtain ⟨u, H, h1, h2⟩ := h
  refine ⟨H, ?_⟩
  show CF 1000700 Nd 0 [.islc false false 1 (BL l), .int .i64 kind, .int .i64 frm, .int .i64 count, .int .i64 source, .islc false false 1 (BL d), .agg [.int .i64 cut, .int .i64 cut2], .islc false false 1 (keep.map AV.bool)] Heap.none = _
  rw [h1, fB h2]
 have hH := Zd (1000700 - 1) (by omega) false false l
 have hW := fL (1000700 - 1) (by omega)
 have hkl : (keep.map AV.bool).length = keep.length := Ag _
 have hdl : (BL d).length = d.length := BL_length d
 by_cases hl1 : l.length > 19200
 ·rw [Aq hl1] at hH
  refine fnk (by omega) Lf rfl ?_
  unfold Jp
  repeat' (first | refine qS ?_ | refine qN ?_ | refine Aa hH ?_ | refine qQ ?_ | fail)
  exact ⟨Or.inr rfl, _, rfl, rfl⟩
 rw [Ay hl1] at hH
 have hl : l.length < 1000000 := by omega
 by_cases hd1 : d.length > 768
 ·have hd1' : (d.length : Int) > 768 := by omega
  refine fnk (by omega) Lf rfl ?_
  unfold Jp
  repeat' (first | refine qS ?_ | refine qN ?_ | refine Aa hH ?_ | refine Ak (n := d.length) rfl hdl rfl rfl ?_ | refine qQ ?_ | fail)
  exact ⟨Or.inr rfl, _, rfl, rfl⟩
 have hd1' : ¬ (d.length : Int) > 768 := by omega
 by_cases hk1 : keep.length > 200
 ·have hk1' : (keep.length : Int) > 200 := by omega
  refine fnk (by omega) Lf rfl ?_
  unfold Jp
  repeat' (first | refine qS ?_ | refine qN ?_ | refine Aa hH ?_ | refine Ak (n := d.length) rfl hdl rfl rfl ?_ | refine Ak (n := keep.length) rfl hkl rfl rfl ?_ | refine qQ ?_ | fail)
  exact ⟨Or.inr rfl, _, rfl, rfl⟩
 have hk1' : ¬ (keep.length : Int) > 200 := by omega
 obtain ⟨m, hm3, hm4⟩ : ∃ m : Int, kind % 18446744073709551616 % 4 = m ∧ (m = 0 ∨ m = 1 ∨ m = 2 ∨ m = 3) := ⟨_, rfl, by omega⟩
 have pO := c_Do (1000700 - 1) (by omega) false l hl m hm4 frm count source false false 1 d (.inl rfl) (by omega)
 have hm0 : 0 ≤ m ∧ m < 4 := by omega
 cases h : doP l m frm count source d with
 | error e =>
  rw [h] at pO
  have he := fK h
  have he' : (e : Int) ≠ 0 := by omega
  unfold Ma at pO
  simp only at pO
  refine fnk (by omega) Lf rfl ?_
  unfold Jp
  repeat' (first
   | refine qS ?_ | refine qN ?_ | refine Aa hH ?_ | refine Ak (n := d.length) rfl hdl rfl rfl ?_ | refine Ak (n := keep.length) rfl hkl rfl rfl ?_ | refine Aa pO ?_
   | refine Aa hW ?_ | refine Ak (n := 0) rfl rfl rfl rfl ?_ | (rw [hm3]) | refine qQ ?_ | fail)
  exact ⟨Or.inr rfl, _, rfl, rfl⟩
 | ok ios =>
  rw [h] at pO
  obtain ⟨⟨x, x', _, hO, _⟩, hok, hle⟩ := oM hl h
  unfold Ma at pO
  simp only at pO
  have hml : (ios.map IoV.av).length = ios.length := Ag _
  have hil := hok.1
  obtain ⟨c, hc, hcl⟩ := modN cut (ios.length + 1) (by omega)
  have hc' : cut % 18446744073709551616 % ((ios.length : Int) + 1) = (c : Int) := hc
  have pH := Asi (1000700 - 1) (by omega) false hO hok false false c (by omega) false false 1 keep (.inl rfl) (by omega)
  refine fnk (by omega) Lf rfl ?_
  unfold Jp
  repeat' (first
   | refine qS ?_ | refine qN ?_ | refine Aa hH ?_ | refine Ak (n := d.length) rfl hdl rfl rfl ?_ | refine Ak (n := keep.length) rfl hkl rfl rfl ?_ | refine Aa pO ?_
   | refine Aa hW ?_ | refine Aa pH ?_ | refine En rfl rfl (by decide) (by decide) rfl rfl ?_ | refine Ak (n := ios.length) rfl hml rfl rfl ?_ | (rw [hm3]) | (rw [hc'])
   | refine qQ ?_ | fail)
  exact ⟨Or.inr rfl, _, rfl, rfl⟩
end Go.Proofs.YtkaiiopoilpjeaaGreat

