/- Lemmas. -/
import Derived.Test.YtkaiiopoilpjeaaGreatMD2
import Derived.Test.YtkaiiopoilpjeaaGreatMJ4b
set_option linter.unusedSimpArgs false
set_option linter.unusedVariables false
set_option maxRecDepth 10000
set_option maxHeartbeats 16000000
namespace Go.Proofs.YtkaiiopoilpjeaaGreat
open Go.AI
theorem vE {l : List UInt8} {id : Int} {ios : List IoV} {e : Nat} (h : Ti l id = .ok (ios, e)) : IosOk ios ∧ (e ≠ 0 → ios = []) := by
 unfold Ti at h
 split at h
 ·cases h
 split at h
 ·cases h
 split at h
 ·cases h
 split at h
 ·cases h
  exact ⟨oD _ _ _ _ _ _ (by simp) (by simp), fun h => absurd rfl h⟩
 ·cases h
  exact ⟨⟨by simp, by simp⟩, fun _ => rfl⟩
theorem Aur : ∃ (l0 l1 : List UInt8) (a b : List IoV) (x : Img), l0 = newP 16 ∧ l0.length < 1000000 ∧ l1.length < 1000000 ∧ Gx l0 5 = .ok a ∧ a.length = 4 ∧ Fl l0 a = 0 ∧ l1 = Bl l0 a ∧ Ff l1 = .ok x ∧ idsP x.recs = [5] ∧
  Gx l1 5 = .error 10 ∧ fR l1 6 = .error 11 ∧ Ti l1 5 = .ok (b, 0) ∧ b.length = 3 := by
 have h := Ade
 have hl0 : wk0.length < 1000000 := by
  show (newP 16).length < _
  unfold newP
  rw [An, Yz]; simp
 unfold wkOk at h
 simp only [Co] at h
 obtain ⟨⟨⟨⟨⟨⟨h1, h2⟩, h3⟩, h4⟩, h5⟩, h6⟩, h7⟩ := h
 have c1 : Gx wk0 5 = .ok wkA := by
  unfold wkA
  cases hc : Gx wk0 5 with
  | ok a => rfl
  | error e => rw [hc] at h1; cases h1
 have c3 : Fl wk0 wkA = 0 := Cx h3
 have hl1 : wk1.length < 1000000 := by
  unfold wk1
  rw [Lh _ _ (fun x hx => Nu ((Mt c3).2 x hx))]
  exact hl0
 obtain ⟨x, c4, c4'⟩ : ∃ x, Ff wk1 = .ok x ∧ idsP x.recs = [5] := by
  cases hc : Ff wk1 with
  | error e => rw [hc] at h4; cases h4
  | ok x =>
   rw [hc] at h4
   simp only at h4
   refine ⟨x, rfl, ?_⟩
   split at h4
   ·rename_i a ha
    rw [ha, Cx h4]
   ·cases h4
 have c5 : Gx wk1 5 = .error 10 := by
  cases hc : Gx wk1 5 with
  | ok a => rw [hc] at h5; cases h5
  | error e => rw [hc] at h5; rw [Cx h5]
 have c6 : fR wk1 6 = .error 11 := by
  cases hc : fR wk1 6 with
  | ok a => rw [hc] at h6; cases h6
  | error e => rw [hc] at h6; rw [Cx h6]
 obtain ⟨b, c7, c7'⟩ : ∃ b, Ti wk1 5 = .ok (b, 0) ∧ b.length = 3 := by
  cases hc : Ti wk1 5 with
  | error e => rw [hc] at h7; cases h7
  | ok p =>
   obtain ⟨a, e⟩ := p
   rw [hc] at h7
   simp only [Co] at h7
   exact ⟨a, by rw [Cx h7.1], Cx h7.2⟩
 exact ⟨wk0, wk1, wkA, b, x, rfl, hl0, hl1, c1, Cx h2, c3, rfl, c4, c4', c5, c6, c7, c7'⟩
attribute [local irreducible] aops Bo Cn Dh aop W WO
theorem Acp (k : Nat) (hk : 1000300 ≤ k) : FnV (CF k) gH [] (.bool true) := by
 obtain ⟨l0, l1, a, b, x, e0, hl0, hl1, c1, c2, c3, e1, c4, c4', c5, c6, c7, c7'⟩ := Aur
 have ha := Ve hl0 c1
 have hb := (vE c7).1
 have hN : FnV (CF (k - 1)) aI [.int .i64 16] (.tup [.islc false false 1 (BL l0), .int .i64 0]) := by rw [e0]; exact Bao (k - 1) (by omega) 16 (by decide)
 have hC0 : FnV (CF (k - 1)) Pb [.islc false false 1 (BL l0), .int .i64 5] (.tup [.islc false false 3 (a.map IoV.av), .int .i64 0]) := by
  have := Ym (k - 1) (by omega) false l0 hl0 5
  rwa [c1] at this
 have hA : FnV (CF (k - 1)) Ws [.islc false false 1 (BL l0), .islc false false 3 (a.map IoV.av)] (.tup [.islc false false 1 (BL l1), .int .i64 0]) := by
  have := Up (k - 1) (by omega) false false l0 hl0 false false 3 a (.inl rfl) ha.1 (fun x hx => (ha.2 x hx).1)
  unfold Pf at this
  rwa [if_neg (fun h => h c3), ← e1] at this
 have hL : FnV (CF (k - 1)) eM [.islc false false 1 (BL l1)] (.tup [.islc false false 1 (NL [5]), .int .i64 0]) := by
  have := Bbb (k - 1) (by omega) false l1 hl1
  rw [c4] at this
  unfold Agn at this
  simp only [c4'] at this
  exact this
 have hC1 : FnV (CF (k - 1)) Pb [.islc false false 1 (BL l1), .int .i64 5] (.tup [.islc false true 0 [], .int .i64 10]) := by
  have := Ym (k - 1) (by omega) false l1 hl1 5
  rwa [c5] at this
 have hD : FnV (CF (k - 1)) Xr [.islc false false 1 (BL l1), .int .i64 6] (.tup [.islc false true 0 [], .int .i64 11]) := by
  have := Awg (k - 1) (by omega) false l1 hl1 6
  rwa [c6] at this
 have hR : FnV (CF (k - 1)) Tx [.islc false false 1 (BL l1), .int .i64 5] (.tup [.islc false false 3 (b.map IoV.av), .int .i64 0]) := by
  have := wZ (k - 1) (by omega) false l1 hl1 5
  rwa [c7] at this
 have hI := Bbt (k - 1) (by omega) false false true false [5] (by decide)
 have hla : (a.map IoV.av).length = 4 := by simpa using c2
 have hlb : (b.map IoV.av).length = 3 := by simpa using c7'
 refine fnk (by omega) zP rfl ?_
 unfold cS
 repeat' (first
  | refine qS ?_ | refine qN ?_ | refine Aa hN ?_ | refine Aa hC0 ?_ | refine Aa hA ?_ | refine Aa hL ?_ | refine Aa hC1 ?_ | refine Aa hD ?_ | refine Aa hR ?_
  | refine Aa hI ?_ | refine Ak (n := 4) rfl hla rfl rfl ?_ | refine Ak (n := 3) rfl hlb rfl rfl ?_ | refine qQb ?_ | fail)
 exact ⟨Or.inr rfl, _, rfl, rfl⟩
end Go.Proofs.YtkaiiopoilpjeaaGreat
