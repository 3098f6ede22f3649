/- Lemmas. -/
import Derived.Test.YtkaiiopoilpjeaaMD2
import Derived.Test.YtkaiiopoilpjeaaMJ4b
set_option linter.unusedSimpArgs false
set_option linter.unusedVariables false
set_option maxRecDepth 10000
set_option maxHeartbeats 16000000
namespace Go.Proofs.Ytkaiiopoilpjeaa
open Go.AI
theorem uO {l : List UInt8} {id : Int} {ios : List IoV} (hl : l.length < 1000000) (h : Jt l id = .ok ios) : qT ios := by
 unfold Jt at h
 cases hx : lookQ l with
 | error e => rw [hx] at h; cases h
 | ok x =>
  rw [hx] at h
  exact lU (Oz hl hx).2.few (uA (uA (uA h)))
theorem Abx {l : List UInt8} {id : Int} {ios : List IoV} {e : Nat} (h : cY l id = .ok (ios, e)) : qT ios ∧ (e ≠ 0 → ios = []) := by
 unfold cY at h
 split at h
 ·cases h
 split at h
 ·cases h
 split at h
 ·cases h
 split at h
 ·cases h
  exact ⟨mJ _ _ _ _ _ _ (by simp) (by simp), fun h => absurd rfl h⟩
 ·cases h
  exact ⟨⟨by simp, by simp⟩, fun _ => rfl⟩
theorem Acb : ∃ (l0 l1 : List UInt8) (a b : List IoV) (x : Img), l0 = newP 16 ∧ l0.length < 1000000 ∧ l1.length < 1000000 ∧ Gw l0 5 = .ok a ∧ a.length = 4 ∧ Kc l0 a = 0 ∧ l1 = Cn l0 a ∧ lookQ l1 = .ok x ∧ idsP x.recs = [5] ∧
  Gw l1 5 = .error 10 ∧ Jt l1 6 = .error 11 ∧ cY l1 5 = .ok (b, 0) ∧ b.length = 3 := by
 have h := yJ
 have hl0 : wk0.length < 1000000 := by
  show (newP 16).length < _
  unfold newP
  rw [Ar, Ki]; simp
 unfold wkOk at h
 simp only [Bu] at h
 obtain ⟨⟨⟨⟨⟨⟨h1, h2⟩, h3⟩, h4⟩, h5⟩, h6⟩, h7⟩ := h
 have c1 : Gw wk0 5 = .ok wkA := by
  unfold wkA
  cases hc : Gw wk0 5 with
  | ok a => rfl
  | error e => rw [hc] at h1; cases h1
 have c3 : Kc wk0 wkA = 0 := Dy h3
 have hl1 : wk1.length < 1000000 := by
  unfold wk1
  rw [Ks _ _ (fun x hx => Xl ((lW c3).2 x hx))]
  exact hl0
 obtain ⟨x, c4, c4'⟩ : ∃ x, lookQ wk1 = .ok x ∧ idsP x.recs = [5] := by
  cases hc : lookQ wk1 with
  | error e => rw [hc] at h4; cases h4
  | ok x =>
   rw [hc] at h4
   simp only at h4
   refine ⟨x, rfl, ?_⟩
   split at h4
   ·rename_i a ha
    rw [ha, Dy h4]
   ·cases h4
 have c5 : Gw wk1 5 = .error 10 := by
  cases hc : Gw wk1 5 with
  | ok a => rw [hc] at h5; cases h5
  | error e => rw [hc] at h5; rw [Dy h5]
 have c6 : Jt wk1 6 = .error 11 := by
  cases hc : Jt wk1 6 with
  | ok a => rw [hc] at h6; cases h6
  | error e => rw [hc] at h6; rw [Dy h6]
 obtain ⟨b, c7, c7'⟩ : ∃ b, cY wk1 5 = .ok (b, 0) ∧ b.length = 3 := by
  cases hc : cY wk1 5 with
  | error e => rw [hc] at h7; cases h7
  | ok p =>
   obtain ⟨a, e⟩ := p
   rw [hc] at h7
   simp only [Bu] at h7
   exact ⟨a, by rw [Dy h7.1], Dy h7.2⟩
 exact ⟨wk0, wk1, wkA, b, x, rfl, hl0, hl1, c1, Dy h2, c3, rfl, c4, c4', c5, c6, c7, c7'⟩
attribute [local irreducible] aops Bb Cj Dm aop W WO
theorem zI (k : Nat) (hk : 1000300 ≤ k) : FnV (CF k) Vz [] (.bool true) := by
 obtain ⟨l0, l1, a, b, x, e0, hl0, hl1, c1, c2, c3, e1, c4, c4', c5, c6, c7, c7'⟩ := Acb
 have ha := eK hl0 c1
 have hb := (Abx c7).1
 have hN : FnV (CF (k - 1)) Xa [.int .i64 16] (.tup [.islc false false 1 (BL l0), .int .i64 0]) := by rw [e0]; exact Afy (k - 1) (by omega) 16 (by decide)
 have hC0 : FnV (CF (k - 1)) Nb [.islc false false 1 (BL l0), .int .i64 5] (.tup [.islc false false 3 (a.map IoV.av), .int .i64 0]) := by
  have := gR (k - 1) (by omega) false l0 hl0 5
  rwa [c1] at this
 have hA : FnV (CF (k - 1)) Tb [.islc false false 1 (BL l0), .islc false false 3 (a.map IoV.av)] (.tup [.islc false false 1 (BL l1), .int .i64 0]) := by
  have := oK (k - 1) (by omega) false false l0 hl0 false false 3 a (.inl rfl) ha.1 (fun x hx => (ha.2 x hx).1)
  unfold Zq at this
  rwa [if_neg (fun h => h c3), ← e1] at this
 have hL : FnV (CF (k - 1)) Sv [.islc false false 1 (BL l1)] (.tup [.islc false false 1 (NL [5]), .int .i64 0]) := by
  have := tE (k - 1) (by omega) false l1 hl1
  rw [c4] at this
  unfold aQ at this
  simp only [c4'] at this
  exact this
 have hC1 : FnV (CF (k - 1)) Nb [.islc false false 1 (BL l1), .int .i64 5] (.tup [.islc false true 0 [], .int .i64 10]) := by
  have := gR (k - 1) (by omega) false l1 hl1 5
  rwa [c5] at this
 have hD : FnV (CF (k - 1)) Qf [.islc false false 1 (BL l1), .int .i64 6] (.tup [.islc false true 0 [], .int .i64 11]) := by
  have := sD (k - 1) (by omega) false l1 hl1 6
  rwa [c6] at this
 have hR : FnV (CF (k - 1)) Oa [.islc false false 1 (BL l1), .int .i64 5] (.tup [.islc false false 3 (b.map IoV.av), .int .i64 0]) := by
  have := tF (k - 1) (by omega) false l1 hl1 5
  rwa [c7] at this
 have hI := nV (k - 1) (by omega) false false true false [5] (by decide)
 have hla : (a.map IoV.av).length = 4 := by simpa using c2
 have hlb : (b.map IoV.av).length = 3 := by simpa using c7'
 refine fnk (by omega) jX rfl ?_
 unfold Tc
 repeat' (first
  | refine qS ?_ | refine qN ?_ | refine Ad hN ?_ | refine Ad hC0 ?_ | refine Ad hA ?_ | refine Ad hL ?_ | refine Ad hC1 ?_ | refine Ad hD ?_ | refine Ad hR ?_
  | refine Ad hI ?_ | refine Ba (n := 4) rfl hla rfl rfl ?_ | refine Ba (n := 3) rfl hlb rfl rfl ?_ | refine qQb ?_ | fail)
 exact ⟨Or.inr rfl, _, rfl, rfl⟩
end Go.Proofs.Ytkaiiopoilpjeaa
