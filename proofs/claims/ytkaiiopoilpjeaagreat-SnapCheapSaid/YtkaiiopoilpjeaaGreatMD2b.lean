/- Lemmas. -/
import Derived.Test.YtkaiiopoilpjeaaGreatMD2
import Derived.Test.YtkaiiopoilpjeaaGreatMJ4b
set_option linter.unusedSimpArgs false
set_option linter.unusedVariables false
set_option maxRecDepth 10000
set_option maxHeartbeats 16000000
namespace Go.Proofs.YtkaiiopoilpjeaaGreat
open Go.AI
theorem Agh {l : List UInt8} {id : Int} {ios : List IoV} (hl : l.length < 1000000) (h : Kv l id = .ok ios) : Yt ios := by
 unfold Kv at h
 cases hx : lookQ l with
 | error e => rw [hx] at h; cases h
 | ok x =>
  rw [hx] at h
  exact vS (Oa hl hx).2.few (Agy (Agy (Agy h)))
theorem Aoy {l : List UInt8} {id : Int} {ios : List IoV} {e : Nat} (h : mO l id = .ok (ios, e)) : Yt ios ∧ (e ≠ 0 → ios = []) := by
 unfold mO at h
 split at h
 ·cases h
 split at h
 ·cases h
 split at h
 ·cases h
 split at h
 ·cases h
  exact ⟨kD _ _ _ _ _ _ (by simp) (by simp), fun h => absurd rfl h⟩
 ·cases h
  exact ⟨⟨by simp, by simp⟩, fun _ => rfl⟩
theorem Ant : ∃ (l0 l1 : List UInt8) (a b : List IoV) (x : Img), l0 = newP 16 ∧ l0.length < 1000000 ∧ l1.length < 1000000 ∧ Jy l0 5 = .ok a ∧ a.length = 4 ∧ Lc l0 a = 0 ∧ l1 = Bt l0 a ∧ lookQ l1 = .ok x ∧ idsP x.recs = [5] ∧
  Jy l1 5 = .error 10 ∧ Kv l1 6 = .error 11 ∧ mO l1 5 = .ok (b, 0) ∧ b.length = 3 := by
 have h := Ald
 have hl0 : wk0.length < 1000000 := by
  show (newP 16).length < _
  unfold newP
  rw [An, Nx]; simp
 unfold wkOk at h
 simp only [Cl] at h
 obtain ⟨⟨⟨⟨⟨⟨h1, h2⟩, h3⟩, h4⟩, h5⟩, h6⟩, h7⟩ := h
 have c1 : Jy wk0 5 = .ok wkA := by
  unfold wkA
  cases hc : Jy wk0 5 with
  | ok a => rfl
  | error e => rw [hc] at h1; cases h1
 have c3 : Lc wk0 wkA = 0 := Fi h3
 have hl1 : wk1.length < 1000000 := by
  unfold wk1
  rw [Of _ _ (fun x hx => fA ((wJ c3).2 x hx))]
  exact hl0
 obtain ⟨x, c4, c4'⟩ : ∃ x, lookQ wk1 = .ok x ∧ idsP x.recs = [5] := by
  cases hc : lookQ wk1 with
  | error e => rw [hc] at h4; cases h4
  | ok x =>
   rw [hc] at h4
   simp only at h4
   refine ⟨x, rfl, ?_⟩
   split at h4
   ·rename_i a ha
    rw [ha, Fi h4]
   ·cases h4
 have c5 : Jy wk1 5 = .error 10 := by
  cases hc : Jy wk1 5 with
  | ok a => rw [hc] at h5; cases h5
  | error e => rw [hc] at h5; rw [Fi h5]
 have c6 : Kv wk1 6 = .error 11 := by
  cases hc : Kv wk1 6 with
  | ok a => rw [hc] at h6; cases h6
  | error e => rw [hc] at h6; rw [Fi h6]
 obtain ⟨b, c7, c7'⟩ : ∃ b, mO wk1 5 = .ok (b, 0) ∧ b.length = 3 := by
  cases hc : mO wk1 5 with
  | error e => rw [hc] at h7; cases h7
  | ok p =>
   obtain ⟨a, e⟩ := p
   rw [hc] at h7
   simp only [Cl] at h7
   exact ⟨a, by rw [Fi h7.1], Fi h7.2⟩
 exact ⟨wk0, wk1, wkA, b, x, rfl, hl0, hl1, c1, Fi h2, c3, rfl, c4, c4', c5, c6, c7, c7'⟩
attribute [local irreducible] aops Br Cp Dp aop W WO
theorem Amj (k : Nat) (hk : 1000300 ≤ k) : FnV (CF k) dK [] (.bool true) := by
 obtain ⟨l0, l1, a, b, x, e0, hl0, hl1, c1, c2, c3, e1, c4, c4', c5, c6, c7, c7'⟩ := Ant
 have ha := rW hl0 c1
 have hb := (Aoy c7).1
 have hN : FnV (CF (k - 1)) Xg [.int .i64 16] (.tup [.islc false false 1 (BL l0), .int .i64 0]) := by rw [e0]; exact Aux (k - 1) (by omega) 16 (by decide)
 have hC0 : FnV (CF (k - 1)) Rl [.islc false false 1 (BL l0), .int .i64 5] (.tup [.islc false false 3 (a.map IoV.av), .int .i64 0]) := by
  have := sV (k - 1) (by omega) false l0 hl0 5
  rwa [c1] at this
 have hA : FnV (CF (k - 1)) Uq [.islc false false 1 (BL l0), .islc false false 3 (a.map IoV.av)] (.tup [.islc false false 1 (BL l1), .int .i64 0]) := by
  have := iD (k - 1) (by omega) false false l0 hl0 false false 3 a (.inl rfl) ha.1 (fun x hx => (ha.2 x hx).1)
  unfold Xv at this
  rwa [if_neg (fun h => h c3), ← e1] at this
 have hL : FnV (CF (k - 1)) aJ [.islc false false 1 (BL l1)] (.tup [.islc false false 1 (NL [5]), .int .i64 0]) := by
  have := Awv (k - 1) (by omega) false l1 hl1
  rw [c4] at this
  unfold yI at this
  simp only [c4'] at this
  exact this
 have hC1 : FnV (CF (k - 1)) Rl [.islc false false 1 (BL l1), .int .i64 5] (.tup [.islc false true 0 [], .int .i64 10]) := by
  have := sV (k - 1) (by omega) false l1 hl1 5
  rwa [c5] at this
 have hD : FnV (CF (k - 1)) Vg [.islc false false 1 (BL l1), .int .i64 6] (.tup [.islc false true 0 [], .int .i64 11]) := by
  have := Adq (k - 1) (by omega) false l1 hl1 6
  rwa [c6] at this
 have hR : FnV (CF (k - 1)) Sd [.islc false false 1 (BL l1), .int .i64 5] (.tup [.islc false false 3 (b.map IoV.av), .int .i64 0]) := by
  have := Agc (k - 1) (by omega) false l1 hl1 5
  rwa [c7] at this
 have hI := Avk (k - 1) (by omega) false false true false [5] (by decide)
 have hla : (a.map IoV.av).length = 4 := by simpa using c2
 have hlb : (b.map IoV.av).length = 3 := by simpa using c7'
 refine fnk (by omega) tZ rfl ?_
 unfold aS
 repeat' (first
  | refine qS ?_ | refine qN ?_ | refine Ae hN ?_ | refine Ae hC0 ?_ | refine Ae hA ?_ | refine Ae hL ?_ | refine Ae hC1 ?_ | refine Ae hD ?_ | refine Ae hR ?_
  | refine Ae hI ?_ | refine Bh (n := 4) rfl hla rfl rfl ?_ | refine Bh (n := 3) rfl hlb rfl rfl ?_ | refine qQb ?_ | fail)
 exact ⟨Or.inr rfl, _, rfl, rfl⟩
end Go.Proofs.YtkaiiopoilpjeaaGreat
