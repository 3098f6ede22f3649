/- Lemmas. -/
import Derived.Test.YtkaiiopoilpjeaaMD1
import Derived.Test.YtkaiiopoilpjeaaMJ4
set_option linter.unusedSimpArgs false
set_option linter.unusedVariables false
set_option maxRecDepth 10000
set_option maxHeartbeats 16000000
namespace Go.Proofs.Ytkaiiopoilpjeaa
open Go.AI
def IosOk (ios : List IoV) : Prop := ios.length < 100000 ∧ ∀ x ∈ ios, (x.s = 1 ∨ x.data = []) ∧ x.data.length < 1000000
theorem chainL_sz : ∀ (rs : List Rec) (fs : List Nat) (p : Nat), (chainL rs fs p).length ≤ rs.length ∧ ∀ x ∈ chainL rs fs p, x.data.length = 64
 | [], _, _ => by simp [chainL]
 | _ :: _, [], _ => by simp [chainL]
 | r :: rs, a :: fs, p => by
  obtain ⟨h1, h2⟩ := chainL_sz rs fs a
  unfold chainL
  refine ⟨by simp; omega, fun x hx => ?_⟩
  rcases List.mem_cons.1 hx with rfl | hx
  ·exact recB_len _
  ·exact h2 x hx
theorem stepsL_ok (s : Sup) (slot : Nat) (ios : List IoV) (root size first : Nat) (hl : ios.length < 10000) (h : ∀ x ∈ ios, x.data.length = 64) : IosOk (stepsL s slot ios root size first) := by
 unfold stepsL
 refine ⟨by simp [iosW]; omega, fun x hx => ?_⟩
 rcases List.mem_append.1 hx with hx | hx
 ·obtain ⟨y, hy, rfl⟩ := List.mem_map.1 hx
  exact ⟨.inl rfl, by have := h y hy; show y.data.length < _; omega⟩
 ·simp only [List.mem_cons, List.not_mem_nil, or_false] at hx
  rcases hx with rfl | rfl | rfl
  ·exact ⟨.inr rfl, by decide⟩
  ·exact ⟨.inl rfl, by show (supB _).length < _; rw [supB_len]; decide⟩
  ·exact ⟨.inr rfl, by decide⟩
theorem makesP_ok {l : List UInt8} {x : Img} {n : Nat} {first : Rec} {wth : Bool} {ios : List IoV} (hx : x.recs.length ≤ 61) (h : makesP l x n first wth = .ok ios) : IosOk ios := by
 unfold makesP at h
 split at h
 ·cases h
 split at h
 ·cases h
 cases h
 obtain ⟨h1, h2⟩ := chainL_sz (anewP x.recs n first wth) (freeP (countsP l x)) (x.blocks.getD n default)
 refine stepsL_ok _ _ _ _ _ _ ?_ h2
 have : (anewP x.recs n first wth).length ≤ x.recs.length + 1 := by
  unfold anewP
  rw [List.length_append, List.length_reverse, List.length_take]
  split <;> simp <;> omega
 omega
theorem ite_ok {α : Type} {c : Prop} [Decidable c] {e : Nat} {b : Except Nat α} {y : α} (h : (if c then .error e else b) = .ok y) : b = .ok y := by
 by_cases hc : c
 ·rw [if_pos hc] at h; cases h
 ·rwa [if_neg hc] at h
theorem createP_ok {l : List UInt8} {id : Int} {ios : List IoV} (hl : l.length < 1000000) (h : createP l id = .ok ios) : IosOk ios := by
 unfold createP at h
 cases hx : lookQ l with
 | error e => rw [hx] at h; cases h
 | ok x =>
  rw [hx] at h
  simp only at h
  split at h
  ·cases h
  ·exact makesP_ok (lookQ_ok hl hx).2.few h
theorem deleteP_ok {l : List UInt8} {id : Int} {ios : List IoV} (hl : l.length < 1000000) (h : deleteP l id = .ok ios) : IosOk ios := by
 unfold deleteP at h
 cases hx : lookQ l with
 | error e => rw [hx] at h; cases h
 | ok x =>
  rw [hx] at h
  exact makesP_ok (lookQ_ok hl hx).2.few (ite_ok (ite_ok (ite_ok h)))
theorem rollP_ok {l : List UInt8} {id : Int} {ios : List IoV} {e : Nat} (h : rollP l id = .ok (ios, e)) : IosOk ios ∧ (e ≠ 0 → ios = []) := by
 unfold rollP at h
 split at h
 ·cases h
 split at h
 ·cases h
 split at h
 ·cases h
 split at h
 ·cases h
  exact ⟨stepsL_ok _ _ _ _ _ _ (by simp) (by simp), fun h => absurd rfl h⟩
 ·cases h
  exact ⟨⟨by simp, by simp⟩, fun _ => rfl⟩
def wk0 : List UInt8 := newP 16
def wkA : List IoV := match createP wk0 5 with | .ok a => a | .error _ => []
def wk1 : List UInt8 := applyP wk0 wkA
def wkOk : Bool :=
 (match createP wk0 5 with | .ok _ => true | .error _ => false) && Nat.beq wkA.length 4 && Nat.beq (stepsE wk0 wkA) 0 &&
 (match lookQ wk1 with | .ok x => (match idsP x.recs with | [a] => Nat.beq a 5 | _ => false) | .error _ => false) &&
 (match createP wk1 5 with | .error e => Nat.beq e 10 | .ok _ => false) &&
 (match deleteP wk1 6 with | .error e => Nat.beq e 11 | .ok _ => false) &&
 (match rollP wk1 5 with | .ok (a, e) => Nat.beq e 0 && Nat.beq a.length 3 | .error _ => false)
theorem wkOk_true : wkOk = true := by kernel_rfl
theorem wk_facts : ∃ (l0 l1 : List UInt8) (a b : List IoV) (x : Img), l0 = newP 16 ∧ l0.length < 1000000 ∧ l1.length < 1000000 ∧ createP l0 5 = .ok a ∧ a.length = 4 ∧ stepsE l0 a = 0 ∧ l1 = applyP l0 a ∧ lookQ l1 = .ok x ∧ idsP x.recs = [5] ∧
  createP l1 5 = .error 10 ∧ deleteP l1 6 = .error 11 ∧ rollP l1 5 = .ok (b, 0) ∧ b.length = 3 := by
 have h := wkOk_true
 have hl0 : wk0.length < 1000000 := by
  show (newP 16).length < _
  unfold newP
  rw [List.length_append, supB_len]; simp
 unfold wkOk at h
 simp only [Bool.and_eq_true] at h
 obtain ⟨⟨⟨⟨⟨⟨h1, h2⟩, h3⟩, h4⟩, h5⟩, h6⟩, h7⟩ := h
 have c1 : createP wk0 5 = .ok wkA := by
  unfold wkA
  cases hc : createP wk0 5 with
  | ok a => rfl
  | error e => rw [hc] at h1; cases h1
 have c3 : stepsE wk0 wkA = 0 := Nat.eq_of_beq_eq_true h3
 have hl1 : wk1.length < 1000000 := by
  unfold wk1
  rw [applyP_len _ _ (fun x hx => rightP_fit ((stepsE_ok c3).2 x hx))]
  exact hl0
 obtain ⟨x, c4, c4'⟩ : ∃ x, lookQ wk1 = .ok x ∧ idsP x.recs = [5] := by
  cases hc : lookQ wk1 with
  | error e => rw [hc] at h4; cases h4
  | ok x =>
   rw [hc] at h4
   simp only at h4
   refine ⟨x, rfl, ?_⟩
   split at h4
   ·rename_i a ha
    rw [ha, Nat.eq_of_beq_eq_true h4]
   ·cases h4
 have c5 : createP wk1 5 = .error 10 := by
  cases hc : createP wk1 5 with
  | ok a => rw [hc] at h5; cases h5
  | error e => rw [hc] at h5; rw [Nat.eq_of_beq_eq_true h5]
 have c6 : deleteP wk1 6 = .error 11 := by
  cases hc : deleteP wk1 6 with
  | ok a => rw [hc] at h6; cases h6
  | error e => rw [hc] at h6; rw [Nat.eq_of_beq_eq_true h6]
 obtain ⟨b, c7, c7'⟩ : ∃ b, rollP wk1 5 = .ok (b, 0) ∧ b.length = 3 := by
  cases hc : rollP wk1 5 with
  | error e => rw [hc] at h7; cases h7
  | ok p =>
   obtain ⟨a, e⟩ := p
   rw [hc] at h7
   simp only [Bool.and_eq_true] at h7
   exact ⟨a, by rw [Nat.eq_of_beq_eq_true h7.1], Nat.eq_of_beq_eq_true h7.2⟩
 exact ⟨wk0, wk1, wkA, b, x, rfl, hl0, hl1, c1, Nat.eq_of_beq_eq_true h2, c3, rfl, c4, c4', c5, c6, c7, c7'⟩
attribute [local irreducible] aops aexec acall aiter aop W WO
theorem c_wakes19 (k : Nat) (hk : 1000300 ≤ k) : FnV (CF k) n_law19_wakes [] (.bool true) := by
 obtain ⟨l0, l1, a, b, x, e0, hl0, hl1, c1, c2, c3, e1, c4, c4', c5, c6, c7, c7'⟩ := wk_facts
 have ha := createP_ok hl0 c1
 have hb := (rollP_ok c7).1
 have hN : FnV (CF (k - 1)) n_open_New [.int .i64 16] (.tup [.islc false false 1 (BL l0), .int .i64 0]) := by rw [e0]; exact c_New (k - 1) (by omega) 16 (by decide)
 have hC0 : FnV (CF (k - 1)) n_snap_Create [.islc false false 1 (BL l0), .int .i64 5] (.tup [.islc false false 3 (a.map IoV.av), .int .i64 0]) := by
  have := c_Create (k - 1) (by omega) false l0 hl0 5
  rwa [c1] at this
 have hA : FnV (CF (k - 1)) n_dev_Apply [.islc false false 1 (BL l0), .islc false false 3 (a.map IoV.av)] (.tup [.islc false false 1 (BL l1), .int .i64 0]) := by
  have := c_Apply (k - 1) (by omega) false false l0 hl0 false false 3 a (.inl rfl) ha.1 (fun x hx => (ha.2 x hx).1)
  unfold applyAv at this
  rwa [if_neg (fun h => h c3), ← e1] at this
 have hL : FnV (CF (k - 1)) n_snap_List [.islc false false 1 (BL l1)] (.tup [.islc false false 1 (NL [5]), .int .i64 0]) := by
  have := c_List (k - 1) (by omega) false l1 hl1
  rw [c4] at this
  unfold listAv at this
  simp only [c4'] at this
  exact this
 have hC1 : FnV (CF (k - 1)) n_snap_Create [.islc false false 1 (BL l1), .int .i64 5] (.tup [.islc false true 0 [], .int .i64 10]) := by
  have := c_Create (k - 1) (by omega) false l1 hl1 5
  rwa [c5] at this
 have hD : FnV (CF (k - 1)) n_snap_Delete [.islc false false 1 (BL l1), .int .i64 6] (.tup [.islc false true 0 [], .int .i64 11]) := by
  have := c_Delete (k - 1) (by omega) false l1 hl1 6
  rwa [c6] at this
 have hR : FnV (CF (k - 1)) n_snap_Rollback [.islc false false 1 (BL l1), .int .i64 5] (.tup [.islc false false 3 (b.map IoV.av), .int .i64 0]) := by
  have := c_Rollback (k - 1) (by omega) false l1 hl1 5
  rwa [c7] at this
 have hI := c_Ints (k - 1) (by omega) false false true false [5] (by decide)
 have hla : (a.map IoV.av).length = 4 := by simpa using c2
 have hlb : (b.map IoV.av).length = 3 := by simpa using c7'
 refine fnk (by omega) B_law19_wakes rfl ?_
 unfold law19_wakes
 repeat' (first
  | refine q_s ?_ | refine q_z ?_ | refine q_call hN ?_ | refine q_call hC0 ?_ | refine q_call hA ?_ | refine q_call hL ?_ | refine q_call hC1 ?_ | refine q_call hD ?_ | refine q_call hR ?_
  | refine q_call hI ?_ | refine wo_lenG (n := 4) rfl hla rfl rfl ?_ | refine wo_lenG (n := 3) rfl hlb rfl rfl ?_ | refine q_n ?_ | refine q_nn ?_ | refine q_mv ?_ | refine q_cmp ?_
  | refine q_pickT ?_ | refine q_pickF ?_ | refine q_len ?_ | refine q_lenS ?_ | refine q_len0 ?_ | refine q_lenM ?_ | refine q_ex ?_ | refine q_buildS ?_)
 exact ⟨Or.inr rfl, _, rfl, rfl⟩
end Go.Proofs.Ytkaiiopoilpjeaa
