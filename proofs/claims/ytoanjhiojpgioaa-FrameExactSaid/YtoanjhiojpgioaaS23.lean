/- The document's answers: the command of a payload. -/
import Derived.Test.YtoanjhiojpgioaaS21
import Derived.Test.YtoanjhiojpgioaaS13
set_option linter.unusedSimpArgs false
set_option linter.unusedVariables false
set_option maxRecDepth 10000
set_option maxHeartbeats 16000000
namespace Go.Proofs.Ytoanjhiojpgioaa
open Go.AI
attribute [local irreducible] aops aexec acall aiter aop W WO

variable {xf : ExtF} {gf : CallF}

theorem e_ref_Get8 (k : Nat) (hk : 9 < k) (t f : Bool) (l : List UInt8) (a : Nat) (ha : a + 8 ≤ l.length) (hl : l.length < 1000000) :
    FnV (acall B xf gf (k + 2)) n_ref01_Get8 [.islc t f 1 (BL l), .int .i64 a] (.tup [.int .i64 (getP l a 8).1, .bool (decide ((getP l a 8).2 = 0))]) := by
  have e : (l.drop (a : Int).toNat).take (((a : Int) + 8).toNat - (a : Int).toNat) = (l.drop a).take 8 := by
    rw [Int.toNat_natCast]
    congr 1
    omega
  have h := fun f => e_ref_Number (xf := xf) (gf := gf) k hk t f ((l.drop a).take 8) (by simp; omega)
  have hg : getP l a 8 = if leN ((l.drop a).take 8) ≤ 4611686018427387903 then ((leN ((l.drop a).take 8) : Int), 0) else (0, 1) := by
    unfold getP
    rw [if_pos ⟨by omega, by omega⟩, Int.toNat_natCast]
  by_cases hle : leN ((l.drop a).take 8) ≤ 4611686018427387903
  · rw [if_pos hle] at hg
    simp only [if_pos hle] at h
    rw [hg]
    refine fn_of B_ref01_Get8 rfl ?_
    unfold ref01_Get8
    repeat' (first
     | refine wo_nil ?_
     | refine w_seq ?_
     | refine w_region ?_
     | refine w_ret ?_
     | refine w_skip ?_
     | refine w_exit ?_
     | refine w_block ?_
     | refine w_true rfl ?_
     | refine w_false rfl ?_
     | refine wo_n rfl ?_
     | refine wo_nn rfl ?_
     | (refine wo_call (h _) rfl (by rw [← e]; rfl) rfl ?_)
     | refine wo_mv _ (by conv => lhs; whnf) rfl rfl ?_
     | refine wo_add rfl rfl (by omega) rfl rfl ?_
     | refine wo_extractW rfl rfl (by conv => lhs; whnf) rfl rfl ?_
     | (refine is_slice ?_; first | refine wo_slice0 rfl (by (first | exact Or.inl rfl | exact Or.inr rfl | assumption)) rfl (by omega) (by omega) rfl rfl ?_ | refine wo_sliceE rfl (by (first | exact Or.inl rfl | exact Or.inr rfl | assumption)) rfl (by omega) (by omega) rfl rfl ?_ | refine wo_sliceM rfl (by (first | exact Or.inl rfl | exact Or.inr rfl | assumption)) rfl rfl (by omega) (by omega) (by omega) rfl rfl ?_))
    exact ⟨Or.inr rfl, _, rfl, rfl⟩
  · rw [if_neg hle] at hg
    simp only [if_neg hle] at h
    rw [hg]
    refine fn_of B_ref01_Get8 rfl ?_
    unfold ref01_Get8
    repeat' (first
     | refine wo_nil ?_
     | refine w_seq ?_
     | refine w_region ?_
     | refine w_ret ?_
     | refine w_skip ?_
     | refine w_exit ?_
     | refine w_block ?_
     | refine w_true rfl ?_
     | refine w_false rfl ?_
     | refine wo_n rfl ?_
     | refine wo_nn rfl ?_
     | (refine wo_call (h _) rfl (by rw [← e]; rfl) rfl ?_)
     | refine wo_mv _ (by conv => lhs; whnf) rfl rfl ?_
     | refine wo_add rfl rfl (by omega) rfl rfl ?_
     | refine wo_extractW rfl rfl (by conv => lhs; whnf) rfl rfl ?_
     | (refine is_slice ?_; first | refine wo_slice0 rfl (by (first | exact Or.inl rfl | exact Or.inr rfl | assumption)) rfl (by omega) (by omega) rfl rfl ?_ | refine wo_sliceE rfl (by (first | exact Or.inl rfl | exact Or.inr rfl | assumption)) rfl (by omega) (by omega) rfl rfl ?_ | refine wo_sliceM rfl (by (first | exact Or.inl rfl | exact Or.inr rfl | assumption)) rfl rfl (by omega) (by omega) (by omega) rfl rfl ?_))
    exact ⟨Or.inr rfl, _, rfl, rfl⟩

theorem getP4n {l : List UInt8} {a : Nat} (h : a + 4 ≤ l.length) : getP l (a : Int) 4 = ((leN ((l.drop a).take 4) : Int), 0) := by
  rw [getP4 (by omega) (by omega), Int.toNat_natCast]

/-- A number of four bytes. -/
def g4 (l : List UInt8) (a : Nat) : Int := leN ((l.drop a).take 4)

theorem num44 {b : List UInt8} (h : b.length = 8) : numB b [4, 4] = true ∧ numO b [4, 4] = [g4 b 0, g4 b 4] := by
  have e : numGo b 0 [4, 4] = some ([g4 b 0, g4 b 4], 8) := by
    simp only [numGo]
    rw [getP4n (a := 0) (by omega), getP4n (a := 0 + 4) (by omega)]
    rfl
  unfold numB numO
  rw [e]
  exact ⟨decide_eq_true h.symm, rfl⟩
theorem num444 {b : List UInt8} (h : b.length = 12) : numB b [4, 4, 4] = true ∧ numO b [4, 4, 4] = [g4 b 0, g4 b 4, g4 b 8] := by
  have e : numGo b 0 [4, 4, 4] = some ([g4 b 0, g4 b 4, g4 b 8], 12) := by
    simp only [numGo]
    rw [getP4n (a := 0) (by omega), getP4n (a := 0 + 4) (by omega), getP4n (a := 0 + 4 + 4) (by omega)]
    rfl
  unfold numB numO
  rw [e]
  exact ⟨decide_eq_true h.symm, rfl⟩
theorem num4 {b : List UInt8} (h : b.length = 4) : numB b [4] = true ∧ numO b [4] = [g4 b 0] := by
  have e : numGo b 0 [4] = some ([g4 b 0], 4) := by
    simp only [numGo]
    rw [getP4n (a := 0) (by omega)]
    rfl
  unfold numB numO
  rw [e]
  exact ⟨decide_eq_true h.symm, rfl⟩
theorem num8844 {b : List UInt8} (h : b.length = 24) : numB b [8, 8, 4, 4] = (decide ((getP b (0 : Nat) 8).2 = 0) && decide ((getP b (8 : Nat) 8).2 = 0)) ∧
    ((getP b (0 : Nat) 8).2 = 0 → (getP b (8 : Nat) 8).2 = 0 → numO b [8, 8, 4, 4] = [(getP b (0 : Nat) 8).1, (getP b (8 : Nat) 8).1, g4 b 16, g4 b 20]) := by
  have e : numGo b 0 [8, 8, 4, 4] = if (getP b (0 : Nat) 8).2 = 0 then (if (getP b (8 : Nat) 8).2 = 0 then some ([(getP b (0 : Nat) 8).1, (getP b (8 : Nat) 8).1, g4 b 16, g4 b 20], 24) else none) else none := by
    simp only [numGo]
    rw [getP4n (a := 0 + 8 + 8) (by omega), getP4n (a := 0 + 8 + 8 + 4) (by omega)]
    split
    · split
      · rfl
      · rfl
    · rfl
  unfold numB numO
  rw [e]
  by_cases h1 : (getP b (0 : Nat) 8).2 = 0
  · by_cases h2 : (getP b (8 : Nat) 8).2 = 0
    · rw [if_pos h1, if_pos h2]
      exact ⟨by show decide (24 = b.length) = _; rw [decide_eq_true h.symm, decide_eq_true h1, decide_eq_true h2]; rfl, fun _ _ => rfl⟩
    · rw [if_pos h1, if_neg h2]
      exact ⟨by show false = _; rw [decide_eq_true h1, decide_eq_false h2]; rfl, fun _ hh => absurd hh h2⟩
  · rw [if_neg h1]
    exact ⟨by show false = _; rw [decide_eq_false h1]; rfl, fun hh => absurd hh h1⟩

/-- Is a payload a right command of a kind? -/
def okC (kind : Int) (b : List UInt8) : Bool := rawB kind b && decide (chkP (rawC kind b))

/-- What the document's 'command' answers. -/
def CmdAns (cf : CallF) (kind : Int) (t f : Bool) (b : List UInt8) : Prop :=
  ∃ c' f' s', FnV cf n_ref01_command [.int .i64 kind, .islc t f 1 (BL b)] (.tup [Cmd.av false f' s' c', .bool (okC kind b)]) ∧ (okC kind b = true → Cmd.av false f' s' c' = rawAv kind b)

theorem e_ref_command3 (k : Nat) (hk : 9 < k) (t f : Bool) (b : List UInt8) (hb : b.length < 900000) : CmdAns (acall B xf gf (k + 4)) 3 t f b := by
  by_cases hl : b.length = 8
  · obtain ⟨q1, q2⟩ := num44 hl
    have hg0 := e_ref_Get4 (xf := xf) (gf := gf) (k + 1) (by omega) t f b 0 (by omega) (by omega)
    change FnV _ _ _ (.int .i64 (g4 b 0)) at hg0
    have hg4 := e_ref_Get4 (xf := xf) (gf := gf) (k + 1) (by omega) t f b 4 (by omega) (by omega)
    change FnV _ _ _ (.int .i64 (g4 b 4)) at hg4
    have hrc : rawC 3 b = ⟨3, 0, 0, 0, g4 b 0, g4 b 4, 0, 0, []⟩ := by simp [rawC, q1, q2]
    have hrb : rawB 3 b = true := by simp [rawB, q1]
    have hrd : rawD 3 b = false := by simp [rawD]
    have hcc := e_ref_Command (xf := xf) (gf := gf) k false true 0 ⟨3, 0, 0, 0, g4 b 0, g4 b 4, 0, 0, []⟩ (by simp)
    refine ⟨⟨3, 0, 0, 0, g4 b 0, g4 b 4, 0, 0, []⟩, true, 0, ?_, fun _ => by unfold rawAv; rw [hrc, hrd]; rfl⟩
    unfold okC
    rw [hrb, hrc, Bool.true_and]
    unfold Cmd.av at hcc
    refine fn_of B_ref01_command rfl ?_
    unfold ref01_command
    repeat' (first
     | refine wo_nil ?_
     | refine w_seq ?_
     | refine w_region ?_
     | refine w_ret ?_
     | refine w_skip ?_
     | refine w_exit ?_
     | refine w_block ?_
     | refine w_true rfl ?_
     | refine w_false rfl ?_
     | refine wo_n rfl ?_
     | refine wo_nn rfl ?_
     | refine wo_call hg0 rfl rfl rfl ?_
     | refine wo_call hg4 rfl rfl rfl ?_
     | refine wo_call hcc rfl rfl rfl ?_
     | refine wo_mv _ (by conv => lhs; whnf) rfl rfl ?_
     | refine wo_faddr rfl rfl rfl ?_
     | (refine is_load ?_; first | refine wo_load _ rfl rfl rfl (Nat.le_of_ble_eq_true rfl) (by conv => lhs; whnf) rfl rfl ?_ | refine wo_loadI _ rfl (Nat.le_of_ble_eq_true rfl) (by conv => lhs; whnf) rfl rfl ?_)
     | (refine is_bin ?_; first | refine wo_cmpT rfl rfl rfl (by first | (simp only [cmpP]; done) | (simp only [cmpP]; omega)) rfl rfl ?_ | refine wo_cmpF rfl rfl rfl (by first | (simp only [cmpP]; done) | (simp only [cmpP]; omega)) rfl rfl ?_ | refine wo_cmp rfl rfl rfl rfl rfl (fun _ => ?_) (fun _ => ?_) | refine wo_add rfl rfl (by omega) rfl rfl ?_ | refine wo_mul rfl rfl (by omega) rfl rfl ?_)
     | (refine is_pick ?_; first | refine wo_pickT _ rfl (by conv => lhs; whnf) rfl rfl ?_ | refine wo_pickF _ rfl (by conv => lhs; whnf) rfl rfl ?_)
     | (refine is_len ?_; first | refine wo_len rfl rfl rfl ?_ | refine wo_lenS rfl rfl rfl ?_ | refine wo_len0 rfl rfl rfl ?_)
     | refine wo_extractW rfl rfl (by conv => lhs; whnf) rfl rfl ?_
     | refine wo_store rfl rfl rfl rfl rfl rfl rfl (Nat.le_of_ble_eq_true rfl) rfl rfl ?_
     | refine wo_box _ (by conv => lhs; whnf) (by rfl) rfl rfl ?_
     | refine wo_build (.agg _) rfl rfl rfl rfl ?_
     | refine wo_app rfl rfl (by (first | exact Or.inl rfl | exact Or.inr rfl | assumption)) (by (first | rfl | exact Heap.upd_same _ _ _)) (by (first | rfl | (simp; done) | (simp; omega))) (by (first | omega | (simp; omega))) rfl rfl (fun _ => ?_)
     | (refine is_slice ?_; first | refine wo_slice0 rfl (by (first | exact Or.inl rfl | exact Or.inr rfl | assumption)) rfl (by omega) (by omega) rfl rfl ?_ | refine wo_sliceE rfl (by (first | exact Or.inl rfl | exact Or.inr rfl | assumption)) rfl (by omega) (by omega) rfl rfl ?_ | refine wo_sliceM rfl (by (first | exact Or.inl rfl | exact Or.inr rfl | assumption)) rfl rfl (by omega) (by omega) (by omega) rfl rfl ?_))
    exact ⟨Or.inr rfl, _, rfl, rfl⟩
  · have hrb : rawB 3 b = false := by
      cases h : rawB 3 b with
      | false => rfl
      | true =>
        have : numB b [4, 4] = true := by simpa [rawB] using h
        exact absurd (by have := numB_len this; simpa using this) hl
    refine ⟨⟨3, 0, 0, 0, 0, 0, 0, 0, []⟩, true, 0, ?_, fun h => ?_⟩
    · unfold okC
      rw [hrb, Bool.false_and]
      refine fn_of B_ref01_command rfl ?_
      unfold ref01_command
      repeat' (first
       | refine wo_nil ?_
       | refine w_seq ?_
       | refine w_region ?_
       | refine w_ret ?_
       | refine w_skip ?_
       | refine w_exit ?_
       | refine w_block ?_
       | refine w_true rfl ?_
       | refine w_false rfl ?_
       | refine wo_n rfl ?_
       | refine wo_nn rfl ?_
       | refine wo_mv _ (by conv => lhs; whnf) rfl rfl ?_
       | refine wo_faddr rfl rfl rfl ?_
       | (refine is_load ?_; first | refine wo_load _ rfl rfl rfl (Nat.le_of_ble_eq_true rfl) (by conv => lhs; whnf) rfl rfl ?_ | refine wo_loadI _ rfl (Nat.le_of_ble_eq_true rfl) (by conv => lhs; whnf) rfl rfl ?_)
       | (refine is_bin ?_; first | refine wo_cmpT rfl rfl rfl (by first | (simp only [cmpP]; done) | (simp only [cmpP]; omega)) rfl rfl ?_ | refine wo_cmpF rfl rfl rfl (by first | (simp only [cmpP]; done) | (simp only [cmpP]; omega)) rfl rfl ?_ | refine wo_cmp rfl rfl rfl rfl rfl (fun _ => ?_) (fun _ => ?_) | refine wo_add rfl rfl (by omega) rfl rfl ?_ | refine wo_mul rfl rfl (by omega) rfl rfl ?_)
       | (refine is_pick ?_; first | refine wo_pickT _ rfl (by conv => lhs; whnf) rfl rfl ?_ | refine wo_pickF _ rfl (by conv => lhs; whnf) rfl rfl ?_)
       | (refine is_len ?_; first | refine wo_len rfl rfl rfl ?_ | refine wo_lenS rfl rfl rfl ?_ | refine wo_len0 rfl rfl rfl ?_)
       | refine wo_extractW rfl rfl (by conv => lhs; whnf) rfl rfl ?_
       | refine wo_store rfl rfl rfl rfl rfl rfl rfl (Nat.le_of_ble_eq_true rfl) rfl rfl ?_
       | refine wo_box _ (by conv => lhs; whnf) (by rfl) rfl rfl ?_
       | refine wo_build (.agg _) rfl rfl rfl rfl ?_
       | refine wo_app rfl rfl (by (first | exact Or.inl rfl | exact Or.inr rfl | assumption)) (by (first | rfl | exact Heap.upd_same _ _ _)) (by (first | rfl | (simp; done) | (simp; omega))) (by (first | omega | (simp; omega))) rfl rfl (fun _ => ?_)
       | (refine is_slice ?_; first | refine wo_slice0 rfl (by (first | exact Or.inl rfl | exact Or.inr rfl | assumption)) rfl (by omega) (by omega) rfl rfl ?_ | refine wo_sliceE rfl (by (first | exact Or.inl rfl | exact Or.inr rfl | assumption)) rfl (by omega) (by omega) rfl rfl ?_ | refine wo_sliceM rfl (by (first | exact Or.inl rfl | exact Or.inr rfl | assumption)) rfl rfl (by omega) (by omega) (by omega) rfl rfl ?_))
      exact ⟨Or.inr rfl, _, rfl, rfl⟩
    · unfold okC at h
      rw [hrb, Bool.false_and] at h
      cases h

theorem e_ref_command4 (k : Nat) (hk : 9 < k) (t f : Bool) (b : List UInt8) (hb : b.length < 900000) : CmdAns (acall B xf gf (k + 4)) 4 t f b := by
  by_cases hl : b.length = 12
  · obtain ⟨q1, q2⟩ := num444 hl
    have hg0 := e_ref_Get4 (xf := xf) (gf := gf) (k + 1) (by omega) t f b 0 (by omega) (by omega)
    change FnV _ _ _ (.int .i64 (g4 b 0)) at hg0
    have hg4 := e_ref_Get4 (xf := xf) (gf := gf) (k + 1) (by omega) t f b 4 (by omega) (by omega)
    change FnV _ _ _ (.int .i64 (g4 b 4)) at hg4
    have hg8 := e_ref_Get4 (xf := xf) (gf := gf) (k + 1) (by omega) t f b 8 (by omega) (by omega)
    change FnV _ _ _ (.int .i64 (g4 b 8)) at hg8
    have hrc : rawC 4 b = ⟨4, 0, 0, 0, g4 b 0, g4 b 4, g4 b 8, 0, []⟩ := by simp [rawC, q1, q2]
    have hrb : rawB 4 b = true := by simp [rawB, q1]
    have hrd : rawD 4 b = false := by simp [rawD]
    have hcc := e_ref_Command (xf := xf) (gf := gf) k false true 0 ⟨4, 0, 0, 0, g4 b 0, g4 b 4, g4 b 8, 0, []⟩ (by simp)
    refine ⟨⟨4, 0, 0, 0, g4 b 0, g4 b 4, g4 b 8, 0, []⟩, true, 0, ?_, fun _ => by unfold rawAv; rw [hrc, hrd]; rfl⟩
    unfold okC
    rw [hrb, hrc, Bool.true_and]
    unfold Cmd.av at hcc
    refine fn_of B_ref01_command rfl ?_
    unfold ref01_command
    repeat' (first
     | refine wo_nil ?_
     | refine w_seq ?_
     | refine w_region ?_
     | refine w_ret ?_
     | refine w_skip ?_
     | refine w_exit ?_
     | refine w_block ?_
     | refine w_true rfl ?_
     | refine w_false rfl ?_
     | refine wo_n rfl ?_
     | refine wo_nn rfl ?_
     | refine wo_call hg0 rfl rfl rfl ?_
     | refine wo_call hg4 rfl rfl rfl ?_
     | refine wo_call hg8 rfl rfl rfl ?_
     | refine wo_call hcc rfl rfl rfl ?_
     | refine wo_mv _ (by conv => lhs; whnf) rfl rfl ?_
     | refine wo_faddr rfl rfl rfl ?_
     | (refine is_load ?_; first | refine wo_load _ rfl rfl rfl (Nat.le_of_ble_eq_true rfl) (by conv => lhs; whnf) rfl rfl ?_ | refine wo_loadI _ rfl (Nat.le_of_ble_eq_true rfl) (by conv => lhs; whnf) rfl rfl ?_)
     | (refine is_bin ?_; first | refine wo_cmpT rfl rfl rfl (by first | (simp only [cmpP]; done) | (simp only [cmpP]; omega)) rfl rfl ?_ | refine wo_cmpF rfl rfl rfl (by first | (simp only [cmpP]; done) | (simp only [cmpP]; omega)) rfl rfl ?_ | refine wo_cmp rfl rfl rfl rfl rfl (fun _ => ?_) (fun _ => ?_) | refine wo_add rfl rfl (by omega) rfl rfl ?_ | refine wo_mul rfl rfl (by omega) rfl rfl ?_)
     | (refine is_pick ?_; first | refine wo_pickT _ rfl (by conv => lhs; whnf) rfl rfl ?_ | refine wo_pickF _ rfl (by conv => lhs; whnf) rfl rfl ?_)
     | (refine is_len ?_; first | refine wo_len rfl rfl rfl ?_ | refine wo_lenS rfl rfl rfl ?_ | refine wo_len0 rfl rfl rfl ?_)
     | refine wo_extractW rfl rfl (by conv => lhs; whnf) rfl rfl ?_
     | refine wo_store rfl rfl rfl rfl rfl rfl rfl (Nat.le_of_ble_eq_true rfl) rfl rfl ?_
     | refine wo_box _ (by conv => lhs; whnf) (by rfl) rfl rfl ?_
     | refine wo_build (.agg _) rfl rfl rfl rfl ?_
     | refine wo_app rfl rfl (by (first | exact Or.inl rfl | exact Or.inr rfl | assumption)) (by (first | rfl | exact Heap.upd_same _ _ _)) (by (first | rfl | (simp; done) | (simp; omega))) (by (first | omega | (simp; omega))) rfl rfl (fun _ => ?_)
     | (refine is_slice ?_; first | refine wo_slice0 rfl (by (first | exact Or.inl rfl | exact Or.inr rfl | assumption)) rfl (by omega) (by omega) rfl rfl ?_ | refine wo_sliceE rfl (by (first | exact Or.inl rfl | exact Or.inr rfl | assumption)) rfl (by omega) (by omega) rfl rfl ?_ | refine wo_sliceM rfl (by (first | exact Or.inl rfl | exact Or.inr rfl | assumption)) rfl rfl (by omega) (by omega) (by omega) rfl rfl ?_))
    exact ⟨Or.inr rfl, _, rfl, rfl⟩
  · have hrb : rawB 4 b = false := by
      cases h : rawB 4 b with
      | false => rfl
      | true =>
        have : numB b [4, 4, 4] = true := by simpa [rawB] using h
        exact absurd (by have := numB_len this; simpa using this) hl
    refine ⟨⟨4, 0, 0, 0, 0, 0, 0, 0, []⟩, true, 0, ?_, fun h => ?_⟩
    · unfold okC
      rw [hrb, Bool.false_and]
      refine fn_of B_ref01_command rfl ?_
      unfold ref01_command
      repeat' (first
       | refine wo_nil ?_
       | refine w_seq ?_
       | refine w_region ?_
       | refine w_ret ?_
       | refine w_skip ?_
       | refine w_exit ?_
       | refine w_block ?_
       | refine w_true rfl ?_
       | refine w_false rfl ?_
       | refine wo_n rfl ?_
       | refine wo_nn rfl ?_
       | refine wo_mv _ (by conv => lhs; whnf) rfl rfl ?_
       | refine wo_faddr rfl rfl rfl ?_
       | (refine is_load ?_; first | refine wo_load _ rfl rfl rfl (Nat.le_of_ble_eq_true rfl) (by conv => lhs; whnf) rfl rfl ?_ | refine wo_loadI _ rfl (Nat.le_of_ble_eq_true rfl) (by conv => lhs; whnf) rfl rfl ?_)
       | (refine is_bin ?_; first | refine wo_cmpT rfl rfl rfl (by first | (simp only [cmpP]; done) | (simp only [cmpP]; omega)) rfl rfl ?_ | refine wo_cmpF rfl rfl rfl (by first | (simp only [cmpP]; done) | (simp only [cmpP]; omega)) rfl rfl ?_ | refine wo_cmp rfl rfl rfl rfl rfl (fun _ => ?_) (fun _ => ?_) | refine wo_add rfl rfl (by omega) rfl rfl ?_ | refine wo_mul rfl rfl (by omega) rfl rfl ?_)
       | (refine is_pick ?_; first | refine wo_pickT _ rfl (by conv => lhs; whnf) rfl rfl ?_ | refine wo_pickF _ rfl (by conv => lhs; whnf) rfl rfl ?_)
       | (refine is_len ?_; first | refine wo_len rfl rfl rfl ?_ | refine wo_lenS rfl rfl rfl ?_ | refine wo_len0 rfl rfl rfl ?_)
       | refine wo_extractW rfl rfl (by conv => lhs; whnf) rfl rfl ?_
       | refine wo_store rfl rfl rfl rfl rfl rfl rfl (Nat.le_of_ble_eq_true rfl) rfl rfl ?_
       | refine wo_box _ (by conv => lhs; whnf) (by rfl) rfl rfl ?_
       | refine wo_build (.agg _) rfl rfl rfl rfl ?_
       | refine wo_app rfl rfl (by (first | exact Or.inl rfl | exact Or.inr rfl | assumption)) (by (first | rfl | exact Heap.upd_same _ _ _)) (by (first | rfl | (simp; done) | (simp; omega))) (by (first | omega | (simp; omega))) rfl rfl (fun _ => ?_)
       | (refine is_slice ?_; first | refine wo_slice0 rfl (by (first | exact Or.inl rfl | exact Or.inr rfl | assumption)) rfl (by omega) (by omega) rfl rfl ?_ | refine wo_sliceE rfl (by (first | exact Or.inl rfl | exact Or.inr rfl | assumption)) rfl (by omega) (by omega) rfl rfl ?_ | refine wo_sliceM rfl (by (first | exact Or.inl rfl | exact Or.inr rfl | assumption)) rfl rfl (by omega) (by omega) (by omega) rfl rfl ?_))
      exact ⟨Or.inr rfl, _, rfl, rfl⟩
    · unfold okC at h
      rw [hrb, Bool.false_and] at h
      cases h

theorem e_ref_command5 (k : Nat) (hk : 9 < k) (t f : Bool) (b : List UInt8) (hb : b.length < 900000) : CmdAns (acall B xf gf (k + 4)) 5 t f b := by
  by_cases hl : b.length = 4
  · obtain ⟨q1, q2⟩ := num4 hl
    have hg0 := e_ref_Get4 (xf := xf) (gf := gf) (k + 1) (by omega) t f b 0 (by omega) (by omega)
    change FnV _ _ _ (.int .i64 (g4 b 0)) at hg0
    have hrc : rawC 5 b = ⟨5, 0, 0, g4 b 0, 0, 0, 0, 0, []⟩ := by simp [rawC, q1, q2]
    have hrb : rawB 5 b = true := by simp [rawB, q1]
    have hrd : rawD 5 b = false := by simp [rawD]
    have hcc := e_ref_Command (xf := xf) (gf := gf) k false true 0 ⟨5, 0, 0, g4 b 0, 0, 0, 0, 0, []⟩ (by simp)
    refine ⟨⟨5, 0, 0, g4 b 0, 0, 0, 0, 0, []⟩, true, 0, ?_, fun _ => by unfold rawAv; rw [hrc, hrd]; rfl⟩
    unfold okC
    rw [hrb, hrc, Bool.true_and]
    unfold Cmd.av at hcc
    refine fn_of B_ref01_command rfl ?_
    unfold ref01_command
    repeat' (first
     | refine wo_nil ?_
     | refine w_seq ?_
     | refine w_region ?_
     | refine w_ret ?_
     | refine w_skip ?_
     | refine w_exit ?_
     | refine w_block ?_
     | refine w_true rfl ?_
     | refine w_false rfl ?_
     | refine wo_n rfl ?_
     | refine wo_nn rfl ?_
     | refine wo_call hg0 rfl rfl rfl ?_
     | refine wo_call hcc rfl rfl rfl ?_
     | refine wo_mv _ (by conv => lhs; whnf) rfl rfl ?_
     | refine wo_faddr rfl rfl rfl ?_
     | (refine is_load ?_; first | refine wo_load _ rfl rfl rfl (Nat.le_of_ble_eq_true rfl) (by conv => lhs; whnf) rfl rfl ?_ | refine wo_loadI _ rfl (Nat.le_of_ble_eq_true rfl) (by conv => lhs; whnf) rfl rfl ?_)
     | (refine is_bin ?_; first | refine wo_cmpT rfl rfl rfl (by first | (simp only [cmpP]; done) | (simp only [cmpP]; omega)) rfl rfl ?_ | refine wo_cmpF rfl rfl rfl (by first | (simp only [cmpP]; done) | (simp only [cmpP]; omega)) rfl rfl ?_ | refine wo_cmp rfl rfl rfl rfl rfl (fun _ => ?_) (fun _ => ?_) | refine wo_add rfl rfl (by omega) rfl rfl ?_ | refine wo_mul rfl rfl (by omega) rfl rfl ?_)
     | (refine is_pick ?_; first | refine wo_pickT _ rfl (by conv => lhs; whnf) rfl rfl ?_ | refine wo_pickF _ rfl (by conv => lhs; whnf) rfl rfl ?_)
     | (refine is_len ?_; first | refine wo_len rfl rfl rfl ?_ | refine wo_lenS rfl rfl rfl ?_ | refine wo_len0 rfl rfl rfl ?_)
     | refine wo_extractW rfl rfl (by conv => lhs; whnf) rfl rfl ?_
     | refine wo_store rfl rfl rfl rfl rfl rfl rfl (Nat.le_of_ble_eq_true rfl) rfl rfl ?_
     | refine wo_box _ (by conv => lhs; whnf) (by rfl) rfl rfl ?_
     | refine wo_build (.agg _) rfl rfl rfl rfl ?_
     | refine wo_app rfl rfl (by (first | exact Or.inl rfl | exact Or.inr rfl | assumption)) (by (first | rfl | exact Heap.upd_same _ _ _)) (by (first | rfl | (simp; done) | (simp; omega))) (by (first | omega | (simp; omega))) rfl rfl (fun _ => ?_)
     | (refine is_slice ?_; first | refine wo_slice0 rfl (by (first | exact Or.inl rfl | exact Or.inr rfl | assumption)) rfl (by omega) (by omega) rfl rfl ?_ | refine wo_sliceE rfl (by (first | exact Or.inl rfl | exact Or.inr rfl | assumption)) rfl (by omega) (by omega) rfl rfl ?_ | refine wo_sliceM rfl (by (first | exact Or.inl rfl | exact Or.inr rfl | assumption)) rfl rfl (by omega) (by omega) (by omega) rfl rfl ?_))
    exact ⟨Or.inr rfl, _, rfl, rfl⟩
  · have hrb : rawB 5 b = false := by
      cases h : rawB 5 b with
      | false => rfl
      | true =>
        have : numB b [4] = true := by simpa [rawB] using h
        exact absurd (by have := numB_len this; simpa using this) hl
    refine ⟨⟨5, 0, 0, 0, 0, 0, 0, 0, []⟩, true, 0, ?_, fun h => ?_⟩
    · unfold okC
      rw [hrb, Bool.false_and]
      refine fn_of B_ref01_command rfl ?_
      unfold ref01_command
      repeat' (first
       | refine wo_nil ?_
       | refine w_seq ?_
       | refine w_region ?_
       | refine w_ret ?_
       | refine w_skip ?_
       | refine w_exit ?_
       | refine w_block ?_
       | refine w_true rfl ?_
       | refine w_false rfl ?_
       | refine wo_n rfl ?_
       | refine wo_nn rfl ?_
       | refine wo_mv _ (by conv => lhs; whnf) rfl rfl ?_
       | refine wo_faddr rfl rfl rfl ?_
       | (refine is_load ?_; first | refine wo_load _ rfl rfl rfl (Nat.le_of_ble_eq_true rfl) (by conv => lhs; whnf) rfl rfl ?_ | refine wo_loadI _ rfl (Nat.le_of_ble_eq_true rfl) (by conv => lhs; whnf) rfl rfl ?_)
       | (refine is_bin ?_; first | refine wo_cmpT rfl rfl rfl (by first | (simp only [cmpP]; done) | (simp only [cmpP]; omega)) rfl rfl ?_ | refine wo_cmpF rfl rfl rfl (by first | (simp only [cmpP]; done) | (simp only [cmpP]; omega)) rfl rfl ?_ | refine wo_cmp rfl rfl rfl rfl rfl (fun _ => ?_) (fun _ => ?_) | refine wo_add rfl rfl (by omega) rfl rfl ?_ | refine wo_mul rfl rfl (by omega) rfl rfl ?_)
       | (refine is_pick ?_; first | refine wo_pickT _ rfl (by conv => lhs; whnf) rfl rfl ?_ | refine wo_pickF _ rfl (by conv => lhs; whnf) rfl rfl ?_)
       | (refine is_len ?_; first | refine wo_len rfl rfl rfl ?_ | refine wo_lenS rfl rfl rfl ?_ | refine wo_len0 rfl rfl rfl ?_)
       | refine wo_extractW rfl rfl (by conv => lhs; whnf) rfl rfl ?_
       | refine wo_store rfl rfl rfl rfl rfl rfl rfl (Nat.le_of_ble_eq_true rfl) rfl rfl ?_
       | refine wo_box _ (by conv => lhs; whnf) (by rfl) rfl rfl ?_
       | refine wo_build (.agg _) rfl rfl rfl rfl ?_
       | refine wo_app rfl rfl (by (first | exact Or.inl rfl | exact Or.inr rfl | assumption)) (by (first | rfl | exact Heap.upd_same _ _ _)) (by (first | rfl | (simp; done) | (simp; omega))) (by (first | omega | (simp; omega))) rfl rfl (fun _ => ?_)
       | (refine is_slice ?_; first | refine wo_slice0 rfl (by (first | exact Or.inl rfl | exact Or.inr rfl | assumption)) rfl (by omega) (by omega) rfl rfl ?_ | refine wo_sliceE rfl (by (first | exact Or.inl rfl | exact Or.inr rfl | assumption)) rfl (by omega) (by omega) rfl rfl ?_ | refine wo_sliceM rfl (by (first | exact Or.inl rfl | exact Or.inr rfl | assumption)) rfl rfl (by omega) (by omega) (by omega) rfl rfl ?_))
      exact ⟨Or.inr rfl, _, rfl, rfl⟩
    · unfold okC at h
      rw [hrb, Bool.false_and] at h
      cases h

theorem e_ref_command6 (k : Nat) (hk : 9 < k) (t f : Bool) (b : List UInt8) (hb : b.length < 900000) : CmdAns (acall B xf gf (k + 4)) 6 t f b := by
  by_cases hl : b.length = 8
  · obtain ⟨q1, q2⟩ := num44 hl
    have hg0 := e_ref_Get4 (xf := xf) (gf := gf) (k + 1) (by omega) t f b 0 (by omega) (by omega)
    change FnV _ _ _ (.int .i64 (g4 b 0)) at hg0
    have hg4 := e_ref_Get4 (xf := xf) (gf := gf) (k + 1) (by omega) t f b 4 (by omega) (by omega)
    change FnV _ _ _ (.int .i64 (g4 b 4)) at hg4
    have hrc : rawC 6 b = ⟨6, 0, 0, 0, 0, g4 b 0, 0, g4 b 4, []⟩ := by simp [rawC, q1, q2]
    have hrb : rawB 6 b = true := by simp [rawB, q1]
    have hrd : rawD 6 b = false := by simp [rawD]
    have hcc := e_ref_Command (xf := xf) (gf := gf) k false true 0 ⟨6, 0, 0, 0, 0, g4 b 0, 0, g4 b 4, []⟩ (by simp)
    refine ⟨⟨6, 0, 0, 0, 0, g4 b 0, 0, g4 b 4, []⟩, true, 0, ?_, fun _ => by unfold rawAv; rw [hrc, hrd]; rfl⟩
    unfold okC
    rw [hrb, hrc, Bool.true_and]
    unfold Cmd.av at hcc
    refine fn_of B_ref01_command rfl ?_
    unfold ref01_command
    repeat' (first
     | refine wo_nil ?_
     | refine w_seq ?_
     | refine w_region ?_
     | refine w_ret ?_
     | refine w_skip ?_
     | refine w_exit ?_
     | refine w_block ?_
     | refine w_true rfl ?_
     | refine w_false rfl ?_
     | refine wo_n rfl ?_
     | refine wo_nn rfl ?_
     | refine wo_call hg0 rfl rfl rfl ?_
     | refine wo_call hg4 rfl rfl rfl ?_
     | refine wo_call hcc rfl rfl rfl ?_
     | refine wo_mv _ (by conv => lhs; whnf) rfl rfl ?_
     | refine wo_faddr rfl rfl rfl ?_
     | (refine is_load ?_; first | refine wo_load _ rfl rfl rfl (Nat.le_of_ble_eq_true rfl) (by conv => lhs; whnf) rfl rfl ?_ | refine wo_loadI _ rfl (Nat.le_of_ble_eq_true rfl) (by conv => lhs; whnf) rfl rfl ?_)
     | (refine is_bin ?_; first | refine wo_cmpT rfl rfl rfl (by first | (simp only [cmpP]; done) | (simp only [cmpP]; omega)) rfl rfl ?_ | refine wo_cmpF rfl rfl rfl (by first | (simp only [cmpP]; done) | (simp only [cmpP]; omega)) rfl rfl ?_ | refine wo_cmp rfl rfl rfl rfl rfl (fun _ => ?_) (fun _ => ?_) | refine wo_add rfl rfl (by omega) rfl rfl ?_ | refine wo_mul rfl rfl (by omega) rfl rfl ?_)
     | (refine is_pick ?_; first | refine wo_pickT _ rfl (by conv => lhs; whnf) rfl rfl ?_ | refine wo_pickF _ rfl (by conv => lhs; whnf) rfl rfl ?_)
     | (refine is_len ?_; first | refine wo_len rfl rfl rfl ?_ | refine wo_lenS rfl rfl rfl ?_ | refine wo_len0 rfl rfl rfl ?_)
     | refine wo_extractW rfl rfl (by conv => lhs; whnf) rfl rfl ?_
     | refine wo_store rfl rfl rfl rfl rfl rfl rfl (Nat.le_of_ble_eq_true rfl) rfl rfl ?_
     | refine wo_box _ (by conv => lhs; whnf) (by rfl) rfl rfl ?_
     | refine wo_build (.agg _) rfl rfl rfl rfl ?_
     | refine wo_app rfl rfl (by (first | exact Or.inl rfl | exact Or.inr rfl | assumption)) (by (first | rfl | exact Heap.upd_same _ _ _)) (by (first | rfl | (simp; done) | (simp; omega))) (by (first | omega | (simp; omega))) rfl rfl (fun _ => ?_)
     | (refine is_slice ?_; first | refine wo_slice0 rfl (by (first | exact Or.inl rfl | exact Or.inr rfl | assumption)) rfl (by omega) (by omega) rfl rfl ?_ | refine wo_sliceE rfl (by (first | exact Or.inl rfl | exact Or.inr rfl | assumption)) rfl (by omega) (by omega) rfl rfl ?_ | refine wo_sliceM rfl (by (first | exact Or.inl rfl | exact Or.inr rfl | assumption)) rfl rfl (by omega) (by omega) (by omega) rfl rfl ?_))
    exact ⟨Or.inr rfl, _, rfl, rfl⟩
  · have hrb : rawB 6 b = false := by
      cases h : rawB 6 b with
      | false => rfl
      | true =>
        have : numB b [4, 4] = true := by simpa [rawB] using h
        exact absurd (by have := numB_len this; simpa using this) hl
    refine ⟨⟨6, 0, 0, 0, 0, 0, 0, 0, []⟩, true, 0, ?_, fun h => ?_⟩
    · unfold okC
      rw [hrb, Bool.false_and]
      refine fn_of B_ref01_command rfl ?_
      unfold ref01_command
      repeat' (first
       | refine wo_nil ?_
       | refine w_seq ?_
       | refine w_region ?_
       | refine w_ret ?_
       | refine w_skip ?_
       | refine w_exit ?_
       | refine w_block ?_
       | refine w_true rfl ?_
       | refine w_false rfl ?_
       | refine wo_n rfl ?_
       | refine wo_nn rfl ?_
       | refine wo_mv _ (by conv => lhs; whnf) rfl rfl ?_
       | refine wo_faddr rfl rfl rfl ?_
       | (refine is_load ?_; first | refine wo_load _ rfl rfl rfl (Nat.le_of_ble_eq_true rfl) (by conv => lhs; whnf) rfl rfl ?_ | refine wo_loadI _ rfl (Nat.le_of_ble_eq_true rfl) (by conv => lhs; whnf) rfl rfl ?_)
       | (refine is_bin ?_; first | refine wo_cmpT rfl rfl rfl (by first | (simp only [cmpP]; done) | (simp only [cmpP]; omega)) rfl rfl ?_ | refine wo_cmpF rfl rfl rfl (by first | (simp only [cmpP]; done) | (simp only [cmpP]; omega)) rfl rfl ?_ | refine wo_cmp rfl rfl rfl rfl rfl (fun _ => ?_) (fun _ => ?_) | refine wo_add rfl rfl (by omega) rfl rfl ?_ | refine wo_mul rfl rfl (by omega) rfl rfl ?_)
       | (refine is_pick ?_; first | refine wo_pickT _ rfl (by conv => lhs; whnf) rfl rfl ?_ | refine wo_pickF _ rfl (by conv => lhs; whnf) rfl rfl ?_)
       | (refine is_len ?_; first | refine wo_len rfl rfl rfl ?_ | refine wo_lenS rfl rfl rfl ?_ | refine wo_len0 rfl rfl rfl ?_)
       | refine wo_extractW rfl rfl (by conv => lhs; whnf) rfl rfl ?_
       | refine wo_store rfl rfl rfl rfl rfl rfl rfl (Nat.le_of_ble_eq_true rfl) rfl rfl ?_
       | refine wo_box _ (by conv => lhs; whnf) (by rfl) rfl rfl ?_
       | refine wo_build (.agg _) rfl rfl rfl rfl ?_
       | refine wo_app rfl rfl (by (first | exact Or.inl rfl | exact Or.inr rfl | assumption)) (by (first | rfl | exact Heap.upd_same _ _ _)) (by (first | rfl | (simp; done) | (simp; omega))) (by (first | omega | (simp; omega))) rfl rfl (fun _ => ?_)
       | (refine is_slice ?_; first | refine wo_slice0 rfl (by (first | exact Or.inl rfl | exact Or.inr rfl | assumption)) rfl (by omega) (by omega) rfl rfl ?_ | refine wo_sliceE rfl (by (first | exact Or.inl rfl | exact Or.inr rfl | assumption)) rfl (by omega) (by omega) rfl rfl ?_ | refine wo_sliceM rfl (by (first | exact Or.inl rfl | exact Or.inr rfl | assumption)) rfl rfl (by omega) (by omega) (by omega) rfl rfl ?_))
      exact ⟨Or.inr rfl, _, rfl, rfl⟩
    · unfold okC at h
      rw [hrb, Bool.false_and] at h
      cases h

theorem e_ref_command1 (k : Nat) (hk : 9 < k) (t f : Bool) (b : List UInt8) (hb : b.length < 900000) : CmdAns (acall B xf gf (k + 4)) 1 t f b := by
  by_cases hl : b.length = 24
  · obtain ⟨q1, q2⟩ := num8844 hl
    have hr0 := e_ref_Get8 (xf := xf) (gf := gf) (k + 1) (by omega) t f b 0 (by omega) (by omega)
    have hr8 := e_ref_Get8 (xf := xf) (gf := gf) (k + 1) (by omega) t f b 8 (by omega) (by omega)
    have hg16 := e_ref_Get4 (xf := xf) (gf := gf) (k + 1) (by omega) t f b 16 (by omega) (by omega)
    have hg20 := e_ref_Get4 (xf := xf) (gf := gf) (k + 1) (by omega) t f b 20 (by omega) (by omega)
    change FnV _ _ _ (.int .i64 (g4 b 16)) at hg16
    change FnV _ _ _ (.int .i64 (g4 b 20)) at hg20
    have hrd : rawD 1 b = false := by simp [rawD]
    have hcc := e_ref_Command (xf := xf) (gf := gf) k false true 0 ⟨1, (getP b (0 : Nat) 8).1, (getP b (8 : Nat) 8).1, g4 b 16, 0, g4 b 20, 0, 0, []⟩ (by simp)
    refine ⟨⟨1, (getP b (0 : Nat) 8).1, (getP b (8 : Nat) 8).1, g4 b 16, 0, g4 b 20, 0, 0, []⟩, true, 0, ?_, fun h => ?_⟩
    · unfold okC
      rw [show rawB 1 b = numB b [8, 8, 4, 4] by simp [rawB], q1]
      unfold Cmd.av at hcc
      by_cases h1 : (getP b (0 : Nat) 8).2 = 0
      · rw [decide_eq_true h1] at hr0 ⊢
        by_cases h2 : (getP b (8 : Nat) 8).2 = 0
        · rw [decide_eq_true h2] at hr8 ⊢
          rw [h1, h2] at q1
          have hrc : rawC 1 b = ⟨1, (getP b (0 : Nat) 8).1, (getP b (8 : Nat) 8).1, g4 b 16, 0, g4 b 20, 0, 0, []⟩ := by simp [rawC, q1, q2 h1 h2]
          rw [hrc, Bool.true_and, Bool.true_and]
          refine fn_of B_ref01_command rfl ?_
          unfold ref01_command
          repeat' (first
           | refine wo_nil ?_
           | refine w_seq ?_
           | refine w_region ?_
           | refine w_ret ?_
           | refine w_skip ?_
           | refine w_exit ?_
           | refine w_block ?_
           | refine w_true rfl ?_
           | refine w_false rfl ?_
           | refine wo_n rfl ?_
           | refine wo_nn rfl ?_
           | refine wo_call hr0 rfl rfl rfl ?_
           | refine wo_call hr8 rfl rfl rfl ?_
           | refine wo_call hg16 rfl rfl rfl ?_
           | refine wo_call hg20 rfl rfl rfl ?_
           | refine wo_call hcc rfl rfl rfl ?_
           | refine wo_mv _ (by conv => lhs; whnf) rfl rfl ?_
           | refine wo_faddr rfl rfl rfl ?_
           | (refine is_load ?_; first | refine wo_load _ rfl rfl rfl (Nat.le_of_ble_eq_true rfl) (by conv => lhs; whnf) rfl rfl ?_ | refine wo_loadI _ rfl (Nat.le_of_ble_eq_true rfl) (by conv => lhs; whnf) rfl rfl ?_)
           | (refine is_bin ?_; first | refine wo_cmpT rfl rfl rfl (by first | (simp only [cmpP]; done) | (simp only [cmpP]; omega)) rfl rfl ?_ | refine wo_cmpF rfl rfl rfl (by first | (simp only [cmpP]; done) | (simp only [cmpP]; omega)) rfl rfl ?_ | refine wo_cmp rfl rfl rfl rfl rfl (fun _ => ?_) (fun _ => ?_) | refine wo_add rfl rfl (by omega) rfl rfl ?_ | refine wo_mul rfl rfl (by omega) rfl rfl ?_)
           | (refine is_pick ?_; first | refine wo_pickT _ rfl (by conv => lhs; whnf) rfl rfl ?_ | refine wo_pickF _ rfl (by conv => lhs; whnf) rfl rfl ?_)
           | (refine is_len ?_; first | refine wo_len rfl rfl rfl ?_ | refine wo_lenS rfl rfl rfl ?_ | refine wo_len0 rfl rfl rfl ?_)
           | refine wo_extractW rfl rfl (by conv => lhs; whnf) rfl rfl ?_
           | refine wo_store rfl rfl rfl rfl rfl rfl rfl (Nat.le_of_ble_eq_true rfl) rfl rfl ?_
           | refine wo_box _ (by conv => lhs; whnf) (by rfl) rfl rfl ?_
           | refine wo_build (.agg _) rfl rfl rfl rfl ?_
           | refine wo_app rfl rfl (by (first | exact Or.inl rfl | exact Or.inr rfl | assumption)) (by (first | rfl | exact Heap.upd_same _ _ _)) (by (first | rfl | (simp; done) | (simp; omega))) (by (first | omega | (simp; omega))) rfl rfl (fun _ => ?_)
           | (refine is_slice ?_; first | refine wo_slice0 rfl (by (first | exact Or.inl rfl | exact Or.inr rfl | assumption)) rfl (by omega) (by omega) rfl rfl ?_ | refine wo_sliceE rfl (by (first | exact Or.inl rfl | exact Or.inr rfl | assumption)) rfl (by omega) (by omega) rfl rfl ?_ | refine wo_sliceM rfl (by (first | exact Or.inl rfl | exact Or.inr rfl | assumption)) rfl rfl (by omega) (by omega) (by omega) rfl rfl ?_))
          exact ⟨Or.inr rfl, _, rfl, rfl⟩
        · rw [decide_eq_false h2] at hr8 ⊢
          rw [Bool.and_false, Bool.false_and]
          refine fn_of B_ref01_command rfl ?_
          unfold ref01_command
          repeat' (first
           | refine wo_nil ?_
           | refine w_seq ?_
           | refine w_region ?_
           | refine w_ret ?_
           | refine w_skip ?_
           | refine w_exit ?_
           | refine w_block ?_
           | refine w_true rfl ?_
           | refine w_false rfl ?_
           | refine wo_n rfl ?_
           | refine wo_nn rfl ?_
           | refine wo_call hr0 rfl rfl rfl ?_
           | refine wo_call hr8 rfl rfl rfl ?_
           | refine wo_call hg16 rfl rfl rfl ?_
           | refine wo_call hg20 rfl rfl rfl ?_
           | refine wo_mv _ (by conv => lhs; whnf) rfl rfl ?_
           | refine wo_faddr rfl rfl rfl ?_
           | (refine is_load ?_; first | refine wo_load _ rfl rfl rfl (Nat.le_of_ble_eq_true rfl) (by conv => lhs; whnf) rfl rfl ?_ | refine wo_loadI _ rfl (Nat.le_of_ble_eq_true rfl) (by conv => lhs; whnf) rfl rfl ?_)
           | (refine is_bin ?_; first | refine wo_cmpT rfl rfl rfl (by first | (simp only [cmpP]; done) | (simp only [cmpP]; omega)) rfl rfl ?_ | refine wo_cmpF rfl rfl rfl (by first | (simp only [cmpP]; done) | (simp only [cmpP]; omega)) rfl rfl ?_ | refine wo_cmp rfl rfl rfl rfl rfl (fun _ => ?_) (fun _ => ?_) | refine wo_add rfl rfl (by omega) rfl rfl ?_ | refine wo_mul rfl rfl (by omega) rfl rfl ?_)
           | (refine is_pick ?_; first | refine wo_pickT _ rfl (by conv => lhs; whnf) rfl rfl ?_ | refine wo_pickF _ rfl (by conv => lhs; whnf) rfl rfl ?_)
           | (refine is_len ?_; first | refine wo_len rfl rfl rfl ?_ | refine wo_lenS rfl rfl rfl ?_ | refine wo_len0 rfl rfl rfl ?_)
           | refine wo_extractW rfl rfl (by conv => lhs; whnf) rfl rfl ?_
           | refine wo_store rfl rfl rfl rfl rfl rfl rfl (Nat.le_of_ble_eq_true rfl) rfl rfl ?_
           | refine wo_box _ (by conv => lhs; whnf) (by rfl) rfl rfl ?_
           | refine wo_build (.agg _) rfl rfl rfl rfl ?_
           | refine wo_app rfl rfl (by (first | exact Or.inl rfl | exact Or.inr rfl | assumption)) (by (first | rfl | exact Heap.upd_same _ _ _)) (by (first | rfl | (simp; done) | (simp; omega))) (by (first | omega | (simp; omega))) rfl rfl (fun _ => ?_)
           | (refine is_slice ?_; first | refine wo_slice0 rfl (by (first | exact Or.inl rfl | exact Or.inr rfl | assumption)) rfl (by omega) (by omega) rfl rfl ?_ | refine wo_sliceE rfl (by (first | exact Or.inl rfl | exact Or.inr rfl | assumption)) rfl (by omega) (by omega) rfl rfl ?_ | refine wo_sliceM rfl (by (first | exact Or.inl rfl | exact Or.inr rfl | assumption)) rfl rfl (by omega) (by omega) (by omega) rfl rfl ?_))
          exact ⟨Or.inr rfl, _, rfl, rfl⟩
      · rw [decide_eq_false h1] at hr0 ⊢
        rw [Bool.false_and, Bool.false_and]
        refine fn_of B_ref01_command rfl ?_
        unfold ref01_command
        repeat' (first
         | refine wo_nil ?_
         | refine w_seq ?_
         | refine w_region ?_
         | refine w_ret ?_
         | refine w_skip ?_
         | refine w_exit ?_
         | refine w_block ?_
         | refine w_true rfl ?_
         | refine w_false rfl ?_
         | refine wo_n rfl ?_
         | refine wo_nn rfl ?_
         | refine wo_call hr0 rfl rfl rfl ?_
         | refine wo_call hr8 rfl rfl rfl ?_
         | refine wo_call hg16 rfl rfl rfl ?_
         | refine wo_call hg20 rfl rfl rfl ?_
         | refine wo_mv _ (by conv => lhs; whnf) rfl rfl ?_
         | refine wo_faddr rfl rfl rfl ?_
         | (refine is_load ?_; first | refine wo_load _ rfl rfl rfl (Nat.le_of_ble_eq_true rfl) (by conv => lhs; whnf) rfl rfl ?_ | refine wo_loadI _ rfl (Nat.le_of_ble_eq_true rfl) (by conv => lhs; whnf) rfl rfl ?_)
         | (refine is_bin ?_; first | refine wo_cmpT rfl rfl rfl (by first | (simp only [cmpP]; done) | (simp only [cmpP]; omega)) rfl rfl ?_ | refine wo_cmpF rfl rfl rfl (by first | (simp only [cmpP]; done) | (simp only [cmpP]; omega)) rfl rfl ?_ | refine wo_cmp rfl rfl rfl rfl rfl (fun _ => ?_) (fun _ => ?_) | refine wo_add rfl rfl (by omega) rfl rfl ?_ | refine wo_mul rfl rfl (by omega) rfl rfl ?_)
         | (refine is_pick ?_; first | refine wo_pickT _ rfl (by conv => lhs; whnf) rfl rfl ?_ | refine wo_pickF _ rfl (by conv => lhs; whnf) rfl rfl ?_)
         | (refine is_len ?_; first | refine wo_len rfl rfl rfl ?_ | refine wo_lenS rfl rfl rfl ?_ | refine wo_len0 rfl rfl rfl ?_)
         | refine wo_extractW rfl rfl (by conv => lhs; whnf) rfl rfl ?_
         | refine wo_store rfl rfl rfl rfl rfl rfl rfl (Nat.le_of_ble_eq_true rfl) rfl rfl ?_
         | refine wo_box _ (by conv => lhs; whnf) (by rfl) rfl rfl ?_
         | refine wo_build (.agg _) rfl rfl rfl rfl ?_
         | refine wo_app rfl rfl (by (first | exact Or.inl rfl | exact Or.inr rfl | assumption)) (by (first | rfl | exact Heap.upd_same _ _ _)) (by (first | rfl | (simp; done) | (simp; omega))) (by (first | omega | (simp; omega))) rfl rfl (fun _ => ?_)
         | (refine is_slice ?_; first | refine wo_slice0 rfl (by (first | exact Or.inl rfl | exact Or.inr rfl | assumption)) rfl (by omega) (by omega) rfl rfl ?_ | refine wo_sliceE rfl (by (first | exact Or.inl rfl | exact Or.inr rfl | assumption)) rfl (by omega) (by omega) rfl rfl ?_ | refine wo_sliceM rfl (by (first | exact Or.inl rfl | exact Or.inr rfl | assumption)) rfl rfl (by omega) (by omega) (by omega) rfl rfl ?_))
        exact ⟨Or.inr rfl, _, rfl, rfl⟩
    · unfold okC at h
      simp only [Bool.and_eq_true] at h
      have h3 : numB b [8, 8, 4, 4] = true := by simpa [rawB] using h.1
      rw [q1, Bool.and_eq_true] at h3
      have h1 := of_decide_eq_true h3.1
      have h2 := of_decide_eq_true h3.2
      rw [h1, h2] at q1
      unfold rawAv
      rw [hrd, show rawC 1 b = ⟨1, (getP b (0 : Nat) 8).1, (getP b (8 : Nat) 8).1, g4 b 16, 0, g4 b 20, 0, 0, []⟩ by simp [rawC, q1, q2 h1 h2]]
      rfl
  · have hrb : rawB 1 b = false := by
      cases h : rawB 1 b with
      | false => rfl
      | true =>
        have : numB b [8, 8, 4, 4] = true := by simpa [rawB] using h
        exact absurd (by have := numB_len this; simpa using this) hl
    refine ⟨⟨1, 0, 0, 0, 0, 0, 0, 0, []⟩, true, 0, ?_, fun h => ?_⟩
    · unfold okC
      rw [hrb, Bool.false_and]
      refine fn_of B_ref01_command rfl ?_
      unfold ref01_command
      repeat' (first
       | refine wo_nil ?_
       | refine w_seq ?_
       | refine w_region ?_
       | refine w_ret ?_
       | refine w_skip ?_
       | refine w_exit ?_
       | refine w_block ?_
       | refine w_true rfl ?_
       | refine w_false rfl ?_
       | refine wo_n rfl ?_
       | refine wo_nn rfl ?_
       | refine wo_mv _ (by conv => lhs; whnf) rfl rfl ?_
       | refine wo_faddr rfl rfl rfl ?_
       | (refine is_load ?_; first | refine wo_load _ rfl rfl rfl (Nat.le_of_ble_eq_true rfl) (by conv => lhs; whnf) rfl rfl ?_ | refine wo_loadI _ rfl (Nat.le_of_ble_eq_true rfl) (by conv => lhs; whnf) rfl rfl ?_)
       | (refine is_bin ?_; first | refine wo_cmpT rfl rfl rfl (by first | (simp only [cmpP]; done) | (simp only [cmpP]; omega)) rfl rfl ?_ | refine wo_cmpF rfl rfl rfl (by first | (simp only [cmpP]; done) | (simp only [cmpP]; omega)) rfl rfl ?_ | refine wo_cmp rfl rfl rfl rfl rfl (fun _ => ?_) (fun _ => ?_) | refine wo_add rfl rfl (by omega) rfl rfl ?_ | refine wo_mul rfl rfl (by omega) rfl rfl ?_)
       | (refine is_pick ?_; first | refine wo_pickT _ rfl (by conv => lhs; whnf) rfl rfl ?_ | refine wo_pickF _ rfl (by conv => lhs; whnf) rfl rfl ?_)
       | (refine is_len ?_; first | refine wo_len rfl rfl rfl ?_ | refine wo_lenS rfl rfl rfl ?_ | refine wo_len0 rfl rfl rfl ?_)
       | refine wo_extractW rfl rfl (by conv => lhs; whnf) rfl rfl ?_
       | refine wo_store rfl rfl rfl rfl rfl rfl rfl (Nat.le_of_ble_eq_true rfl) rfl rfl ?_
       | refine wo_box _ (by conv => lhs; whnf) (by rfl) rfl rfl ?_
       | refine wo_build (.agg _) rfl rfl rfl rfl ?_
       | refine wo_app rfl rfl (by (first | exact Or.inl rfl | exact Or.inr rfl | assumption)) (by (first | rfl | exact Heap.upd_same _ _ _)) (by (first | rfl | (simp; done) | (simp; omega))) (by (first | omega | (simp; omega))) rfl rfl (fun _ => ?_)
       | (refine is_slice ?_; first | refine wo_slice0 rfl (by (first | exact Or.inl rfl | exact Or.inr rfl | assumption)) rfl (by omega) (by omega) rfl rfl ?_ | refine wo_sliceE rfl (by (first | exact Or.inl rfl | exact Or.inr rfl | assumption)) rfl (by omega) (by omega) rfl rfl ?_ | refine wo_sliceM rfl (by (first | exact Or.inl rfl | exact Or.inr rfl | assumption)) rfl rfl (by omega) (by omega) (by omega) rfl rfl ?_))
      exact ⟨Or.inr rfl, _, rfl, rfl⟩
    · unfold okC at h
      rw [hrb, Bool.false_and] at h
      cases h

theorem g4_take {b : List UInt8} {a : Nat} (h : a + 4 ≤ 8) : g4 (b.take 8) a = g4 b a := by
  unfold g4
  rw [List.drop_take, List.take_take, show min 4 (8 - a) = 4 by omega]

theorem e_ref_command2 (k : Nat) (hk : 9 < k) (t f : Bool) (b : List UInt8) (hb : b.length < 900000) : CmdAns (acall B xf gf (k + 4)) 2 t f b := by
  by_cases h8 : b.length ≤ 8
  · have hok : okC 2 b = false := by
      unfold okC
      cases h : rawB 2 b && decide (chkP (rawC 2 b)) with
      | false => rfl
      | true =>
        simp only [Bool.and_eq_true, decide_eq_true_eq] at h
        have hn : numB (b.take 8) [4, 4] = true := by
          have := h.1
          simp only [rawB, show ¬ ((2 : Int) = 1) by decide, if_false, if_true, Bool.and_eq_true] at this
          exact this.1
        have hrc : rawC 2 b = ⟨2, 0, 0, 0, (numO (b.take 8) [4, 4]).getD 0 0, 0, 0, 0, b.drop 8⟩ := by simp [rawC, hn]
        have h2 := h.2
        rw [hrc, chkP_iff] at h2
        unfold rightD at h2
        simp only [List.length_drop] at h2
        omega
    refine ⟨⟨2, 0, 0, 0, 0, 0, 0, 0, []⟩, true, 0, ?_, fun h => by rw [hok] at h; cases h⟩
    rw [hok]
    refine fn_of B_ref01_command rfl ?_
    unfold ref01_command
    repeat' (first
     | refine wo_nil ?_
     | refine w_seq ?_
     | refine w_region ?_
     | refine w_ret ?_
     | refine w_skip ?_
     | refine w_exit ?_
     | refine w_block ?_
     | refine w_true rfl ?_
     | refine w_false rfl ?_
     | refine wo_n rfl ?_
     | refine wo_nn rfl ?_
     | refine wo_mv _ (by conv => lhs; whnf) rfl rfl ?_
     | refine wo_faddr rfl rfl rfl ?_
     | (refine is_load ?_; first | refine wo_load _ rfl rfl rfl (Nat.le_of_ble_eq_true rfl) (by conv => lhs; whnf) rfl rfl ?_ | refine wo_loadI _ rfl (Nat.le_of_ble_eq_true rfl) (by conv => lhs; whnf) rfl rfl ?_)
     | (refine is_bin ?_; first | refine wo_cmpT rfl rfl rfl (by first | (simp only [cmpP]; done) | (simp only [cmpP]; omega)) rfl rfl ?_ | refine wo_cmpF rfl rfl rfl (by first | (simp only [cmpP]; done) | (simp only [cmpP]; omega)) rfl rfl ?_ | refine wo_cmp rfl rfl rfl rfl rfl (fun _ => ?_) (fun _ => ?_) | refine wo_add rfl rfl (by omega) rfl rfl ?_ | refine wo_mul rfl rfl (by omega) rfl rfl ?_)
     | (refine is_pick ?_; first | refine wo_pickT _ rfl (by conv => lhs; whnf) rfl rfl ?_ | refine wo_pickF _ rfl (by conv => lhs; whnf) rfl rfl ?_)
     | (refine is_len ?_; first | refine wo_len rfl rfl rfl ?_ | refine wo_lenS rfl rfl rfl ?_ | refine wo_len0 rfl rfl rfl ?_)
     | refine wo_extractW rfl rfl (by conv => lhs; whnf) rfl rfl ?_
     | refine wo_store rfl rfl rfl rfl rfl rfl rfl (Nat.le_of_ble_eq_true rfl) rfl rfl ?_
     | refine wo_box _ (by conv => lhs; whnf) (by rfl) rfl rfl ?_
     | refine wo_build (.agg _) rfl rfl rfl rfl ?_
     | refine wo_app rfl rfl (by (first | exact Or.inl rfl | exact Or.inr rfl | assumption)) (by (first | rfl | exact Heap.upd_same _ _ _)) (by (first | rfl | (simp; done) | (simp; omega))) (by (first | omega | (simp; omega))) rfl rfl (fun _ => ?_)
     | (refine is_slice ?_; first | refine wo_slice0 rfl (by (first | exact Or.inl rfl | exact Or.inr rfl | assumption)) rfl (by omega) (by omega) rfl rfl ?_ | refine wo_sliceE rfl (by (first | exact Or.inl rfl | exact Or.inr rfl | assumption)) rfl (by omega) (by omega) rfl rfl ?_ | refine wo_sliceM rfl (by (first | exact Or.inl rfl | exact Or.inr rfl | assumption)) rfl rfl (by omega) (by omega) (by omega) rfl rfl ?_))
    exact ⟨Or.inr rfl, _, rfl, rfl⟩
  have hg0 := e_ref_Get4 (xf := xf) (gf := gf) (k + 1) (by omega) t f b 0 (by omega) (by omega)
  have hg4 := e_ref_Get4 (xf := xf) (gf := gf) (k + 1) (by omega) t f b 4 (by omega) (by omega)
  change FnV _ _ _ (.int .i64 (g4 b 0)) at hg0
  change FnV _ _ _ (.int .i64 (g4 b 4)) at hg4
  have hr4 : 0 ≤ g4 b 4 ∧ g4 b 4 ≤ 4294967295 := by
    have h := leN_lt ((b.drop 4).take 4)
    have h2 : 256 ^ ((b.drop 4).take 4).length ≤ 256 ^ 4 := Nat.pow_le_pow_right (by decide) (by simp; omega)
    unfold g4
    omega
  obtain ⟨q1, q2⟩ := num44 (b := b.take 8) (by simp; omega)
  rw [g4_take (by omega), g4_take (by omega)] at q2
  have hrc : rawC 2 b = ⟨2, 0, 0, 0, g4 b 0, 0, 0, 0, b.drop 8⟩ := by simp [rawC, q1, q2]
  have hrb : rawB 2 b = decide (g4 b 4 = ((b.drop 8).length / 64 : Int)) := by simp [rawB, q1, q2]
  have hrd : rawD 2 b = true := by simp [rawD, q1]
  by_cases hlen : (b.length : Int) = 8 + 64 * g4 b 4
  · have hcc := e_ref_Command (xf := xf) (gf := gf) k true false 1 ⟨2, 0, 0, 0, g4 b 0, 0, 0, 0, b.drop 8⟩ (by simp; omega)
    have hcm : (8 : Int).toNat = 8 := rfl
    refine ⟨⟨2, 0, 0, 0, g4 b 0, 0, 0, 0, b.drop 8⟩, false, 1, ?_, fun _ => by unfold rawAv; rw [hrc, hrd]; rfl⟩
    unfold okC
    rw [hrb, hrc, decide_eq_true (by simp only [List.length_drop]; omega), Bool.true_and]
    refine fn_of B_ref01_command rfl ?_
    unfold ref01_command
    repeat' (first
     | refine wo_nil ?_
     | refine w_seq ?_
     | refine w_region ?_
     | refine w_ret ?_
     | refine w_skip ?_
     | refine w_exit ?_
     | refine w_block ?_
     | refine w_true rfl ?_
     | refine w_false rfl ?_
     | refine wo_n rfl ?_
     | refine wo_nn rfl ?_
     | refine wo_call hg0 rfl rfl rfl ?_
     | refine wo_call hg4 rfl rfl rfl ?_
     | (refine wo_app0 (l := b.drop 8) rfl rfl (fun hh => by have := congrArg List.length hh; simp at this; omega) (by simp; omega) rfl rfl ?_)
     | refine wo_call hcc rfl (ha_cmdR rfl rfl rfl) rfl ?_
     | refine wo_mv _ (by conv => lhs; whnf) rfl rfl ?_
     | refine wo_faddr rfl rfl rfl ?_
     | (refine is_load ?_; first | refine wo_load _ rfl rfl rfl (Nat.le_of_ble_eq_true rfl) (by conv => lhs; whnf) rfl rfl ?_ | refine wo_loadI _ rfl (Nat.le_of_ble_eq_true rfl) (by conv => lhs; whnf) rfl rfl ?_)
     | (refine is_bin ?_; first | refine wo_cmpT rfl rfl rfl (by first | (simp only [cmpP]; done) | (simp only [cmpP]; omega)) rfl rfl ?_ | refine wo_cmpF rfl rfl rfl (by first | (simp only [cmpP]; done) | (simp only [cmpP]; omega)) rfl rfl ?_ | refine wo_cmp rfl rfl rfl rfl rfl (fun _ => ?_) (fun _ => ?_) | refine wo_add rfl rfl (by omega) rfl rfl ?_ | refine wo_mul rfl rfl (by omega) rfl rfl ?_)
     | (refine is_pick ?_; first | refine wo_pickT _ rfl (by conv => lhs; whnf) rfl rfl ?_ | refine wo_pickF _ rfl (by conv => lhs; whnf) rfl rfl ?_)
     | (refine is_len ?_; first | refine wo_len rfl rfl rfl ?_ | refine wo_lenS rfl rfl rfl ?_ | refine wo_len0 rfl rfl rfl ?_)
     | refine wo_extractW rfl rfl (by conv => lhs; whnf) rfl rfl ?_
     | refine wo_store rfl rfl rfl rfl rfl rfl rfl (Nat.le_of_ble_eq_true rfl) rfl rfl ?_
     | refine wo_box _ (by conv => lhs; whnf) (by rfl) rfl rfl ?_
     | refine wo_build (.agg _) rfl rfl rfl rfl ?_
     | refine wo_app rfl rfl (by (first | exact Or.inl rfl | exact Or.inr rfl | assumption)) (by (first | rfl | exact Heap.upd_same _ _ _)) (by (first | rfl | (simp; done) | (simp; omega))) (by (first | omega | (simp; omega))) rfl rfl (fun _ => ?_)
     | (refine is_slice ?_; first | refine wo_slice0 rfl (by (first | exact Or.inl rfl | exact Or.inr rfl | assumption)) rfl (by omega) (by omega) rfl rfl ?_ | refine wo_sliceE rfl (by (first | exact Or.inl rfl | exact Or.inr rfl | assumption)) rfl (by omega) (by omega) rfl rfl ?_ | refine wo_sliceM rfl (by (first | exact Or.inl rfl | exact Or.inr rfl | assumption)) rfl rfl (by omega) (by omega) (by omega) rfl rfl ?_))
    refine ⟨Or.inr rfl, _, rfl, ?_⟩
    show AV.tup [AV.agg [_, _, _, _, _, _, _, _, fz true (2 + 2) _ (AV.slc _ _ _ _ _ _ _)], _] = _
    rw [fz_out (l := b.drop 8) rfl rfl]
    rfl
  · have hok : okC 2 b = false := by
      unfold okC
      cases h : rawB 2 b && decide (chkP (rawC 2 b)) with
      | false => rfl
      | true =>
        simp only [Bool.and_eq_true, decide_eq_true_eq] at h
        have h2 := h.2
        have h3 := h.1
        rw [hrb, decide_eq_true_eq] at h3
        rw [hrc, chkP_iff] at h2
        unfold rightD at h2
        simp only [List.length_drop] at h2 h3
        omega
    refine ⟨⟨2, 0, 0, 0, 0, 0, 0, 0, []⟩, true, 0, ?_, fun h => by rw [hok] at h; cases h⟩
    rw [hok]
    refine fn_of B_ref01_command rfl ?_
    unfold ref01_command
    repeat' (first
     | refine wo_nil ?_
     | refine w_seq ?_
     | refine w_region ?_
     | refine w_ret ?_
     | refine w_skip ?_
     | refine w_exit ?_
     | refine w_block ?_
     | refine w_true rfl ?_
     | refine w_false rfl ?_
     | refine wo_n rfl ?_
     | refine wo_nn rfl ?_
     | refine wo_call hg4 rfl rfl rfl ?_
     | refine wo_mv _ (by conv => lhs; whnf) rfl rfl ?_
     | refine wo_faddr rfl rfl rfl ?_
     | (refine is_load ?_; first | refine wo_load _ rfl rfl rfl (Nat.le_of_ble_eq_true rfl) (by conv => lhs; whnf) rfl rfl ?_ | refine wo_loadI _ rfl (Nat.le_of_ble_eq_true rfl) (by conv => lhs; whnf) rfl rfl ?_)
     | (refine is_bin ?_; first | refine wo_cmpT rfl rfl rfl (by first | (simp only [cmpP]; done) | (simp only [cmpP]; omega)) rfl rfl ?_ | refine wo_cmpF rfl rfl rfl (by first | (simp only [cmpP]; done) | (simp only [cmpP]; omega)) rfl rfl ?_ | refine wo_cmp rfl rfl rfl rfl rfl (fun _ => ?_) (fun _ => ?_) | refine wo_add rfl rfl (by omega) rfl rfl ?_ | refine wo_mul rfl rfl (by omega) rfl rfl ?_)
     | (refine is_pick ?_; first | refine wo_pickT _ rfl (by conv => lhs; whnf) rfl rfl ?_ | refine wo_pickF _ rfl (by conv => lhs; whnf) rfl rfl ?_)
     | (refine is_len ?_; first | refine wo_len rfl rfl rfl ?_ | refine wo_lenS rfl rfl rfl ?_ | refine wo_len0 rfl rfl rfl ?_)
     | refine wo_extractW rfl rfl (by conv => lhs; whnf) rfl rfl ?_
     | refine wo_store rfl rfl rfl rfl rfl rfl rfl (Nat.le_of_ble_eq_true rfl) rfl rfl ?_
     | refine wo_box _ (by conv => lhs; whnf) (by rfl) rfl rfl ?_
     | refine wo_build (.agg _) rfl rfl rfl rfl ?_
     | refine wo_app rfl rfl (by (first | exact Or.inl rfl | exact Or.inr rfl | assumption)) (by (first | rfl | exact Heap.upd_same _ _ _)) (by (first | rfl | (simp; done) | (simp; omega))) (by (first | omega | (simp; omega))) rfl rfl (fun _ => ?_)
     | (refine is_slice ?_; first | refine wo_slice0 rfl (by (first | exact Or.inl rfl | exact Or.inr rfl | assumption)) rfl (by omega) (by omega) rfl rfl ?_ | refine wo_sliceE rfl (by (first | exact Or.inl rfl | exact Or.inr rfl | assumption)) rfl (by omega) (by omega) rfl rfl ?_ | refine wo_sliceM rfl (by (first | exact Or.inl rfl | exact Or.inr rfl | assumption)) rfl rfl (by omega) (by omega) (by omega) rfl rfl ?_))
    exact ⟨Or.inr rfl, _, rfl, rfl⟩

theorem e_ref_command (k : Nat) (hk : 9 < k) (t f : Bool) (kind : Int) (b : List UInt8) (hb : b.length < 900000) : CmdAns (acall B xf gf (k + 4)) kind t f b := by
  by_cases h1 : kind = 1
  · subst h1; exact e_ref_command1 k hk t f b hb
  by_cases h2 : kind = 2
  · subst h2; exact e_ref_command2 k hk t f b hb
  by_cases h3 : kind = 3
  · subst h3; exact e_ref_command3 k hk t f b hb
  by_cases h4 : kind = 4
  · subst h4; exact e_ref_command4 k hk t f b hb
  by_cases h5 : kind = 5
  · subst h5; exact e_ref_command5 k hk t f b hb
  by_cases h6 : kind = 6
  · subst h6; exact e_ref_command6 k hk t f b hb
  have hok : okC kind b = false := by simp [okC, rawB, *]
  refine ⟨⟨kind, 0, 0, 0, 0, 0, 0, 0, []⟩, true, 0, ?_, fun h => by rw [hok] at h; cases h⟩
  rw [hok]
  refine fn_of B_ref01_command rfl ?_
  unfold ref01_command
  repeat' (first
   | refine wo_nil ?_
   | refine w_seq ?_
   | refine w_region ?_
   | refine w_ret ?_
   | refine w_skip ?_
   | refine w_exit ?_
   | refine w_block ?_
   | refine w_true rfl ?_
   | refine w_false rfl ?_
   | refine wo_n rfl ?_
   | refine wo_nn rfl ?_
   | refine wo_mv _ (by conv => lhs; whnf) rfl rfl ?_
   | refine wo_faddr rfl rfl rfl ?_
   | (refine is_load ?_; first | refine wo_load _ rfl rfl rfl (Nat.le_of_ble_eq_true rfl) (by conv => lhs; whnf) rfl rfl ?_ | refine wo_loadI _ rfl (Nat.le_of_ble_eq_true rfl) (by conv => lhs; whnf) rfl rfl ?_)
   | (refine is_bin ?_; first | refine wo_cmpT rfl rfl rfl (by first | (simp only [cmpP]; done) | (simp only [cmpP]; omega)) rfl rfl ?_ | refine wo_cmpF rfl rfl rfl (by first | (simp only [cmpP]; done) | (simp only [cmpP]; omega)) rfl rfl ?_ | refine wo_cmp rfl rfl rfl rfl rfl (fun _ => ?_) (fun _ => ?_) | refine wo_add rfl rfl (by omega) rfl rfl ?_ | refine wo_mul rfl rfl (by omega) rfl rfl ?_)
   | (refine is_pick ?_; first | refine wo_pickT _ rfl (by conv => lhs; whnf) rfl rfl ?_ | refine wo_pickF _ rfl (by conv => lhs; whnf) rfl rfl ?_)
   | (refine is_len ?_; first | refine wo_len rfl rfl rfl ?_ | refine wo_lenS rfl rfl rfl ?_ | refine wo_len0 rfl rfl rfl ?_)
   | refine wo_extractW rfl rfl (by conv => lhs; whnf) rfl rfl ?_
   | refine wo_store rfl rfl rfl rfl rfl rfl rfl (Nat.le_of_ble_eq_true rfl) rfl rfl ?_
   | refine wo_box _ (by conv => lhs; whnf) (by rfl) rfl rfl ?_
   | refine wo_build (.agg _) rfl rfl rfl rfl ?_
   | refine wo_app rfl rfl (by (first | exact Or.inl rfl | exact Or.inr rfl | assumption)) (by (first | rfl | exact Heap.upd_same _ _ _)) (by (first | rfl | (simp; done) | (simp; omega))) (by (first | omega | (simp; omega))) rfl rfl (fun _ => ?_)
   | (refine is_slice ?_; first | refine wo_slice0 rfl (by (first | exact Or.inl rfl | exact Or.inr rfl | assumption)) rfl (by omega) (by omega) rfl rfl ?_ | refine wo_sliceE rfl (by (first | exact Or.inl rfl | exact Or.inr rfl | assumption)) rfl (by omega) (by omega) rfl rfl ?_ | refine wo_sliceM rfl (by (first | exact Or.inl rfl | exact Or.inr rfl | assumption)) rfl rfl (by omega) (by omega) (by omega) rfl rfl ?_))
  exact ⟨Or.inr rfl, _, rfl, rfl⟩

end Go.Proofs.Ytoanjhiojpgioaa
