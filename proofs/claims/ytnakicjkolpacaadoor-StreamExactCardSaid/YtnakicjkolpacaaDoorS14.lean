/- What the functions answer: the command that bytes begin with. -/
import Derived.Test.YtnakicjkolpacaaDoorS13
set_option linter.unusedSimpArgs false
set_option linter.unusedVariables false
set_option maxRecDepth 10000
set_option maxHeartbeats 16000000
namespace Go.Proofs.YtnakicjkolpacaaDoor
open Go.AI
attribute [local irreducible] aops aexec acall aiter aop W WO

variable {xf : ExtF}

theorem e_frame_command (k : Nat) (hk : 1000000 ≤ k) (t f : Bool) (kind : Int) (b : List UInt8) (hb : b.length < 900000) :
    FnV (acall B xf cloneF (k + 5)) n_frame_command [.int .i64 kind, .islc t f 1 (BL b)] (.tup [rawAv kind b, .bool (rawB kind b && decide (chkP (rawC kind b)))]) := by
  by_cases h1 : kind = 1
  · subst h1; exact e_command1 k hk t f b hb
  by_cases h2 : kind = 2
  · subst h2; exact e_command2 k hk t f b hb
  by_cases h3 : kind = 3
  · subst h3; exact e_command3 k hk t f b hb
  by_cases h4 : kind = 4
  · subst h4; exact e_command4 k hk t f b hb
  by_cases h5 : kind = 5
  · subst h5; exact e_command5 k hk t f b hb
  by_cases h6 : kind = 6
  · subst h6; exact e_command6 k hk t f b hb
  exact e_commandO k hk t f kind b h1 h2 h3 h4 h5 h6

/-- The parts of the frame that bytes begin with. -/
def pD (l : List UInt8) : List UInt8 := l.take (lenP l).1.toNat
def pSeq (l : List UInt8) : Int := leN (((pD l).drop 4).take 4)
def pKind (l : List UInt8) : Int := leN (((pD l).drop 8).take 4)
def pPay (l : List UInt8) : List UInt8 := ((pD l).drop 16).take ((lenP l).1.toNat - 20)
def pErr (l : List UInt8) : Int :=
  if (lenP l).2 ≠ 0 then (lenP l).2
  else if goodP (pD l) = false then 5
  else if (rawB (pKind l) (pPay l) && decide (chkP (rawC (pKind l) (pPay l)))) = true then 0
  else 13
def pCmd (l : List UInt8) : Cmd := rawC (pKind l) (pPay l)
def c0Av : AV := .agg [.int .i64 0, .int .i64 0, .int .i64 0, .int .i64 0, .int .i64 0, .int .i64 0, .int .i64 0, .int .i64 0, .islc false true 0 []]
def parseAv (l : List UInt8) : AV :=
  if pErr l = 0 then .tup [rawAv (pKind l) (pPay l), .int .i64 (pSeq l), .int .i64 (lenP l).1, .int .i64 0]
  else .tup [c0Av, .int .i64 0, .int .i64 0, .int .i64 (pErr l)]

theorem lenP_ok {l : List UInt8} (h : (lenP l).2 = 0) : ∃ n : Nat, (lenP l).1 = (20 + n : Nat) ∧ 20 + n ≤ l.length ∧ n ≤ 520 ∧ n = leN ((l.drop 12).take 4) ∧ l.take 4 = [70, 82, 65, 77] := by
  unfold lenP at h ⊢
  split at h
  · simp at h
  split at h
  · simp at h
  split at h
  · simp at h
  split at h
  · simp at h
  rename_i h1 h2 h3 h4
  rw [if_neg h1, if_neg h2, if_neg h3, if_neg h4]
  refine ⟨_, rfl, by omega, by omega, rfl, ?_⟩
  have := Classical.not_not.1 h1
  rw [this, List.take_of_length_le (by simp; omega)]
theorem lenP_err {l : List UInt8} (h : (lenP l).2 ≠ 0) : (lenP l).1 = 0 := by
  unfold lenP at h ⊢
  repeat' split
  all_goals first | rfl | (exfalso; apply h; simp [*])

theorem e_frame_Parse (k : Nat) (hk : 1000000 ≤ k) (t f : Bool) (l : List UInt8) (hl : l.length < 900000) : FnV (acall B xf cloneF (k + 6)) n_frame_Parse [.islc t f 1 (BL l)] (parseAv l) := by
  have hlen := e_frame_length (xf := xf) (gf := cloneF) (k + 2) (by omega) t f l hl
  by_cases h0 : (lenP l).2 = 0
  · obtain ⟨n, hn1, hn2, hn3, _⟩ := lenP_ok h0
    have hsz : (lenP l).1.toNat = 20 + n := by omega
    have hdl : (pD l).length = 20 + n := by simp [pD, hsz]; omega
    have hgood := fun f => e_crc_Good (xf := xf) (gf := cloneF) (k + 2) (by omega) t f (pD l) (by omega)
    have hseq := fun f => e_le_Get (xf := xf) (gf := cloneF) (k + 4) (by omega) t f (pD l) 4 4 (by omega) (by omega)
    have hkind := fun f => e_le_Get (xf := xf) (gf := cloneF) (k + 4) (by omega) t f (pD l) 8 4 (by omega) (by omega)
    rw [getP4 (by omega) (by omega)] at hseq hkind
    change ∀ f, FnV _ _ _ (.tup [.int .i64 (pSeq l), .int .i64 0]) at hseq
    change ∀ f, FnV _ _ _ (.tup [.int .i64 (pKind l), .int .i64 0]) at hkind
    have hpay : ((pD l).drop (16 : Int).toNat).take (((lenP l).1 - 4).toNat - (16 : Int).toNat) = pPay l := by
      unfold pPay
      congr 1
      omega
    have hcmd := fun f => e_frame_command (xf := xf) k hk t f (pKind l) (((pD l).drop (16 : Int).toNat).take (((lenP l).1 - 4).toNat - (16 : Int).toNat)) (by rw [hpay]; simp [pPay]; omega)
    simp only [hpay] at hcmd
    have hpD : l.take (lenP l).1.toNat = pD l := rfl
    rw [h0] at hlen
    cases hg : goodP (pD l) with
    | false =>
      simp only [hg] at hgood
      have he : pErr l = 5 := by simp [pErr, h0, hg]
      unfold parseAv
      rw [he, if_neg (by decide)]
      refine fn_of B_frame_Parse rfl ?_
      unfold frame_Parse
      repeat' (first
       | refine q_s ?_ | refine q_z ?_ | refine q_b ?_ | refine wo_call hlen rfl rfl rfl ?_ | refine wo_call (hgood _) rfl rfl rfl ?_ | refine q_mv ?_ | refine q_load ?_ | refine q_loadI ?_
        | refine q_loadR ?_ | refine q_cmp ?_ | refine q_cmp2 (fun _ => ?_) (fun _ => ?_) | refine q_sub ?_ | refine q_notT ?_ | refine q_notF ?_ | refine q_ex ?_ | refine q_store ?_
        | refine q_storeR ?_ | refine q_box ?_ | refine q_build ?_ | refine q_slice0 ?_ | refine q_sliceE ?_ | refine q_sliceM ?_)
      exact ⟨Or.inr rfl, _, rfl, rfl⟩
    | true =>
      simp only [hg] at hgood
      cases hok : (rawB (pKind l) (pPay l) && decide (chkP (rawC (pKind l) (pPay l)))) with
      | false =>
        simp only [hok] at hcmd
        have he : pErr l = 13 := by simp only [pErr, h0, hg, hok]; simp
        unfold parseAv
        rw [he, if_neg (by decide)]
        refine fn_of B_frame_Parse rfl ?_
        unfold frame_Parse
        repeat' (first
         | refine q_s ?_ | refine q_z ?_ | refine q_b ?_ | refine wo_call hlen rfl rfl rfl ?_ | refine wo_call (hgood _) rfl rfl rfl ?_ | refine wo_call (hseq _) rfl rfl rfl ?_
          | refine wo_call (hkind _) rfl rfl rfl ?_ | (refine wo_sliceM (l := pD l) rfl (.inl rfl) rfl rfl (by omega) (by omega) (by omega) rfl rfl ?_)
          | (refine wo_call (hcmd _) rfl (by rw [← hpay]; rfl) rfl ?_) | refine q_mv ?_ | refine q_load ?_ | refine q_loadI ?_ | refine q_loadR ?_ | refine q_cmp ?_
          | refine q_cmp2 (fun _ => ?_) (fun _ => ?_) | refine q_sub ?_ | refine q_notT ?_ | refine q_notF ?_ | refine q_ex ?_ | refine q_store ?_ | refine q_storeR ?_ | refine q_box ?_
          | refine q_build ?_ | refine q_slice0 ?_ | refine q_sliceE ?_ | refine q_sliceM ?_)
        exact ⟨Or.inr rfl, _, rfl, rfl⟩
      | true =>
        simp only [hok] at hcmd
        have he : pErr l = 0 := by simp only [pErr, h0, hg, hok]; simp
        unfold parseAv
        rw [he, if_pos rfl]
        refine fn_of B_frame_Parse rfl ?_
        unfold frame_Parse
        repeat' (first
         | refine q_s ?_ | refine q_z ?_ | refine q_b ?_ | refine wo_call hlen rfl rfl rfl ?_ | refine wo_call (hgood _) rfl rfl rfl ?_ | refine wo_call (hseq _) rfl rfl rfl ?_
          | refine wo_call (hkind _) rfl rfl rfl ?_ | (refine wo_sliceM (l := pD l) rfl (.inl rfl) rfl rfl (by omega) (by omega) (by omega) rfl rfl ?_)
          | (refine wo_call (hcmd _) rfl (by rw [← hpay]; rfl) rfl ?_) | refine q_mv ?_ | refine q_load ?_ | refine q_loadI ?_ | refine q_loadR ?_ | refine q_cmp ?_
          | refine q_cmp2 (fun _ => ?_) (fun _ => ?_) | refine q_sub ?_ | refine q_notT ?_ | refine q_notF ?_ | refine q_ex ?_ | refine q_store ?_ | refine q_storeR ?_ | refine q_box ?_
          | refine q_build ?_ | refine q_slice0 ?_ | refine q_sliceE ?_ | refine q_sliceM ?_)
        exact ⟨Or.inr rfl, _, rfl, rfl⟩
  · have he : pErr l = (lenP l).2 := by rw [pErr, if_pos h0]
    unfold parseAv
    rw [he, if_neg h0]
    refine fn_of B_frame_Parse rfl ?_
    unfold frame_Parse
    repeat' (first
     | refine q_s ?_ | refine q_z ?_ | refine q_b ?_ | refine wo_call hlen rfl rfl rfl ?_ | refine q_mv ?_ | refine q_load ?_ | refine q_loadI ?_ | refine q_loadR ?_ | refine q_cmp ?_
      | refine q_cmp2 (fun _ => ?_) (fun _ => ?_) | refine q_sub ?_ | refine q_notT ?_ | refine q_notF ?_ | refine q_ex ?_ | refine q_store ?_ | refine q_storeR ?_ | refine q_box ?_
      | refine q_build ?_ | refine q_slice0 ?_ | refine q_sliceE ?_ | refine q_sliceM ?_)
    exact ⟨Or.inr rfl, _, rfl, rfl⟩

end Go.Proofs.YtnakicjkolpacaaDoor
