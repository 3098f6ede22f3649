/- woodcutlaw23: StreamExact, by the interpreter. -/
import Derived.Test.YtnakicjkolpacaaDoorS44
import Derived.Test.YtnakicjkolpacaaDoorS42
import Derived.Test.YtnakicjkolpacaaDoorS22
import Derived.Test.YtnakicjkolpacaaDoorS8c
import Derived.Test.YtnakicjkolpacaaDoorL23Back
set_option linter.unusedSimpArgs false
set_option linter.unusedVariables false
set_option maxRecDepth 10000
set_option maxHeartbeats 16000000
namespace Go.Proofs.YtnakicjkolpacaaDoor
open Go.AI
attribute [local irreducible] aops aexec acall aiter aop W WO

variable {xf : ExtF}

theorem fz_ownB {H : Heap} {j gn v : Nat} {ro : Bool} {cap : Option Nat} {l : List UInt8} (hr : H j = ⟨gn, ro, .row 1 (BL l)⟩) (hv : l.length = v) : fz false 6 H (.slc j gn v 1 0 v cap) = .islc true false 1 (BL l) := by
  rw [fz_slc (n := 5) (row_of hr (by simpa using hv)) (by omega), List.drop_zero, List.take_of_length_le (by simp; omega), BL_fz]
  rfl

theorem law_StreamExact (l : List Cmd) (hl : l.length ≤ maxLen ∧ ∀ c ∈ l, CmdR c) (skip : Int) (b : List UInt8) (hmax : b.length ≤ maxLen) :
    ∃ H, acall B xf cloneF 1000030 n_law23_StreamExact 0 [.islc false false 9 (l.map (Cmd.av false false 1)), .int .i64 skip, .islc false false 1 (BL b)] Heap.none = some (.bool true, H) := by
  suffices h : FnV (acall B xf cloneF 1000030) n_law23_StreamExact [.islc false false 9 (l.map (Cmd.av false false 1)), .int .i64 skip, .islc false false 1 (BL b)] (.bool true) by
    obtain ⟨u, H, h1, h2⟩ := h
    refine ⟨H, ?_⟩
    rw [h1, fz_true h2]
  have hw := e_wakes (xf := xf)
  have hes : CsR (l.map (Cmd.av false false 1)) l := csR_cmd
  have hTC := fun h1 h2 => e_keep_TwinCommands (xf := xf) (gf := cloneF) 1000027 (by omega) false false l h1 h2
  obtain ⟨es, hesd⟩ : ∃ es, es = l.map (Cmd.av false false 1) := ⟨_, rfl⟩
  rw [← hesd] at hes hTC ⊢
  have hlen := hes.len
  have hH := e_law_Heavy (xf := xf) (gf := cloneF) 1000028 (by omega) false false es l hes
  refine fn_of B_law23_StreamExact rfl ?_
  unfold law23_StreamExact
  cases hh : heavyB l with
  | true =>
    rw [hh] at hH
    repeat' (first
     | refine q_s ?_ | refine q_z ?_ | refine q_b ?_ | refine q_call hH ?_ | refine q_n ?_ | refine q_nn ?_ | refine q_mv ?_ | refine q_cmp ?_ | refine q_cmp2 (fun _ => ?_) (fun _ => ?_)
      | refine q_sub ?_ | refine q_pickT ?_ | refine q_pickF ?_ | refine q_notT ?_ | refine q_notF ?_ | refine q_len ?_ | refine q_lenS ?_ | refine q_len0 ?_ | refine q_ex ?_)
    exact ⟨Or.inr rfl, _, rfl, rfl⟩
  | false =>
    rw [hh] at hH
    by_cases h6 : 6000 < b.length
    · skip
      repeat' (first
       | refine q_s ?_ | refine q_z ?_ | refine q_b ?_ | refine q_call hH ?_ | refine q_n ?_ | refine q_nn ?_ | refine q_mv ?_ | refine q_cmp ?_ | refine q_cmp2 (fun _ => ?_) (fun _ => ?_)
        | refine q_sub ?_ | refine q_pickT ?_ | refine q_pickF ?_ | refine q_notT ?_ | refine q_notF ?_ | refine q_len ?_ | refine q_lenS ?_ | refine q_len0 ?_ | refine q_ex ?_)
      exact ⟨Or.inr rfl, _, rfl, rfl⟩
    obtain ⟨h60, hd⟩ := heavyB_false hh
    have hsm : smallC l := fun c hc => by have := hd c hc; omega
    have hTC2 := hTC (by omega) (fun c hc => by have := hd c hc; omega)
    have hTw := e_keep_Twin (xf := xf) (gf := cloneF) 1000028 false false b (by omega)
    have hB := e_stream_Bytes (xf := xf) (gf := cloneF) 1000019 (by omega) false false es l skip (by omega) hes hsm
    have hP := e_stream_Parse (xf := xf) 1000022 (by omega) true false b (by omega)
    have hV := e_stream_Verify (xf := xf) 1000021 (by omega) true false b (by omega)
    have hD := e_stream_Dump (xf := xf) 1000021 (by omega) true false b (by omega)
    have hRP := e_ref_ParseStream (xf := xf) (gf := cloneF) 1000023 (by omega) false false b (by omega)
    have hRD := e_ref_Dump (xf := xf) (gf := cloneF) 1000022 (by omega) false false b (by omega)
    have hPl := e_ref_Plan (xf := xf) (gf := cloneF) 1000025 (by omega) false false es l (by omega) hes hsm
    obtain ⟨r1, hr1, hK1⟩ := e_keep_Commands (xf := xf) (gf := cloneF) 1000026 (by omega) false false false false 9 9 es es l l (by omega) hes hes hsm hsm (.inl rfl) (.inl rfl)
    have hr1' : r1 = true := hr1.2 rfl
    rw [hr1'] at hK1
    have hKB := e_keep_Bytes (xf := xf) (gf := cloneF) 1000028 (by omega) true false false false 1 1 b b (by omega) (by omega) (.inl rfl) (.inl rfl)
    rw [decide_eq_true rfl] at hKB
    obtain ⟨⟨hf1, hf2⟩, hf3⟩ := parseS_fit b (by omega)
    unfold parseSAv at hP
    obtain ⟨e, hed⟩ : ∃ e, e = (parseS b).2.2 := ⟨_, rfl⟩
    obtain ⟨g, hgd⟩ : ∃ g, g = (parseS b).2.1 := ⟨_, rfl⟩
    obtain ⟨m, hmd⟩ : ∃ l, l = (parseS b).1.l := ⟨_, rfl⟩
    obtain ⟨D, hDd⟩ : ∃ D, D = (dumpL b).flatten := ⟨_, rfl⟩
    clear hf2
    rw [← hed] at hP hV hRP
    rw [← hgd] at hP hRP
    rw [← hmd] at hP hRP hf1 hf3
    rw [← hDd] at hD hRD
    have hlr : ∃ (f' : Bool) (s' : Nat), LR m = .islc false f' s' (m.map CV.av) ∧ (s' = 9 ∨ m = []) := by
      unfold LR
      by_cases h : m = []
      · rw [if_pos h, h]; exact ⟨true, 0, rfl, .inr rfl⟩
      · rw [if_neg h]; exact ⟨false, 9, rfl, .inl rfl⟩
    obtain ⟨f', s', hlr, hs'⟩ := hlr
    rw [hlr] at hP
    have hsm2 : smallC (m.map CV.c) := fun c hc => by
      obtain ⟨y, hy, rfl⟩ := List.mem_map.1 hc
      have := chk_small (hf1 y hy).2
      omega
    have hcv : CsR (m.map CV.av) (m.map CV.c) := csR_cv fun y hy => (hf1 y hy).1
    obtain ⟨r2, hr2, hK2⟩ := e_keep_Commands (xf := xf) (gf := cloneF) 1000026 (by omega) false f' false false s' 9 (m.map CV.av) (m.map CV.av) (m.map CV.c) (m.map CV.c) (by simp; omega) hcv hcv hsm2 hsm2
      (hs'.imp id fun h => by rw [h]; rfl) (.inl rfl)
    have hr2' : r2 = true := hr2.2 rfl
    rw [hr2'] at hK2
    obtain ⟨ms, hms⟩ : ∃ ms, ms = m.map CV.av := ⟨_, rfl⟩
    rw [← hms] at hP hRP hK2
    have hfz : ∀ H' : Heap, H' 0 = ⟨1, false, .row 1 (BL b)⟩ → fz false 6 H' (.slc 0 1 b.length 1 0 b.length none) = .islc true false 1 (BL b) := fun H' h => fz_ownB h rfl
    by_cases hok : wholeP l ∧ 0 ≤ skip ∧ skip ≤ (l.length : Int) - 2
    · rw [if_pos hok] at hB
      have hSt := e_ref_Stream (xf := xf) (gf := cloneF) 1000025 (by omega) false false es l skip (by omega) hes hok.1 hok.2.1 hok.2.2
      obtain ⟨hW, hs0, hs1⟩ := hok
      rw [decide_eq_true hW] at hPl
      have hbl : (bytesS l skip).length < 1000000 := by
        have hchk := hW.2.2.2.1
        have h2 := hW.1
        have h3 := bodyB_len (skip.toNat + 1) (l.drop (skip.toNat + 1)) (fun c hc => hchk c (List.mem_of_mem_drop hc))
        have hk0 := hW.2.1.1
        have g0 : l.getD 0 cz = l[0] := by simp [List.getD, show 0 < l.length by omega]
        have hchk0 : chkP (l.getD 0 cz) := by rw [g0]; exact hchk _ (List.getElem_mem _)
        have hpl := payB_le (chk_count hchk0 hk0 (n := skip) (by omega))
        unfold bytesS
        simp only [List.length_append, frB_length, List.length_drop] at h3 ⊢
        omega
      obtain ⟨x, hx⟩ : ∃ x, x = bytesS l skip := ⟨_, rfl⟩
      rw [← hx] at hB hSt hbl
      have hKX := e_keep_Bytes (xf := xf) (gf := cloneF) 1000028 (by omega) false false false false 1 1 x x (by omega) (by omega) (.inl rfl) (.inl rfl)
      rw [decide_eq_true rfl] at hKX
      repeat' (first
       | refine q_s ?_ | refine q_z ?_ | refine q_b ?_ | refine q_call hH ?_ | refine q_call hTC2 ?_ | refine wo_fresh hTw rfl rfl rfl ?_ | refine q_call hB ?_
        | refine q_call hP ?_ rfl (by exact congrArg (fun x => [x]) (hfz _ (by rfl))) | refine q_call hD ?_ rfl (by exact congrArg (fun x => [x]) (hfz _ (by rfl))) | refine q_call hRP ?_
        | refine q_call hRD ?_ | refine q_call hK2 ?_ | refine q_call hV ?_ rfl (by exact congrArg (fun x => [x]) (hfz _ (by rfl))) | refine wo_strneF rfl rfl rfl rfl rfl ?_
        | refine q_call hK1 ?_ | refine q_call hKB ?_ rfl (by exact congrArg (fun x => [x, AV.islc false false 1 (BL b)]) (hfz _ (by rfl))) | refine q_call hPl ?_
        | refine wo_lenG (n := l.length) rfl hlen rfl rfl ?_ | refine q_call hSt ?_ | refine q_call hKX ?_ | refine q_call hw ?_ | refine q_n ?_ | refine q_nn ?_ | refine q_mv ?_
        | refine q_cmp ?_ | refine q_cmp2 (fun _ => ?_) (fun _ => ?_) | refine q_sub ?_ | refine q_pickT ?_ | refine q_pickF ?_ | refine q_notT ?_ | refine q_notF ?_ | refine q_len ?_
        | refine q_lenS ?_ | refine q_len0 ?_ | refine q_ex ?_)
      exact ⟨Or.inr rfl, _, rfl, rfl⟩
    · rw [if_neg hok] at hB
      by_cases hW : wholeP l
      · rw [decide_eq_true hW] at hPl
        have hx : ¬ (0 ≤ skip ∧ skip ≤ (l.length : Int) - 2) := fun hh => hok ⟨hW, hh⟩
        by_cases hs0 : skip < 0
        · skip
          repeat' (first
           | refine q_s ?_ | refine q_z ?_ | refine q_b ?_ | refine q_call hH ?_ | refine q_call hTC2 ?_ | refine wo_fresh hTw rfl rfl rfl ?_ | refine q_call hB ?_
            | refine q_call hP ?_ rfl (by exact congrArg (fun x => [x]) (hfz _ (by rfl))) | refine q_call hD ?_ rfl (by exact congrArg (fun x => [x]) (hfz _ (by rfl))) | refine q_call hRP ?_
            | refine q_call hRD ?_ | refine q_call hK2 ?_ | refine q_call hV ?_ rfl (by exact congrArg (fun x => [x]) (hfz _ (by rfl))) | refine wo_strneF rfl rfl rfl rfl rfl ?_
            | refine q_call hK1 ?_ | refine q_call hKB ?_ rfl (by exact congrArg (fun x => [x, AV.islc false false 1 (BL b)]) (hfz _ (by rfl))) | refine q_call hPl ?_
            | refine wo_lenG (n := l.length) rfl hlen rfl rfl ?_ | refine wo_lenG (n := 0) rfl rfl rfl rfl ?_ | refine q_call hw ?_ | refine q_n ?_ | refine q_nn ?_ | refine q_mv ?_
            | refine q_cmp ?_ | refine q_cmp2 (fun _ => ?_) (fun _ => ?_) | refine q_sub ?_ | refine q_pickT ?_ | refine q_pickF ?_ | refine q_notT ?_ | refine q_notF ?_ | refine q_len ?_
            | refine q_lenS ?_ | refine q_len0 ?_ | refine q_ex ?_)
          exact ⟨Or.inr rfl, _, rfl, rfl⟩
        · have hs1 : (l.length : Int) - 2 < skip := by omega
          repeat' (first
           | refine q_s ?_ | refine q_z ?_ | refine q_b ?_ | refine q_call hH ?_ | refine q_call hTC2 ?_ | refine wo_fresh hTw rfl rfl rfl ?_ | refine q_call hB ?_
            | refine q_call hP ?_ rfl (by exact congrArg (fun x => [x]) (hfz _ (by rfl))) | refine q_call hD ?_ rfl (by exact congrArg (fun x => [x]) (hfz _ (by rfl))) | refine q_call hRP ?_
            | refine q_call hRD ?_ | refine q_call hK2 ?_ | refine q_call hV ?_ rfl (by exact congrArg (fun x => [x]) (hfz _ (by rfl))) | refine wo_strneF rfl rfl rfl rfl rfl ?_
            | refine q_call hK1 ?_ | refine q_call hKB ?_ rfl (by exact congrArg (fun x => [x, AV.islc false false 1 (BL b)]) (hfz _ (by rfl))) | refine q_call hPl ?_
            | refine wo_lenG (n := l.length) rfl hlen rfl rfl ?_ | refine wo_lenG (n := 0) rfl rfl rfl rfl ?_ | refine q_call hw ?_ | refine q_n ?_ | refine q_nn ?_ | refine q_mv ?_
            | refine q_cmp ?_ | refine q_cmp2 (fun _ => ?_) (fun _ => ?_) | refine q_sub ?_ | refine q_pickT ?_ | refine q_pickF ?_ | refine q_notT ?_ | refine q_notF ?_ | refine q_len ?_
            | refine q_lenS ?_ | refine q_len0 ?_ | refine q_ex ?_)
          exact ⟨Or.inr rfl, _, rfl, rfl⟩
      · rw [decide_eq_false hW] at hPl
        repeat' (first
         | refine q_s ?_ | refine q_z ?_ | refine q_b ?_ | refine q_call hH ?_ | refine q_call hTC2 ?_ | refine wo_fresh hTw rfl rfl rfl ?_ | refine q_call hB ?_
          | refine q_call hP ?_ rfl (by exact congrArg (fun x => [x]) (hfz _ (by rfl))) | refine q_call hD ?_ rfl (by exact congrArg (fun x => [x]) (hfz _ (by rfl))) | refine q_call hRP ?_
          | refine q_call hRD ?_ | refine q_call hK2 ?_ | refine q_call hV ?_ rfl (by exact congrArg (fun x => [x]) (hfz _ (by rfl))) | refine wo_strneF rfl rfl rfl rfl rfl ?_
          | refine q_call hK1 ?_ | refine q_call hKB ?_ rfl (by exact congrArg (fun x => [x, AV.islc false false 1 (BL b)]) (hfz _ (by rfl))) | refine q_call hPl ?_
          | refine wo_lenG (n := l.length) rfl hlen rfl rfl ?_ | refine wo_lenG (n := 0) rfl rfl rfl rfl ?_ | refine q_call hw ?_ | refine q_n ?_ | refine q_nn ?_ | refine q_mv ?_
          | refine q_cmp ?_ | refine q_cmp2 (fun _ => ?_) (fun _ => ?_) | refine q_sub ?_ | refine q_pickT ?_ | refine q_pickF ?_ | refine q_notT ?_ | refine q_notF ?_ | refine q_len ?_
          | refine q_lenS ?_ | refine q_len0 ?_ | refine q_ex ?_)
        exact ⟨Or.inr rfl, _, rfl, rfl⟩

end Go.Proofs.YtnakicjkolpacaaDoor
