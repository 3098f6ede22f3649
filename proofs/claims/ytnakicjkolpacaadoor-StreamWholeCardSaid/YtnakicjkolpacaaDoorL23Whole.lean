/- woodcutlaw23: StreamWhole, by the interpreter. -/
import Derived.Test.YtnakicjkolpacaaDoorP8
import Derived.Test.YtnakicjkolpacaaDoorS35
import Derived.Test.YtnakicjkolpacaaDoorW23
set_option linter.unusedSimpArgs false
set_option linter.unusedVariables false
set_option maxRecDepth 10000
set_option maxHeartbeats 16000000
namespace Go.Proofs.YtnakicjkolpacaaDoor
open Go.AI
theorem fz_own {H : Heap} {j gn v : Nat} {ro : Bool} {cap : Option Nat} {l : List UInt8} (hr : H j = ⟨gn, ro, .row 1 (BL l)⟩) (hv : l.length = v) : fz false 6 H (.slc j gn v 1 0 v cap) = .islc true false 1 (BL l) := by
  rw [fz_slcB (n := 4) (row_of hr (by simpa using hv)) (by omega), List.drop_zero, ← hv, List.take_length]
  rfl

attribute [local irreducible] aops aexec acall aiter aop W WO

variable {xf : ExtF}

/-- The number of a frame. -/
def wSeq (l : List Cmd) (i : Nat) : Int := if i = 0 then 0 else (l.getD 0 cz).count + i
/-- Frames written one by one. -/
def wB (l : List Cmd) : Nat → List UInt8
  | 0 => []
  | i + 1 => wB l i ++ frB (wSeq l i) (l.getD i cz)
theorem wB_len {l : List Cmd} (hc : ∀ c ∈ l, chkP c) : ∀ i, i ≤ l.length → (wB l i).length ≤ 540 * i
  | 0, _ => by simp [wB]
  | i + 1, hi => by
    have h1 := wB_len hc i (by omega)
    have h2 : l.getD i cz = l[i] := by simp [List.getD, show i < l.length by omega]
    have h3 := payB_le (hc _ (List.getElem_mem (show i < l.length by omega)))
    simp only [wB, List.length_append, frB_length, h2]
    omega
theorem wB_body (c : Cmd) (l : List Cmd) (h0 : 0 ≤ c.count) : ∀ i, i ≤ l.length → wB (c :: l) (i + 1) ++ bodyB (c.count.toNat + 1 + i) (l.drop i) = frB 0 c ++ bodyB (c.count.toNat + 1) l
  | 0, _ => by simp [wB, wSeq]
  | i + 1, hi => by
    have ih := wB_body c l h0 i (by omega)
    rw [← ih, List.drop_eq_getElem_cons (show i < l.length by omega)]
    show wB (c :: l) (i + 1) ++ frB (wSeq (c :: l) (i + 1)) ((c :: l).getD (i + 1) cz) ++ _ = wB (c :: l) (i + 1) ++ (frB ((c.count.toNat + 1 + i : Nat) : Int) l[i] ++ bodyB (c.count.toNat + 1 + i + 1) (l.drop (i + 1)))
    have e1 : (c :: l).getD (i + 1) cz = l[i] := by simp [List.getD, show i < l.length by omega]
    have e2 : wSeq (c :: l) (i + 1) = ((c.count.toNat + 1 + i : Nat) : Int) := by
      unfold wSeq
      rw [if_neg (by omega)]
      show c.count + _ = _
      omega
    rw [e1, e2, List.append_assoc]
    rfl

theorem law_StreamWhole (b : List UInt8) (hmax : b.length ≤ maxLen) : ∃ H, acall B xf cloneF 1000030 n_law23_StreamWhole 0 [.islc false false 1 (BL b)] Heap.none = some (.bool true, H) := by
  suffices h : FnV (acall B xf cloneF 1000030) n_law23_StreamWhole [.islc false false 1 (BL b)] (.bool true) by
    obtain ⟨u, H, h1, h2⟩ := h
    refine ⟨H, ?_⟩
    rw [h1, fz_true h2]
  have hw := e_wakes (xf := xf)
  refine fn_of B_law23_StreamWhole rfl ?_
  unfold law23_StreamWhole
  by_cases hl : 6000 < b.length
  · skip
    repeat' (first
     | refine q_s ?_ | refine q_z ?_ | refine q_b ?_ | refine q_n ?_ | refine q_nn ?_ | refine q_mv ?_ | refine q_faddr ?_ | refine q_load ?_ | refine q_loadI ?_ | refine q_loadR ?_
      | refine q_cmp ?_ | refine q_cmp2 (fun _ => ?_) (fun _ => ?_) | refine q_add ?_ | refine q_sub ?_ | refine q_pickT ?_ | refine q_pickF ?_ | refine q_len ?_ | refine q_lenS ?_
      | refine q_len0 ?_ | refine q_ex ?_ | refine q_at ?_ | refine q_nilrow ?_ | refine q_app fun _ => ?_)
    exact ⟨Or.inr rfl, _, rfl, rfl⟩
  have hp := e_stream_Parse (xf := xf) 1000022 (by omega) false false b (by omega)
  have hfit := parseS_fit b (by omega)
  have hgood := goS_good (b.length + 1) ps0 0 b
  change (parseS b).2.1 ≤ 0 + b.length ∧ 0 ≤ (parseS b).2.1 at hgood
  unfold parseSAv at hp
  by_cases he : (parseS b).2.2 = 0
  · obtain ⟨x, cs, hl0, hk0, ⟨z, hz, hz6⟩, hbb, hg, hc0⟩ := parse_whole (by omega) he
    rw [hl0, hg, he] at hp
    have hLR : LR (x :: cs) = .islc false false 9 ((x :: cs).map CV.av) := by unfold LR; rw [if_neg (by simp)]
    rw [hLR] at hp
    rw [hl0] at hfit
    obtain ⟨⟨hok, _, _, _⟩, hln⟩ := hfit
    rw [hl0] at hok
    obtain ⟨l, hld⟩ : ∃ l, l = (x :: cs).map CV.c := ⟨_, rfl⟩
    have hes : CsR ((x :: cs).map CV.av) l := by rw [hld]; exact csR_cv fun y hy => (hok y hy).1
    have hchk : ∀ c ∈ l, chkP c := by
      rw [hld]
      intro c hc
      obtain ⟨y, hy, rfl⟩ := List.mem_map.1 hc
      exact (hok y hy).2
    have hll : l.length = cs.length + 1 := by rw [hld]; simp
    have hl6 : l.length ≤ 6000 := by
      have : (x :: cs).length = cs.length + 1 := rfl
      omega
    obtain ⟨es, hesd⟩ : ∃ es, es = (x :: cs).map CV.av := ⟨_, rfl⟩
    rw [← hesd] at hp hes
    have hlen := hes.len
    have h0d : l.getD 0 cz = x.c := by rw [hld]; rfl
    have hfin : wB l l.length = b := by
      have := wB_body x.c (cs.map CV.c) hc0 (cs.map CV.c).length (Nat.le_refl _)
      rw [List.drop_length] at this
      simp only [bodyB, List.append_nil] at this
      rw [hbb, ← this, hld, List.map_cons, List.length_cons]
    have hcnt := (chk_small (hchk x.c (by rw [hld]; simp))).2.1 hk0
    obtain ⟨e0, he0, hcr0⟩ := hes.get (i := 0) (List.getElem?_eq_getElem (by omega))
    have g0 : l[0]'(by omega) = x.c := by simp [hld]
    rw [g0] at hcr0
    have he02 : es[(0 : Int).toNat]? = some e0 := he0
    obtain ⟨t0, f0, s0, rfl, _⟩ := hcr0
    unfold Cmd.av at he02
    repeat' (first
     | refine q_s ?_ | refine q_z ?_ | refine q_b ?_ | refine q_call hp ?_ | refine q_n ?_ | refine q_nn ?_ | refine q_mv ?_ | refine q_faddr ?_ | refine q_load ?_ | refine q_loadI ?_
      | refine q_loadR ?_ | refine q_cmp ?_ | refine q_cmp2 (fun _ => ?_) (fun _ => ?_) | refine q_add ?_ | refine q_sub ?_ | refine q_pickT ?_ | refine q_pickF ?_ | refine q_len ?_
      | refine q_lenS ?_ | refine q_len0 ?_ | refine q_ex ?_ | refine q_at ?_ | refine q_nilrow ?_ | refine q_app fun _ => ?_)
    refine W.mono (Q := fun ex T' H' => ex = .exit 0 ∧ H' 0 = ⟨1, false, .row 1 (BL b)⟩ ∧ Has T' [(0, .islc false false 1 (BL b)), (3, .islc false false 9 es), (4, .int .i64 b.length), (6, .slc 0 1 b.length 1 0 b.length none)]) ?_ ?_
    · refine w_for l.length (fun i T' H' => H' 0 = ⟨1, false, .row 1 (BL (wB l i))⟩ ∧ Has T' [(0, .islc false false 1 (BL b)), (3, .islc false false 9 es), (4, .int .i64 b.length), (6, .slc 0 1 (wB l i).length 1 0 (wB l i).length none), (7, .int .i64 (wSeq l i)), (8, .int .i64 (i : Nat))])
        ⟨rfl, rfl, rfl, rfl, rfl, rfl, rfl, trivial⟩ (by omega) ?_
      rintro i T H hi ⟨hH, hT⟩
      rw [hT.eq]
      simp only [over]
      have hwl := wB_len hchk i hi
      by_cases hil : i < l.length
      · obtain ⟨e, he, hcr⟩ := hes.get (List.getElem?_eq_getElem hil)
        have he2 : es[(i : Int).toNat]? = some e := by simpa using he
        have hch := hchk _ (List.getElem_mem hil)
        have hgi : l.getD i cz = l[i] := by simp [List.getD, hil]
        obtain ⟨c, hcd⟩ : ∃ c, c = l[i] := ⟨_, rfl⟩
        rw [← hcd] at hcr hch hgi
        have hcs := chk_small hch
        have hpl := payB_le hch
        have hfl := frB_length (wSeq l i) c
        obtain ⟨t1, f1, s1, rfl, hsd, htk⟩ := hcr
        have hsq : 0 ≤ wSeq l i ∧ wSeq l i ≤ 4294967295 := by
          unfold wSeq
          split
          · omega
          · rw [h0d]; omega
        have hb := e_frame_Bytes (xf := xf) (gf := cloneF) 1000023 (by omega) t1 f1 s1 (wSeq l i) c (by omega) hsd htk
        rw [if_pos ⟨hch, hsq⟩] at hb
        unfold Cmd.av at hb he2
        have hw1 : wB l (i + 1) = wB l i ++ frB (wSeq l i) c := by rw [← hgi]; rfl
        by_cases hi0 : i = 0
        · subst hi0
          have hq0 : wSeq l 0 = 0 := rfl
          have hq1 : wSeq l 1 = 0 + 1 + x.c.count := by unfold wSeq; rw [if_neg (by omega), h0d]; omega
          rw [hq0] at hb hw1 hfl ⊢
          have hcx : c = x.c := hcd.trans g0
          have hcnt2 : 0 ≤ c.count ∧ c.count ≤ 65535 := by rw [hcx]; exact hcnt
          repeat' (first
           | refine q_s ?_ | refine q_z ?_ | refine q_b ?_ | refine wo_lenG (n := l.length) rfl hlen rfl rfl ?_ | refine wo_atG rfl rfl (by omega) he2 rfl rfl ?_
            | refine wo_atG rfl rfl (by omega) he02 rfl rfl ?_ | refine q_faddrI ?_ | refine q_call hb ?_ | refine wo_app rfl rfl (.inl rfl) (by exact hH) rfl (by omega) rfl rfl (fun _ => ?_)
            | refine q_n ?_ | refine q_nn ?_ | refine q_mv ?_ | refine q_faddr ?_ | refine q_load ?_ | refine q_loadI ?_ | refine q_loadR ?_ | refine q_cmp ?_
            | refine q_cmp2 (fun _ => ?_) (fun _ => ?_) | refine q_add ?_ | refine q_sub ?_ | refine q_pickT ?_ | refine q_pickF ?_ | refine q_len ?_ | refine q_lenS ?_ | refine q_len0 ?_
            | refine q_ex ?_ | refine q_at ?_ | refine q_nilrow ?_ | refine q_app fun _ => ?_)
          refine ⟨hil, by rw [hw1]; rfl, rfl, rfl, rfl, by rw [hw1, List.length_append]; rfl, by show AV.int _ _ = AV.int _ (wSeq l 1); rw [hq1, ← hcx], by show AV.int _ _ = AV.int _ _; congr 1, trivial⟩
        · have hq1 : wSeq l (i + 1) = wSeq l i + 1 := by unfold wSeq; rw [if_neg (by omega), if_neg hi0]; omega
          repeat' (first
           | refine q_s ?_ | refine q_z ?_ | refine q_b ?_ | refine wo_lenG (n := l.length) rfl hlen rfl rfl ?_ | refine wo_atG rfl rfl (by omega) he2 rfl rfl ?_ | refine q_faddrI ?_
            | refine q_call hb ?_ | refine wo_app rfl rfl (.inl rfl) (by exact hH) rfl (by omega) rfl rfl (fun _ => ?_) | refine q_n ?_ | refine q_nn ?_ | refine q_mv ?_ | refine q_faddr ?_
            | refine q_load ?_ | refine q_loadI ?_ | refine q_loadR ?_ | refine q_cmp ?_ | refine q_cmp2 (fun _ => ?_) (fun _ => ?_) | refine q_add ?_ | refine q_sub ?_ | refine q_pickT ?_
            | refine q_pickF ?_ | refine q_len ?_ | refine q_lenS ?_ | refine q_len0 ?_ | refine q_ex ?_ | refine q_at ?_ | refine q_nilrow ?_ | refine q_app fun _ => ?_)
          refine ⟨hil, by rw [hw1]; rfl, rfl, rfl, rfl, by rw [hw1, List.length_append]; rfl, by rw [hq1]; rfl, by show AV.int _ _ = AV.int _ _; congr 1, trivial⟩
      · have hil2 : i = l.length := by omega
        repeat' (first
         | refine q_s ?_ | refine q_z ?_ | refine q_b ?_ | refine wo_lenG (n := l.length) rfl hlen rfl rfl ?_ | refine q_n ?_ | refine q_nn ?_ | refine q_mv ?_ | refine q_faddr ?_
          | refine q_load ?_ | refine q_loadI ?_ | refine q_loadR ?_ | refine q_cmp ?_ | refine q_cmp2 (fun _ => ?_) (fun _ => ?_) | refine q_add ?_ | refine q_sub ?_ | refine q_pickT ?_
          | refine q_pickF ?_ | refine q_len ?_ | refine q_lenS ?_ | refine q_len0 ?_ | refine q_ex ?_ | refine q_at ?_ | refine q_nilrow ?_ | refine q_app fun _ => ?_)
        rw [hil2, hfin] at hH
        exact ⟨rfl, hH, rfl, rfl, rfl, by rw [hil2, hfin]; rfl, trivial⟩
    rintro ex T2 H2 ⟨rfl, hH, hT⟩
    rw [hT.eq]
    simp only [over]
    show W _ _
    have hcs1 : cs ≠ [] := by rintro rfl; simp at hz
    have hcl : 0 < cs.length := List.length_pos_iff.2 hcs1
    have hq := e_keep_Bytes (xf := xf) (gf := cloneF) 1000028 (by omega) true false false false 1 1 b b (by omega) (by omega) (.inl rfl) (.inl rfl)
    rw [decide_eq_true rfl] at hq
    obtain ⟨en, hen, hcrn⟩ := hes.get (i := l.length - 1) (List.getElem?_eq_getElem (by omega))
    have gn : l[l.length - 1]'(by omega) = z.c := by
      have h1 : l[l.length - 1]? = some z.c := by
        rw [hld, List.getElem?_map]
        have : ((x :: cs).map CV.c).length - 1 = (cs.length - 1) + 1 := by simp; omega
        rw [this, List.getElem?_cons_succ, ← List.getLast?_eq_getElem?, hz]
        rfl
      rw [List.getElem?_eq_getElem (by omega)] at h1
      exact Option.some.inj h1
    rw [gn] at hcrn
    have hen2 : es[((l.length : Int) - 1).toNat]? = some en := by rw [← hen]; congr 1; omega
    obtain ⟨tn, fn, sn, rfl, _⟩ := hcrn
    unfold Cmd.av at hen2
    repeat' (first
     | refine q_s ?_ | refine q_z ?_ | refine q_b ?_ | refine wo_lenG (n := l.length) rfl hlen rfl rfl ?_ | refine wo_atG rfl rfl (by omega) he02 rfl rfl ?_
      | refine wo_atG rfl rfl (by omega) hen2 rfl rfl ?_ | refine q_faddrI ?_ | refine q_call hq ?_ rfl (by show [fz false 6 _ (AV.slc _ _ _ _ _ _ _), _] = _; rw [fz_own hH rfl]; rfl)
      | refine q_call hw ?_ | refine q_n ?_ | refine q_nn ?_ | refine q_mv ?_ | refine q_faddr ?_ | refine q_load ?_ | refine q_loadI ?_ | refine q_loadR ?_ | refine q_cmp ?_
      | refine q_cmp2 (fun _ => ?_) (fun _ => ?_) | refine q_add ?_ | refine q_sub ?_ | refine q_pickT ?_ | refine q_pickF ?_ | refine q_len ?_ | refine q_lenS ?_ | refine q_len0 ?_
      | refine q_ex ?_ | refine q_at ?_ | refine q_nilrow ?_ | refine q_app fun _ => ?_)
    exact ⟨Or.inr rfl, _, rfl, rfl⟩
  · have hkd : 0 ≤ (parseS b).2.1 := by omega
    repeat' (first
     | refine q_s ?_ | refine q_z ?_ | refine q_b ?_ | refine q_call hp ?_ | refine q_call hw ?_ | refine q_n ?_ | refine q_nn ?_ | refine q_mv ?_ | refine q_faddr ?_ | refine q_load ?_
      | refine q_loadI ?_ | refine q_loadR ?_ | refine q_cmp ?_ | refine q_cmp2 (fun _ => ?_) (fun _ => ?_) | refine q_add ?_ | refine q_sub ?_ | refine q_pickT ?_ | refine q_pickF ?_
      | refine q_len ?_ | refine q_lenS ?_ | refine q_len0 ?_ | refine q_ex ?_ | refine q_at ?_ | refine q_nilrow ?_ | refine q_app fun _ => ?_)
    exact ⟨Or.inr rfl, _, rfl, rfl⟩

end Go.Proofs.YtnakicjkolpacaaDoor
