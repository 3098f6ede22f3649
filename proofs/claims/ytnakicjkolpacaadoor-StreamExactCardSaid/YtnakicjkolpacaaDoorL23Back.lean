/- woodcutlaw23: StreamBack, by the interpreter. -/
import Derived.Test.YtnakicjkolpacaaDoorP9
import Derived.Test.YtnakicjkolpacaaDoorS35
import Derived.Test.YtnakicjkolpacaaDoorW23
set_option linter.unusedSimpArgs false
set_option linter.unusedVariables false
set_option maxRecDepth 10000
set_option maxHeartbeats 16000000
namespace Go.Proofs.YtnakicjkolpacaaDoor
open Go.AI

section
variable {cf : CallF} {xf : ExtF} {base : Nat} {T : Tmps} {H : Heap} {QO : Tmps → Heap → Prop} {log : List FP} {g : Option (Nat × Bool)} {un : List Nat} {r : List SOper} {d : Nat} {t f : Bool}
theorem wo_sliceGE {x y : SArg} {n s s' : Nat} {k : IntKind} {a : Int} {es : List AV} (hx : x.ev T = .islc t f s' es) (hs : s' = s ∨ es = []) (hn : es.length = n) (hy : y.ev T = .int k a) (h0 : 0 ≤ a) (hb : a ≤ n)
    (hw : awanted T g = some true) (hl : logOk log .z un = true)
    (h : WO (aops cf xf base r (log ++ [.z]) (T.upd d (.islc t (f && decide (n = n)) s (es.drop a.toNat))) H) QO) : WO (aops cf xf base (⟨some d, .slice s x (some y) none none, g, un⟩ :: r) log T H) QO :=
  wo_sliceG hx hs hn (a := a.toNat) (b := n) (optN hy h0) rfl (by omega) (by omega) hw hl (by
    rw [List.take_of_length_le (by simp; omega)]; exact h)
theorem wo_sliceG0 {x y : SArg} {n s s' : Nat} {k : IntKind} {a : Int} {es : List AV} (hx : x.ev T = .islc t f s' es) (hs : s' = s ∨ es = []) (hn : es.length = n) (hy : y.ev T = .int k a) (h0 : 0 ≤ a) (hb : a ≤ n)
    (hw : awanted T g = some true) (hl : logOk log .z un = true)
    (h : WO (aops cf xf base r (log ++ [.z]) (T.upd d (.islc t (f && decide (a.toNat = n)) s (es.take a.toNat))) H) QO) : WO (aops cf xf base (⟨some d, .slice s x none (some y) none, g, un⟩ :: r) log T H) QO :=
  wo_sliceG hx hs hn (a := 0) (b := a.toNat) rfl (optN hy h0) (by omega) (by omega) hw hl (by simpa using h)
end

attribute [local irreducible] aops aexec acall aiter aop W WO

variable {xf : ExtF}

theorem cvOf_ok (c : Cmd) (h : chkP c) : (cvOf c).ok := by
  unfold CV.ok cvOf
  cases hd : rawD c.kind (payB c) with
  | true => exact .inl rfl
  | false =>
    right
    have := rawC_data hd
    rw [(rawC_payB h).2] at this
    exact this
theorem csR_of {l : List Cmd} (h : ∀ c ∈ l, chkP c) : CsR ((l.map cvOf).map CV.av) l := by
  have := csR_cv (l := l.map cvOf) fun x hx => by
    obtain ⟨c, hc, rfl⟩ := List.mem_map.1 hx
    exact cvOf_ok c (h c hc)
  have e : (l.map cvOf).map CV.c = l := by
    rw [List.map_map]
    exact List.map_id' l
  rwa [e] at this
theorem smallC_of {l : List Cmd} (h : ∀ c ∈ l, chkP c) : smallC l := fun c hc => by have := chk_small (h c hc); omega

/-- The rest of a division, as it is reckoned. -/
theorem modU (cut : Int) (n : Nat) (hn : 0 < n) (hn2 : n < 1000000000) : 0 ≤ cut % 18446744073709551616 % (n : Int) ∧ cut % 18446744073709551616 % (n : Int) < n :=
  ⟨Int.emod_nonneg _ (by omega), Int.emod_lt_of_pos _ (by omega)⟩

theorem law_StreamBack (l : List Cmd) (hl : l.length ≤ maxLen ∧ ∀ c ∈ l, CmdR c) (skip cut : Int) :
    ∃ H, acall B xf cloneF 1000030 n_law23_StreamBack 0 [.islc false false 9 (l.map (Cmd.av false false 1)), .int .i64 skip, .int .i64 cut] Heap.none = some (.bool true, H) := by
  suffices h : FnV (acall B xf cloneF 1000030) n_law23_StreamBack [.islc false false 9 (l.map (Cmd.av false false 1)), .int .i64 skip, .int .i64 cut] (.bool true) by
    obtain ⟨u, H, h1, h2⟩ := h
    refine ⟨H, ?_⟩
    rw [h1, fz_true h2]
  have hw := e_wakes (xf := xf)
  have hes : CsR (l.map (Cmd.av false false 1)) l := csR_cmd
  obtain ⟨es, hesd⟩ : ∃ es, es = l.map (Cmd.av false false 1) := ⟨_, rfl⟩
  rw [← hesd] at hes ⊢
  have hlen := hes.len
  have hH := e_law_Heavy (xf := xf) (gf := cloneF) 1000028 (by omega) false false es l hes
  refine fn_of B_law23_StreamBack rfl ?_
  unfold law23_StreamBack
  cases hh : heavyB l with
  | true =>
    rw [hh] at hH
    repeat' (first
     | refine q_s ?_ | refine q_z ?_ | refine q_b ?_ | refine q_call hH ?_ | refine q_n ?_ | refine q_nn ?_ | refine q_mv ?_ | refine q_faddr ?_ | refine q_load ?_ | refine q_loadI ?_
      | refine q_loadR ?_ | refine q_cmp ?_ | refine q_cmp2 (fun _ => ?_) (fun _ => ?_) | refine q_add ?_ | refine q_sub ?_ | refine q_rem ?_ | refine q_bin ?_ | refine q_pickT ?_
      | refine q_pickF ?_ | refine q_notT ?_ | refine q_notF ?_ | refine q_len ?_ | refine q_lenS ?_ | refine q_len0 ?_ | refine q_ex ?_ | refine q_store ?_ | refine q_storeR ?_
      | refine q_box ?_ | refine q_to64 ?_ | refine q_tou64 ?_ | refine q_cvu ?_ | refine q_cvi ?_ | refine q_at ?_ | refine q_slice0 ?_ | refine q_sliceE ?_ | refine q_sliceM ?_)
    exact ⟨Or.inr rfl, _, rfl, rfl⟩
  | false =>
    rw [hh] at hH
    obtain ⟨h60, hd⟩ := heavyB_false hh
    have hsm : smallC l := fun c hc => by have := hd c hc; omega
    have hB := e_stream_Bytes (xf := xf) (gf := cloneF) 1000019 (by omega) false false es l skip (by omega) hes hsm
    by_cases hok : wholeP l ∧ 0 ≤ skip ∧ skip ≤ (l.length : Int) - 2
    · rw [if_pos hok] at hB
      obtain ⟨hW, hs0, hs1⟩ := hok
      obtain ⟨s, rfl⟩ : ∃ s : Nat, skip = s := ⟨skip.toNat, by omega⟩
      have hs2 : s + 2 ≤ l.length := by have := hW.1; omega
      have hchk := hW.2.2.2.1
      obtain ⟨p, hp, hpl⟩ := parse_bytesS hW hs2 (by omega)
      obtain ⟨mids, z, h1, _, h3, _, _, _, _, h8, h9, h10⟩ := whole_split hW hs2
      have hbc := chk_count h8 h9 (n := (s : Nat)) (by omega)
      obtain ⟨bs, hbs⟩ : ∃ bs, bs = bytesS l (s : Nat) := ⟨_, rfl⟩
      have hbl : 0 < bs.length ∧ bs.length < 800000 := by
        have := bodyB_len (s + 1) (l.drop (s + 1)) (fun c hc => hchk c (List.mem_of_mem_drop hc))
        obtain ⟨beg, hbeg⟩ : ∃ beg : Cmd, beg = { l.getD 0 cz with count := (s : Nat) } := ⟨_, rfl⟩
        have h3 : (payB beg).length ≤ 520 := by rw [hbeg]; exact payB_le hbc
        have h2 := frB_length 0 beg
        have e : bytesS l (s : Nat) = frB 0 beg ++ bodyB (s + 1) (l.drop (s + 1)) := by rw [hbeg]; unfold bytesS; rw [Int.toNat_natCast]
        rw [hbs, e, List.length_append, h2]
        rw [List.length_drop] at this
        omega
      rw [← hbs] at hB hp
      -- what is read
      have hP := e_stream_Parse (xf := xf) 1000022 (by omega) false false bs (by omega)
      have hV := e_stream_Verify (xf := xf) 1000021 (by omega) false false bs (by omega)
      obtain ⟨c0, hc0⟩ : ∃ c0, c0 = l.getD 0 cz := ⟨_, rfl⟩
      rw [← hc0] at h8 h9 h10 hbc hpl
      obtain ⟨ms, hms⟩ : ∃ ms, ms = (l.drop (s + 1)).map cvOf := ⟨_, rfl⟩
      rw [← hms] at hpl
      have hLR : LR p.l = .islc false false 9 ((cvOf { c0 with count := (s : Nat) } :: ms).map CV.av) := by unfold LR; rw [hpl, if_neg (by simp)]
      unfold parseSAv at hP
      rw [hp, hLR] at hP
      rw [hp] at hV
      have hmsl : ms.length = l.length - (s + 1) := by rw [hms]; simp
      have hmchk : ∀ c ∈ l.drop (s + 1), chkP c := fun c hc => hchk c (List.mem_of_mem_drop hc)
      -- the first command
      obtain ⟨e0, he0, hcr0⟩ := hes.get (i := 0) (List.getElem?_eq_getElem (by omega))
      have g0 : l[0]'(by omega) = c0 := by rw [hc0]; simp [List.getD, show 0 < l.length by omega]
      rw [g0] at hcr0
      have he02 : es[(0 : Int).toNat]? = some e0 := he0
      obtain ⟨t0, f0, s0, rfl, hsd0, htk0⟩ := hcr0
      have hdt0 : c0.data.length < 1000000 := by have := chk_small h8; omega
      obtain ⟨r1, hr1, hC1⟩ := e_keep_Command (xf := xf) (gf := cloneF) 1000027 (by omega) false (!rawD c0.kind (payB c0)) t0 f0 (if rawD c0.kind (payB c0) then 1 else 0) s0 c0 c0 hdt0 hdt0 (cvOf_ok c0 h8) hsd0
      have hr1t : r1 = true := hr1.2 rfl
      subst hr1t
      -- the others
      have hes2 : CsR (ms.map CV.av) (l.drop (s + 1)) := by rw [hms]; exact csR_of hmchk
      have hes3 : CsR (es.drop (s + 1)) (l.drop (s + 1)) := hes.drop _
      have hsm2 : smallC (l.drop (s + 1)) := smallC_of hmchk
      obtain ⟨r2, hr2, hC2⟩ := e_keep_Commands (xf := xf) (gf := cloneF) 1000026 (by omega) false (false && decide (ms.length + 1 = ms.length + 1)) false (false && decide (l.length = l.length)) 9 9 (ms.map CV.av) (es.drop (s + 1)) (l.drop (s + 1)) (l.drop (s + 1)) (by simp; omega) hes2 hes3 hsm2 hsm2 (.inl rfl) (.inl rfl)
      have hr2t : r2 = true := hr2.2 rfl
      subst hr2t
      -- cut off
      obtain ⟨E, hE⟩ : ∃ E : Int, E = cut % 18446744073709551616 % (bs.length : Int) := ⟨_, rfl⟩
      have hm2 := modU cut bs.length hbl.1 (by omega)
      rw [← hE] at hm2
      obtain ⟨p2, g2, j, hp2, hg2, hj, hp2l, hp2n⟩ := parse_cutS (m := E.toNat) hW hs2 (by omega) (by rw [← hbs]; omega)
      rw [← hbs] at hp2
      rw [← hc0, ← hms] at hp2l
      have hP2 := fun f => e_stream_Parse (xf := xf) 1000022 (by omega) false f (bs.take E.toNat) (by simp; omega)
      have hV2 := fun f => e_stream_Verify (xf := xf) 1000021 (by omega) false f (bs.take E.toNat) (by simp; omega)
      unfold parseSAv at hP2
      rw [hp2] at hP2 hV2
      subst hE
      obtain ⟨M, hM⟩ : ∃ M : List CV, M = cvOf { c0 with count := (s : Nat) } :: ms := ⟨_, rfl⟩
      rw [← hM] at hLR hp2l hP
      have hMl : M.length = l.length - s := by rw [hM, List.length_cons, hmsl]; omega
      have hMlen : (M.map CV.av).length = M.length := List.length_map _
      have hM0 : (M.map CV.av)[(0 : Int).toNat]? = some (CV.av (cvOf { c0 with count := (s : Nat) })) := by rw [hM]; rfl
      have hM1 : (M.map CV.av).drop (1 : Int).toNat = ms.map CV.av := by rw [hM]; rfl
      have hMC : CsR (M.map CV.av) ({ c0 with count := (s : Nat) } :: l.drop (s + 1)) := by
        rw [hM]
        exact ⟨CV.cr (cvOf_ok _ hbc), hes2⟩
      have hMsm : smallC ({ c0 with count := (s : Nat) } :: l.drop (s + 1)) := by
        intro c hc
        rcases List.mem_cons.1 hc with rfl | hc
        · have := chk_small hbc; omega
        · exact hsm2 c hc
      have hes3' : es.drop ((1 : Int) + (s : Nat)).toNat = es.drop (s + 1) := by congr 1; omega
      have hav : CV.av (cvOf { c0 with count := (s : Nat) }) = .agg [.int .i64 c0.kind, .int .i64 c0.id, .int .i64 c0.parent, .int .i64 c0.size, .int .i64 c0.frm, .int .i64 (s : Nat), .int .i64 c0.source, .int .i64 c0.digest, .islc false (!rawD c0.kind (payB { c0 with count := (s : Nat) })) (if rawD c0.kind (payB { c0 with count := (s : Nat) }) then 1 else 0) (BL c0.data)] := rfl
      have hrd : rawD c0.kind (payB { c0 with count := (s : Nat) }) = rawD c0.kind (payB c0) := by unfold rawD; rw [h9]; rfl
      rw [hav, hrd] at hM0
      generalize (if rawD c0.kind (payB c0) then 1 else 0) = sz at *
      generalize rawD c0.kind (payB c0) = rd at *
      unfold Cmd.av at hC1 he02
      rw [h10] at hC1 he02
      have key : ∀ (fk : Bool) (sk : Nat) (ks : List AV), LR p2.l = .islc false fk sk ks → ks.length = j → (fk = true ∧ sk = 0 ∧ ks = [] ∨ sk = 9 ∧ ks = (M.map CV.av).take j) → W (aexec (acall B xf cloneF 1000029) xf 0 1000029 law23_StreamBack.code (tmps0 [.islc false false 9 es, .int .i64 (s : Nat), .int .i64 cut]) Heap.none)
          (fun ex T H => (ex = .normal ∨ ex = .ret) ∧ ∃ u, aresults T H law23_StreamBack.results = some u ∧ fz true deep H u = .bool true) := by
        intro fk sk ks hLR2 hkl hks
        have hjm : CsR ((M.map CV.av).take j) (({ c0 with count := (s : Nat) } :: l.drop (s + 1)).take j) := hMC.take j
        have hsmj : smallC (({ c0 with count := (s : Nat) } :: l.drop (s + 1)).take j) := fun c hc => hMsm c (List.mem_of_mem_take hc)
        have hkC : CsR ks (({ c0 with count := (s : Nat) } :: l.drop (s + 1)).take j) := by
          rcases hks with ⟨_, _, rfl⟩ | ⟨_, rfl⟩
          · have : j = 0 := hkl.symm
            subst this
            exact trivial
          · exact hjm
        have hk9 : sk = 9 ∨ ({ c0 with count := (s : Nat) } :: l.drop (s + 1)).take j = [] := by
          rcases hks with ⟨_, _, rfl⟩ | ⟨h, _⟩
          · have : j = 0 := hkl.symm
            subst this
            exact .inr rfl
          · exact .inl h
        have hC3 : ∀ f, ∃ r, (r = true ↔ ({ c0 with count := (s : Nat) } :: l.drop (s + 1)).take j = ({ c0 with count := (s : Nat) } :: l.drop (s + 1)).take j) ∧ FnV (acall B xf cloneF 1000029) n_keep_Commands [.islc false fk sk ks, .islc false f 9 ((M.map CV.av).take j)] (.bool r) := fun f =>
          e_keep_Commands (xf := xf) (gf := cloneF) 1000026 (by omega) false fk false f sk 9 ks ((M.map CV.av).take j) _ _ (by simp; omega) hkC hjm hsmj hsmj hk9 (.inl rfl)
        have hC3t : ∀ f, FnV (acall B xf cloneF 1000029) n_keep_Commands [.islc false fk sk ks, .islc false f 9 ((M.map CV.av).take j)] (.bool true) := fun f => by
          obtain ⟨r, hr, hF⟩ := hC3 f
          have : r = true := hr.2 rfl
          rwa [this] at hF
        rw [hLR2] at hP2
        have htk : (M.map CV.av).take (j : Int).toNat = (M.map CV.av).take j := by rw [Int.toNat_natCast]
        unfold law23_StreamBack
        repeat' (first
         | refine q_s ?_ | refine q_z ?_ | refine q_b ?_ | refine q_call hH ?_ | refine q_call hB ?_ | refine wo_lenG (n := l.length) rfl hlen rfl rfl ?_
          | refine wo_lenG (n := M.length) rfl hMlen rfl rfl ?_ | refine wo_lenG (n := j) rfl hkl rfl rfl ?_ | refine q_call hP ?_ | refine q_call hV ?_ | refine q_call (hP2 _) ?_
          | refine q_call (hV2 _) ?_ | refine wo_atG rfl rfl (by omega) hM0 rfl rfl ?_ | refine wo_atG rfl rfl (by omega) he02 rfl rfl ?_ | refine q_faddrI ?_ | refine q_call hC1 ?_
          | refine wo_sliceGE rfl (.inl rfl) hMlen rfl (by omega) (by omega) rfl rfl ?_ | refine wo_sliceGE rfl (.inl rfl) hlen rfl (by omega) (by omega) rfl rfl ?_
          | refine wo_sliceG0 rfl (.inl rfl) hMlen rfl (by omega) (by omega) rfl rfl ?_ | refine q_call (hC3t _) ?_ rfl (by rw [← htk]; rfl)
          | refine q_call hC2 ?_ rfl (by rw [← hM1, ← hes3', hMl]; rfl) | refine q_call hw ?_ | refine q_n ?_ | refine q_nn ?_ | refine q_mv ?_ | refine q_faddr ?_ | refine q_load ?_
          | refine q_loadI ?_ | refine q_loadR ?_ | refine q_cmp ?_ | refine q_cmp2 (fun _ => ?_) (fun _ => ?_) | refine q_add ?_ | refine q_sub ?_ | refine q_rem ?_ | refine q_bin ?_
          | refine q_pickT ?_ | refine q_pickF ?_ | refine q_notT ?_ | refine q_notF ?_ | refine q_len ?_ | refine q_lenS ?_ | refine q_len0 ?_ | refine q_ex ?_ | refine q_store ?_
          | refine q_storeR ?_ | refine q_box ?_ | refine q_to64 ?_ | refine q_tou64 ?_ | refine q_cvu ?_ | refine q_cvi ?_ | refine q_at ?_ | refine q_slice0 ?_ | refine q_sliceE ?_
          | refine q_sliceM ?_)
        exact ⟨Or.inr rfl, _, rfl, rfl⟩
      by_cases hj0 : p2.l = []
      · refine key true 0 [] (by unfold LR; rw [if_pos hj0]) (by rw [← hp2n, hj0]; rfl) (.inl ⟨rfl, rfl, rfl⟩)
      · refine key false 9 (p2.l.map CV.av) (by unfold LR; rw [if_neg hj0]) (by rw [List.length_map, hp2n]) (.inr ⟨rfl, by rw [hp2l, List.map_take]⟩)
    · rw [if_neg hok] at hB
      have hx : ¬ (wholeP l ∧ 0 ≤ skip ∧ skip ≤ (l.length : Int) - 2) := hok
      repeat' (first
       | refine q_s ?_ | refine q_z ?_ | refine q_b ?_ | refine q_call hH ?_ | refine q_call hB ?_ | refine wo_lenG (n := l.length) rfl hlen rfl rfl ?_ | refine q_call hw ?_ | refine q_n ?_
        | refine q_nn ?_ | refine q_mv ?_ | refine q_faddr ?_ | refine q_load ?_ | refine q_loadI ?_ | refine q_loadR ?_ | refine q_cmp ?_ | refine q_cmp2 (fun _ => ?_) (fun _ => ?_)
        | refine q_add ?_ | refine q_sub ?_ | refine q_rem ?_ | refine q_bin ?_ | refine q_pickT ?_ | refine q_pickF ?_ | refine q_notT ?_ | refine q_notF ?_ | refine q_len ?_
        | refine q_lenS ?_ | refine q_len0 ?_ | refine q_ex ?_ | refine q_store ?_ | refine q_storeR ?_ | refine q_box ?_ | refine q_to64 ?_ | refine q_tou64 ?_ | refine q_cvu ?_
        | refine q_cvi ?_ | refine q_at ?_ | refine q_slice0 ?_ | refine q_sliceE ?_ | refine q_sliceM ?_)
      exact ⟨Or.inr rfl, _, rfl, rfl⟩

end Go.Proofs.YtnakicjkolpacaaDoor
