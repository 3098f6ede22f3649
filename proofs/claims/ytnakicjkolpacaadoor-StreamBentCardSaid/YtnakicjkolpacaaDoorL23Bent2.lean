/- woodcutlaw23: StreamBent, by the interpreter. -/
import Derived.Test.YtnakicjkolpacaaDoorL23Bent
import Derived.Test.YtnakicjkolpacaaDoorS16
set_option linter.unusedSimpArgs false
set_option linter.unusedVariables false
set_option maxRecDepth 10000
set_option maxHeartbeats 16000000
namespace Go.Proofs.YtnakicjkolpacaaDoor
open Go.AI

theorem payB_ge (c : Cmd) : 4 ≤ (payB c).length := by
  unfold payB
  repeat' split
  all_goals (simp; try omega)
theorem mids_all : ∀ {ms : List (Int × Cmd)} {p : PS}, Mids p ms → ∀ x ∈ ms, chkP x.2 ∧ 0 ≤ x.1 ∧ x.1 ≤ 4294967295
  | [], _, _, x, hx => by cases hx
  | (q, c) :: ms, p, h, x, hx => by
    obtain ⟨h1, h2, h3, h4, h5⟩ := h
    rcases List.mem_cons.1 hx with rfl | hx
    · exact ⟨h1, h2⟩
    · exact mids_all h5 x hx
theorem fz_ownV {H : Heap} {j gn v : Nat} {ro : Bool} {cap : Option Nat} {l : List UInt8} (hr : H j = ⟨gn, ro, .row 1 (BL l)⟩) (hv : l.length = v) : fz false 6 H (.slc j gn v 1 0 v cap) = .islc true false 1 (BL l) := by
  rw [fz_slcB (n := 4) (row_of hr (by simpa using hv)) (by omega), List.drop_zero, ← hv, List.take_length]
  rfl

section
variable {cf : CallF} {xf : ExtF} {base : Nat} {T : Tmps} {H : Heap} {QO : Tmps → Heap → Prop} {log : List FP} {g : Option (Nat × Bool)} {un : List Nat} {r : List SOper} {d : Nat} {t f : Bool} {l : List UInt8}
theorem wo_appK {site gn j v : Nat} {x y : SArg} {m : List UInt8} (hx : x.ev T = .slc j gn v 1 0 v .none) (hy : y.ev T = .islc t f 1 (BL m)) (hr : H j = ⟨gn, false, .row 1 (BL l)⟩) (hv : l.length = v) (hn : m ≠ []) (hm : v + m.length ≤ 68719476736)
    (hw : awanted T g = some true) (hl : un = [])
    (h : WO (aops cf xf base r (log ++ [⟨[j], [j], false⟩]) (T.upd d (.slc j gn (v + m.length) 1 0 (v + m.length) .none)) (H.upd j ⟨gn, false, .row 1 (BL (l ++ m))⟩)) QO) :
    WO (aops cf xf base (⟨some d, .app site 1 x y, g, un⟩ :: r) log T H) QO := by
  subst hl
  refine wo_step (v := .slc j gn (v + m.length) 1 0 (v + m.length) .none) (H' := H.upd j ⟨gn, false, .row 1 (BL (l ++ m))⟩) (fp := ⟨[j], [j], false⟩) hw ?_ rfl h
  simp only [aop, hx, hy, aappend, elemsOf, absorb, BL_norefs, if_true, or_true, Option.bind_eq_bind, Option.bind_some]
  rw [appendTo_grow hr hv hn hm]
  rfl
end

attribute [local irreducible] aops aexec acall aiter aop W WO Int.emod

variable {xf : ExtF}

theorem law_StreamBent (l : List Cmd) (hl : l.length ≤ maxLen ∧ ∀ c ∈ l, CmdR c) (at0 how : Int) (x : List UInt8) (hx : x.length = 4) :
    ∃ H, acall B xf cloneF 1000030 n_law23_StreamBent 0 [.islc false false 9 (l.map (Cmd.av false false 1)), .int .i64 at0, .int .i64 how, .agg (x.flatMap fun c => [u8 c])] Heap.none = some (.bool true, H) := by
  suffices h : FnV (acall B xf cloneF 1000030) n_law23_StreamBent [.islc false false 9 (l.map (Cmd.av false false 1)), .int .i64 at0, .int .i64 how, .agg (x.flatMap fun c => [u8 c])] (.bool true) by
    obtain ⟨u, H, h1, h2⟩ := h
    refine ⟨H, ?_⟩
    rw [h1, fz_true h2]
  have hw := e_wakes (xf := xf)
  obtain ⟨x0, x1, x2, x3, rfl⟩ : ∃ x0 x1 x2 x3, x = [x0, x1, x2, x3] := by
    match x, hx with
    | [a, b, c, d], _ => exact ⟨a, b, c, d, rfl⟩
  have hes : CsR (l.map (Cmd.av false false 1)) l := csR_cmd
  obtain ⟨es, hesd⟩ : ∃ es, es = l.map (Cmd.av false false 1) := ⟨_, rfl⟩
  rw [← hesd] at hes ⊢
  have hlen := hes.len
  have hH := e_law_Heavy (xf := xf) (gf := cloneF) 1000028 (by omega) false false es l hes
  refine fn_of B_law23_StreamBent rfl ?_
  unfold law23_StreamBent
  cases hh : heavyB l with
  | true =>
    rw [hh] at hH
    repeat' (first
     | refine q_s ?_ | refine q_z ?_ | refine q_b ?_ | refine q_call hH ?_ | refine q_n ?_ | refine q_nn ?_ | refine q_mv ?_ | refine q_load ?_ | refine q_loadI ?_ | refine q_loadR ?_
      | refine q_cmp ?_ | refine q_cmp2 (fun _ => ?_) (fun _ => ?_) | refine q_add ?_ | refine q_sub ?_ | refine q_rem ?_ | refine q_bin ?_ | refine q_pickT ?_ | refine q_pickF ?_
      | refine q_notT ?_ | refine q_notF ?_ | refine q_len ?_ | refine q_lenS ?_ | refine q_len0 ?_ | refine q_ex ?_ | refine q_store ?_ | refine q_storeR ?_ | refine q_box ?_
      | refine q_to64 ?_ | refine q_tou64 ?_ | refine q_cvu ?_ | refine q_cvi ?_ | refine q_at ?_ | refine q_nilrow ?_ | refine q_buildS ?_ | refine q_app fun _ => ?_ | refine q_slice0 ?_
      | refine q_sliceE ?_ | refine q_sliceM ?_)
    exact ⟨Or.inr rfl, _, rfl, rfl⟩
  | false =>
    rw [hh] at hH
    obtain ⟨h60, hd⟩ := heavyB_false hh
    have hsm : smallC l := fun c hc => by have := hd c hc; omega
    by_cases hl3 : l.length < 3
    · skip
      repeat' (first
       | refine q_s ?_ | refine q_z ?_ | refine q_b ?_ | refine q_call hH ?_ | refine wo_lenG (n := l.length) rfl hlen rfl rfl ?_ | refine q_n ?_ | refine q_nn ?_ | refine q_mv ?_
        | refine q_load ?_ | refine q_loadI ?_ | refine q_loadR ?_ | refine q_cmp ?_ | refine q_cmp2 (fun _ => ?_) (fun _ => ?_) | refine q_add ?_ | refine q_sub ?_ | refine q_rem ?_
        | refine q_bin ?_ | refine q_pickT ?_ | refine q_pickF ?_ | refine q_notT ?_ | refine q_notF ?_ | refine q_len ?_ | refine q_lenS ?_ | refine q_len0 ?_ | refine q_ex ?_
        | refine q_store ?_ | refine q_storeR ?_ | refine q_box ?_ | refine q_to64 ?_ | refine q_tou64 ?_ | refine q_cvu ?_ | refine q_cvi ?_ | refine q_at ?_ | refine q_nilrow ?_
        | refine q_buildS ?_ | refine q_app fun _ => ?_ | refine q_slice0 ?_ | refine q_sliceE ?_ | refine q_sliceM ?_)
      exact ⟨Or.inr rfl, _, rfl, rfl⟩
    have hB := e_stream_Bytes (xf := xf) (gf := cloneF) 1000019 (by omega) false false es l (0 : Nat) (by omega) hes hsm
    by_cases hok : wholeP l ∧ 0 ≤ ((0 : Nat) : Int) ∧ ((0 : Nat) : Int) ≤ (l.length : Int) - 2
    · rw [if_pos hok] at hB
      obtain ⟨hW, _, _⟩ := hok
      obtain ⟨M, qz, z, hst, hMl⟩ := stream_parts hW (by omega)
      obtain ⟨b, hb⟩ : ∃ b, b = bytesS l (0 : Nat) := ⟨_, rfl⟩
      rw [← hb] at hB hst
      obtain ⟨ms, hms⟩ : ∃ ms, ms = M ++ [(qz, z)] := ⟨_, rfl⟩
      have hbm : b = frsB ms := by rw [hms]; exact hst.bytes
      have hmsl : ms.length = l.length := by rw [hms, List.length_append]; exact hMl
      have hchk : ∀ x ∈ ms, chkP x.2 ∧ 0 ≤ x.1 ∧ x.1 ≤ 4294967295 := by
        intro y hy
        rw [hms] at hy
        rcases List.mem_append.1 hy with hy | hy
        · exact mids_all hst.mids y hy
        · rw [List.mem_singleton] at hy
          subst hy
          exact ⟨hst.chk, hst.rng⟩
      have hbl : b.length ≤ 540 * ms.length := by rw [hbm]; exact frsB_len_le fun x hx => (hchk x hx).1
      -- which frame
      obtain ⟨K, hK⟩ : ∃ K : Int, K = 1 + at0 % 18446744073709551616 % ((l.length : Int) - 2) := ⟨_, rfl⟩
      have hKr : 1 ≤ K ∧ K + 2 ≤ l.length := by
        have h1 := Int.emod_lt_of_pos (at0 % 18446744073709551616) (show (0 : Int) < (l.length : Int) - 2 by omega)
        have h2 := Int.emod_nonneg (at0 % 18446744073709551616) (show (l.length : Int) - 2 ≠ 0 by omega)
        omega
      obtain ⟨kN, hkN⟩ : ∃ kN : Nat, (kN : Int) = K := ⟨K.toNat, by omega⟩
      have hk1 : kN < ms.length := by omega
      have hk2 : kN + 1 < ms.length := by omega
      obtain ⟨A, hA⟩ : ∃ A, A = ms.take kN := ⟨_, rfl⟩
      rcases hqc : ms[kN] with ⟨q, c⟩
      rcases hqc2 : ms[kN + 1] with ⟨q', c'⟩
      obtain ⟨R, hR⟩ : ∃ R, R = ms.drop (kN + 1 + 1) := ⟨_, rfl⟩
      have hsp : ms = A ++ (q, c) :: (q', c') :: R := by
        rw [hA, hR, ← hqc2, ← List.drop_eq_getElem_cons hk2, ← hqc, ← List.drop_eq_getElem_cons hk1, List.take_append_drop]
      have hAne : A ≠ [] := by
        intro h0
        have := congrArg List.length h0
        rw [hA, List.length_take, List.length_nil] at this
        omega
      have hsp2 := hsp
      rw [hms] at hsp2
      have hc := (hchk (q, c) (by rw [hsp]; simp)).1
      have hq := (hchk (q, c) (by rw [hsp]; simp)).2
      simp only at hc hq
      -- its bytes
      obtain ⟨o1, ho1⟩ : ∃ o1, o1 = (frsB (ms.take kN)).length := ⟨_, rfl⟩
      obtain ⟨o2, ho2⟩ : ∃ o2, o2 = (frsB (ms.take (kN + 1))).length := ⟨_, rfl⟩
      have hfl := frB_length q c
      have hge := payB_ge c
      have hple := payB_le hc
      have ho12 : o2 = o1 + (frB q c).length := by
        rw [ho1, ho2, List.take_succ_eq_append_getElem hk1, hqc, frsB_append]
        simp [frsB]
      have hbs : b = frsB A ++ (frB q c ++ frsB ((q', c') :: R)) := by
        rw [hbm]
        conv => lhs; rw [hsp]
        rw [frsB_append]
        rfl
      have hAl : (frsB A).length = o1 := by rw [hA, ho1]
      have hbl2 : b.length = o1 + ((frB q c).length + (frsB ((q', c') :: R)).length) := by
        conv => lhs; rw [hbs]
        simp only [List.length_append, hAl]
      have y0 : b.take ((o1 : Nat) : Int).toNat = frsB A := by
        rw [Int.toNat_natCast]
        conv => lhs; rw [hbs]
        rw [← hAl, List.take_left]
      have y1 : b.take ((o2 : Nat) : Int).toNat = frsB A ++ frB q c := by
        rw [Int.toNat_natCast]
        conv => lhs; rw [hbs]
        rw [ho12, ← hAl, ← List.append_assoc, ← List.length_append, List.take_left]
      have y3 : b.drop ((o2 : Nat) : Int).toNat = frsB ((q', c') :: R) := by
        rw [Int.toNat_natCast]
        conv => lhs; rw [hbs]
        rw [ho12, ← hAl, ← List.append_assoc, ← List.length_append, List.drop_left]
      have y2 : (b.drop ((o1 : Nat) : Int).toNat).take (((o2 : Nat) : Int).toNat - ((o1 : Nat) : Int).toNat) = frB q c := by
        rw [Int.toNat_natCast, Int.toNat_natCast]
        conv => lhs; rw [hbs]
        rw [ho12, ← hAl, List.drop_left, Nat.add_sub_cancel_left, List.take_left]
      have e1 : (IL (offN ms ms.length))[0 + K.toNat]? = some (.int .i64 (o1 : Nat)) := by
        rw [ho1, Nat.zero_add, ← hkN, Int.toNat_natCast]
        exact offN_get ms hk1
      have e2 : (IL (offN ms ms.length))[0 + (K + 1).toNat]? = some (.int .i64 (o2 : Nat)) := by
        rw [ho2, Nat.zero_add, ← hkN, show (((kN : Nat) : Int) + 1).toNat = kN + 1 by omega]
        exact offN_get ms hk2
      have hol := offN_len ms ms.length
      have fin : ∀ c : List UInt8, (parseS c).2.2 ≠ 0 → c.length < 900000 →
          ∃ (L : AV) (a : Nat) (e : Int), e ≠ 0 ∧ a ≤ c.length ∧ FnV (acall B xf cloneF 1000029) n_stream_Parse [.islc true false 1 (BL c)] (.tup [L, .int .i64 a, .int .i64 e]) ∧ FnV (acall B xf cloneF 1000029) n_stream_Verify [.islc true false 1 (BL c)] (.int .i64 e) := by
        intro c he hl
        have hP := e_stream_Parse (xf := xf) 1000022 (by omega) true false c hl
        have hV := e_stream_Verify (xf := xf) 1000021 (by omega) true false c hl
        have hg := goS_good (c.length + 1) ps0 0 c
        unfold parseSAv at hP
        exact ⟨_, (parseS c).2.1, _, he, by have := hg.1; unfold parseS; omega, hP, hV⟩
      have hx2 : (b.drop ((o1 : Nat) : Int).toNat).take (((o2 : Nat) : Int).toNat - ((o1 : Nat) : Int).toNat) ≠ [] := by
        rw [y2]
        intro h0
        have := congrArg List.length h0
        rw [List.length_nil] at this
        omega
      have hTw := fun f (c : List UInt8) (h : c.length < 1000000) => e_keep_Twin (xf := xf) (gf := cloneF) 1000028 false f c h
      have hu : how % 18446744073709551616 % 4 = 0 ∨ how % 18446744073709551616 % 4 = 1 ∨ how % 18446744073709551616 % 4 = 2 ∨ how % 18446744073709551616 % 4 = 3 := by omega
      have hlx0 : (b.take ((o1 : Nat) : Int).toNat).length ≤ b.length := by rw [List.length_take]; omega
      have hlx1 : (b.take ((o2 : Nat) : Int).toNat).length ≤ b.length := by rw [List.length_take]; omega
      have hlx2 : ((b.drop ((o1 : Nat) : Int).toNat).take (((o2 : Nat) : Int).toNat - ((o1 : Nat) : Int).toNat)).length ≤ b.length := by rw [List.length_take, List.length_drop]; omega
      have hlx3 : (b.drop ((o2 : Nat) : Int).toNat).length ≤ b.length := by rw [List.length_drop]; omega
      have hhow := hl
      clear hl hhow
      subst hK
      repeat' (first
       | refine q_s ?_ | refine q_z ?_ | refine q_b ?_ | refine q_call hH ?_ | refine q_call hB ?_ | refine wo_lenG (n := l.length) rfl hlen rfl rfl ?_ | refine q_n ?_ | refine q_nn ?_
        | refine q_mv ?_ | refine q_load ?_ | refine q_loadI ?_ | refine q_loadR ?_ | refine q_cmp ?_ | refine q_cmp2 (fun _ => ?_) (fun _ => ?_) | refine q_add ?_ | refine q_sub ?_
        | refine q_rem ?_ | refine q_bin ?_ | refine q_pickT ?_ | refine q_pickF ?_ | refine q_notT ?_ | refine q_notF ?_ | refine q_len ?_ | refine q_lenS ?_ | refine q_len0 ?_
        | refine q_ex ?_ | refine q_store ?_ | refine q_storeR ?_ | refine q_box ?_ | refine q_to64 ?_ | refine q_tou64 ?_ | refine q_cvu ?_ | refine q_cvi ?_ | refine q_at ?_
        | refine q_nilrow ?_ | refine q_buildS ?_ | refine q_app fun _ => ?_ | refine q_slice0 ?_ | refine q_sliceE ?_ | refine q_sliceM ?_)
      refine W.mono (Bent_from (xf := xf) (fuel := 1000029) 1000023 (by omega) (ms := ms) (b := b) (f := false) (Z0 := ⟨1, false, .row 4 [.agg (BL [x0, x1, x2, x3])]⟩) (g0 := .islc false false 9 es) (g1 := .int .i64 at0) (g2 := .int .i64 how) (g7 := .ptr 0 1 1 4 0 0) hbm (by omega) hchk (by omega) ?_ ?_ ?_) ?_
      · rfl
      · rfl
      · exact ⟨rfl, rfl, rfl, rfl, rfl, rfl, rfl, trivial⟩
      rintro ex T2 H2 ⟨rfl, h0, h1, hT⟩
      rw [hT.eq]
      simp only [over]
      show W _ _
      rcases hu with hu | hu | hu | hu
      · have hc0 : ((b.take ((o2 : Nat) : Int).toNat) ++ ((b.drop ((o1 : Nat) : Int).toNat).take (((o2 : Nat) : Int).toNat - ((o1 : Nat) : Int).toNat))) ++ (b.drop ((o2 : Nat) : Int).toNat) = frsB A ++ (frB q c ++ (frB q c ++ frsB ((q', c') :: R))) := by rw [y1, y2, y3]; simp only [List.append_assoc]
        have hne : (parseS (((b.take ((o2 : Nat) : Int).toNat) ++ ((b.drop ((o1 : Nat) : Int).toNat).take (((o2 : Nat) : Int).toNat - ((o1 : Nat) : Int).toNat))) ++ (b.drop ((o2 : Nat) : Int).toNat))).2.2 ≠ 0 := by rw [hc0]; exact bent_twice hst hsp2 hAne _
        obtain ⟨L, a, e, he, ha, hP, hV⟩ := fin _ hne (by simp only [List.length_append]; omega)
        have ha2 : a ≤ (b.take ((o2 : Nat) : Int).toNat).length + ((b.drop ((o1 : Nat) : Int).toNat).take (((o2 : Nat) : Int).toNat - ((o1 : Nat) : Int).toNat)).length + (b.drop ((o2 : Nat) : Int).toNat).length := by simpa only [List.length_append] using ha
        repeat' (first
         | refine q_s ?_ | refine q_z ?_ | refine q_b ?_ | refine q_sliceM (hl := by kernel_rfl) ?_ | refine q_sliceE (hl := by kernel_rfl) ?_
          | refine wo_lenG (n := l.length) rfl hlen rfl rfl ?_ | refine wo_atR rfl rfl (by exact h1) hol (by omega) (by omega) (by omega) rfl (by kernel_rfl) ?_
          | refine wo_loadE rfl (by exact h1) hol e1 rfl rfl (by kernel_rfl) ?_ | refine wo_loadE rfl (by exact h1) hol e2 rfl rfl (by kernel_rfl) ?_
          | refine wo_fresh (hTw _ (b.take ((o2 : Nat) : Int).toNat) (by omega)) rfl rfl rfl ?_
          | refine wo_appK rfl rfl (by rfl) (by first | rfl | (simp only [List.length_append]; done)) hx2 (by omega) rfl rfl ?_
          | refine wo_app rfl rfl (.inl rfl) (by rfl) (by first | rfl | (simp only [List.length_append]; done)) (by omega) rfl rfl (fun _ => ?_)
          | refine q_call hP ?_ rfl (by exact congrArg (fun x => [x]) (fz_ownV (l := ((b.take ((o2 : Nat) : Int).toNat) ++ ((b.drop ((o1 : Nat) : Int).toNat).take (((o2 : Nat) : Int).toNat - ((o1 : Nat) : Int).toNat))) ++ (b.drop ((o2 : Nat) : Int).toNat)) (by rfl) (by first | rfl | (simp only [List.length_append]; done))))
          | refine q_call hV ?_ rfl (by exact congrArg (fun x => [x]) (fz_ownV (l := ((b.take ((o2 : Nat) : Int).toNat) ++ ((b.drop ((o1 : Nat) : Int).toNat).take (((o2 : Nat) : Int).toNat - ((o1 : Nat) : Int).toNat))) ++ (b.drop ((o2 : Nat) : Int).toNat)) (by rfl) (by first | rfl | (simp only [List.length_append]; done))))
          | refine wo_lenSG rfl rfl rfl rfl ?_ | refine q_call hw ?_ | refine q_n ?_ | refine q_nn ?_ | refine q_mv ?_ | refine q_load ?_ | refine q_loadI ?_ | refine q_loadR ?_
          | refine q_cmp ?_ | refine q_cmp2 (fun _ => ?_) (fun _ => ?_) | refine q_add ?_ | refine q_sub ?_ | refine q_rem ?_ | refine q_bin ?_ | refine q_pickT ?_ | refine q_pickF ?_
          | refine q_notT ?_ | refine q_notF ?_ | refine q_len ?_ | refine q_lenS ?_ | refine q_len0 ?_ | refine q_ex ?_ | refine q_store ?_ | refine q_storeR ?_ | refine q_box ?_
          | refine q_to64 ?_ | refine q_tou64 ?_ | refine q_cvu ?_ | refine q_cvi ?_ | refine q_at ?_ | refine q_nilrow ?_ | refine q_buildS ?_ | refine q_app fun _ => ?_ | refine q_slice0 ?_
          | refine q_sliceE ?_ | refine q_sliceM ?_)
        exact ⟨Or.inr rfl, _, rfl, rfl⟩
      · have hc0 : (b.take ((o1 : Nat) : Int).toNat) ++ (b.drop ((o2 : Nat) : Int).toNat) = frsB A ++ (frB q' c' ++ frsB R) := by rw [y0, y3]; rfl
        have hne : (parseS ((b.take ((o1 : Nat) : Int).toNat) ++ (b.drop ((o2 : Nat) : Int).toNat))).2.2 ≠ 0 := by rw [hc0]; exact bent_left hst hsp2 hAne _
        obtain ⟨L, a, e, he, ha, hP, hV⟩ := fin _ hne (by simp only [List.length_append]; omega)
        have ha2 : a ≤ (b.take ((o1 : Nat) : Int).toNat).length + (b.drop ((o2 : Nat) : Int).toNat).length := by simpa only [List.length_append] using ha
        repeat' (first
         | refine q_s ?_ | refine q_z ?_ | refine q_b ?_ | refine q_sliceM (hl := by kernel_rfl) ?_ | refine q_sliceE (hl := by kernel_rfl) ?_
          | refine wo_lenG (n := l.length) rfl hlen rfl rfl ?_ | refine wo_atR rfl rfl (by exact h1) hol (by omega) (by omega) (by omega) rfl (by kernel_rfl) ?_
          | refine wo_loadE rfl (by exact h1) hol e1 rfl rfl (by kernel_rfl) ?_ | refine wo_loadE rfl (by exact h1) hol e2 rfl rfl (by kernel_rfl) ?_
          | refine wo_fresh (hTw _ (b.take ((o1 : Nat) : Int).toNat) (by omega)) rfl rfl rfl ?_
          | refine wo_appK rfl rfl (by rfl) (by first | rfl | (simp only [List.length_append]; done)) hx2 (by omega) rfl rfl ?_
          | refine wo_app rfl rfl (.inl rfl) (by rfl) (by first | rfl | (simp only [List.length_append]; done)) (by omega) rfl rfl (fun _ => ?_)
          | refine q_call hP ?_ rfl (by exact congrArg (fun x => [x]) (fz_ownV (l := (b.take ((o1 : Nat) : Int).toNat) ++ (b.drop ((o2 : Nat) : Int).toNat)) (by rfl) (by first | rfl | (simp only [List.length_append]; done))))
          | refine q_call hV ?_ rfl (by exact congrArg (fun x => [x]) (fz_ownV (l := (b.take ((o1 : Nat) : Int).toNat) ++ (b.drop ((o2 : Nat) : Int).toNat)) (by rfl) (by first | rfl | (simp only [List.length_append]; done))))
          | refine wo_lenSG rfl rfl rfl rfl ?_ | refine q_call hw ?_ | refine q_n ?_ | refine q_nn ?_ | refine q_mv ?_ | refine q_load ?_ | refine q_loadI ?_ | refine q_loadR ?_
          | refine q_cmp ?_ | refine q_cmp2 (fun _ => ?_) (fun _ => ?_) | refine q_add ?_ | refine q_sub ?_ | refine q_rem ?_ | refine q_bin ?_ | refine q_pickT ?_ | refine q_pickF ?_
          | refine q_notT ?_ | refine q_notF ?_ | refine q_len ?_ | refine q_lenS ?_ | refine q_len0 ?_ | refine q_ex ?_ | refine q_store ?_ | refine q_storeR ?_ | refine q_box ?_
          | refine q_to64 ?_ | refine q_tou64 ?_ | refine q_cvu ?_ | refine q_cvi ?_ | refine q_at ?_ | refine q_nilrow ?_ | refine q_buildS ?_ | refine q_app fun _ => ?_ | refine q_slice0 ?_
          | refine q_sliceE ?_ | refine q_sliceM ?_)
        exact ⟨Or.inr rfl, _, rfl, rfl⟩
      · have hc0 : b ++ ((b.drop ((o1 : Nat) : Int).toNat).take (((o2 : Nat) : Int).toNat - ((o1 : Nat) : Int).toNat)) = b ++ frB q c := by rw [y2]
        have hne : (parseS (b ++ ((b.drop ((o1 : Nat) : Int).toNat).take (((o2 : Nat) : Int).toNat - ((o1 : Nat) : Int).toNat)))).2.2 ≠ 0 := by rw [hc0]; exact bent_more hst (fun h0 => by have := congrArg List.length h0; rw [List.length_nil] at this; omega)
        obtain ⟨L, a, e, he, ha, hP, hV⟩ := fin _ hne (by simp only [List.length_append]; omega)
        have ha2 : a ≤ b.length + ((b.drop ((o1 : Nat) : Int).toNat).take (((o2 : Nat) : Int).toNat - ((o1 : Nat) : Int).toNat)).length := by simpa only [List.length_append] using ha
        repeat' (first
         | refine q_s ?_ | refine q_z ?_ | refine q_b ?_ | refine q_sliceM (hl := by kernel_rfl) ?_ | refine q_sliceE (hl := by kernel_rfl) ?_
          | refine wo_lenG (n := l.length) rfl hlen rfl rfl ?_ | refine wo_atR rfl rfl (by exact h1) hol (by omega) (by omega) (by omega) rfl (by kernel_rfl) ?_
          | refine wo_loadE rfl (by exact h1) hol e1 rfl rfl (by kernel_rfl) ?_ | refine wo_loadE rfl (by exact h1) hol e2 rfl rfl (by kernel_rfl) ?_
          | refine wo_fresh (hTw _ b (by omega)) rfl rfl rfl ?_ | refine wo_appK rfl rfl (by rfl) (by first | rfl | (simp only [List.length_append]; done)) hx2 (by omega) rfl rfl ?_
          | refine wo_app rfl rfl (.inl rfl) (by rfl) (by first | rfl | (simp only [List.length_append]; done)) (by omega) rfl rfl (fun _ => ?_)
          | refine q_call hP ?_ rfl (by exact congrArg (fun x => [x]) (fz_ownV (l := b ++ ((b.drop ((o1 : Nat) : Int).toNat).take (((o2 : Nat) : Int).toNat - ((o1 : Nat) : Int).toNat))) (by rfl) (by first | rfl | (simp only [List.length_append]; done))))
          | refine q_call hV ?_ rfl (by exact congrArg (fun x => [x]) (fz_ownV (l := b ++ ((b.drop ((o1 : Nat) : Int).toNat).take (((o2 : Nat) : Int).toNat - ((o1 : Nat) : Int).toNat))) (by rfl) (by first | rfl | (simp only [List.length_append]; done))))
          | refine wo_lenSG rfl rfl rfl rfl ?_ | refine q_call hw ?_ | refine q_n ?_ | refine q_nn ?_ | refine q_mv ?_ | refine q_load ?_ | refine q_loadI ?_ | refine q_loadR ?_
          | refine q_cmp ?_ | refine q_cmp2 (fun _ => ?_) (fun _ => ?_) | refine q_add ?_ | refine q_sub ?_ | refine q_rem ?_ | refine q_bin ?_ | refine q_pickT ?_ | refine q_pickF ?_
          | refine q_notT ?_ | refine q_notF ?_ | refine q_len ?_ | refine q_lenS ?_ | refine q_len0 ?_ | refine q_ex ?_ | refine q_store ?_ | refine q_storeR ?_ | refine q_box ?_
          | refine q_to64 ?_ | refine q_tou64 ?_ | refine q_cvu ?_ | refine q_cvi ?_ | refine q_at ?_ | refine q_nilrow ?_ | refine q_buildS ?_ | refine q_app fun _ => ?_ | refine q_slice0 ?_
          | refine q_sliceE ?_ | refine q_sliceM ?_)
        exact ⟨Or.inr rfl, _, rfl, rfl⟩
      · obtain ⟨a', hae, hal⟩ : ∃ a' : Nat, at0 % 18446744073709551616 % (((o2 : Nat) : Int) - ((o1 : Nat) : Int) - 19) = a' ∧ 16 + a' + 4 ≤ (frB q c).length := by
          have h1 := Int.emod_lt_of_pos (at0 % 18446744073709551616) (show (0 : Int) < ((o2 : Nat) : Int) - ((o1 : Nat) : Int) - 19 by omega)
          have h2 := Int.emod_nonneg (at0 % 18446744073709551616) (show ((o2 : Nat) : Int) - ((o1 : Nat) : Int) - 19 ≠ 0 by omega)
          exact ⟨(at0 % 18446744073709551616 % (((o2 : Nat) : Int) - ((o1 : Nat) : Int) - 19)).toNat, by omega, by omega⟩
        repeat' (first
         | refine q_s ?_ | refine q_z ?_ | refine q_b ?_ | refine q_sliceM (hl := by kernel_rfl) ?_ | refine q_sliceE (hl := by kernel_rfl) ?_
          | refine wo_lenG (n := l.length) rfl hlen rfl rfl ?_ | refine wo_atR rfl rfl (by exact h1) hol (by omega) (by omega) (by omega) rfl (by kernel_rfl) ?_
          | refine wo_loadE rfl (by exact h1) hol e1 rfl rfl (by kernel_rfl) ?_ | refine wo_loadE rfl (by exact h1) hol e2 rfl rfl (by kernel_rfl) ?_
          | refine wo_fresh (hTw _ b (by omega)) rfl rfl rfl ?_ | refine wo_appK rfl rfl (by rfl) (by first | rfl | (simp only [List.length_append]; done)) hx2 (by omega) rfl rfl ?_
          | refine wo_app rfl rfl (.inl rfl) (by rfl) (by first | rfl | (simp only [List.length_append]; done)) (by omega) rfl rfl (fun _ => ?_) | refine q_n ?_ | refine q_nn ?_
          | refine q_mv ?_ | refine q_load ?_ | refine q_loadI ?_ | refine q_loadR ?_ | refine q_cmp ?_ | refine q_cmp2 (fun _ => ?_) (fun _ => ?_) | refine q_add ?_ | refine q_sub ?_
          | refine q_rem ?_ | refine q_bin ?_ | refine q_pickT ?_ | refine q_pickF ?_ | refine q_notT ?_ | refine q_notF ?_ | refine q_len ?_ | refine q_lenS ?_ | refine q_len0 ?_
          | refine q_ex ?_ | refine q_store ?_ | refine q_storeR ?_ | refine q_box ?_ | refine q_to64 ?_ | refine q_tou64 ?_ | refine q_cvu ?_ | refine q_cvi ?_ | refine q_at ?_
          | refine q_nilrow ?_ | refine q_buildS ?_ | refine q_app fun _ => ?_ | refine q_slice0 ?_ | refine q_sliceE ?_ | refine q_sliceM ?_)
        refine W.mono (Bent_loop (G := ((H2.newRow (0 + 5) 1 []) (0 + 13)).gen + 1) (fuel := 1000029) (l := b) (x := [x0, x1, x2, x3]) (a := o1 + (16 + a')) (v := b.length) hx rfl (by omega) (by omega) (by omega) ?_ ?_ ?_) ?_
        · exact h0
        · rfl
        · exact ⟨by show AV.int _ _ = AV.int _ _; rw [hae]; congr 1; omega, rfl, rfl, rfl, rfl, trivial⟩
        rintro ex T3 H3 ⟨rfl, rfl, h20, h18, h21⟩
        rw [Has.eq (T := T3) (ps := [(18, _), (21, _)]) ⟨h18, h21, trivial⟩]
        simp only [over]
        show W _ _
        have hbe : bent b (o1 + (16 + a')) [x0, x1, x2, x3] 4 = frsB A ++ (bent (frB q c) (16 + a') [x0, x1, x2, x3] 4 ++ frsB ((q', c') :: R)) := by
          conv => lhs; rw [hbs]
          rw [← hAl]
          exact bent_append _ _ _ _ _ 4 (by omega)
        cases hch : chF [x0, x1, x2, x3] 4 with
        | false =>
          have hV := e_stream_Verify (xf := xf) 1000021 (by omega) true false b (by omega)
          rw [stm_parse hst] at hV
          rw [bent_same (by omega) hch]
          repeat' (first
           | refine q_s ?_ | refine q_z ?_ | refine q_b ?_ | refine q_call hV ?_ rfl (by exact congrArg (fun x => [x]) (fz_ownV (l := b) (by rfl) rfl)) | refine q_call hw ?_ | refine q_n ?_
            | refine q_nn ?_ | refine q_mv ?_ | refine q_load ?_ | refine q_loadI ?_ | refine q_loadR ?_ | refine q_cmp ?_ | refine q_cmp2 (fun _ => ?_) (fun _ => ?_) | refine q_add ?_
            | refine q_sub ?_ | refine q_rem ?_ | refine q_bin ?_ | refine q_pickT ?_ | refine q_pickF ?_ | refine q_notT ?_ | refine q_notF ?_ | refine q_len ?_ | refine q_lenS ?_
            | refine q_len0 ?_ | refine q_ex ?_ | refine q_store ?_ | refine q_storeR ?_ | refine q_box ?_ | refine q_to64 ?_ | refine q_tou64 ?_ | refine q_cvu ?_ | refine q_cvi ?_
            | refine q_at ?_ | refine q_nilrow ?_ | refine q_buildS ?_ | refine q_app fun _ => ?_ | refine q_slice0 ?_ | refine q_sliceE ?_ | refine q_sliceM ?_)
          exact ⟨Or.inr rfl, _, rfl, rfl⟩
        | true =>
          have hne : (parseS (bent b (o1 + (16 + a')) [x0, x1, x2, x3] 4)).2.2 ≠ 0 := by rw [hbe]; exact bent_within hst hsp2 hAne (by omega) (by omega) hch _
          have hbn := bent_length b (o1 + (16 + a')) [x0, x1, x2, x3] 4
          obtain ⟨L, a, e, he, ha, hP, hV⟩ := fin _ hne (by omega)
          repeat' (first
           | refine q_s ?_ | refine q_z ?_ | refine q_b ?_ | refine q_call hP ?_ rfl (by exact congrArg (fun x => [x]) (fz_ownV (l := bent b (o1 + (16 + a')) [x0, x1, x2, x3] 4) (by rfl) hbn))
            | refine q_call hV ?_ rfl (by exact congrArg (fun x => [x]) (fz_ownV (l := bent b (o1 + (16 + a')) [x0, x1, x2, x3] 4) (by rfl) hbn)) | refine wo_lenSG rfl rfl rfl rfl ?_
            | refine q_call hw ?_ | refine q_n ?_ | refine q_nn ?_ | refine q_mv ?_ | refine q_load ?_ | refine q_loadI ?_ | refine q_loadR ?_ | refine q_cmp ?_
            | refine q_cmp2 (fun _ => ?_) (fun _ => ?_) | refine q_add ?_ | refine q_sub ?_ | refine q_rem ?_ | refine q_bin ?_ | refine q_pickT ?_ | refine q_pickF ?_ | refine q_notT ?_
            | refine q_notF ?_ | refine q_len ?_ | refine q_lenS ?_ | refine q_len0 ?_ | refine q_ex ?_ | refine q_store ?_ | refine q_storeR ?_ | refine q_box ?_ | refine q_to64 ?_
            | refine q_tou64 ?_ | refine q_cvu ?_ | refine q_cvi ?_ | refine q_at ?_ | refine q_nilrow ?_ | refine q_buildS ?_ | refine q_app fun _ => ?_ | refine q_slice0 ?_
            | refine q_sliceE ?_ | refine q_sliceM ?_)
          exact ⟨Or.inr rfl, _, rfl, rfl⟩
    · rw [if_neg hok] at hB
      repeat' (first
       | refine q_s ?_ | refine q_z ?_ | refine q_b ?_ | refine q_call hH ?_ | refine q_call hB ?_ | refine wo_lenG (n := l.length) rfl hlen rfl rfl ?_ | refine q_call hw ?_ | refine q_n ?_
        | refine q_nn ?_ | refine q_mv ?_ | refine q_load ?_ | refine q_loadI ?_ | refine q_loadR ?_ | refine q_cmp ?_ | refine q_cmp2 (fun _ => ?_) (fun _ => ?_) | refine q_add ?_
        | refine q_sub ?_ | refine q_rem ?_ | refine q_bin ?_ | refine q_pickT ?_ | refine q_pickF ?_ | refine q_notT ?_ | refine q_notF ?_ | refine q_len ?_ | refine q_lenS ?_
        | refine q_len0 ?_ | refine q_ex ?_ | refine q_store ?_ | refine q_storeR ?_ | refine q_box ?_ | refine q_to64 ?_ | refine q_tou64 ?_ | refine q_cvu ?_ | refine q_cvi ?_
        | refine q_at ?_ | refine q_nilrow ?_ | refine q_buildS ?_ | refine q_app fun _ => ?_ | refine q_slice0 ?_ | refine q_sliceE ?_ | refine q_sliceM ?_)
      exact ⟨Or.inr rfl, _, rfl, rfl⟩

end Go.Proofs.YtnakicjkolpacaaDoor
