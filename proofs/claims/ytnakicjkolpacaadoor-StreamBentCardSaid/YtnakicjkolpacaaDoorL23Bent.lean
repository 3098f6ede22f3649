/- woodcutlaw23: StreamBent, by the interpreter: the loops. -/
import Derived.Test.YtnakicjkolpacaaDoorP10
import Derived.Test.YtnakicjkolpacaaDoorS36
import Derived.Test.YtnakicjkolpacaaDoorL23Back
set_option linter.unusedSimpArgs false
set_option linter.unusedVariables false
set_option maxRecDepth 10000
set_option maxHeartbeats 16000000
namespace Go.Proofs.YtnakicjkolpacaaDoor
open Go.AI
attribute [local irreducible] aops aexec acall aiter aop W WO

variable {xf : ExtF}

theorem BL_bAt {l : List UInt8} {n : Nat} (h : n < l.length) : (BL l)[n]? = some (u8 (bAt l (n : Int))) := by
  rw [BL_get, List.getElem?_eq_getElem h, bAt_eq h]
  rfl

theorem Bent_loop {cf : CallF} {base fuel G : Nat} {H : Heap} {T : Tmps} {l x : List UInt8} {a v : Nat} (hx : x.length = 4) (hv : l.length = v) (ha : a + 4 ≤ v) (hvm : v < 1000000) (hk : 4 < fuel) (h1 : H 0 = ⟨1, false, .row 4 [.agg (BL x)]⟩) (h2 : H 13 = ⟨G, false, .row 1 (BL l)⟩)
    (hT : Has T [(20, .int .i64 a), (7, .ptr 0 1 1 4 0 0), (18, .slc 13 G v 1 0 v none), (21, .bool false), (22, .int .i64 0)]) :
    W (aexec cf xf base fuel (.loop law23_StreamBent_l1) T H) (fun ex T' H' => ex = .exit 3 ∧ H' = H.upd 13 ⟨G, false, .row 1 (BL (bent l a x 4))⟩ ∧ T' 20 = .int .i64 a ∧ T' 18 = .slc 13 G v 1 0 v none ∧ T' 21 = .bool (chF x 4)) := by
  refine w_loop (fun m T' H' => m ≤ 4 ∧ H' = H.upd 13 ⟨G, false, .row 1 (BL (bent l a x (4 - m)))⟩ ∧ Has T' [(20, .int .i64 a), (7, .ptr 0 1 1 4 0 0), (18, .slc 13 G v 1 0 v none), (21, .bool (chF x (4 - m))), (22, .int .i64 ((4 - m : Nat) : Int))])
    4 ⟨Nat.le_refl _, (Heap.upd_self h2).symm, ⟨hT.1, hT.2.1, hT.2.2.1, hT.2.2.2.1, by rw [hT.2.2.2.2.1]; rfl, trivial⟩⟩ hk ?_
  rintro m T H1 hm ⟨_, rfl, hT⟩
  obtain ⟨i, hi⟩ : ∃ i, i = 4 - m := ⟨_, rfl⟩
  rw [← hi] at hT ⊢
  by_cases hm0 : m = 0
  · have hi4 : i = 4 := by omega
    subst hi4
    rw [hT.eq]
    simp only [over]
    unfold law23_StreamBent_l1
    repeat' (first
     | refine q_s ?_ | refine q_z ?_ | refine q_b ?_ | refine q_n ?_ | refine q_nn ?_ | refine q_mv ?_ | refine q_load ?_ | refine q_loadI ?_ | refine q_loadR ?_ | refine q_cmp ?_
      | refine q_cmp2 (fun _ => ?_) (fun _ => ?_) | refine q_add ?_ | refine q_bin ?_ | refine q_pickT ?_ | refine q_pickF ?_ | refine q_store ?_ | refine q_storeR ?_ | refine q_at ?_)
    exact ⟨rfl, rfl, rfl, rfl, rfl⟩
  have hi4 : i < 4 := by omega
  obtain ⟨L, hL⟩ : ∃ L, L = bent l a x i := ⟨_, rfl⟩
  have hLl : L.length = v := by rw [hL, bent_length, hv]
  rw [← hL]
  have e1 : 0 + ((a : Int) + (i : Int)).toNat = a + i := by omega
  have hE : (BL L)[0 + ((a : Int) + (i : Int)).toNat]? = some (u8 (bAt L ((a + i : Nat) : Int))) := by rw [e1]; exact BL_bAt (by omega)
  have hX : x[0 + (i : Int).toNat * 1]? = some (x.getD i 0) := by
    have : 0 + (i : Int).toNat * 1 = i := by omega
    rw [this, List.getD_eq_getElem?_getD, List.getElem?_eq_getElem (by omega)]; rfl
  have hn : bent l a x (i + 1) = L.set (a + i) (bAt L ((a + i : Nat) : Int) ^^^ x.getD i 0) := by rw [hL]; rfl
  have e2 : 4 - (m - 1) = i + 1 := by omega
  rw [hT.eq]
  simp only [over]
  unfold law23_StreamBent_l1
  cases hch : chF x i with
  | true =>
    repeat' (first
     | refine q_s ?_ | refine q_z ?_ | refine q_b ?_ | refine wo_atR rfl rfl rfl (by simp; omega) (by omega) (by omega) (by omega) rfl rfl ?_
      | refine wo_loadE rfl rfl (by simp; omega) hE rfl rfl rfl ?_ | refine wo_iaddrA rfl rfl (by omega) (by omega) rfl rfl ?_ | refine wo_loadA rfl h1 hX rfl rfl ?_
      | refine wo_xor8 rfl rfl rfl rfl ?_ | refine wo_storeB (l := L) rfl rfl rfl rfl (by omega) (by omega) rfl rfl ?_ | refine q_n ?_ | refine q_nn ?_ | refine q_mv ?_ | refine q_load ?_
      | refine q_loadI ?_ | refine q_loadR ?_ | refine q_cmp ?_ | refine q_cmp2 (fun _ => ?_) (fun _ => ?_) | refine q_add ?_ | refine q_bin ?_ | refine q_pickT ?_ | refine q_pickF ?_
      | refine q_store ?_ | refine q_storeR ?_ | refine q_at ?_)
    refine ⟨by omega, by omega, ?_, rfl, rfl, rfl, ?_, by show AV.int _ _ = AV.int _ _; congr 1; omega, trivial⟩
    · rw [Heap.upd_upd, e2, hn, e1]
    · rw [e2]; simp only [chF, hch, Bool.true_or]; rfl
  | false =>
    repeat' (first
     | refine q_s ?_ | refine q_z ?_ | refine q_b ?_ | refine wo_atR rfl rfl rfl (by simp; omega) (by omega) (by omega) (by omega) rfl rfl ?_
      | refine wo_loadE rfl rfl (by simp; omega) hE rfl rfl rfl ?_ | refine wo_iaddrA rfl rfl (by omega) (by omega) rfl rfl ?_ | refine wo_loadA rfl h1 hX rfl rfl ?_
      | refine wo_xor8 rfl rfl rfl rfl ?_ | refine wo_storeB (l := L) rfl rfl rfl rfl (by omega) (by omega) rfl rfl ?_ | refine q_n ?_ | refine q_nn ?_ | refine q_mv ?_ | refine q_load ?_
      | refine q_loadI ?_ | refine q_loadR ?_ | refine q_cmp ?_ | refine q_cmp2 (fun _ => ?_) (fun _ => ?_) | refine q_add ?_ | refine q_bin ?_ | refine q_pickT ?_ | refine q_pickF ?_
      | refine q_store ?_ | refine q_storeR ?_ | refine q_at ?_)
    · rename_i h3 h4
      simp only [cmpP] at h4
      have h5 : x.getD i 0 ≠ 0 := fun h => h4 (by rw [h]; rfl)
      refine ⟨by omega, by omega, ?_, rfl, rfl, rfl, ?_, by show AV.int _ _ = AV.int _ _; congr 1; omega, trivial⟩
      · rw [Heap.upd_upd, e2, hn, e1]
      · rw [e2]; simp only [chF, hch, Bool.false_or, bne_iff_ne, ne_eq, h5, not_false_eq_true]
        rw [show (x.getD i 0 != 0) = true by simpa using h5]; rfl
    · rename_i h3 h4
      simp only [cmpP] at h4
      have h5 : x.getD i 0 = 0 := by
        apply UInt8.toNat_inj.1
        have := Classical.not_not.1 h4
        show (x.getD i 0).toNat = 0
        omega
      refine ⟨by omega, by omega, ?_, rfl, rfl, rfl, ?_, by show AV.int _ _ = AV.int _ _; congr 1; omega, trivial⟩
      · rw [Heap.upd_upd, e2, hn, e1]
      · rw [e2]; simp only [chF, hch, h5]; rfl

theorem parseAv_frB {seq : Int} {c : Cmd} (h : chkP c) (hs : 0 ≤ seq ∧ seq ≤ 4294967295) (more : List UInt8) :
    parseAv (frB seq c ++ more) = .tup [c.av false (!rawD c.kind (payB c)) (if rawD c.kind (payB c) then 1 else 0), .int .i64 seq, .int .i64 (frB seq c).length, .int .i64 0] := by
  obtain ⟨q1, q2, q3, q4, q5, q6⟩ := parse_frB h hs more
  unfold parseAv
  rw [if_pos q1, q2, q4, q5, q6]
  unfold rawAv
  rw [(rawC_payB h).2]

/-- Where each frame begins. -/
def offN (ms : List (Int × Cmd)) (i : Nat) : List Int := (List.range i).map fun j => ((frsB (ms.take j)).length : Int)
theorem offN_succ (ms : List (Int × Cmd)) (i : Nat) : offN ms (i + 1) = offN ms i ++ [((frsB (ms.take i)).length : Int)] := by
  unfold offN
  rw [List.range_succ, List.map_append]
  rfl
theorem offN_get (ms : List (Int × Cmd)) {i n : Nat} (h : i < n) : (IL (offN ms n))[i]? = some (.int .i64 ((frsB (ms.take i)).length : Nat)) := by
  unfold offN IL
  rw [List.getElem?_map, List.getElem?_map, List.getElem?_range h]
  rfl
theorem offN_len (ms : List (Int × Cmd)) (n : Nat) : (IL (offN ms n)).length = n := by simp [offN, IL]
theorem frsB_len_le {ms : List (Int × Cmd)} (h : ∀ x ∈ ms, chkP x.2) : (frsB ms).length ≤ 540 * ms.length := by
  induction ms with
  | nil => simp [frsB]
  | cons x ms ih =>
    obtain ⟨q, c⟩ := x
    have h1 := ih fun x hx => h x (by simp [hx])
    have h2 := payB_le (h (q, c) (by simp))
    simp only [frsB, List.length_append, frB_length, List.length_cons]
    simp only at h2
    omega

theorem Bent_from (k : Nat) (hk : 1000000 ≤ k) {fuel : Nat} {T : Tmps} {H : Heap} {f : Bool} {b : List UInt8} {ms : List (Int × Cmd)} {g0 g1 g2 g7 : AV} {Z0 : Blk} (hb : b = frsB ms) (hl : ms.length < 1000) (hchk : ∀ x ∈ ms, chkP x.2 ∧ 0 ≤ x.1 ∧ x.1 ≤ 4294967295) (hk2 : 1000000 ≤ fuel)
    (h0 : H 0 = Z0) (h1 : H 1 = ⟨1, false, .row 1 []⟩) (hT : Has T [(0, g0), (1, g1), (2, g2), (7, g7), (9, .islc false f 1 (BL b)), (11, .slc 1 1 0 1 0 0 none), (12, .int .i64 0)]) :
    W (aexec (acall B xf cloneF (k + 6)) xf 0 fuel (.loop law23_StreamBent_l0) T H) (fun ex T' H' => ex = .exit 0 ∧ H' 0 = Z0 ∧ H' 1 = ⟨1, false, .row 1 (IL (offN ms ms.length))⟩ ∧
      Has T' [(0, g0), (1, g1), (2, g2), (7, g7), (9, .islc false f 1 (BL b)), (11, .slc 1 1 ms.length 1 0 ms.length none)]) := by
  have hbl : b.length ≤ 540 * ms.length := by rw [hb]; exact frsB_len_le fun x hx => (hchk x hx).1
  refine w_for ms.length (fun i T' H' => H' 0 = Z0 ∧ H' 1 = ⟨1, false, .row 1 (IL (offN ms i))⟩ ∧ Has T' [(0, g0), (1, g1), (2, g2), (7, g7), (9, .islc false f 1 (BL b)), (11, .slc 1 1 i 1 0 i none), (12, .int .i64 ((frsB (ms.take i)).length : Nat))]) ⟨h0, h1, hT⟩ (by omega) ?_
  rintro i T H hi ⟨h0, h1, hT⟩
  rw [hT.eq]
  simp only [over]
  unfold law23_StreamBent_l0
  by_cases hil : i < ms.length
  · rcases hx : ms[i] with ⟨q, c⟩
    have hmem : (q, c) ∈ ms := by rw [← hx]; exact List.getElem_mem hil
    obtain ⟨hch, hq⟩ := hchk _ hmem
    simp only at hch hq
    have hsp : b = frsB (ms.take i) ++ (frB q c ++ frsB (ms.drop (i + 1))) := by
      have h2 : ms = ms.take i ++ (q, c) :: ms.drop (i + 1) := by
        rw [← hx, ← List.drop_eq_getElem_cons hil, List.take_append_drop]
      rw [hb]
      conv => lhs; rw [h2]
      rw [frsB_append]
      rfl
    obtain ⟨off, hoff⟩ : ∃ off, off = (frsB (ms.take i)).length := ⟨_, rfl⟩
    have hnx : (frsB (ms.take (i + 1))).length = off + (frB q c).length := by
      rw [List.take_succ_eq_append_getElem hil, hx, frsB_append, hoff]
      simp [frsB]
    have hfl := frB_length q c
    have hbl2 : b.length = off + ((frB q c).length + (frsB (ms.drop (i + 1))).length) := by
      rw [hoff]
      conv => lhs; rw [hsp]
      simp only [List.length_append]
    have hdr : b.drop ((off : Nat) : Int).toNat = frB q c ++ frsB (ms.drop (i + 1)) := by
      rw [Int.toNat_natCast, hoff]
      conv => lhs; rw [hsp]
      rw [List.drop_left]
    have hp := e_frame_Parse (xf := xf) k hk false f (frB q c ++ frsB (ms.drop (i + 1))) (by simp only [List.length_append]; omega)
    rw [parseAv_frB hch hq, ← hdr] at hp
    unfold Cmd.av at hp
    rw [← hoff]
    repeat' (first
     | refine q_s ?_ | refine q_z ?_ | refine q_b ?_ | refine wo_app1 rfl rfl rfl (by exact h1) (offN_len ms i) rfl (by omega) rfl rfl (fun _ => ?_) | refine q_call hp ?_ | refine q_sliceE ?_
      | refine q_n ?_ | refine q_nn ?_ | refine q_mv ?_ | refine q_cmp ?_ | refine q_cmp2 (fun _ => ?_) (fun _ => ?_) | refine q_add ?_ | refine q_pickT ?_ | refine q_pickF ?_ | refine q_len ?_
      | refine q_lenS ?_ | refine q_len0 ?_ | refine q_ex ?_ | refine q_store ?_ | refine q_storeR ?_ | refine q_box ?_ | refine q_buildS ?_ | refine q_app fun _ => ?_ | refine q_slice0 ?_
      | refine q_sliceE ?_ | refine q_sliceM ?_)
    refine ⟨hil, by exact h0, ?_, rfl, rfl, rfl, rfl, rfl, rfl, ?_, trivial⟩
    · rw [offN_succ, ← hoff]
      unfold IL
      rw [List.map_append]
      rfl
    · show AV.int _ _ = AV.int _ _
      congr 1
      rw [hnx]
      omega
  · have hin : i = ms.length := by omega
    subst hin
    have he : (frsB (ms.take ms.length)).length = b.length := by rw [List.take_length, hb]
    rw [he]
    repeat' (first
     | refine q_s ?_ | refine q_z ?_ | refine q_b ?_ | refine q_n ?_ | refine q_nn ?_ | refine q_mv ?_ | refine q_cmp ?_ | refine q_cmp2 (fun _ => ?_) (fun _ => ?_) | refine q_add ?_
      | refine q_pickT ?_ | refine q_pickF ?_ | refine q_len ?_ | refine q_lenS ?_ | refine q_len0 ?_ | refine q_ex ?_ | refine q_store ?_ | refine q_storeR ?_ | refine q_box ?_
      | refine q_buildS ?_ | refine q_app fun _ => ?_ | refine q_slice0 ?_ | refine q_sliceE ?_ | refine q_sliceM ?_)
    exact ⟨rfl, h0, h1, rfl, rfl, rfl, rfl, rfl, rfl, trivial⟩

end Go.Proofs.YtnakicjkolpacaaDoor
