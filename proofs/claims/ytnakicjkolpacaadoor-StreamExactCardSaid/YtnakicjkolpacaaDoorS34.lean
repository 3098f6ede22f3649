/- What the functions answer: what bytes say as a stream. -/
import Derived.Test.YtnakicjkolpacaaDoorS33
set_option linter.unusedSimpArgs false
set_option linter.unusedVariables false
set_option maxRecDepth 10000
set_option maxHeartbeats 16000000
namespace Go.Proofs.YtnakicjkolpacaaDoor
open Go.AI

attribute [local irreducible] aops aexec acall aiter aop W WO

variable {xf : ExtF}

def LR (l : List CV) : AV := if l = [] then .islc false true 0 [] else .islc false false 9 (l.map CV.av)
def parseSAv (b : List UInt8) : AV := .tup [LR (parseS b).1.l, .int .i64 ((parseS b).2.1 : Nat), .int .i64 (parseS b).2.2]

theorem pCV_ok (r : List UInt8) : (pCV r).ok := by
  unfold CV.ok pCV rawV
  cases h : rawD (pKind r) (pPay r) with
  | true => exact .inl rfl
  | false => exact .inr (rawC_data h)

theorem Parse_loop (k : Nat) (hk : 1000000 ≤ k) {fuel : Nat} {T : Tmps} {H : Heap} {t f : Bool} {b : List UInt8} (hb : b.length < 900000) (hk2 : 1000000 ≤ fuel)
    (hT : Has T [(0, .islc t f 1 (BL b)), (3, .int .i64 0), (5, .ptr 0 1 1 3 0 0)]) (hP : PSat H ps0) :
    W (aexec (acall B xf cloneF (k + 6)) xf 0 fuel (.loop stream_Parse_l0) T H) (fun ex T' H' => ex = .exit 0 ∧ PSat H' (parseS b).1 ∧ T' 3 = .int .i64 ((parseS b).2.1 : Nat) ∧ T' 4 = .int .i64 (parseS b).2.2 ∧ T' 5 = .ptr 0 1 1 3 0 0) := by
  refine w_loop (fun m T' H' => ∃ (p : PS) (g : Nat), g ≤ b.length ∧ b.length - g < m ∧ p.fit ∧ p.l.length ≤ g ∧ PSat H' p ∧ parseS b = goS m p g (b.drop g) ∧ Has T' [(0, .islc t f 1 (BL b)), (3, .int .i64 (g : Nat)), (5, .ptr 0 1 1 3 0 0)])
    (b.length + 1) ⟨ps0, 0, by omega, by omega, ⟨by simp [ps0], by simp [ps0], by simp [ps0], by simp [ps0]⟩, by simp [ps0], hP, by simp [parseS], ?_⟩ (by omega) ?_
  · obtain ⟨h0, h1, h2, _⟩ := hT
    exact ⟨h0, by rw [h1]; rfl, h2, trivial⟩
  rintro m T H hm ⟨p, g, hg, hgm, hfit, hpl, hP, hgo, hT⟩
  obtain ⟨m, rfl⟩ : ∃ m', m = m' + 1 := ⟨m - 1, by omega⟩
  obtain ⟨r, hr⟩ : ∃ r, r = b.drop g := ⟨_, rfl⟩
  rw [← hr] at hgo
  have hrl : r.length = b.length - g := by rw [hr]; simp
  have hpar := e_frame_Parse (xf := xf) k hk t f r (by omega)
  have hr2 : b.drop (g : Int).toNat = r := by rw [hr]; simp
  unfold parseAv at hpar
  rw [hT.eq]
  simp only [over]
  unfold stream_Parse_l0
  by_cases h0 : pErr r = 0
  · rw [if_pos h0] at hpar
    have hlp := lenP_pos h0
    obtain ⟨e0, _, _, hchk⟩ := pErr_ok h0
    obtain ⟨n, hn1, hn2, _⟩ := lenP_ok e0
    have hkd : (pCV r).c.kind = pKind r := rawC_kind
    simp only [goS, h0, ne_eq, not_true_eq_false, if_false] at hgo
    repeat' (first
     | refine q_s ?_ | refine q_z ?_ | refine q_b ?_ | refine q_call hpar ?_ rfl (by rw [← hr2]; rfl) | refine q_mv ?_ | refine q_faddr ?_ | refine q_load ?_ | refine q_loadI ?_
      | refine q_loadR ?_ | refine q_cmp ?_ | refine q_cmp2 (fun _ => ?_) (fun _ => ?_) | refine q_add ?_ | refine q_len ?_ | refine q_lenS ?_ | refine q_len0 ?_ | refine q_ex ?_
      | refine q_store ?_ | refine q_storeR ?_ | refine q_box ?_ | refine q_slice0 ?_ | refine q_sliceE ?_ | refine q_sliceM ?_)
    refine wo_inlE (e_takes k hk _ p (pCV r) (pSeq r) hfit (pCV_ok r) hchk (by exact hP)) rfl rfl rfl ?_
    rintro u H2 ⟨rfl, hP2, hH2⟩
    by_cases hE : takeE p (pCmd r) (pSeq r) = 0
    · have hE2 : takeE p (pCV r).c (pSeq r) = 0 := hE
      rw [if_pos hE2] at hP2
      rw [hE2]
      simp only [hE, not_true_eq_false, if_false] at hgo
      have hfit2 := takeP_fit hfit (pCV_ok r) hchk (by omega)
      have hpl2 : (takeP p (pCV r)).l.length = p.l.length + 1 := by simp [takeP]
      by_cases h6 : (pCmd r).kind = 6
      · simp only [h6, if_true] at hgo
        have h6' : (rawC (pKind r) (pPay r)).kind = 6 := h6
        by_cases hlt : (lenP r).1.toNat < r.length
        · rw [if_pos hlt] at hgo
          repeat' (first
           | refine q_s ?_ | refine q_z ?_ | refine q_b ?_ | refine wo_loadR (.int .i64 (rawC (pKind r) (pPay r)).kind) rfl (hH2.trans rfl) rfl rfl (Nat.le_of_ble_eq_true rfl) rfl rfl rfl ?_
            | refine q_mv ?_ | refine q_faddr ?_ | refine q_load ?_ | refine q_loadI ?_ | refine q_loadR ?_ | refine q_cmp ?_ | refine q_cmp2 (fun _ => ?_) (fun _ => ?_) | refine q_add ?_
            | refine q_len ?_ | refine q_lenS ?_ | refine q_len0 ?_ | refine q_ex ?_ | refine q_store ?_ | refine q_storeR ?_ | refine q_box ?_ | refine q_slice0 ?_ | refine q_sliceE ?_
            | refine q_sliceM ?_)
          rw [hgo]
          exact ⟨rfl, hP2, by show AV.int .i64 ((g : Int) + (lenP r).1) = AV.int .i64 ((g + (lenP r).1.toNat : Nat) : Int); congr 1; omega, rfl, rfl⟩
        · rw [if_neg hlt] at hgo
          repeat' (first
           | refine q_s ?_ | refine q_z ?_ | refine q_b ?_ | refine wo_loadR (.int .i64 (rawC (pKind r) (pPay r)).kind) rfl (hH2.trans rfl) rfl rfl (Nat.le_of_ble_eq_true rfl) rfl rfl rfl ?_
            | refine q_mv ?_ | refine q_faddr ?_ | refine q_load ?_ | refine q_loadI ?_ | refine q_loadR ?_ | refine q_cmp ?_ | refine q_cmp2 (fun _ => ?_) (fun _ => ?_) | refine q_add ?_
            | refine q_len ?_ | refine q_lenS ?_ | refine q_len0 ?_ | refine q_ex ?_ | refine q_store ?_ | refine q_storeR ?_ | refine q_box ?_ | refine q_slice0 ?_ | refine q_sliceE ?_
            | refine q_sliceM ?_)
          rw [hgo]
          exact ⟨rfl, hP2, by show AV.int .i64 ((g : Int) + (lenP r).1) = AV.int .i64 ((g + (lenP r).1.toNat : Nat) : Int); congr 1; omega, rfl, rfl⟩
      · simp only [h6, if_false] at hgo
        have h6' : (rawC (pKind r) (pPay r)).kind ≠ 6 := h6
        repeat' (first
         | refine q_s ?_ | refine q_z ?_ | refine q_b ?_ | refine wo_loadR (.int .i64 (rawC (pKind r) (pPay r)).kind) rfl (hH2.trans rfl) rfl rfl (Nat.le_of_ble_eq_true rfl) rfl rfl rfl ?_
          | refine q_mv ?_ | refine q_faddr ?_ | refine q_load ?_ | refine q_loadI ?_ | refine q_loadR ?_ | refine q_cmp ?_ | refine q_cmp2 (fun _ => ?_) (fun _ => ?_) | refine q_add ?_
          | refine q_len ?_ | refine q_lenS ?_ | refine q_len0 ?_ | refine q_ex ?_ | refine q_store ?_ | refine q_storeR ?_ | refine q_box ?_ | refine q_slice0 ?_ | refine q_sliceE ?_
          | refine q_sliceM ?_)
        refine ⟨by omega, takeP p (pCV r), g + (lenP r).1.toNat, by omega, by omega, hfit2, by omega, hP2, ?_, rfl, by show AV.int _ _ = AV.int _ _; congr 1; omega, rfl, trivial⟩
        rw [hgo, hr, List.drop_drop]
        rfl
    · have hE2 : takeE p (pCV r).c (pSeq r) ≠ 0 := hE
      rw [if_neg hE2] at hP2
      simp only [hE, not_false_eq_true, if_true] at hgo
      repeat' (first
       | refine q_s ?_ | refine q_z ?_ | refine q_b ?_ | refine q_mv ?_ | refine q_faddr ?_ | refine q_load ?_ | refine q_loadI ?_ | refine q_loadR ?_ | refine q_cmp ?_
        | refine q_cmp2 (fun _ => ?_) (fun _ => ?_) | refine q_add ?_ | refine q_len ?_ | refine q_lenS ?_ | refine q_len0 ?_ | refine q_ex ?_ | refine q_store ?_ | refine q_storeR ?_
        | refine q_box ?_ | refine q_slice0 ?_ | refine q_sliceE ?_ | refine q_sliceM ?_)
      rw [hgo]
      exact ⟨rfl, hP2, rfl, rfl, rfl⟩
  · rw [if_neg h0] at hpar
    simp only [goS, h0, ne_eq, not_false_eq_true, if_true] at hgo
    repeat' (first
     | refine q_s ?_ | refine q_z ?_ | refine q_b ?_ | refine q_call hpar ?_ rfl (by rw [← hr2]; rfl) | refine q_mv ?_ | refine q_faddr ?_ | refine q_load ?_ | refine q_loadI ?_
      | refine q_loadR ?_ | refine q_cmp ?_ | refine q_cmp2 (fun _ => ?_) (fun _ => ?_) | refine q_add ?_ | refine q_len ?_ | refine q_lenS ?_ | refine q_len0 ?_ | refine q_ex ?_
      | refine q_store ?_ | refine q_storeR ?_ | refine q_box ?_ | refine q_slice0 ?_ | refine q_sliceE ?_ | refine q_sliceM ?_)
    rw [hgo]
    exact ⟨rfl, hP, rfl, rfl, rfl⟩

theorem e_stream_Parse (k : Nat) (hk : 1000000 ≤ k) (t f : Bool) (b : List UInt8) (hb : b.length < 900000) : FnV (acall B xf cloneF (k + 7)) n_stream_Parse [.islc t f 1 (BL b)] (parseSAv b) := by
  refine fn_of B_stream_Parse rfl ?_
  unfold stream_Parse
  repeat' (first
   | refine q_s ?_ | refine q_z ?_ | refine q_b ?_ | refine q_mv ?_ | refine q_faddr ?_ | refine q_load ?_ | refine q_loadI ?_ | refine q_loadR ?_ | refine q_cmp ?_
    | refine q_cmp2 (fun _ => ?_) (fun _ => ?_) | refine q_add ?_ | refine q_len ?_ | refine q_lenS ?_ | refine q_len0 ?_ | refine q_ex ?_ | refine q_store ?_ | refine q_storeR ?_
    | refine q_box ?_ | refine q_build ?_ | refine q_slice0 ?_ | refine q_sliceE ?_ | refine q_sliceM ?_)
  refine (Parse_loop (xf := xf) k hk (t := t) (f := f) hb (by omega) ?_ ?_).mono ?_
  · exact ⟨rfl, rfl, rfl, trivial⟩
  · exact ⟨rfl, rfl⟩
  rintro ex T2 H2 ⟨rfl, ⟨hP0, hP4⟩, h3, h4, h5⟩
  rw [Has.eq (T := T2) (ps := [(3, _), (4, _), (5, _)]) ⟨h3, h4, h5, trivial⟩]
  simp only [over]
  show W _ _
  unfold parseSAv LR
  unfold PS.lv at hP0
  by_cases hn : (parseS b).1.l = []
  · rw [if_pos hn] at hP0 ⊢
    repeat' (first
     | refine q_s ?_ | refine q_z ?_ | refine q_b ?_ | refine q_nilc ?_ | refine q_loadR ?_ rfl hP0 | refine q_mv ?_ | refine q_faddr ?_ | refine q_load ?_ | refine q_loadI ?_
      | refine q_loadR ?_ | refine q_cmp ?_ | refine q_cmp2 (fun _ => ?_) (fun _ => ?_) | refine q_add ?_ | refine q_len ?_ | refine q_lenS ?_ | refine q_len0 ?_ | refine q_ex ?_
      | refine q_store ?_ | refine q_storeR ?_ | refine q_box ?_ | refine q_build ?_ | refine q_slice0 ?_ | refine q_sliceE ?_ | refine q_sliceM ?_)
    exact ⟨Or.inr rfl, _, rfl, rfl⟩
  · rw [if_neg hn] at hP0 hP4 ⊢
    repeat' (first
     | refine q_s ?_ | refine q_z ?_ | refine q_b ?_ | refine q_nilc ?_ | refine q_loadR ?_ rfl hP0 | refine q_mv ?_ | refine q_faddr ?_ | refine q_load ?_ | refine q_loadI ?_
      | refine q_loadR ?_ | refine q_cmp ?_ | refine q_cmp2 (fun _ => ?_) (fun _ => ?_) | refine q_add ?_ | refine q_len ?_ | refine q_lenS ?_ | refine q_len0 ?_ | refine q_ex ?_
      | refine q_store ?_ | refine q_storeR ?_ | refine q_box ?_ | refine q_build ?_ | refine q_slice0 ?_ | refine q_sliceE ?_ | refine q_sliceM ?_)
    refine ⟨Or.inr rfl, _, rfl, ?_⟩
    show AV.tup [fz true (4 + 1) H2 (AV.slc _ _ _ _ _ _ _), AV.int _ _, AV.int _ _] = _
    rw [fz_slc (row_of hP4 (by simp)) (by omega), List.drop_zero, List.take_of_length_le (by simp), fz_cvs]
    rfl

theorem e_stream_Verify (k : Nat) (hk : 1000000 ≤ k) (t f : Bool) (b : List UInt8) (hb : b.length < 900000) : FnV (acall B xf cloneF (k + 8)) n_stream_Verify [.islc t f 1 (BL b)] (.int .i64 (parseS b).2.2) := by
  have hp := e_stream_Parse (xf := xf) k hk t f b hb
  unfold parseSAv at hp
  refine fn_of B_stream_Verify rfl ?_
  unfold stream_Verify
  repeat' (first
   | refine q_s ?_ | refine q_z ?_ | refine q_call hp ?_ | refine q_mv ?_ | refine q_ex ?_)
  exact ⟨Or.inr rfl, _, rfl, rfl⟩

end Go.Proofs.YtnakicjkolpacaaDoor
