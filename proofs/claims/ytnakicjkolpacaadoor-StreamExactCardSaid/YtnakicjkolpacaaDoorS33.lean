/- What the functions answer: a stream's bytes. -/
import Derived.Test.YtnakicjkolpacaaDoorS32
set_option linter.unusedSimpArgs false
set_option linter.unusedVariables false
set_option maxRecDepth 10000
set_option maxHeartbeats 16000000
namespace Go.Proofs.YtnakicjkolpacaaDoor
open Go.AI
attribute [local irreducible] aops aexec acall aiter aop W WO

variable {xf : ExtF} {gf : CallF}

theorem chk_count {c : Cmd} (h : chkP c) (hk : c.kind = 1) {n : Int} (hn : 0 ≤ n ∧ n ≤ 65535) : chkP { c with count := n } := by
  rcases chkP_inv h with ⟨_, h1, h2, h3, h4, h5, h6, h7⟩ | ⟨h0, _⟩ | ⟨h0, _⟩ | ⟨h0, _⟩ | ⟨h0, _⟩ | ⟨h0, _⟩
  · unfold chkP bareP
    simp only [hk, if_true]
    simp only [h1, Bool.true_and, Bool.and_eq_true, inR_iff, h4, h5, h6, h7, List.length_nil, and_true, true_and]
    exact ⟨h2, hn⟩
  all_goals omega

/-- The bytes of a stream without its first content. -/
def bytesS (l : List Cmd) (skip : Int) : List UInt8 := frB 0 { l.getD 0 cz with count := skip } ++ bodyB (skip.toNat + 1) (l.drop (skip.toNat + 1))

theorem bodyB_len : ∀ (i : Nat) (l : List Cmd), (∀ c ∈ l, chkP c) → (bodyB i l).length ≤ 540 * l.length
  | _, [], _ => by simp [bodyB]
  | i, c :: l, h => by
    have h1 := bodyB_len (i + 1) l fun c hc => h c (by simp [hc])
    have h2 := payB_le (h c (by simp))
    simp only [bodyB, List.length_append, frB_length, List.length_cons]
    omega

theorem Bytes_loop (k : Nat) (hk : 1000000 ≤ k) {fuel : Nat} {T : Tmps} {H : Heap} {t f : Bool} {es : List AV} {l : List Cmd} {out : List UInt8} {a : Nat} (hl : l.length ≤ 1000) (ha : a ≤ l.length) (hk2 : 1000000 ≤ fuel) (hes : CsR es l) (hc : ∀ c ∈ l, chkP c) (ho : out.length ≤ 540)
    (hH : H 3 = ⟨1, false, .row 1 (BL out)⟩) (hT : Has T [(0, .islc t f 9 es), (7, .slc 3 1 out.length 1 0 out.length none), (9, .int .i64 (a : Nat))]) :
    W (aexec (acall B xf gf (k + 6)) xf 0 fuel (.loop stream_Bytes_l0) T H) (fun ex T' H' => ex = .exit 0 ∧ T' 7 = .slc 3 1 (out ++ bodyB a (l.drop a)).length 1 0 (out ++ bodyB a (l.drop a)).length none ∧ H' 3 = ⟨1, false, .row 1 (BL (out ++ bodyB a (l.drop a)))⟩) := by
  refine w_loop (fun m T' H' => m ≤ l.length - a ∧ ∃ o : List UInt8, o.length ≤ 540 * (l.length - m + 1) ∧ out ++ bodyB a (l.drop a) = o ++ bodyB (l.length - m) (l.drop (l.length - m)) ∧ H' 3 = ⟨1, false, .row 1 (BL o)⟩ ∧
      Has T' [(0, .islc t f 9 es), (7, .slc 3 1 o.length 1 0 o.length none), (9, .int .i64 ((l.length - m : Nat) : Int))])
    (l.length - a) ⟨Nat.le_refl _, out, by omega, by rw [show l.length - (l.length - a) = a by omega], hH, ?_⟩ (by omega) ?_
  · obtain ⟨h0, h1, h2, _⟩ := hT
    exact ⟨h0, h1, by rw [h2, show l.length - (l.length - a) = a by omega], trivial⟩
  rintro m T H hm ⟨_, o, hol, hgo, hH, hT⟩
  obtain ⟨i, hi⟩ : ∃ i, i = l.length - m := ⟨_, rfl⟩
  rw [← hi] at hT hgo hol
  have hlen := hes.len
  by_cases hm0 : m = 0
  · have hil : i = l.length := by omega
    rw [hT.eq]
    simp only [over]
    unfold stream_Bytes_l0
    repeat' (first
     | refine q_s ?_ | refine q_z ?_ | refine q_b ?_ | refine wo_lenG (n := l.length) rfl hlen rfl rfl ?_ | refine q_mv ?_ | refine q_load ?_ | refine q_loadI ?_ | refine q_loadR ?_
      | refine q_cmp ?_ | refine q_cmp2 (fun _ => ?_) (fun _ => ?_) | refine q_add ?_ | refine q_len ?_ | refine q_lenS ?_ | refine q_len0 ?_ | refine q_ex ?_ | refine q_at ?_
      | refine q_app fun _ => ?_)
    rw [hgo, hil, List.drop_length]
    simp only [bodyB, List.append_nil]
    exact ⟨trivial, rfl, hH⟩
  have hil : i < l.length := by omega
  rw [List.drop_eq_getElem_cons hil] at hgo
  obtain ⟨e, he, hcr⟩ := hes.get (List.getElem?_eq_getElem hil)
  have he2 : es[(i : Int).toNat]? = some e := by simpa using he
  have hchk := hc _ (List.getElem_mem hil)
  obtain ⟨c, hcd⟩ : ∃ c, c = l[i] := ⟨_, rfl⟩
  rw [← hcd] at hcr hgo hchk
  have hcs := chk_small hchk
  have hpl := payB_le hchk
  have hfl := frB_length i c
  obtain ⟨t0, f0, s0, rfl, hsd, htk⟩ := hcr
  have hb := (e_frame_BytesF (xf := xf) (gf := gf) k hk t0 f0 s0 i c (by omega) hsd htk).1 ⟨hchk, by omega⟩
  unfold Cmd.av at hb he2
  rw [hT.eq]
  simp only [over]
  unfold stream_Bytes_l0
  repeat' (first
   | refine q_s ?_ | refine q_z ?_ | refine q_b ?_ | refine wo_lenG (n := l.length) rfl hlen rfl rfl ?_ | refine wo_atG rfl rfl (by omega) he2 rfl rfl ?_
    | refine wo_freshT hb rfl (fun _ => rfl) rfl rfl rfl ?_ | refine wo_appR rfl rfl rfl (by exact hH) rfl rfl (by omega) (by omega) (by omega) rfl rfl (fun _ => ?_) | refine q_mv ?_
    | refine q_load ?_ | refine q_loadI ?_ | refine q_loadR ?_ | refine q_cmp ?_ | refine q_cmp2 (fun _ => ?_) (fun _ => ?_) | refine q_add ?_ | refine q_len ?_ | refine q_lenS ?_
    | refine q_len0 ?_ | refine q_ex ?_ | refine q_at ?_ | refine q_app fun _ => ?_)
  refine ⟨by omega, by omega, o ++ frB i c, by simp; omega, ?_, rfl, rfl, by simp; rfl, by show AV.int _ _ = AV.int _ _; congr 1; omega, trivial⟩
  rw [hgo, show l.length - (m - 1) = i + 1 by omega]
  simp [bodyB]

theorem e_stream_Bytes (k : Nat) (hk : 1000000 ≤ k) (t f : Bool) (es : List AV) (l : List Cmd) (skip : Int) (hl : l.length ≤ 1000) (hes : CsR es l) (hd : smallC l) :
    FnV (acall B xf gf (k + 10)) n_stream_Bytes [.islc t f 9 es, .int .i64 skip] (if wholeP l ∧ 0 ≤ skip ∧ skip ≤ l.length - 2 then .tup [.islc false false 1 (BL (bytesS l skip)), .int .i64 0] else .tup [.islc false false 1 [], .int .i64 1]) := by
  have hw := e_stream_whole (xf := xf) (gf := gf) k hk t f es l (by omega) hes hd
  have hlen := hes.len
  refine fn_of B_stream_Bytes rfl ?_
  unfold stream_Bytes
  by_cases h : wholeP l ∧ 0 ≤ skip ∧ skip ≤ l.length - 2
  · rw [if_pos h]
    obtain ⟨hW, hs0, hs1⟩ := h
    rw [decide_eq_true hW] at hw
    obtain ⟨h2, ⟨hk0, _⟩, _, hchk, _⟩ := hW
    obtain ⟨e0, he0, hcr0⟩ := hes.get (i := 0) (List.getElem?_eq_getElem (by omega))
    have g0 : l.getD 0 cz = l[0] := by simp [List.getD, show 0 < l.length by omega]
    have hchk0 : chkP (l.getD 0 cz) := by rw [g0]; exact hchk _ (List.getElem_mem _)
    rw [← g0] at hcr0
    have he02 : es[(0 : Int).toNat]? = some e0 := he0
    unfold bytesS
    obtain ⟨c0, hc0⟩ : ∃ c0, c0 = l.getD 0 cz := ⟨_, rfl⟩
    rw [← hc0] at hk0 hchk0 hcr0 ⊢
    obtain ⟨t0, f0, s0, rfl, hsd, htk⟩ := hcr0
    have hbc := chk_count hchk0 hk0 (n := skip) (by omega)
    have hb := (e_frame_BytesF (xf := xf) (gf := gf) (k + 3) (by omega) t0 f0 s0 0 { c0 with count := skip } (Nat.lt_of_le_of_lt (chk_small hbc).1 (by decide)) hsd htk).1 ⟨hbc, by decide⟩
    have hpl := payB_le hbc
    have hfl := frB_length 0 { c0 with count := skip }
    unfold Cmd.av at hb he02
    have hsk : (skip.toNat : Int) = skip := by omega
    repeat' (first
     | refine q_s ?_ | refine q_z ?_ | refine q_b ?_ | refine q_call hw ?_ | refine wo_lenG (n := l.length) rfl hlen rfl rfl ?_ | refine wo_atG rfl rfl (by omega) he02 rfl rfl ?_
      | refine wo_freshT hb rfl (fun _ => rfl) rfl rfl rfl ?_ | refine q_n ?_ | refine q_nn ?_ | refine q_mv ?_ | refine q_faddr ?_ | refine q_load ?_ | refine q_loadI ?_ | refine q_loadR ?_
      | refine q_cmp ?_ | refine q_cmp2 (fun _ => ?_) (fun _ => ?_) | refine q_add ?_ | refine q_sub ?_ | refine q_pickT ?_ | refine q_pickF ?_ | refine q_notT ?_ | refine q_notF ?_
      | refine q_len ?_ | refine q_lenS ?_ | refine q_len0 ?_ | refine q_ex ?_ | refine q_store ?_ | refine q_storeR ?_ | refine q_box ?_ | refine q_at ?_ | refine q_nilrow ?_
      | refine q_app fun _ => ?_)
    refine (Bytes_loop (xf := xf) (gf := gf) (k + 3) (by omega) (t := t) (f := f) (es := es) (l := l) (out := frB 0 { c0 with count := skip }) (a := skip.toNat + 1) hl (by omega) (by omega) hes hchk (by omega) ?_ ?_).mono ?_
    · exact rfl
    · exact ⟨rfl, rfl, by show AV.int _ _ = AV.int _ _; congr 1; omega, trivial⟩
    rintro ex T2 H2 ⟨rfl, h7, hH⟩
    have hbl : (frB 0 { c0 with count := skip } ++ bodyB (skip.toNat + 1) (l.drop (skip.toNat + 1))).length < 1000000 := by
      have := bodyB_len (skip.toNat + 1) (l.drop (skip.toNat + 1)) (fun c hc => hchk c (List.mem_of_mem_drop hc))
      simp only [List.length_append, List.length_drop] at this ⊢
      omega
    rw [Has.eq (T := T2) (ps := [(7, _)]) ⟨h7, trivial⟩]
    simp only [over]
    show W _ _
    repeat' (first
     | refine q_s ?_ | refine q_z ?_ | refine q_b ?_ | refine q_n ?_ | refine q_nn ?_ | refine q_mv ?_ | refine q_faddr ?_ | refine q_load ?_ | refine q_loadI ?_ | refine q_loadR ?_
      | refine q_cmp ?_ | refine q_cmp2 (fun _ => ?_) (fun _ => ?_) | refine q_add ?_ | refine q_sub ?_ | refine q_pickT ?_ | refine q_pickF ?_ | refine q_notT ?_ | refine q_notF ?_
      | refine q_len ?_ | refine q_lenS ?_ | refine q_len0 ?_ | refine q_ex ?_ | refine q_store ?_ | refine q_storeR ?_ | refine q_box ?_ | refine q_at ?_ | refine q_nilrow ?_
      | refine q_app fun _ => ?_)
    refine ⟨Or.inr rfl, _, rfl, ?_⟩
    show AV.tup [fz true (3 + 2) H2 (AV.slc _ _ _ _ _ _ _), AV.int _ _] = _
    rw [fz_out hH rfl]
  · rw [if_neg h]
    by_cases hW : wholeP l
    · rw [decide_eq_true hW] at hw
      have hx : ¬ (0 ≤ skip ∧ skip ≤ (l.length : Int) - 2) := fun hh => h ⟨hW, hh⟩
      repeat' (first
       | refine q_s ?_ | refine q_z ?_ | refine q_b ?_ | refine q_call hw ?_ | refine wo_lenG (n := l.length) rfl hlen rfl rfl ?_ | refine q_n ?_ | refine q_nn ?_ | refine q_mv ?_
        | refine q_faddr ?_ | refine q_load ?_ | refine q_loadI ?_ | refine q_loadR ?_ | refine q_cmp ?_ | refine q_cmp2 (fun _ => ?_) (fun _ => ?_) | refine q_add ?_ | refine q_sub ?_
        | refine q_pickT ?_ | refine q_pickF ?_ | refine q_notT ?_ | refine q_notF ?_ | refine q_len ?_ | refine q_lenS ?_ | refine q_len0 ?_ | refine q_ex ?_ | refine q_store ?_
        | refine q_storeR ?_ | refine q_box ?_ | refine q_at ?_ | refine q_nilrow ?_ | refine q_app fun _ => ?_)
      all_goals exact ⟨Or.inr rfl, _, rfl, rfl⟩
    · rw [decide_eq_false hW] at hw
      repeat' (first
       | refine q_s ?_ | refine q_z ?_ | refine q_b ?_ | refine q_call hw ?_ | refine wo_lenG (n := l.length) rfl hlen rfl rfl ?_ | refine q_n ?_ | refine q_nn ?_ | refine q_mv ?_
        | refine q_faddr ?_ | refine q_load ?_ | refine q_loadI ?_ | refine q_loadR ?_ | refine q_cmp ?_ | refine q_cmp2 (fun _ => ?_) (fun _ => ?_) | refine q_add ?_ | refine q_sub ?_
        | refine q_pickT ?_ | refine q_pickF ?_ | refine q_notT ?_ | refine q_notF ?_ | refine q_len ?_ | refine q_lenS ?_ | refine q_len0 ?_ | refine q_ex ?_ | refine q_store ?_
        | refine q_storeR ?_ | refine q_box ?_ | refine q_at ?_ | refine q_nilrow ?_ | refine q_app fun _ => ?_)
      exact ⟨Or.inr rfl, _, rfl, rfl⟩

end Go.Proofs.YtnakicjkolpacaaDoor
