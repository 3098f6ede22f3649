/- What the page's own functions answer: digits; a frame's bytes as the caller's; are commands a stream's; a stream's bytes. -/
import Derived.Test.YtnakicjkolpacaaDoorS40
set_option linter.unusedSimpArgs false
set_option linter.unusedVariables false
set_option maxRecDepth 10000
set_option maxHeartbeats 16000000
namespace Go.Proofs.YtnakicjkolpacaaDoor
open Go.AI
section
variable {cf : CallF} {xf : ExtF} {base : Nat} {T : Tmps} {H : Heap} {QO : Tmps → Heap → Prop} {log : List FP} {g : Option (Nat × Bool)} {un : List Nat} {r : List SOper} {d : Nat}
theorem wo_b2s1 {x : SArg} {j gn n : Nat} {ro : Bool} {cap : Option Nat} {w : Int} (hx : x.ev T = .slc j gn 1 1 0 1 cap) (hr : H j = ⟨gn, ro, .row 1 [.int .u8 w]⟩) (hn : w = n) (hw : awanted T g = some true) (hl : logOk log ⟨[j], [], false⟩ un = true)
    (h : WO (aops cf xf base r (log ++ [⟨[j], [], false⟩]) (T.upd d (strV [UInt8.ofNat n])) H) QO) : WO (aops cf xf base (⟨some d, .b2s x, g, un⟩ :: r) log T H) QO :=
  wo_step (v := strV [UInt8.ofNat n]) (H' := H) (fp := ⟨[j], [], false⟩) hw (by
    subst hn
    have e : elemsOf H 1 (.slc j gn 1 1 0 1 cap) = some ([.int .u8 n], [j]) := by simp [elemsOf, row_of (ver := 1) hr rfl]
    simp only [aop, hx, isStrV, Bool.false_eq_true, if_false, e, Option.bind_eq_bind, Option.bind_some, bytesOf, Option.map_some, Int.toNat_natCast]
    rfl) hl h
theorem wo_strlenV {x : SArg} {a : List UInt8} {n : Nat} (hx : x.ev T = strV a) (hn : a.length = n) (hw : awanted T g = some true) (hl : logOk log .z un = true)
    (h : WO (aops cf xf base r (log ++ [.z]) (T.upd d (.int .i64 n)) H) QO) : WO (aops cf xf base (⟨some d, .lenS x, g, un⟩ :: r) log T H) QO :=
  wo_step (v := .int .i64 n) hw (by
    have h1 : (⟨a.toArray⟩ : ByteArray).size = n := by simp [ByteArray.size, hn]
    simp [aop, hx, strV, rv, h1]) hl h
end
attribute [local irreducible] aops aexec acall aiter aop W WO

variable {xf : ExtF} {gf : CallF}

theorem e_ref_digits (k : Nat) (hk : 1000 ≤ k) (n : Nat) (hn : n < 9223372036854775808) : FnV (acall B xf gf (k + 1)) n_ref18_digits [.int .i64 n] (strV (decF 20 n)) := by
  refine fn_of B_ref18_digits rfl ?_
  unfold ref18_digits
  repeat' (first
   | refine q_s ?_ | refine q_z ?_ | refine q_b ?_ | refine q_n ?_ | refine q_nn ?_ | refine q_mv ?_ | refine q_cmp ?_ | refine q_cmp2 (fun _ => ?_) (fun _ => ?_) | refine q_add ?_
    | refine q_rem ?_ | refine q_quo ?_ | refine q_bin ?_ | refine q_pickT ?_ | refine q_pickF ?_ | refine q_strlen ?_ | refine q_cvi ?_ | refine q_buildS ?_ | refine q_b2s ?_)
  refine W.mono (Q := fun ex T' H' => ex = .exit 0 ∧ T' 3 = strV (decF 20 n)) ?_ ?_
  · refine w_for 20 (fun i T' H' => ∃ (m : Nat) (s : List UInt8), s.length = i ∧ m ≤ n ∧ ((m = 0 ∧ 0 < i ∧ s = decF 20 n) ∨ ((0 < m ∨ i = 0) ∧ m < 10 ^ (20 - i) ∧ decF (20 - i) m ++ s = decF 20 n)) ∧ Has T' [(0, .int .i64 (m : Nat)), (3, strV s)])
      ⟨n, [], rfl, Nat.le_refl _, .inr ⟨.inr rfl, by show n < 10 ^ 20; omega, by simp⟩, rfl, rfl, trivial⟩ (by omega) ?_
    rintro i T H hi ⟨m, s, hs, hmn, hc, hT⟩
    rw [hT.eq]
    simp only [over]
    rcases hc with ⟨rfl, h0, rfl⟩ | ⟨h0, hm, hgo⟩
    · skip
      repeat' (first
       | refine q_s ?_ | refine q_z ?_ | refine q_b ?_ | refine wo_strlenV (n := i) rfl hs rfl rfl ?_ | refine q_n ?_ | refine q_nn ?_ | refine q_mv ?_ | refine q_cmp ?_
        | refine q_cmp2 (fun _ => ?_) (fun _ => ?_) | refine q_add ?_ | refine q_rem ?_ | refine q_quo ?_ | refine q_bin ?_ | refine q_pickT ?_ | refine q_pickF ?_ | refine q_strlen ?_
        | refine q_cvi ?_ | refine q_buildS ?_ | refine q_b2s ?_)
      exact ⟨rfl, rfl⟩
    · have hi20 : i < 20 := by
        rcases h0 with h0 | h0
        · by_cases hi : i = 20
          · subst hi; simp at hm; omega
          · omega
        · omega
      obtain ⟨j, hj⟩ : ∃ j, 20 - i = j + 1 := ⟨19 - i, by omega⟩
      have hj2 : 20 - (i + 1) = j := by omega
      rw [hj] at hm hgo
      have hr : IntKind.u8.wrap (48 + (m : Int) % 10) = ((48 + m % 10 : Nat) : Int) := by
        show (48 + (m : Int) % 10) % 256 = _
        omega
      have hq : ((m : Nat) : Int) / 10 = ((m / 10 : Nat) : Int) := by omega
      have hnext : (m / 10 = 0 ∧ 0 < i + 1 ∧ [UInt8.ofNat (48 + m % 10)] ++ s = decF 20 n) ∨ ((0 < m / 10 ∨ i + 1 = 0) ∧ m / 10 < 10 ^ (20 - (i + 1)) ∧ decF (20 - (i + 1)) (m / 10) ++ ([UInt8.ofNat (48 + m % 10)] ++ s) = decF 20 n) := by
        rw [decF] at hgo
        by_cases h10 : m < 10
        · rw [if_pos h10] at hgo
          exact .inl ⟨by omega, by omega, by rw [Nat.mod_eq_of_lt h10]; exact hgo⟩
        · rw [if_neg h10] at hgo
          refine .inr ⟨.inl (by omega), ?_, by rw [hj2, ← List.append_assoc]; exact hgo⟩
          rw [hj2]
          rw [Nat.pow_succ] at hm
          omega
      repeat' (first
       | refine q_s ?_ | refine q_z ?_ | refine q_b ?_ | refine wo_strlenV (n := i) rfl hs rfl rfl ?_ | refine wo_b2s1 rfl rfl hr rfl rfl ?_
        | refine wo_sadd (a := [UInt8.ofNat (48 + m % 10)]) (b := s) rfl rfl (by simp; omega) rfl rfl ?_ | (refine q_quo ?_; rw [hq]) | refine q_n ?_ | refine q_nn ?_ | refine q_mv ?_
        | refine q_cmp ?_ | refine q_cmp2 (fun _ => ?_) (fun _ => ?_) | refine q_add ?_ | refine q_rem ?_ | refine q_quo ?_ | refine q_bin ?_ | refine q_pickT ?_ | refine q_pickF ?_
        | refine q_strlen ?_ | refine q_cvi ?_ | refine q_buildS ?_ | refine q_b2s ?_)
      all_goals exact ⟨hi20, m / 10, [UInt8.ofNat (48 + m % 10)] ++ s, by simp; omega, by omega, hnext, rfl, rfl, trivial⟩
  rintro ex T2 H2 ⟨rfl, h3⟩
  rw [Has.eq (T := T2) (ps := [(3, _)]) ⟨h3, trivial⟩]
  simp only [over]
  show W _ _
  repeat' (first
   | refine q_s ?_ | refine q_z ?_ | refine q_b ?_ | refine q_n ?_ | refine q_nn ?_ | refine q_mv ?_ | refine q_cmp ?_ | refine q_cmp2 (fun _ => ?_) (fun _ => ?_) | refine q_add ?_
    | refine q_rem ?_ | refine q_quo ?_ | refine q_bin ?_ | refine q_pickT ?_ | refine q_pickF ?_ | refine q_strlen ?_ | refine q_cvi ?_ | refine q_buildS ?_ | refine q_b2s ?_)
  exact ⟨Or.inr rfl, _, rfl, rfl⟩

theorem e_ref_FrameBytesF (k : Nat) (hk : 1000000 ≤ k) (t f : Bool) (s : Nat) (seq : Int) (c : Cmd) (hc : chkP c) (hq : 0 ≤ seq ∧ seq ≤ 4294967295) (hs : s = 1 ∨ c.data = []) : FnF (acall B xf gf (k + 3)) n_ref01_FrameBytes [.int .i64 seq, c.av t f s] (frB seq c) := by
  have hp := e_ref_Payload (xf := xf) (gf := gf) k (by omega) t f s c hc hs
  have hkd := chk_kind hc
  have hpl := payB_le hc
  have hcr := crcMore_range (frH seq c)
  have b1 := e_ref_Bytes (xf := xf) (gf := gf) (k + 1) (by omega) seq 4 (by omega) (by omega)
  have b2 := e_ref_Bytes (xf := xf) (gf := gf) (k + 1) (by omega) c.kind 4 (by omega) (by omega)
  have b3 := e_ref_Bytes (xf := xf) (gf := gf) (k + 1) (by omega) ((payB c).length : Int) 4 (by omega) (by omega)
  have b4 := e_ref_Bytes (xf := xf) (gf := gf) (k + 1) (by omega) (crcMore 0 (frH seq c)) 4 (by omega) (by omega)
  have hH : frH seq c = [70, 82, 65, 77] ++ leB 4 seq ++ leB 4 c.kind ++ leB 4 ((payB c).length : Int) ++ payB c := by simp [frH, putB_cons, putB_nil]
  have hsum := e_ref_Sum (xf := xf) (gf := gf) k hk true false (frH seq c) (by rw [frH_length]; omega)
  have hfr : frB seq c = [70, 82, 65, 77] ++ leB 4 seq ++ leB 4 c.kind ++ leB 4 ((payB c).length : Int) ++ payB c ++ leB 4 (crcMore 0 (frH seq c)) := by rw [frB, putB_cons, putB_nil, List.append_nil, hH]
  rw [hfr]
  rw [hH] at hsum b4 ⊢
  refine fnF_of (fn_gen B_ref01_FrameBytes rfl ?_)
  unfold ref01_FrameBytes Cmd.av
  unfold Cmd.av at hp
  repeat' (first
   | refine q_s ?_ | refine q_z ?_ | refine wo_call hp rfl rfl rfl ?_ | refine wo_fresh b1 rfl rfl rfl ?_ | refine wo_fresh b2 rfl rfl rfl ?_ | refine wo_fresh b3 rfl rfl rfl ?_
    | refine wo_fresh b4 rfl rfl rfl ?_
    | refine wo_appR (l := [70, 82, 65, 77]) rfl rfl rfl rfl (by first | (simp; done) | (simp; omega)) (by first | (simp; done) | (simp; omega)) (by first | (simp; done) | (simp; omega)) (by first | (simp; done) | (simp; omega)) (by first | (simp; done) | (simp; omega)) rfl rfl (fun _ => ?_)
    | refine wo_appR rfl rfl rfl rfl (by first | (simp; done) | (simp; omega)) (by first | (simp; done) | (simp; omega)) (by first | (simp; done) | (simp; omega)) (by first | (simp; done) | (simp; omega)) (by first | (simp; done) | (simp; omega)) rfl rfl (fun _ => ?_)
    | refine wo_call hsum rfl (ha_slc rfl rfl (by first | (simp; done) | (simp; omega))) rfl ?_ | refine q_mv ?_ | refine q_faddr ?_ | refine q_load ?_ | refine q_loadI ?_ | refine q_loadR ?_
    | refine q_len ?_ | refine q_lenS ?_ | refine q_len0 ?_ | refine q_box ?_ | refine q_nilrow ?_ | refine q_buildS ?_ | refine q_app fun _ => ?_ | refine q_ss ?_)
  exact ⟨Or.inr rfl, _, rfl, _, _, _, rfl, by first | (simp; done) | (simp; omega), rfl⟩

theorem ref_Stream_loop (k : Nat) (hk : 1000000 ≤ k) {fuel : Nat} {T : Tmps} {H : Heap} {t f : Bool} {es : List AV} {l : List Cmd} {out : List UInt8} {a : Nat} (hl : l.length ≤ 1000) (ha : a ≤ l.length) (hk2 : 1000000 ≤ fuel) (hes : CsR es l) (hc : ∀ c ∈ l, chkP c) (ho : out.length ≤ 540)
    (hH : H 2 = ⟨1, false, .row 1 (BL out)⟩) (hT : Has T [(0, .islc t f 9 es), (7, .slc 2 1 out.length 1 0 out.length none), (8, .int .i64 (a : Nat))]) :
    W (aexec (acall B xf gf (k + 3)) xf 0 fuel (.loop ref18_Stream_l0) T H) (fun ex T' H' => ex = .exit 0 ∧ T' 7 = .slc 2 1 (out ++ bodyB a (l.drop a)).length 1 0 (out ++ bodyB a (l.drop a)).length none ∧ H' 2 = ⟨1, false, .row 1 (BL (out ++ bodyB a (l.drop a)))⟩) := by
  refine w_loop (fun m T' H' => m ≤ l.length - a ∧ ∃ o : List UInt8, o.length ≤ 540 * (l.length - m + 1) ∧ out ++ bodyB a (l.drop a) = o ++ bodyB (l.length - m) (l.drop (l.length - m)) ∧ H' 2 = ⟨1, false, .row 1 (BL o)⟩ ∧
      Has T' [(0, .islc t f 9 es), (7, .slc 2 1 o.length 1 0 o.length none), (8, .int .i64 ((l.length - m : Nat) : Int))])
    (l.length - a) ⟨Nat.le_refl _, out, by omega, by rw [show l.length - (l.length - a) = a by omega], hH, ?_⟩ (by omega) ?_
  · obtain ⟨h0, h1, h2, _⟩ := hT
    exact ⟨h0, h1, by rw [h2, show l.length - (l.length - a) = a by omega], trivial⟩
  rintro m T H hm ⟨_, o, hol, hgo, hH, hT⟩
  obtain ⟨i, hi⟩ : ∃ i, i = l.length - m := ⟨_, rfl⟩
  rw [← hi] at hT hgo hol
  have hlen := hes.len
  by_cases hm0 : m = 0
  · have hil : i = l.length := by omega
    rw [hT.eq]
    simp only [over]
    unfold ref18_Stream_l0
    repeat' (first
     | refine q_s ?_ | refine q_z ?_ | refine q_b ?_ | refine wo_lenG (n := l.length) rfl hlen rfl rfl ?_ | refine q_mv ?_ | refine q_load ?_ | refine q_loadI ?_ | refine q_loadR ?_
      | refine q_cmp ?_ | refine q_cmp2 (fun _ => ?_) (fun _ => ?_) | refine q_add ?_ | refine q_len ?_ | refine q_lenS ?_ | refine q_len0 ?_ | refine q_at ?_ | refine q_app fun _ => ?_)
    rw [hgo, hil, List.drop_length]
    simp only [bodyB, List.append_nil]
    exact ⟨trivial, rfl, hH⟩
  have hil : i < l.length := by omega
  rw [List.drop_eq_getElem_cons hil] at hgo
  obtain ⟨e, he, hcr⟩ := hes.get (List.getElem?_eq_getElem hil)
  have he2 : es[(i : Int).toNat]? = some e := by simpa using he
  have hchk := hc _ (List.getElem_mem hil)
  obtain ⟨c, hcd⟩ : ∃ c, c = l[i] := ⟨_, rfl⟩
  rw [← hcd] at hcr hgo hchk
  have hpl := payB_le hchk
  have hfl := frB_length i c
  obtain ⟨t0, f0, s0, rfl, hsd, htk⟩ := hcr
  have hb := e_ref_FrameBytesF (xf := xf) (gf := gf) k hk t0 f0 s0 i c hchk (by omega) hsd
  unfold Cmd.av at hb he2
  rw [hT.eq]
  simp only [over]
  unfold ref18_Stream_l0
  repeat' (first
   | refine q_s ?_ | refine q_z ?_ | refine q_b ?_ | refine wo_lenG (n := l.length) rfl hlen rfl rfl ?_ | refine wo_atG rfl rfl (by omega) he2 rfl rfl ?_ | refine wo_fresh hb rfl rfl rfl ?_
    | refine wo_appR rfl rfl rfl (by exact hH) rfl rfl (by omega) (by omega) (by omega) rfl rfl (fun _ => ?_) | refine q_mv ?_ | refine q_load ?_ | refine q_loadI ?_ | refine q_loadR ?_
    | refine q_cmp ?_ | refine q_cmp2 (fun _ => ?_) (fun _ => ?_) | refine q_add ?_ | refine q_len ?_ | refine q_lenS ?_ | refine q_len0 ?_ | refine q_at ?_ | refine q_app fun _ => ?_)
  refine ⟨by omega, by omega, o ++ frB i c, by simp; omega, ?_, rfl, rfl, by simp; rfl, by show AV.int _ _ = AV.int _ _; congr 1; omega, trivial⟩
  rw [hgo, show l.length - (m - 1) = i + 1 by omega]
  simp [bodyB]

theorem e_ref_Stream (k : Nat) (hk : 1000000 ≤ k) (t f : Bool) (es : List AV) (l : List Cmd) (skip : Int) (hl : l.length ≤ 1000) (hes : CsR es l) (hW : wholeP l) (hs0 : 0 ≤ skip) (hs1 : skip ≤ l.length - 2) :
    FnV (acall B xf gf (k + 4)) n_ref18_Stream [.islc t f 9 es, .int .i64 skip] (.tup [.islc false false 1 (BL (bytesS l skip)), .int .i64 0]) := by
  have hlen := hes.len
  refine fn_of B_ref18_Stream rfl ?_
  unfold ref18_Stream
  obtain ⟨h2, ⟨hk0, _⟩, _, hchk, _⟩ := hW
  obtain ⟨e0, he0, hcr0⟩ := hes.get (i := 0) (List.getElem?_eq_getElem (by omega))
  have g0 : l.getD 0 cz = l[0] := by simp [List.getD, show 0 < l.length by omega]
  have hchk0 : chkP (l.getD 0 cz) := by rw [g0]; exact hchk _ (List.getElem_mem _)
  rw [← g0] at hcr0
  have he02 : es[(0 : Int).toNat]? = some e0 := he0
  unfold bytesS
  obtain ⟨c0, hc0⟩ : ∃ c0, c0 = l.getD 0 cz := ⟨_, rfl⟩
  rw [← hc0] at hk0 hchk0 hcr0 ⊢
  obtain ⟨t0, f0, s0, rfl, hsd, htk⟩ := hcr0
  have hbc := chk_count hchk0 hk0 (n := skip) (by omega)
  have hb := e_ref_FrameBytesF (xf := xf) (gf := gf) k hk t0 f0 s0 0 { c0 with count := skip } hbc (by decide) hsd
  have hpl := payB_le hbc
  have hfl := frB_length 0 { c0 with count := skip }
  unfold Cmd.av at hb he02
  have hsk : (skip.toNat : Int) = skip := by omega
  repeat' (first
   | refine q_s ?_ | refine q_z ?_ | refine q_b ?_ | refine wo_lenG (n := l.length) rfl hlen rfl rfl ?_ | refine wo_atG rfl rfl (by omega) he02 rfl rfl ?_ | refine wo_fresh hb rfl rfl rfl ?_
    | refine q_mv ?_ | refine q_faddr ?_ | refine q_load ?_ | refine q_loadI ?_ | refine q_loadR ?_ | refine q_cmp ?_ | refine q_cmp2 (fun _ => ?_) (fun _ => ?_) | refine q_add ?_
    | refine q_len ?_ | refine q_lenS ?_ | refine q_len0 ?_ | refine q_store ?_ | refine q_storeR ?_ | refine q_box ?_ | refine q_at ?_ | refine q_nilrow ?_ | refine q_app fun _ => ?_)
  refine (ref_Stream_loop (xf := xf) (gf := gf) k hk (t := t) (f := f) (es := es) (l := l) (out := frB 0 { c0 with count := skip }) (a := skip.toNat + 1) hl (by omega) (by omega) hes hchk (by omega) ?_ ?_).mono ?_
  · exact rfl
  · exact ⟨rfl, rfl, by show AV.int _ _ = AV.int _ _; congr 1; omega, trivial⟩
  rintro ex T2 H2 ⟨rfl, h7, hH⟩
  have hbl : (frB 0 { c0 with count := skip } ++ bodyB (skip.toNat + 1) (l.drop (skip.toNat + 1))).length < 1000000 := by
    have := bodyB_len (skip.toNat + 1) (l.drop (skip.toNat + 1)) (fun c hc => hchk c (List.mem_of_mem_drop hc))
    simp only [List.length_append, List.length_drop] at this ⊢
    omega
  rw [Has.eq (T := T2) (ps := [(7, _)]) ⟨h7, trivial⟩]
  simp only [over]
  show W _ _
  repeat' (first
   | refine q_s ?_ | refine q_z ?_ | refine q_b ?_ | refine q_mv ?_ | refine q_faddr ?_ | refine q_load ?_ | refine q_loadI ?_ | refine q_loadR ?_ | refine q_cmp ?_
    | refine q_cmp2 (fun _ => ?_) (fun _ => ?_) | refine q_add ?_ | refine q_len ?_ | refine q_lenS ?_ | refine q_len0 ?_ | refine q_store ?_ | refine q_storeR ?_ | refine q_box ?_
    | refine q_at ?_ | refine q_nilrow ?_ | refine q_app fun _ => ?_)
  refine ⟨Or.inr rfl, _, rfl, ?_⟩
  show AV.tup [fz true (3 + 2) H2 (AV.slc _ _ _ _ _ _ _), AV.int _ _] = _
  rw [fz_out hH rfl]

end Go.Proofs.YtnakicjkolpacaaDoor
