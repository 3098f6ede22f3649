/- What the page's own functions answer: what bytes say as a stream. -/
import Derived.Test.YtnakicjkolpacaaDoorS40
set_option linter.unusedSimpArgs false
set_option linter.unusedVariables false
set_option maxRecDepth 10000
set_option maxHeartbeats 16000000
namespace Go.Proofs.YtnakicjkolpacaaDoor
open Go.AI
attribute [local irreducible] aops aexec acall aiter aop W WO

variable {xf : ExtF} {gf : CallF}

def PS.rc (p : PS) : Int := if p.l = [] then 0 else p.next - 1
theorem rawAv_eq {kd : Int} {b : List UInt8} {c : Cmd} {fl : Bool} {s : Nat} (hc : c = rawC kd b) (hf : fl = !rawD kd b) (hs : s = if rawD kd b then 1 else 0) :
    rawAv kd b = .agg [.int .i64 c.kind, .int .i64 c.id, .int .i64 c.parent, .int .i64 c.size, .int .i64 c.frm, .int .i64 c.count, .int .i64 c.source, .int .i64 c.digest, .islc false fl s (BL c.data)] := by
  subst hc hf hs; rfl

theorem ref_PS_loop (k : Nat) (hk : 1000000 ≤ k) {fuel : Nat} {T : Tmps} {H : Heap} {t f : Bool} {b : List UInt8} (hb : b.length < 900000) (hk2 : 1000000 ≤ fuel)
    (hT : Has T [(0, .islc t f 1 (BL b)), (5, .slc 2 1 0 9 0 0 none), (6, .int .i64 0), (7, .int .i64 0), (8, .int .i64 0)]) (hH : H 2 = ⟨1, false, .row 9 []⟩) :
    W (aexec (acall B xf gf (k + 5)) xf 0 fuel (.loop ref18_ParseStream_l0) T H) (fun ex T' H' => ex = .ret ∧ H' 2 = ⟨1, false, .row 9 ((parseS b).1.l.map CV.av)⟩ ∧ T' 2 = .slc 2 1 (parseS b).1.l.length 9 0 (parseS b).1.l.length none ∧ T' 3 = .int .i64 ((parseS b).2.1 : Nat) ∧ T' 4 = .int .i64 (parseS b).2.2) := by
  refine w_loop (fun m T' H' => ∃ (p : PS) (g : Nat), g ≤ b.length ∧ b.length - g < m ∧ p.fit ∧ p.l.length ≤ g ∧ (p.l = [] → p = ps0) ∧ H' 2 = ⟨1, false, .row 9 (p.l.map CV.av)⟩ ∧ parseS b = goS m p g (b.drop g) ∧
      Has T' [(0, .islc t f 1 (BL b)), (5, .slc 2 1 p.l.length 9 0 p.l.length none), (6, .int .i64 (g : Nat)), (7, .int .i64 p.rc), (8, .int .i64 p.sum)])
    (b.length + 1) ⟨ps0, 0, by omega, by omega, ⟨by simp [ps0], by simp [ps0], by simp [ps0], by simp [ps0]⟩, by simp [ps0], fun _ => rfl, hH, by simp [parseS], hT⟩ (by omega) ?_
  rintro m T H hm ⟨p, g, hg, hgm, hfit, hpl, hp0, hH, hgo, hT⟩
  obtain ⟨m, rfl⟩ : ∃ m', m = m' + 1 := ⟨m - 1, by omega⟩
  obtain ⟨r, hr⟩ : ∃ r, r = b.drop g := ⟨_, rfl⟩
  rw [← hr] at hgo
  have hrl : r.length = b.length - g := by rw [hr]; simp
  have hpar := e_ref_ParseFrame (xf := xf) (gf := gf) k hk t f r (by omega)
  have hr2 : b.drop (g : Int).toNat = r := by rw [hr]; simp
  have hln : (p.l.map CV.av).length = p.l.length := List.length_map _
  have hpl2 := hfit.2.2.2
  unfold parseAv at hpar
  rw [hT.eq]
  simp only [over]
  unfold ref18_ParseStream_l0
  by_cases h0 : pErr r = 0
  rotate_left 1
  · rw [if_neg h0] at hpar
    simp only [goS, h0, ne_eq, not_false_eq_true, if_true] at hgo
    rw [hgo]
    obtain ⟨n, hn⟩ : ∃ n, n = p.l.length := ⟨_, rfl⟩
    simp only [← hn] at *
    repeat' (first
     | refine q_s ?_ | refine q_z ?_ | refine q_b ?_ | refine q_call hpar ?_ rfl (by rw [← hr2]; rfl) | refine q_n ?_ | refine q_nn ?_ | refine q_mv ?_ | refine q_faddr ?_ | refine q_load ?_
      | refine q_loadI ?_ | refine q_loadR ?_ | refine q_cmp ?_ | refine q_cmp2 (fun _ => ?_) (fun _ => ?_) | refine q_add ?_ | refine q_pickT ?_ | refine q_pickF ?_ | refine q_len ?_
      | refine q_lenS ?_ | refine q_len0 ?_ | refine q_ex ?_ | refine q_store ?_ | refine q_storeR ?_ | refine q_box ?_ | refine q_at ?_ | refine q_buildS ?_ | refine q_app fun _ => ?_
      | refine q_slice0 ?_ | refine q_sliceE ?_ | refine q_sliceM ?_)
    exact ⟨rfl, hH, rfl, rfl, rfl⟩
  rw [if_pos h0] at hpar
  have hlp := lenP_pos h0
  obtain ⟨e0, _, _, hchk⟩ := pErr_ok h0
  obtain ⟨n', hn1, hn2, _⟩ := lenP_ok e0
  have hfit2 := takeP_fit hfit (pCV_ok r) hchk (by omega)
  have hpl3 : (takeP p (pCV r)).l = p.l ++ [pCV r] := rfl
  have hnx : (takeP p (pCV r)).next = (if (pCV r).c.kind = 1 then (pCV r).c.count else p.next) + 1 := rfl
  have hsm : (takeP p (pCV r)).sum = if (pCV r).c.kind = 1 ∨ (pCV r).c.kind = 6 then p.sum else crcMore p.sum (payB (pCV r).c) := rfl
  have hok := pCV_ok r
  have hchk' : chkP (pCV r).c := hchk
  have hav0 : (pCV r).av = rawAv (pKind r) (pPay r) := rfl
  simp only [goS, h0, ne_eq, not_true_eq_false, if_false] at hgo
  rw [show pCmd r = (pCV r).c from rfl] at hgo
  obtain ⟨c, hc⟩ : ∃ c, c = rawC (pKind r) (pPay r) := ⟨_, rfl⟩
  obtain ⟨fl, hf⟩ : ∃ x, x = !rawD (pKind r) (pPay r) := ⟨_, rfl⟩
  obtain ⟨s, hs⟩ : ∃ x : Nat, x = if rawD (pKind r) (pPay r) then 1 else 0 := ⟨_, rfl⟩
  have hav := rawAv_eq hc hf hs
  have hcv : pCV r = ⟨c, fl, s⟩ := by rw [hc, hf, hs]; rfl
  rw [hav] at hpar hav0
  obtain ⟨x, hx⟩ : ∃ x, x = pCV r := ⟨_, rfl⟩
  rw [← hx] at hcv hgo hfit2 hpl3 hok hchk' hav0 hnx hsm
  obtain ⟨q, hq⟩ : ∃ q, q = pSeq r := ⟨_, rfl⟩
  obtain ⟨z, hz⟩ : ∃ z, z = (lenP r).1.toNat := ⟨_, rfl⟩
  have hz2 : (lenP r).1 = (z : Nat) := by omega
  rw [← hq] at hpar hgo
  rw [← hz] at hgo hlp
  rw [hz2] at hpar
  have hxc : x.c = c := by rw [hcv]
  rw [hxc] at hgo hchk' hnx hsm
  have hsd : s = 1 ∨ c.data = [] := by rw [hcv] at hok; exact hok
  have hkd := chk_kind hchk'
  have hpb := payB_le hchk'
  have hpay := e_ref_Payload (xf := xf) (gf := gf) (k + 3) (by omega) false fl s c hchk' hsd
  have hmore := fun f => e_ref_More (xf := xf) (gf := gf) (k + 4) (by omega) false f (payB c) p.sum (by omega) hfit.2.2.1
  have hxn : (AV.agg [.int .i64 c.kind, .int .i64 c.id, .int .i64 c.parent, .int .i64 c.size, .int .i64 c.frm, .int .i64 c.count, .int .i64 c.source, .int .i64 c.digest, .islc false fl s (BL c.data)]).norefs = true := by rw [← hav0, hcv]; rfl
  have hnxt := hfit2.2.1
  have hnxp := hfit.2.1
  have hmap : (takeP p x).l.map CV.av = p.l.map CV.av ++ [.agg [.int .i64 c.kind, .int .i64 c.id, .int .i64 c.parent, .int .i64 c.size, .int .i64 c.frm, .int .i64 c.count, .int .i64 c.source, .int .i64 c.digest, .islc false fl s (BL c.data)]] := by
    rw [hpl3, List.map_append, ← hav0]; rfl
  have hlen2 : (takeP p x).l.length = p.l.length + 1 := by rw [hpl3]; simp
  have hne2 : (takeP p x).l ≠ [] := by rw [hpl3]; simp
  have hrc2 : (takeP p x).rc = (takeP p x).next - 1 := by unfold PS.rc; rw [if_neg hne2]
  unfold Cmd.av at hpay
  -- what goes on
  have hdrop : b.drop (g + z) = r.drop z := by rw [hr, List.drop_drop]
  have hdr2 : goS m (takeP p x) (g + z) (r.drop z) = goS m (takeP p x) (g + z) (b.drop (g + z)) := by rw [hdrop]
  by_cases hE : takeE p c q = 0
  · simp only [hE, not_true_eq_false, if_false] at hgo
    have hE' := hE
    unfold takeE at hE'
    by_cases hl0 : p.l = []
    · have hps := hp0 hl0
      have hn0 : p.next = 0 := by rw [hps]; rfl
      have hs0 : p.sum = 0 := by rw [hps]; rfl
      have hk1 : c.kind = 1 := by
        by_cases h : c.kind = 1
        · exact h
        · rw [if_pos (.inl (fun hh => h (hh.1 hl0)))] at hE'
          omega
      have hq0 : q = 0 := by
        by_cases h : q = 0
        · exact h
        · rw [if_pos (.inr (by rw [hn0]; exact h))] at hE'
          omega
      rw [if_neg (by omega)] at hgo
      have hlen : p.l.length = 0 := by rw [hl0]; rfl
      have hrcv : (takeP p x).rc = c.count := by rw [hrc2, hnx, if_pos hk1]; omega
      have hsmv : (takeP p x).sum = p.sum := by rw [hsm, if_pos (.inl hk1)]
      obtain ⟨n, hn⟩ : ∃ n, n = p.l.length := ⟨_, rfl⟩
      rw [← hn] at hlen hlen2 hln
      repeat' (first
       | refine q_s ?_ | refine q_z ?_ | refine q_b ?_ | refine q_call hpar ?_ rfl (by rw [← hr2]; rfl) | refine q_lenS (len := p.l.length) ?_
        | refine wo_app1 (e := .agg [.int .i64 c.kind, .int .i64 c.id, .int .i64 c.parent, .int .i64 c.size, .int .i64 c.frm, .int .i64 c.count, .int .i64 c.source, .int .i64 c.digest, .islc false fl s (BL c.data)]) rfl rfl rfl (by exact hH) (by rw [← hn]; exact hln) hxn (by omega) rfl rfl (fun _ => ?_)
        | refine q_n ?_ | refine q_nn ?_ | refine q_mv ?_ | refine q_faddr ?_ | refine q_load ?_ | refine q_loadI ?_ | refine q_loadR ?_ | refine q_cmp ?_
        | refine q_cmp2 (fun _ => ?_) (fun _ => ?_) | refine q_add ?_ | refine q_pickT ?_ | refine q_pickF ?_ | refine q_len ?_ | refine q_lenS ?_ | refine q_len0 ?_ | refine q_ex ?_
        | refine q_store ?_ | refine q_storeR ?_ | refine q_box ?_ | refine q_at ?_ | refine q_buildS ?_ | refine q_app fun _ => ?_ | refine q_slice0 ?_ | refine q_sliceE ?_
        | refine q_sliceM ?_)
      refine ⟨by omega, takeP p x, g + z, by omega, by omega, hfit2, by omega, fun h => absurd h hne2, by rw [hmap]; rfl, hgo.trans hdr2, rfl, by rw [hlen2, hn]; rfl, by show AV.int _ _ = AV.int _ _; congr 1, by rw [hrcv]; rfl, by rw [hsmv]; rfl, trivial⟩
    · obtain ⟨y, ys, hy⟩ : ∃ y ys, p.l = y :: ys := by
        cases h : p.l with
        | nil => exact absurd h hl0
        | cons y ys => exact ⟨y, ys, rfl⟩
      have hlen : 0 < p.l.length := by rw [hy]; simp
      have hcnt : y.c.count = p.cnt := by unfold PS.cnt; rw [hy]; rfl
      have he0 : (p.l.map CV.av)[0 + (0 : Int).toNat]? = some (.agg [.int .i64 y.c.kind, .int .i64 y.c.id, .int .i64 y.c.parent, .int .i64 y.c.size, .int .i64 y.c.frm, .int .i64 p.cnt, .int .i64 y.c.source, .int .i64 y.c.digest, .islc false y.f y.s (BL y.c.data)]) := by
        rw [hy, ← hcnt]; rfl
      have hrc : p.rc = p.next - 1 := by unfold PS.rc; rw [if_neg hl0]
      have hk1 : c.kind ≠ 1 := by
        intro h
        rw [if_pos (.inl (fun hh => hl0 (hh.2 h)))] at hE'
        omega
      have hqn : q = p.next := by
        by_cases h : q = p.next
        · exact h
        · rw [if_pos (.inr h)] at hE'
          omega
      rw [if_neg (fun hh => hh.elim (fun h => h ⟨fun h => absurd h hl0, fun h => absurd h hk1⟩) (fun h => h hqn))] at hE'
      obtain ⟨n, hn⟩ : ∃ n, n = p.l.length := ⟨_, rfl⟩
      rw [← hn] at hlen hlen2 hln hpl2 hpl
      by_cases hk6 : c.kind = 6
      · rw [if_pos hk6] at hgo hE'
        have hcn : c.count = p.next - 1 := by
          by_cases h : c.count = p.next - 1
          · exact h
          · rw [if_pos h] at hE'; omega
        rw [if_neg (by omega)] at hE'
        have hdg : p.cnt = 0 → c.digest = p.sum := fun h => by
          by_cases h2 : c.digest = p.sum
          · exact h2
          · rw [if_pos ⟨h, h2⟩] at hE'; omega
        by_cases hlt : z < r.length
        · rw [if_pos hlt] at hgo
          rw [hgo, hmap]
          by_cases hc0 : p.cnt = 0
          · have hdg2 := hdg hc0
            repeat' (first
             | refine q_s ?_ | refine q_z ?_ | refine q_b ?_ | refine q_call hpar ?_ rfl (by rw [← hr2]; rfl)
              | refine wo_app1 (e := .agg [.int .i64 c.kind, .int .i64 c.id, .int .i64 c.parent, .int .i64 c.size, .int .i64 c.frm, .int .i64 c.count, .int .i64 c.source, .int .i64 c.digest, .islc false fl s (BL c.data)]) rfl rfl rfl (by exact hH) (by rw [← hn]; exact hln) hxn (by omega) rfl rfl (fun _ => ?_)
              | refine wo_atR rfl rfl (by exact hH) (by rw [← hn]; exact hln) (by omega) (by omega) (by omega) rfl rfl ?_
              | refine wo_loadR (.int .i64 p.cnt) rfl (by exact hH) (by rw [← hn]; exact hln) he0 (Nat.le_of_ble_eq_true rfl) rfl rfl rfl ?_ | refine q_n ?_ | refine q_nn ?_ | refine q_mv ?_
              | refine q_faddr ?_ | refine q_load ?_ | refine q_loadI ?_ | refine q_loadR ?_ | refine q_cmp ?_ | refine q_cmp2 (fun _ => ?_) (fun _ => ?_) | refine q_add ?_ | refine q_pickT ?_
              | refine q_pickF ?_ | refine q_len ?_ | refine q_lenS ?_ | refine q_len0 ?_ | refine q_ex ?_ | refine q_store ?_ | refine q_storeR ?_ | refine q_box ?_ | refine q_at ?_
              | refine q_buildS ?_ | refine q_app fun _ => ?_ | refine q_slice0 ?_ | refine q_sliceE ?_ | refine q_sliceM ?_)
            exact ⟨rfl, rfl, by rw [hlen2, hn]; rfl, rfl, rfl⟩
          · skip
            repeat' (first
             | refine q_s ?_ | refine q_z ?_ | refine q_b ?_ | refine q_call hpar ?_ rfl (by rw [← hr2]; rfl)
              | refine wo_app1 (e := .agg [.int .i64 c.kind, .int .i64 c.id, .int .i64 c.parent, .int .i64 c.size, .int .i64 c.frm, .int .i64 c.count, .int .i64 c.source, .int .i64 c.digest, .islc false fl s (BL c.data)]) rfl rfl rfl (by exact hH) (by rw [← hn]; exact hln) hxn (by omega) rfl rfl (fun _ => ?_)
              | refine wo_atR rfl rfl (by exact hH) (by rw [← hn]; exact hln) (by omega) (by omega) (by omega) rfl rfl ?_
              | refine wo_loadR (.int .i64 p.cnt) rfl (by exact hH) (by rw [← hn]; exact hln) he0 (Nat.le_of_ble_eq_true rfl) rfl rfl rfl ?_ | refine q_n ?_ | refine q_nn ?_ | refine q_mv ?_
              | refine q_faddr ?_ | refine q_load ?_ | refine q_loadI ?_ | refine q_loadR ?_ | refine q_cmp ?_ | refine q_cmp2 (fun _ => ?_) (fun _ => ?_) | refine q_add ?_ | refine q_pickT ?_
              | refine q_pickF ?_ | refine q_len ?_ | refine q_lenS ?_ | refine q_len0 ?_ | refine q_ex ?_ | refine q_store ?_ | refine q_storeR ?_ | refine q_box ?_ | refine q_at ?_
              | refine q_buildS ?_ | refine q_app fun _ => ?_ | refine q_slice0 ?_ | refine q_sliceE ?_ | refine q_sliceM ?_)
            exact ⟨rfl, rfl, by rw [hlen2, hn]; rfl, rfl, rfl⟩
        · rw [if_neg hlt] at hgo
          rw [hgo, hmap]
          by_cases hc0 : p.cnt = 0
          · have hdg2 := hdg hc0
            repeat' (first
             | refine q_s ?_ | refine q_z ?_ | refine q_b ?_ | refine q_call hpar ?_ rfl (by rw [← hr2]; rfl)
              | refine wo_app1 (e := .agg [.int .i64 c.kind, .int .i64 c.id, .int .i64 c.parent, .int .i64 c.size, .int .i64 c.frm, .int .i64 c.count, .int .i64 c.source, .int .i64 c.digest, .islc false fl s (BL c.data)]) rfl rfl rfl (by exact hH) (by rw [← hn]; exact hln) hxn (by omega) rfl rfl (fun _ => ?_)
              | refine wo_atR rfl rfl (by exact hH) (by rw [← hn]; exact hln) (by omega) (by omega) (by omega) rfl rfl ?_
              | refine wo_loadR (.int .i64 p.cnt) rfl (by exact hH) (by rw [← hn]; exact hln) he0 (Nat.le_of_ble_eq_true rfl) rfl rfl rfl ?_ | refine q_n ?_ | refine q_nn ?_ | refine q_mv ?_
              | refine q_faddr ?_ | refine q_load ?_ | refine q_loadI ?_ | refine q_loadR ?_ | refine q_cmp ?_ | refine q_cmp2 (fun _ => ?_) (fun _ => ?_) | refine q_add ?_ | refine q_pickT ?_
              | refine q_pickF ?_ | refine q_len ?_ | refine q_lenS ?_ | refine q_len0 ?_ | refine q_ex ?_ | refine q_store ?_ | refine q_storeR ?_ | refine q_box ?_ | refine q_at ?_
              | refine q_buildS ?_ | refine q_app fun _ => ?_ | refine q_slice0 ?_ | refine q_sliceE ?_ | refine q_sliceM ?_)
            exact ⟨rfl, rfl, by rw [hlen2, hn]; rfl, rfl, rfl⟩
          · skip
            repeat' (first
             | refine q_s ?_ | refine q_z ?_ | refine q_b ?_ | refine q_call hpar ?_ rfl (by rw [← hr2]; rfl)
              | refine wo_app1 (e := .agg [.int .i64 c.kind, .int .i64 c.id, .int .i64 c.parent, .int .i64 c.size, .int .i64 c.frm, .int .i64 c.count, .int .i64 c.source, .int .i64 c.digest, .islc false fl s (BL c.data)]) rfl rfl rfl (by exact hH) (by rw [← hn]; exact hln) hxn (by omega) rfl rfl (fun _ => ?_)
              | refine wo_atR rfl rfl (by exact hH) (by rw [← hn]; exact hln) (by omega) (by omega) (by omega) rfl rfl ?_
              | refine wo_loadR (.int .i64 p.cnt) rfl (by exact hH) (by rw [← hn]; exact hln) he0 (Nat.le_of_ble_eq_true rfl) rfl rfl rfl ?_ | refine q_n ?_ | refine q_nn ?_ | refine q_mv ?_
              | refine q_faddr ?_ | refine q_load ?_ | refine q_loadI ?_ | refine q_loadR ?_ | refine q_cmp ?_ | refine q_cmp2 (fun _ => ?_) (fun _ => ?_) | refine q_add ?_ | refine q_pickT ?_
              | refine q_pickF ?_ | refine q_len ?_ | refine q_lenS ?_ | refine q_len0 ?_ | refine q_ex ?_ | refine q_store ?_ | refine q_storeR ?_ | refine q_box ?_ | refine q_at ?_
              | refine q_buildS ?_ | refine q_app fun _ => ?_ | refine q_slice0 ?_ | refine q_sliceE ?_ | refine q_sliceM ?_)
            exact ⟨rfl, rfl, by rw [hlen2, hn]; rfl, rfl, rfl⟩
      · rw [if_neg hk6] at hgo
        have hrcv : (takeP p x).rc = p.rc + 1 := by rw [hrc2, hnx, if_neg hk1]; omega
        have hsmv : (takeP p x).sum = crcMore p.sum (payB c) := by rw [hsm, if_neg (by omega)]
        repeat' (first
         | refine q_s ?_ | refine q_z ?_ | refine q_b ?_ | refine q_call hpar ?_ rfl (by rw [← hr2]; rfl) | refine q_call hpay ?_ | refine q_call (hmore _) ?_
          | refine wo_app1 (e := .agg [.int .i64 c.kind, .int .i64 c.id, .int .i64 c.parent, .int .i64 c.size, .int .i64 c.frm, .int .i64 c.count, .int .i64 c.source, .int .i64 c.digest, .islc false fl s (BL c.data)]) rfl rfl rfl (by exact hH) (by rw [← hn]; exact hln) hxn (by omega) rfl rfl (fun _ => ?_)
          | refine wo_atR rfl rfl (by exact hH) (by rw [← hn]; exact hln) (by omega) (by omega) (by omega) rfl rfl ?_
          | refine wo_loadR (.int .i64 p.cnt) rfl (by exact hH) (by rw [← hn]; exact hln) he0 (Nat.le_of_ble_eq_true rfl) rfl rfl rfl ?_ | refine q_n ?_ | refine q_nn ?_ | refine q_mv ?_
          | refine q_faddr ?_ | refine q_load ?_ | refine q_loadI ?_ | refine q_loadR ?_ | refine q_cmp ?_ | refine q_cmp2 (fun _ => ?_) (fun _ => ?_) | refine q_add ?_ | refine q_pickT ?_
          | refine q_pickF ?_ | refine q_len ?_ | refine q_lenS ?_ | refine q_len0 ?_ | refine q_ex ?_ | refine q_store ?_ | refine q_storeR ?_ | refine q_box ?_ | refine q_at ?_
          | refine q_buildS ?_ | refine q_app fun _ => ?_ | refine q_slice0 ?_ | refine q_sliceE ?_ | refine q_sliceM ?_)
        refine ⟨by omega, takeP p x, g + z, by omega, by omega, hfit2, by omega, fun h => absurd h hne2, by rw [hmap]; rfl, hgo.trans hdr2, rfl, by rw [hlen2, hn]; rfl, by show AV.int _ _ = AV.int _ _; congr 1, by rw [hrcv]; rfl, by rw [hsmv]; rfl, trivial⟩
  · simp only [hE, not_false_eq_true, if_true] at hgo
    rw [hgo]
    have hE' := hE
    by_cases hl0 : p.l = []
    · have hps := hp0 hl0
      have hn0 : p.next = 0 := by rw [hps]; rfl
      have hlen : p.l.length = 0 := by rw [hl0]; rfl
      have hor : ¬ (p.l = [] ↔ c.kind = 1) ∨ q ≠ p.next := by
        refine Classical.byContradiction fun hh => hE ?_
        have hh1 : p.l = [] ↔ c.kind = 1 := Classical.byContradiction fun h => hh (.inl h)
        unfold takeE
        rw [if_neg hh, if_neg (by have := hh1.1 hl0; omega)]
      have hE14 : takeE p c q = 14 := by unfold takeE; rw [if_pos hor]
      have hkq : c.kind ≠ 1 ∨ q ≠ 0 := by
        rcases hor with h | h
        · exact .inl fun hk => h ⟨fun _ => hk, fun _ => hl0⟩
        · exact .inr (by omega)
      rw [hE14]
      obtain ⟨n, hn⟩ : ∃ n, n = p.l.length := ⟨_, rfl⟩
      rw [← hn] at hlen hlen2 hln hpl2 hpl
      by_cases hk1 : c.kind = 1
      · have hq1 : q ≠ 0 := by omega
        repeat' (first
         | refine q_s ?_ | refine q_z ?_ | refine q_b ?_ | refine q_call hpar ?_ rfl (by rw [← hr2]; rfl) | refine q_lenS (len := p.l.length) ?_ | refine q_n ?_ | refine q_nn ?_
          | refine q_mv ?_ | refine q_faddr ?_ | refine q_load ?_ | refine q_loadI ?_ | refine q_loadR ?_ | refine q_cmp ?_ | refine q_cmp2 (fun _ => ?_) (fun _ => ?_) | refine q_add ?_
          | refine q_pickT ?_ | refine q_pickF ?_ | refine q_len ?_ | refine q_lenS ?_ | refine q_len0 ?_ | refine q_ex ?_ | refine q_store ?_ | refine q_storeR ?_ | refine q_box ?_
          | refine q_at ?_ | refine q_buildS ?_ | refine q_app fun _ => ?_ | refine q_slice0 ?_ | refine q_sliceE ?_ | refine q_sliceM ?_)
        exact ⟨rfl, hH, rfl, rfl, rfl⟩
      · skip
        repeat' (first
         | refine q_s ?_ | refine q_z ?_ | refine q_b ?_ | refine q_call hpar ?_ rfl (by rw [← hr2]; rfl) | refine q_lenS (len := p.l.length) ?_ | refine q_n ?_ | refine q_nn ?_
          | refine q_mv ?_ | refine q_faddr ?_ | refine q_load ?_ | refine q_loadI ?_ | refine q_loadR ?_ | refine q_cmp ?_ | refine q_cmp2 (fun _ => ?_) (fun _ => ?_) | refine q_add ?_
          | refine q_pickT ?_ | refine q_pickF ?_ | refine q_len ?_ | refine q_lenS ?_ | refine q_len0 ?_ | refine q_ex ?_ | refine q_store ?_ | refine q_storeR ?_ | refine q_box ?_
          | refine q_at ?_ | refine q_buildS ?_ | refine q_app fun _ => ?_ | refine q_slice0 ?_ | refine q_sliceE ?_ | refine q_sliceM ?_)
        exact ⟨rfl, hH, rfl, rfl, rfl⟩
    · obtain ⟨y, ys, hy⟩ : ∃ y ys, p.l = y :: ys := by
        cases h : p.l with
        | nil => exact absurd h hl0
        | cons y ys => exact ⟨y, ys, rfl⟩
      have hlen : 0 < p.l.length := by rw [hy]; simp
      have hcnt : y.c.count = p.cnt := by unfold PS.cnt; rw [hy]; rfl
      have he0 : (p.l.map CV.av)[0 + (0 : Int).toNat]? = some (.agg [.int .i64 y.c.kind, .int .i64 y.c.id, .int .i64 y.c.parent, .int .i64 y.c.size, .int .i64 y.c.frm, .int .i64 p.cnt, .int .i64 y.c.source, .int .i64 y.c.digest, .islc false y.f y.s (BL y.c.data)]) := by
        rw [hy, ← hcnt]; rfl
      have hrc : p.rc = p.next - 1 := by unfold PS.rc; rw [if_neg hl0]
      obtain ⟨n, hn⟩ : ∃ n, n = p.l.length := ⟨_, rfl⟩
      rw [← hn] at hlen hlen2 hln hpl2 hpl
      by_cases hk1 : c.kind = 1
      · have hE14 : takeE p c q = 14 := by unfold takeE; rw [if_pos (.inl (fun hh => hl0 (hh.2 hk1)))]
        rw [hE14]
        repeat' (first
         | refine q_s ?_ | refine q_z ?_ | refine q_b ?_ | refine q_call hpar ?_ rfl (by rw [← hr2]; rfl) | refine q_lenS (len := p.l.length) ?_ | refine q_n ?_ | refine q_nn ?_
          | refine q_mv ?_ | refine q_faddr ?_ | refine q_load ?_ | refine q_loadI ?_ | refine q_loadR ?_ | refine q_cmp ?_ | refine q_cmp2 (fun _ => ?_) (fun _ => ?_) | refine q_add ?_
          | refine q_pickT ?_ | refine q_pickF ?_ | refine q_len ?_ | refine q_lenS ?_ | refine q_len0 ?_ | refine q_ex ?_ | refine q_store ?_ | refine q_storeR ?_ | refine q_box ?_
          | refine q_at ?_ | refine q_buildS ?_ | refine q_app fun _ => ?_ | refine q_slice0 ?_ | refine q_sliceE ?_ | refine q_sliceM ?_)
        exact ⟨rfl, hH, rfl, rfl, rfl⟩
      by_cases hqn : q = p.next
      rotate_left 1
      · have hE14 : takeE p c q = 14 := by unfold takeE; rw [if_pos (.inr hqn)]
        rw [hE14]
        repeat' (first
         | refine q_s ?_ | refine q_z ?_ | refine q_b ?_ | refine q_call hpar ?_ rfl (by rw [← hr2]; rfl) | refine q_lenS (len := p.l.length) ?_ | refine q_n ?_ | refine q_nn ?_
          | refine q_mv ?_ | refine q_faddr ?_ | refine q_load ?_ | refine q_loadI ?_ | refine q_loadR ?_ | refine q_cmp ?_ | refine q_cmp2 (fun _ => ?_) (fun _ => ?_) | refine q_add ?_
          | refine q_pickT ?_ | refine q_pickF ?_ | refine q_len ?_ | refine q_lenS ?_ | refine q_len0 ?_ | refine q_ex ?_ | refine q_store ?_ | refine q_storeR ?_ | refine q_box ?_
          | refine q_at ?_ | refine q_buildS ?_ | refine q_app fun _ => ?_ | refine q_slice0 ?_ | refine q_sliceE ?_ | refine q_sliceM ?_)
        exact ⟨rfl, hH, rfl, rfl, rfl⟩
      have hno : ¬ (¬ (p.l = [] ↔ c.kind = 1) ∨ q ≠ p.next) := fun hh => hh.elim (fun h => h ⟨fun h => absurd h hl0, fun h => absurd h hk1⟩) (fun h => h hqn)
      have hk6 : c.kind = 6 := Classical.byContradiction fun h => hE (by unfold takeE; rw [if_neg hno, if_neg h])
      by_cases hcn : c.count = p.next - 1
      rotate_left 1
      · have hE14 : takeE p c q = 14 := by unfold takeE; rw [if_neg hno, if_pos hk6, if_pos hcn]
        rw [hE14]
        repeat' (first
         | refine q_s ?_ | refine q_z ?_ | refine q_b ?_ | refine q_call hpar ?_ rfl (by rw [← hr2]; rfl) | refine q_lenS (len := p.l.length) ?_ | refine q_n ?_ | refine q_nn ?_
          | refine q_mv ?_ | refine q_faddr ?_ | refine q_load ?_ | refine q_loadI ?_ | refine q_loadR ?_ | refine q_cmp ?_ | refine q_cmp2 (fun _ => ?_) (fun _ => ?_) | refine q_add ?_
          | refine q_pickT ?_ | refine q_pickF ?_ | refine q_len ?_ | refine q_lenS ?_ | refine q_len0 ?_ | refine q_ex ?_ | refine q_store ?_ | refine q_storeR ?_ | refine q_box ?_
          | refine q_at ?_ | refine q_buildS ?_ | refine q_app fun _ => ?_ | refine q_slice0 ?_ | refine q_sliceE ?_ | refine q_sliceM ?_)
        exact ⟨rfl, hH, rfl, rfl, rfl⟩
      have hdd : p.cnt = 0 ∧ c.digest ≠ p.sum := Classical.byContradiction fun h => hE (by unfold takeE; rw [if_neg hno, if_pos hk6, if_neg (by omega), if_neg h])
      obtain ⟨hc0, hd0⟩ := hdd
      have hE15 : takeE p c q = 15 := by unfold takeE; rw [if_neg hno, if_pos hk6, if_neg (by omega), if_pos ⟨hc0, hd0⟩]
      rw [hE15]
      repeat' (first
       | refine q_s ?_ | refine q_z ?_ | refine q_b ?_ | refine q_call hpar ?_ rfl (by rw [← hr2]; rfl) | refine q_lenS (len := p.l.length) ?_
        | refine wo_atR rfl rfl (by exact hH) (by rw [← hn]; exact hln) (by omega) (by omega) (by omega) rfl rfl ?_
        | refine wo_loadR (.int .i64 p.cnt) rfl (by exact hH) (by rw [← hn]; exact hln) he0 (Nat.le_of_ble_eq_true rfl) rfl rfl rfl ?_ | refine q_n ?_ | refine q_nn ?_ | refine q_mv ?_
        | refine q_faddr ?_ | refine q_load ?_ | refine q_loadI ?_ | refine q_loadR ?_ | refine q_cmp ?_ | refine q_cmp2 (fun _ => ?_) (fun _ => ?_) | refine q_add ?_ | refine q_pickT ?_
        | refine q_pickF ?_ | refine q_len ?_ | refine q_lenS ?_ | refine q_len0 ?_ | refine q_ex ?_ | refine q_store ?_ | refine q_storeR ?_ | refine q_box ?_ | refine q_at ?_
        | refine q_buildS ?_ | refine q_app fun _ => ?_ | refine q_slice0 ?_ | refine q_sliceE ?_ | refine q_sliceM ?_)
      exact ⟨rfl, hH, rfl, rfl, rfl⟩

theorem e_ref_ParseStream (k : Nat) (hk : 1000000 ≤ k) (t f : Bool) (b : List UInt8) (hb : b.length < 900000) : FnV (acall B xf gf (k + 6)) n_ref18_ParseStream [.islc t f 1 (BL b)] (.tup [.islc false false 9 ((parseS b).1.l.map CV.av), .int .i64 ((parseS b).2.1 : Nat), .int .i64 (parseS b).2.2]) := by
  refine fn_of B_ref18_ParseStream rfl ?_
  unfold ref18_ParseStream
  repeat' (first
   | refine q_s ?_ | refine q_z ?_ | refine q_b ?_ | refine q_n ?_ | refine q_nn ?_ | refine q_mv ?_ | refine q_faddr ?_ | refine q_load ?_ | refine q_loadI ?_ | refine q_loadR ?_
    | refine q_cmp ?_ | refine q_cmp2 (fun _ => ?_) (fun _ => ?_) | refine q_add ?_ | refine q_pickT ?_ | refine q_pickF ?_ | refine q_len ?_ | refine q_lenS ?_ | refine q_len0 ?_
    | refine q_ex ?_ | refine q_store ?_ | refine q_storeR ?_ | refine q_box ?_ | refine q_at ?_ | refine q_nilrow ?_ | refine q_buildS ?_ | refine q_app fun _ => ?_ | refine q_slice0 ?_
    | refine q_sliceE ?_ | refine q_sliceM ?_)
  refine W.mono (ref_PS_loop (xf := xf) (gf := gf) k hk (t := t) (f := f) hb (by omega) ?_ ?_) ?_
  · exact ⟨rfl, rfl, rfl, rfl, rfl, trivial⟩
  · rfl
  rintro ex T2 H2 ⟨rfl, hH, h2, h3, h4⟩
  refine ⟨Or.inr rfl, .tup [.slc 2 1 (parseS b).1.l.length 9 0 (parseS b).1.l.length none, .int .i64 ((parseS b).2.1 : Nat), .int .i64 (parseS b).2.2], ?_, ?_⟩
  · show aresults T2 H2 [.tmp 2, .tmp 3, .tmp 4] = _
    simp only [aresults, ares, List.mapM_cons, List.mapM_nil, h2, h3, h4]
    rfl
  · show AV.tup [fz true (4 + 1) H2 (AV.slc _ _ _ _ _ _ _), AV.int _ _, AV.int _ _] = _
    rw [fz_slc (row_of hH (by simp)) (by omega), List.drop_zero, List.take_of_length_le (by simp), fz_cvs]
    rfl

end Go.Proofs.YtnakicjkolpacaaDoor
