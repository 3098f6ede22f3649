/- What the laws' own helpers answer: the End of commands. -/
import Derived.Test.YtnakicjkolpacaaDoorP9
import Derived.Test.YtnakicjkolpacaaDoorS35
import Derived.Test.YtnakicjkolpacaaDoorS6
set_option linter.unusedSimpArgs false
set_option linter.unusedVariables false
set_option maxRecDepth 10000
set_option maxHeartbeats 16000000
namespace Go.Proofs.YtnakicjkolpacaaDoor
open Go.AI

/-- A closed run that answers none. -/
def isZ : Option (AV × Heap) → Bool
  | some (.int .i64 n, _) => decide (n = 0)
  | _ => false
theorem isZ_some {r : Option (AV × Heap)} (h : isZ r = true) : ∃ H, r = some (.int .i64 0, H) := by
  unfold isZ at h
  split at h
  · rename_i n H
    have : n = 0 := of_decide_eq_true h
    subst this
    exact ⟨_, rfl⟩
  · cases h

theorem fz_ownC {H : Heap} {j gn v : Nat} {ro : Bool} {cap : Option Nat} {es : List AV} {l : List Cmd} (hr : H j = ⟨gn, ro, .row 9 es⟩) (he : es = l.map (Cmd.av false true 0)) (hv : l.length = v) : fz false 6 H (.slc j gn v 9 0 v cap) = .islc true false 9 (l.map (Cmd.av false true 0)) := by
  subst he
  rw [fz_slc (n := 5) (row_of hr (by simpa using hv)) (by omega), List.drop_zero, ← hv, List.take_of_length_le (by simp)]
  simp only [Bool.not_false]
  congr 1
  rw [List.map_map]
  exact List.map_congr_left fun c _ => fz_av false 3 H true 0 c
theorem csR_nd : ∀ {l : List Cmd}, (∀ c ∈ l, c.data = []) → CsR (l.map (Cmd.av false true 0)) l
  | [], _ => trivial
  | c :: l, h => ⟨⟨false, true, 0, rfl, .inr (h c (by simp)), .inl rfl⟩, csR_nd fun d hd => h d (by simp [hd])⟩

attribute [local irreducible] aops aexec acall aiter aop W WO

variable {xf : ExtF} {gf : CallF}

/-- The sum of all payloads. -/
def sumA (n : Int) (l : List Cmd) : Int := l.foldl (fun s c => crcMore s (payB c)) n
theorem sumA_content : ∀ (l : List Cmd) (n : Int), (∀ c ∈ l, content c) → sumA n l = sumC n l
  | [], _, _ => rfl
  | c :: l, n, h => by
    have hc := h c (by simp)
    unfold content at hc
    show sumA (crcMore n (payB c)) l = sumC (if c.kind = 1 ∨ c.kind = 6 then n else crcMore n (payB c)) l
    rw [if_neg (by omega), sumA_content l _ fun d hd => h d (by simp [hd])]

theorem e_law_End (k : Nat) (hk : 1000000 ≤ k) (t f : Bool) (es : List AV) (l : List Cmd) (hl : 1 ≤ l.length ∧ l.length < 100000) (hes : CsR es l) (hc : ∀ c ∈ l, chkP c) (h0 : FnV (acall B xf gf (k + 5)) n_crc_Sum [.islc false true 0 []] (.int .i64 0)) :
    FnV (acall B xf gf (k + 6)) n_law23_End [.islc t f 9 es] (Cmd.av false true 0 ⟨6, 0, 0, 0, 0, (l.length : Int) - 1, 0, sumA 0 (l.drop 1), []⟩) := by
  have hlen := hes.len
  refine fn_of B_law23_End rfl ?_
  unfold law23_End
  repeat' (first
   | refine q_s ?_ | refine q_z ?_ | refine q_b ?_ | refine q_call h0 ?_ | refine q_mv ?_ | refine q_load ?_ | refine q_loadI ?_ | refine q_loadR ?_ | refine q_cmp ?_
    | refine q_cmp2 (fun _ => ?_) (fun _ => ?_) | refine q_add ?_ | refine q_sub ?_ | refine q_len ?_ | refine q_lenS ?_ | refine q_len0 ?_ | refine q_ex ?_ | refine q_store ?_
    | refine q_storeR ?_ | refine q_box ?_ | refine q_at ?_ | refine q_build ?_)
  refine W.mono (Q := fun ex T' H' => ex = .exit 0 ∧ H' 0 = ⟨1, false, .row 9 [c0Av]⟩ ∧ Has T' [(0, .islc t f 9 es), (2, .ptr 0 1 1 9 0 0), (3, .int .i64 (sumA 0 (l.drop 1)))]) ?_ ?_
  · refine w_for (l.length - 1) (fun i T' H' => H' 0 = ⟨1, false, .row 9 [c0Av]⟩ ∧ ∃ s : Int, (0 ≤ s ∧ s ≤ 4294967295) ∧ sumA 0 (l.drop 1) = sumA s (l.drop (1 + i)) ∧ Has T' [(0, .islc t f 9 es), (2, .ptr 0 1 1 9 0 0), (3, .int .i64 s), (4, .int .i64 ((1 + i : Nat) : Int))])
      ⟨rfl, 0, by omega, by simp, rfl, rfl, rfl, rfl, trivial⟩ (by omega) ?_
    rintro i T H hi ⟨hH, s, hs, hgo, hT⟩
    rw [hT.eq]
    simp only [over]
    by_cases hil : 1 + i < l.length
    · rw [List.drop_eq_getElem_cons hil] at hgo
      obtain ⟨e, he, hcr⟩ := hes.get (List.getElem?_eq_getElem hil)
      have he2 : es[((1 + i : Nat) : Int).toNat]? = some e := by rw [Int.toNat_natCast]; exact he
      have hch := hc _ (List.getElem_mem hil)
      obtain ⟨c, hcd⟩ : ∃ c, c = l[1 + i] := ⟨_, rfl⟩
      rw [← hcd] at hcr hch hgo
      have hcs := chk_small hch
      have hpl := payB_le hch
      obtain ⟨t1, f1, s1, rfl, hsd, htk⟩ := hcr
      have hp := e_frame_Payload (xf := xf) (gf := gf) k hk t1 f1 s1 c (by omega) hsd htk
      rw [if_pos hch] at hp
      have hm := fun f => e_crc_More (xf := xf) (gf := gf) (k + 4) (by omega) false f (payB c) s (by omega) hs
      unfold Cmd.av at hp he2
      repeat' (first
       | refine q_s ?_ | refine q_z ?_ | refine q_b ?_ | refine wo_lenG (n := l.length) rfl hlen rfl rfl ?_ | refine wo_atG rfl rfl (by omega) he2 rfl rfl ?_ | refine q_call hp ?_
        | refine q_call (hm _) ?_ | refine q_mv ?_ | refine q_load ?_ | refine q_loadI ?_ | refine q_loadR ?_ | refine q_cmp ?_ | refine q_cmp2 (fun _ => ?_) (fun _ => ?_) | refine q_add ?_
        | refine q_sub ?_ | refine q_len ?_ | refine q_lenS ?_ | refine q_len0 ?_ | refine q_ex ?_ | refine q_store ?_ | refine q_storeR ?_ | refine q_box ?_ | refine q_at ?_
        | refine q_build ?_)
      refine ⟨by omega, hH, _, crcMore_range2 _ _, ?_, rfl, rfl, rfl, by show AV.int _ _ = AV.int _ _; congr 1, trivial⟩
      rw [hgo, show 1 + (i + 1) = 1 + i + 1 by omega]
      rfl
    · have hil2 : 1 + i = l.length := by omega
      repeat' (first
       | refine q_s ?_ | refine q_z ?_ | refine q_b ?_ | refine wo_lenG (n := l.length) rfl hlen rfl rfl ?_ | refine q_mv ?_ | refine q_load ?_ | refine q_loadI ?_ | refine q_loadR ?_
        | refine q_cmp ?_ | refine q_cmp2 (fun _ => ?_) (fun _ => ?_) | refine q_add ?_ | refine q_sub ?_ | refine q_len ?_ | refine q_lenS ?_ | refine q_len0 ?_ | refine q_ex ?_
        | refine q_store ?_ | refine q_storeR ?_ | refine q_box ?_ | refine q_at ?_ | refine q_build ?_)
      refine ⟨rfl, hH, rfl, rfl, ?_, trivial⟩
      rw [hgo, hil2, List.drop_length]
      rfl
  rintro ex T2 H2 ⟨rfl, hH, hT⟩
  rw [hT.eq]
  simp only [over]
  show W _ _
  unfold c0Av at hH
  repeat' (first
   | refine q_s ?_ | refine q_z ?_ | refine q_b ?_ | refine wo_lenG (n := l.length) rfl hlen rfl rfl ?_ | refine q_storeR ?_ rfl hH | refine q_mv ?_ | refine q_load ?_ | refine q_loadI ?_
    | refine q_loadR ?_ | refine q_cmp ?_ | refine q_cmp2 (fun _ => ?_) (fun _ => ?_) | refine q_add ?_ | refine q_sub ?_ | refine q_len ?_ | refine q_lenS ?_ | refine q_len0 ?_
    | refine q_ex ?_ | refine q_store ?_ | refine q_storeR ?_ | refine q_box ?_ | refine q_at ?_ | refine q_build ?_)
  exact ⟨Or.inr rfl, _, rfl, rfl⟩

end Go.Proofs.YtnakicjkolpacaaDoor
