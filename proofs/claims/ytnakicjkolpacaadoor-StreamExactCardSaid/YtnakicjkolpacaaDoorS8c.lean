/- What the functions answer: sums that are right, twins of bytes, bytes alike. -/
import Derived.Test.YtnakicjkolpacaaDoorS8
set_option linter.unusedSimpArgs false
set_option linter.unusedVariables false
set_option maxRecDepth 10000
set_option maxHeartbeats 16000000
namespace Go.Proofs.YtnakicjkolpacaaDoor
open Go.AI
attribute [local irreducible] aops aexec acall aiter aop W WO

variable {xf : ExtF} {gf : CallF}

/-- Do bytes end with the sum of all others? -/
def goodP (l : List UInt8) : Bool := decide (4 ≤ l.length ∧ (leN (l.drop (l.length - 4)) : Int) = crcMore 0 (l.take (l.length - 4)))

theorem getP4 {l : List UInt8} {a : Int} (h0 : 0 ≤ a) (h1 : a + 4 ≤ l.length) : getP l a 4 = ((leN ((l.drop a.toNat).take 4) : Int), 0) := by
  have hlt := leN_lt ((l.drop a.toNat).take 4)
  have hlen : ((l.drop a.toNat).take 4).length = 4 := by simp; omega
  rw [hlen] at hlt
  unfold getP
  rw [if_pos ⟨h0, by omega⟩, if_pos (by omega)]

theorem e_crc_Good (k : Nat) (hk : 1000000 ≤ k) (t f : Bool) (l : List UInt8) (hl : l.length < 1000000) : FnV (acall B xf gf (k + 3)) n_crc_Good [.islc t f 1 (BL l)] (.bool (goodP l)) := by
  have hg := e_le_Get (xf := xf) (gf := gf) (k + 1) (by omega) t f l (l.length - 4) 4 (by omega) hl
  have hs := e_crc_Sum (xf := xf) (gf := gf) k hk t
  refine fn_of B_crc_Good rfl ?_
  unfold crc_Good
  repeat' (first
   | refine q_s ?_ | refine q_z ?_ | refine q_b ?_ | (refine wo_call (hs _ (l.take ((l.length : Int) - 4).toNat) (by simp; omega)) rfl rfl rfl ?_) | refine q_mv ?_ | refine q_cmp ?_
    | refine q_cmp2 (fun _ => ?_) (fun _ => ?_) | refine q_sub ?_ | refine q_len ?_ | refine q_lenS ?_ | refine q_len0 ?_ | refine q_ex ?_ | refine q_slice0 ?_ | refine q_sliceE ?_
    | refine q_sliceM ?_ | refine q_callB (hg) (fun _ => ?_) (fun _ => ?_) | refine q_call (hg) ?_)
  all_goals (refine ⟨Or.inr rfl, _, rfl, ?_⟩)
  all_goals (show AV.bool _ = AV.bool _; congr 1)
  all_goals simp only [cmpP] at *
  · symm
    exact decide_eq_false (by omega)
  all_goals
    have hL : (getP l (l.length - 4) 4).1 = (leN (l.drop (l.length - 4)) : Int) := by
      have e : ((l.length : Int) - 4).toNat = l.length - 4 := by omega
      rw [getP4 (by omega) (by omega), e, List.take_of_length_le (by simp; omega)]
    have e : ((l.length : Int) - 4).toNat = l.length - 4 := by omega
    rename_i h1 h2
    rw [e, hL] at h2
    symm
  · exact decide_eq_true ⟨by omega, h2⟩
  · exact decide_eq_false (fun h => h2 h.2)

/-- Bytes that a call leaves. -/
theorem fz_out {n j gn v : Nat} {H : Heap} {ro : Bool} {cap : Option Nat} {l : List UInt8} (hr : H j = ⟨gn, ro, .row 1 (BL l)⟩) (hv : l.length = v) : fz true (n + 2) H (.slc j gn v 1 0 v cap) = .islc false false 1 (BL l) := by
  rw [fz_slcB (row_of hr (by simpa using hv)) (by omega), List.drop_zero, ← hv, List.take_length]
  rfl

/-- The numbers that stand side by side, and where they end. -/
def numGo (l : List UInt8) : Nat → List Nat → Option (List Int × Nat)
  | a, [] => some ([], a)
  | a, s :: r => if (getP l a s).2 = 0 then (numGo l (a + s) r).map fun (o, e) => ((getP l a s).1 :: o, e) else none

theorem IL_fz (out : Bool) (n : Nat) (H : Heap) (l : List Int) : (IL l).map (fz out (n + 1) H) = IL l := by
  induction l with
  | nil => rfl
  | cons c l ih =>
    show _ :: List.map _ (IL l) = _
    rw [ih]; rfl
theorem fz_outI {n j gn v : Nat} {H : Heap} {ro : Bool} {cap : Option Nat} {l : List Int} (hr : H j = ⟨gn, ro, .row 1 (IL l)⟩) (hv : l.length = v) : fz true (n + 2) H (.slc j gn v 1 0 v cap) = .islc false false 1 (IL l) := by
  rw [fz_slc (row_of hr (by simpa using hv)) (by omega), List.drop_zero, ← hv, List.take_of_length_le (by simp), IL_fz]
  rfl

theorem IL_append (a b : List Int) : IL (a ++ b) = IL a ++ IL b := List.map_append
theorem IL_norefs : ∀ l : List Int, norefsL (IL l) = true
  | [] => rfl
  | c :: l => by simp [IL, norefsL, AV.norefs]; exact IL_norefs l

theorem e_keep_Twin (k : Nat) (t f : Bool) (l : List UInt8) (hl : l.length < 1000000) : FnF (acall B xf gf (k + 1)) n_keep_Twin [.islc t f 1 (BL l)] l := by
  refine fnF_of (fn_gen B_keep_Twin rfl ?_)
  unfold keep_Twin
  repeat' (first
   | refine q_s ?_ | refine q_z ?_ | refine wo_app (l := []) rfl rfl (.inl rfl) rfl rfl (by omega) rfl rfl (fun _ => ?_) | refine q_mv ?_ | refine q_nilrow ?_ | refine q_app fun _ => ?_)
  exact ⟨Or.inr rfl, _, rfl, _, _, _, rfl, by simp, rfl⟩

theorem bAt_eq {a : List UInt8} {i : Nat} (h : i < a.length) : bAt a (i : Int) = a[i] := by
  simp [bAt, h]

theorem keep_Bytes_loop {cf : CallF} {base fuel : Nat} {H : Heap} {T : Tmps} {t f t' f' : Bool} {a b : List UInt8} (hab : a.length = b.length) (ha : a.length < 1000000) (hk : 1000000 ≤ fuel)
    (hT : Has T [(0, .islc t f 1 (BL a)), (1, .islc t' f' 1 (BL b)), (5, .int .i64 0)]) :
    W (aexec cf xf base fuel (.loop keep_Bytes_l0) T H) (fun ex T' H' => (ex = .ret ∧ a ≠ b ∧ T' 4 = .bool false) ∨ (ex = .exit 0 ∧ a = b)) := by
  refine w_loop (fun m T' H' => m ≤ a.length ∧ a.take (a.length - m) = b.take (a.length - m) ∧ Has T' [(0, .islc t f 1 (BL a)), (1, .islc t' f' 1 (BL b)), (5, .int .i64 ((a.length - m : Nat) : Int))])
    a.length ⟨Nat.le_refl _, by simp, ?_⟩ (by omega) ?_
  · obtain ⟨h0, h1, h2, _⟩ := hT
    exact ⟨h0, h1, by rw [h2]; simp, trivial⟩
  rintro m T H hm ⟨_, heq, hT⟩
  obtain ⟨i, hi⟩ : ∃ i, i = a.length - m := ⟨_, rfl⟩
  rw [← hi] at hT heq
  rw [hT.eq]
  simp only [over]
  unfold keep_Bytes_l0
  repeat' (first
   | refine q_s ?_ | refine q_z ?_ | refine q_b ?_ | refine q_mv ?_ | refine q_load ?_ | refine q_loadI ?_ | refine q_loadR ?_ | refine q_cmp ?_ | refine q_cmp2 (fun _ => ?_) (fun _ => ?_)
    | refine q_add ?_ | refine q_len ?_ | refine q_lenS ?_ | refine q_len0 ?_ | refine q_at ?_)
  · rename_i h1 h2
    simp only [cmpP] at h1 h2
    refine .inl ⟨rfl, fun h => h2 ?_, rfl⟩
    subst h; rfl
  · rename_i h1 h2
    simp only [cmpP] at h1 h2
    have hia : i < a.length := by omega
    have e : a[i] = b[i]'(by omega) := by
      rw [bAt_eq hia, bAt_eq (by omega)] at h2
      have := Classical.not_not.1 h2
      exact UInt8.toNat_inj.1 (by omega)
    refine ⟨by omega, by omega, ?_, rfl, rfl, by show AV.int _ _ = AV.int _ _; congr 1; omega, trivial⟩
    rw [show a.length - (m - 1) = i + 1 by omega, List.take_succ_eq_append_getElem hia, List.take_succ_eq_append_getElem (by omega), heq, e]
  · rename_i h1
    simp only [cmpP] at h1
    refine .inr ⟨rfl, ?_⟩
    have : i = a.length := by omega
    rw [this, List.take_length, hab, List.take_length] at heq
    exact heq

theorem e_keep_Bytes (k : Nat) (hk : 1000000 ≤ k) (t f t' f' : Bool) (s s' : Nat) (a b : List UInt8) (ha : a.length < 1000000) (hb : b.length < 1000000) (hs : s = 1 ∨ a = []) (hs' : s' = 1 ∨ b = []) :
    FnV (acall B xf gf (k + 1)) n_keep_Bytes [.islc t f s (BL a), .islc t' f' s' (BL b)] (.bool (decide (a = b))) := by
  refine fn_of B_keep_Bytes rfl ?_
  unfold keep_Bytes
  by_cases hab : a.length = b.length
  · by_cases hn : a = []
    · have hbn : b = [] := by
        subst hn; exact List.eq_nil_of_length_eq_zero hab.symm
      subst hn hbn
      repeat' (first
       | refine q_s ?_ | refine q_z ?_ | refine q_b ?_ | refine wo_lenG (n := 0) rfl rfl rfl rfl ?_ | refine q_mv ?_ | refine q_load ?_ | refine q_loadI ?_ | refine q_loadR ?_ | refine q_cmp ?_
        | refine q_cmp2 (fun _ => ?_) (fun _ => ?_) | refine q_add ?_ | refine q_len ?_ | refine q_lenS ?_ | refine q_len0 ?_ | refine q_at ?_)
      refine w_iter0 ?_
      obtain ⟨k', rfl⟩ : ∃ k', k = k' + 1 := ⟨k - 1, by omega⟩
      refine w_iter1 ?_
      repeat' (first
       | refine q_s ?_ | refine q_z ?_ | refine q_b ?_ | refine wo_lenG (n := 0) rfl rfl rfl rfl ?_ | refine q_mv ?_ | refine q_load ?_ | refine q_loadI ?_ | refine q_loadR ?_ | refine q_cmp ?_
        | refine q_cmp2 (fun _ => ?_) (fun _ => ?_) | refine q_add ?_ | refine q_len ?_ | refine q_lenS ?_ | refine q_len0 ?_ | refine q_at ?_)
      exact ⟨Or.inr rfl, _, rfl, rfl⟩
    · have h1 : s = 1 := by rcases hs with h | h; exact h; exact absurd h hn
      have h2 : s' = 1 := by
        rcases hs' with h | h
        · exact h
        · subst h; exact absurd (List.eq_nil_of_length_eq_zero hab) hn
      subst h1 h2
      repeat' (first
       | refine q_s ?_ | refine q_z ?_ | refine q_b ?_ | refine q_mv ?_ | refine q_load ?_ | refine q_loadI ?_ | refine q_loadR ?_ | refine q_cmp ?_ | refine q_cmp2 (fun _ => ?_) (fun _ => ?_)
        | refine q_add ?_ | refine q_len ?_ | refine q_lenS ?_ | refine q_len0 ?_ | refine q_at ?_)
      refine (keep_Bytes_loop (a := a) (b := b) (t := t) (f := f) (t' := t') (f' := f') hab ha hk ?_).mono ?_
      · exact ⟨rfl, rfl, rfl, trivial⟩
      rintro ex T2 H2 (⟨rfl, h, h4⟩ | ⟨rfl, h⟩)
      · refine ⟨Or.inr rfl, T2 4, rfl, ?_⟩
        rw [h4, decide_eq_false h]; rfl
      · show W _ _
        repeat' (first
         | refine q_s ?_ | refine q_z ?_ | refine q_b ?_ | refine q_mv ?_ | refine q_load ?_ | refine q_loadI ?_ | refine q_loadR ?_ | refine q_cmp ?_
          | refine q_cmp2 (fun _ => ?_) (fun _ => ?_) | refine q_add ?_ | refine q_len ?_ | refine q_lenS ?_ | refine q_len0 ?_ | refine q_at ?_)
        refine ⟨Or.inr rfl, _, rfl, ?_⟩
        rw [decide_eq_true h]; rfl
  · skip
    repeat' (first
     | refine q_s ?_ | refine q_z ?_ | refine q_b ?_ | refine q_mv ?_ | refine q_load ?_ | refine q_loadI ?_ | refine q_loadR ?_ | refine q_cmp ?_ | refine q_cmp2 (fun _ => ?_) (fun _ => ?_)
      | refine q_add ?_ | refine q_len ?_ | refine q_lenS ?_ | refine q_len0 ?_ | refine q_at ?_)
    refine ⟨Or.inr rfl, _, rfl, ?_⟩
    rw [decide_eq_false (fun h => hab (by rw [h]))]
    rfl

end Go.Proofs.YtnakicjkolpacaaDoor
