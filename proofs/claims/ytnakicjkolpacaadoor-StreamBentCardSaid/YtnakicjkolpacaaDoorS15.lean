/- What the functions answer: are bytes, commands alike? -/
import Derived.Test.YtnakicjkolpacaaDoorS2
import Derived.Test.YtnakicjkolpacaaDoorMC
set_option linter.unusedSimpArgs false
set_option linter.unusedVariables false
set_option maxRecDepth 10000
set_option maxHeartbeats 16000000
namespace Go.Proofs.YtnakicjkolpacaaDoor
open Go.AI
attribute [local irreducible] aops aexec acall aiter aop W WO

variable {xf : ExtF} {gf : CallF}

theorem bAt_eq {a : List UInt8} {i : Nat} (h : i < a.length) : bAt a (i : Int) = a[i] := by
  simp [bAt, h]

theorem keep_Bytes_loop {cf : CallF} {base fuel : Nat} {H : Heap} {T : Tmps} {t f t' f' : Bool} {a b : List UInt8} (hab : a.length = b.length) (ha : a.length < 1000000) (hk : 1000000 ≤ fuel)
    (hT : Has T [(0, .islc t f 1 (BL a)), (1, .islc t' f' 1 (BL b)), (5, .int .i64 0)]) :
    W (aexec cf xf base fuel (.loop keep_Bytes_l0) T H) (fun ex T' H' => (ex = .ret ∧ a ≠ b ∧ T' 4 = .bool false) ∨ (ex = .exit 0 ∧ a = b)) := by
  refine w_loop (fun m T' H' => m ≤ a.length ∧ a.take (a.length - m) = b.take (a.length - m) ∧ Has T' [(0, .islc t f 1 (BL a)), (1, .islc t' f' 1 (BL b)), (5, .int .i64 ((a.length - m : Nat) : Int))])
    a.length ⟨Nat.le_refl _, by simp, ?_⟩ (by omega) ?_
  · obtain ⟨h0, h1, h2, _⟩ := hT
    exact ⟨h0, h1, by rw [h2]; simp, trivial⟩
  rintro m T H hm ⟨_, heq, hT⟩
  obtain ⟨i, hi⟩ : ∃ i, i = a.length - m := ⟨_, rfl⟩
  rw [← hi] at hT heq
  rw [hT.eq]
  simp only [over]
  unfold keep_Bytes_l0
  repeat' (first
   | refine q_s ?_ | refine q_z ?_ | refine q_b ?_ | refine q_mv ?_ | refine q_load ?_ | refine q_loadI ?_ | refine q_loadR ?_ | refine q_cmp ?_ | refine q_cmp2 (fun _ => ?_) (fun _ => ?_)
    | refine q_add ?_ | refine q_len ?_ | refine q_lenS ?_ | refine q_len0 ?_ | refine q_at ?_)
  · rename_i h1 h2
    simp only [cmpP] at h1 h2
    refine .inl ⟨rfl, fun h => h2 ?_, rfl⟩
    subst h; rfl
  · rename_i h1 h2
    simp only [cmpP] at h1 h2
    have hia : i < a.length := by omega
    have e : a[i] = b[i]'(by omega) := by
      rw [bAt_eq hia, bAt_eq (by omega)] at h2
      have := Classical.not_not.1 h2
      exact UInt8.toNat_inj.1 (by omega)
    refine ⟨by omega, by omega, ?_, rfl, rfl, by show AV.int _ _ = AV.int _ _; congr 1; omega, trivial⟩
    rw [show a.length - (m - 1) = i + 1 by omega, List.take_succ_eq_append_getElem hia, List.take_succ_eq_append_getElem (by omega), heq, e]
  · rename_i h1
    simp only [cmpP] at h1
    refine .inr ⟨rfl, ?_⟩
    have : i = a.length := by omega
    rw [this, List.take_length, hab, List.take_length] at heq
    exact heq

theorem e_keep_Bytes (k : Nat) (hk : 1000000 ≤ k) (t f t' f' : Bool) (s s' : Nat) (a b : List UInt8) (ha : a.length < 1000000) (hb : b.length < 1000000) (hs : s = 1 ∨ a = []) (hs' : s' = 1 ∨ b = []) :
    FnV (acall B xf gf (k + 1)) n_keep_Bytes [.islc t f s (BL a), .islc t' f' s' (BL b)] (.bool (decide (a = b))) := by
  refine fn_of B_keep_Bytes rfl ?_
  unfold keep_Bytes
  by_cases hab : a.length = b.length
  · by_cases hn : a = []
    · have hbn : b = [] := by
        subst hn; exact List.eq_nil_of_length_eq_zero hab.symm
      subst hn hbn
      repeat' (first
       | refine q_s ?_ | refine q_z ?_ | refine q_b ?_ | refine wo_lenG (n := 0) rfl rfl rfl rfl ?_ | refine q_mv ?_ | refine q_load ?_ | refine q_loadI ?_ | refine q_loadR ?_ | refine q_cmp ?_
        | refine q_cmp2 (fun _ => ?_) (fun _ => ?_) | refine q_add ?_ | refine q_len ?_ | refine q_lenS ?_ | refine q_len0 ?_ | refine q_at ?_)
      refine w_iter0 ?_
      obtain ⟨k', rfl⟩ : ∃ k', k = k' + 1 := ⟨k - 1, by omega⟩
      refine w_iter1 ?_
      repeat' (first
       | refine q_s ?_ | refine q_z ?_ | refine q_b ?_ | refine wo_lenG (n := 0) rfl rfl rfl rfl ?_ | refine q_mv ?_ | refine q_load ?_ | refine q_loadI ?_ | refine q_loadR ?_ | refine q_cmp ?_
        | refine q_cmp2 (fun _ => ?_) (fun _ => ?_) | refine q_add ?_ | refine q_len ?_ | refine q_lenS ?_ | refine q_len0 ?_ | refine q_at ?_)
      exact ⟨Or.inr rfl, _, rfl, rfl⟩
    · have h1 : s = 1 := by rcases hs with h | h; exact h; exact absurd h hn
      have h2 : s' = 1 := by
        rcases hs' with h | h
        · exact h
        · subst h; exact absurd (List.eq_nil_of_length_eq_zero hab) hn
      subst h1 h2
      repeat' (first
       | refine q_s ?_ | refine q_z ?_ | refine q_b ?_ | refine q_mv ?_ | refine q_load ?_ | refine q_loadI ?_ | refine q_loadR ?_ | refine q_cmp ?_ | refine q_cmp2 (fun _ => ?_) (fun _ => ?_)
        | refine q_add ?_ | refine q_len ?_ | refine q_lenS ?_ | refine q_len0 ?_ | refine q_at ?_)
      refine (keep_Bytes_loop (a := a) (b := b) (t := t) (f := f) (t' := t') (f' := f') hab ha hk ?_).mono ?_
      · exact ⟨rfl, rfl, rfl, trivial⟩
      rintro ex T2 H2 (⟨rfl, h, h4⟩ | ⟨rfl, h⟩)
      · refine ⟨Or.inr rfl, T2 4, rfl, ?_⟩
        rw [h4, decide_eq_false h]; rfl
      · show W _ _
        repeat' (first
         | refine q_s ?_ | refine q_z ?_ | refine q_b ?_ | refine q_mv ?_ | refine q_load ?_ | refine q_loadI ?_ | refine q_loadR ?_ | refine q_cmp ?_
          | refine q_cmp2 (fun _ => ?_) (fun _ => ?_) | refine q_add ?_ | refine q_len ?_ | refine q_lenS ?_ | refine q_len0 ?_ | refine q_at ?_)
        refine ⟨Or.inr rfl, _, rfl, ?_⟩
        rw [decide_eq_true h]; rfl
  · skip
    repeat' (first
     | refine q_s ?_ | refine q_z ?_ | refine q_b ?_ | refine q_mv ?_ | refine q_load ?_ | refine q_loadI ?_ | refine q_loadR ?_ | refine q_cmp ?_ | refine q_cmp2 (fun _ => ?_) (fun _ => ?_)
      | refine q_add ?_ | refine q_len ?_ | refine q_lenS ?_ | refine q_len0 ?_ | refine q_at ?_)
    refine ⟨Or.inr rfl, _, rfl, ?_⟩
    rw [decide_eq_false (fun h => hab (by rw [h]))]
    rfl

theorem Cmd.ext' {c d : Cmd} (h1 : c.kind = d.kind) (h2 : c.id = d.id) (h3 : c.parent = d.parent) (h4 : c.size = d.size) (h5 : c.frm = d.frm) (h6 : c.count = d.count) (h7 : c.source = d.source) (h8 : c.digest = d.digest) (h9 : c.data = d.data) : c = d := by
  cases c; cases d; simp_all

def Cmd.cells (c : Cmd) : List AV := [.int .i64 c.kind, .int .i64 c.id, .int .i64 c.parent, .int .i64 c.size, .int .i64 c.frm, .int .i64 c.count, .int .i64 c.source, .int .i64 c.digest, .islc false false 1 (BL c.data)]

/-- A number of 64 bits. -/
def i64R (n : Int) : Prop := -9223372036854775808 ≤ n ∧ n ≤ 9223372036854775807
theorem i64R_of {n : Int} (h : (Lit.int .i64 n).wf = true) : i64R n := by
  simp only [Lit.wf, Bool.and_eq_true, decide_eq_true_eq] at h
  exact ⟨h.1, h.2⟩

structure CmdR (c : Cmd) : Prop where
  kind : i64R c.kind
  id : i64R c.id
  parent : i64R c.parent
  size : i64R c.size
  frm : i64R c.frm
  count : i64R c.count
  source : i64R c.source
  digest : i64R c.digest
  data : c.data.length ≤ maxLen

/-- Are commands alike? -/
theorem e_keep_Command (k : Nat) (hk : 1000000 ≤ k) (t f t' f' : Bool) (s s' : Nat) (c d : Cmd) (ha : c.data.length < 1000000) (hb : d.data.length < 1000000) (hs : s = 1 ∨ c.data = []) (hs' : s' = 1 ∨ d.data = []) :
    ∃ r, (r = true ↔ c = d) ∧ FnV (acall B xf gf (k + 2)) n_keep_Command [c.av t f s, d.av t' f' s'] (.bool r) := by
  have hB := e_keep_Bytes (xf := xf) (gf := gf) k hk t f t' f' s s' c.data d.data ha hb hs hs'
  by_cases h : c.kind = d.kind ∧ c.id = d.id ∧ c.parent = d.parent ∧ c.size = d.size ∧ c.frm = d.frm ∧ c.count = d.count ∧ c.source = d.source ∧ c.digest = d.digest
  · obtain ⟨h1, h2, h3, h4, h5, h6, h7, h8⟩ := h
    refine ⟨decide (c.data = d.data), ⟨fun h => Cmd.ext' h1 h2 h3 h4 h5 h6 h7 h8 (of_decide_eq_true h), fun h => decide_eq_true (by rw [h])⟩, ?_⟩
    refine fn_of B_keep_Command rfl ?_
    unfold keep_Command Cmd.av
    repeat' (first
     | refine q_s ?_ | refine q_z ?_ | refine wo_call hB rfl rfl rfl ?_ | refine q_n ?_ | refine q_nn ?_ | refine q_mv ?_ | refine q_faddr ?_ | refine q_load ?_ | refine q_loadI ?_
      | refine q_loadR ?_ | refine q_cmp ?_ | refine q_cmp2 (fun _ => ?_) (fun _ => ?_) | refine q_pickT ?_ | refine q_pickF ?_ | refine q_box ?_)
    exact ⟨Or.inr rfl, _, rfl, rfl⟩
  · refine ⟨false, ⟨fun h => (by cases h), fun he => absurd (by subst he; simp) h⟩, ?_⟩
    refine fn_of B_keep_Command rfl ?_
    unfold keep_Command Cmd.av
    repeat' (first
     | refine q_s ?_ | refine q_z ?_ | refine wo_call hB rfl rfl rfl ?_ | refine q_n ?_ | refine q_nn ?_ | refine q_mv ?_ | refine q_faddr ?_ | refine q_load ?_ | refine q_loadI ?_
      | refine q_loadR ?_ | refine q_cmp ?_ | refine q_cmp2 (fun _ => ?_) (fun _ => ?_) | refine q_pickT ?_ | refine q_pickF ?_ | refine q_box ?_)
    all_goals first
      | exact ⟨Or.inr rfl, _, rfl, rfl⟩
      | (exfalso; simp only [cmpP] at *; apply h; simp only [*, and_self]; done)

end Go.Proofs.YtnakicjkolpacaaDoor
