/- What the functions answer: lists of commands; their sums. -/
import Derived.Test.YtnakicjkolpacaaDoorMP
import Derived.Test.YtnakicjkolpacaaDoorS16
import Derived.Test.YtnakicjkolpacaaDoorMC
set_option linter.unusedSimpArgs false
set_option linter.unusedVariables false
set_option maxRecDepth 10000
set_option maxHeartbeats 16000000
namespace Go.Proofs.YtnakicjkolpacaaDoor
open Go.AI
attribute [local irreducible] aops aexec acall aiter aop W WO

variable {xf : ExtF} {gf : CallF}

/-- A command among others, as a value. -/
def CR (e : AV) (c : Cmd) : Prop := ∃ t f s, e = c.av t f s ∧ (s = 1 ∨ c.data = []) ∧ (t = false ∨ c.kind = 2)
def CsR : List AV → List Cmd → Prop
  | [], [] => True
  | e :: es, c :: l => CR e c ∧ CsR es l
  | _, _ => False
theorem CsR.len : ∀ {es : List AV} {l : List Cmd}, CsR es l → es.length = l.length
  | [], [], _ => rfl
  | e :: es, c :: l, h => by simp [CsR.len h.2]
  | [], c :: l, h => h.elim
  | e :: es, [], h => h.elim
theorem CsR.get : ∀ {es : List AV} {l : List Cmd} {i : Nat} {c : Cmd}, CsR es l → l[i]? = some c → ∃ e, es[i]? = some e ∧ CR e c
  | [], [], _, _, _, h => by simp at h
  | e :: es, c :: l, 0, c', h, hc => by
    simp at hc; subst hc
    exact ⟨e, rfl, h.1⟩
  | e :: es, c :: l, i + 1, c', h, hc => by
    obtain ⟨e', h1, h2⟩ := CsR.get (i := i) h.2 (by simpa using hc)
    exact ⟨e', by simpa using h1, h2⟩
  | [], c :: l, _, _, h, _ => h.elim
  | e :: es, [], _, _, h, _ => h.elim
theorem CsR.append : ∀ {es es' : List AV} {l l' : List Cmd}, CsR es l → CsR es' l' → CsR (es ++ es') (l ++ l')
  | [], _, [], _, _, h => h
  | e :: es, _, c :: l, _, h, h' => ⟨h.1, CsR.append h.2 h'⟩
  | [], _, c :: l, _, h, _ => h.elim
  | e :: es, _, [], _, h, _ => h.elim
theorem CsR.drop : ∀ {es : List AV} {l : List Cmd} (n : Nat), CsR es l → CsR (es.drop n) (l.drop n)
  | es, l, 0, h => h
  | [], [], n + 1, h => h
  | e :: es, c :: l, n + 1, h => CsR.drop n h.2
  | [], c :: l, n + 1, h => h.elim
  | e :: es, [], n + 1, h => h.elim
theorem CsR.take : ∀ {es : List AV} {l : List Cmd} (n : Nat), CsR es l → CsR (es.take n) (l.take n)
  | es, l, 0, h => by simp [CsR]
  | [], [], n + 1, h => h
  | e :: es, c :: l, n + 1, h => ⟨h.1, CsR.take n h.2⟩
  | [], c :: l, n + 1, h => h.elim
  | e :: es, [], n + 1, h => h.elim
theorem CV.cr {x : CV} (h : x.ok) : CR x.av x.c := ⟨false, x.f, x.s, rfl, h, .inl rfl⟩
theorem csR_cv : ∀ {l : List CV}, (∀ x ∈ l, x.ok) → CsR (l.map CV.av) (l.map CV.c)
  | [], _ => trivial
  | x :: l, h => ⟨CV.cr (h x (by simp)), csR_cv fun y hy => h y (by simp [hy])⟩
theorem csR_cmd : ∀ {l : List Cmd}, CsR (l.map (Cmd.av false false 1)) l
  | [] => trivial
  | c :: l => ⟨⟨false, false, 1, rfl, .inl rfl, .inl rfl⟩, csR_cmd⟩

/-- Small data. -/
def smallC (l : List Cmd) : Prop := ∀ c ∈ l, c.data.length < 900000

def contentB (c : Cmd) : Bool := decide (c.kind = 2 ∨ c.kind = 3 ∨ c.kind = 4 ∨ c.kind = 5)
theorem contentB_iff {c : Cmd} : contentB c = true ↔ content c := by unfold contentB content; simp; omega

theorem e_stream_content (k : Nat) (t f : Bool) (s : Nat) (c : Cmd) : FnV (acall B xf gf (k + 1)) n_stream_content [c.av t f s] (.bool (contentB c)) := by
  refine fn_of B_stream_content rfl ?_
  unfold stream_content Cmd.av
  repeat' (first
   | refine q_s ?_ | refine q_z ?_ | refine q_n ?_ | refine q_nn ?_ | refine q_mv ?_ | refine q_faddr ?_ | refine q_load ?_ | refine q_loadI ?_ | refine q_loadR ?_ | refine q_cmp ?_
    | refine q_cmp2 (fun _ => ?_) (fun _ => ?_) | refine q_pickT ?_ | refine q_pickF ?_ | refine q_box ?_)
  all_goals (refine ⟨Or.inr rfl, _, rfl, ?_⟩; show AV.bool _ = AV.bool _; congr 1; simp only [cmpP, contentB] at *; simp; try omega)

theorem e_plan_wrong (k : Nat) (t f : Bool) (s : Nat) (c : Cmd) (hl : c.data.length < 1000000) (ht : t = false ∨ c.kind = 2) : FnV (acall B xf gf (k + 5)) n_plan_wrong [c.av t f s] (.bool (!decide (chkP c))) := by
  have hc := e_frame_Check (xf := xf) (gf := gf) k t f s c hl ht
  refine fn_of B_plan_wrong rfl ?_
  unfold plan_wrong Cmd.av
  unfold Cmd.av at hc
  by_cases h : chkP c
  · rw [if_pos h] at hc
    repeat' (first
     | refine q_s ?_ | refine q_z ?_ | refine q_call hc ?_ | refine q_mv ?_ | refine q_load ?_ | refine q_loadI ?_ | refine q_loadR ?_ | refine q_cmp ?_
      | refine q_cmp2 (fun _ => ?_) (fun _ => ?_) | refine q_box ?_)
    exact ⟨Or.inr rfl, _, rfl, by simp [h]; rfl⟩
  · rw [if_neg h] at hc
    repeat' (first
     | refine q_s ?_ | refine q_z ?_ | refine q_call hc ?_ | refine q_mv ?_ | refine q_load ?_ | refine q_loadI ?_ | refine q_loadR ?_ | refine q_cmp ?_
      | refine q_cmp2 (fun _ => ?_) (fun _ => ?_) | refine q_box ?_)
    exact ⟨Or.inr rfl, _, rfl, by simp [h]; rfl⟩

/-- Where the first is that fits. -/
def idxF (p : Cmd → Bool) : List Cmd → Nat → Int
  | [], _ => -1
  | c :: l, i => if p c then i else idxF p l (i + 1)
theorem idxF_any (p : Cmd → Bool) : ∀ (l : List Cmd) (i : Nat), decide (0 ≤ idxF p l i) = l.any p
  | [], _ => rfl
  | c :: l, i => by
    unfold idxF
    by_cases h : p c = true
    · rw [if_pos h]; simp [h]
    · rw [if_neg h, idxF_any p l (i + 1)]; simp [h]

theorem IndexFunc_loop {cf : CallF} {base fuel : Nat} {T : Tmps} {H : Heap} {t f : Bool} {es : List AV} {l : List Cmd} {fn : Nat} {p : Cmd → Bool} (hl : l.length < 1000000) (hk : 1000000 ≤ fuel) (hes : CsR es l) (hp : ∀ e c, CR e c → c ∈ l → FnV cf fn [e] (.bool (p c)))
    (hT : Has T [(0, .islc t f 9 es), (1, .fn fn []), (7, .int .i64 l.length), (8, .int .i64 0)]) :
    W (aexec cf xf base fuel (.loop slices_IndexFunc___api_Command_api_Command__l0) T H) (fun ex T' H' => (ex = .ret ∧ T' 4 = .int .i64 (idxF p l 0)) ∨ (ex = .exit 0 ∧ idxF p l 0 = -1)) := by
  refine w_loop (fun m T' H' => m ≤ l.length ∧ idxF p l 0 = idxF p (l.drop (l.length - m)) (l.length - m) ∧ Has T' [(0, .islc t f 9 es), (1, .fn fn []), (7, .int .i64 l.length), (8, .int .i64 ((l.length - m : Nat) : Int))])
    l.length ⟨Nat.le_refl _, by simp, ?_⟩ (by omega) ?_
  · obtain ⟨h0, h1, h2, h3, _⟩ := hT
    exact ⟨h0, h1, h2, by rw [h3]; simp, trivial⟩
  rintro m T H hm ⟨_, hgo, hT⟩
  obtain ⟨i, hi⟩ : ∃ i, i = l.length - m := ⟨_, rfl⟩
  rw [← hi] at hT hgo
  by_cases hm0 : m = 0
  · have hil : i = l.length := by omega
    rw [hT.eq]
    simp only [over]
    unfold slices_IndexFunc___api_Command_api_Command__l0
    repeat' (first
     | refine q_s ?_ | refine q_z ?_ | refine q_b ?_ | refine q_mv ?_ | refine q_load ?_ | refine q_loadI ?_ | refine q_loadR ?_ | refine q_cmp ?_ | refine q_cmp2 (fun _ => ?_) (fun _ => ?_)
      | refine q_add ?_ | refine q_at ?_)
    refine .inr ⟨rfl, ?_⟩
    rw [hgo, hil, List.drop_length]; rfl
  have hil : i < l.length := by omega
  rw [List.drop_eq_getElem_cons hil] at hgo
  obtain ⟨e, he, hcr⟩ := hes.get (List.getElem?_eq_getElem hil)
  have hpc := hp e _ hcr (List.getElem_mem hil)
  have he2 : es[(i : Int).toNat]? = some e := by simpa using he
  obtain ⟨t', f', s', rfl, _⟩ := hcr
  rw [hT.eq]
  simp only [over]
  unfold slices_IndexFunc___api_Command_api_Command__l0
  repeat' (first
   | refine q_s ?_ | refine q_z ?_ | refine q_b ?_ | refine wo_atG rfl rfl (by omega) he2 rfl rfl ?_ | refine q_callvB hpc (fun _ => ?_) (fun _ => ?_) | refine q_mv ?_ | refine q_load ?_
    | refine q_loadI ?_ | refine q_loadR ?_ | refine q_cmp ?_ | refine q_cmp2 (fun _ => ?_) (fun _ => ?_) | refine q_add ?_ | refine q_at ?_)
  · rename_i h1
    refine .inl ⟨rfl, ?_⟩
    rw [hgo]
    simp only [idxF, h1, if_true]
    rfl
  · rename_i h1
    refine ⟨by omega, by omega, ?_, rfl, rfl, rfl, by show AV.int _ _ = AV.int _ _; congr 1; omega, trivial⟩
    rw [hgo, show l.length - (m - 1) = i + 1 by omega]
    simp only [idxF, h1, Bool.false_eq_true, if_false]

theorem e_IndexFunc (k : Nat) (hk : 1000000 ≤ k) (t f : Bool) (es : List AV) (l : List Cmd) (fn : Nat) (p : Cmd → Bool) (hl : l.length < 1000000) (hes : CsR es l) (hp : ∀ e c, CR e c → c ∈ l → FnV (acall B xf gf k) fn [e] (.bool (p c))) :
    FnV (acall B xf gf (k + 1)) n_slices_IndexFunc___api_Command_api_Command_ [.islc t f 9 es, .fn fn []] (.int .i64 (idxF p l 0)) := by
  refine fn_of B_slices_IndexFunc___api_Command_api_Command_ rfl ?_
  unfold slices_IndexFunc___api_Command_api_Command_
  repeat' (first
   | refine q_s ?_ | refine q_z ?_ | refine q_b ?_ | refine wo_lenG (n := l.length) rfl hes.len rfl rfl ?_ | refine q_mv ?_ | refine q_load ?_ | refine q_loadI ?_ | refine q_loadR ?_
    | refine q_cmp ?_ | refine q_cmp2 (fun _ => ?_) (fun _ => ?_) | refine q_add ?_ | refine q_len ?_ | refine q_lenS ?_ | refine q_len0 ?_ | refine q_at ?_)
  refine (IndexFunc_loop (t := t) (f := f) hl hk hes hp ?_).mono ?_
  · exact ⟨rfl, rfl, rfl, rfl, trivial⟩
  rintro ex T2 H2 (⟨rfl, h4⟩ | ⟨rfl, hn⟩)
  · exact ⟨Or.inr rfl, _, rfl, by show fz true 6 H2 (T2 4) = _; rw [h4]; rfl⟩
  · rw [hn]
    show W _ _
    repeat' (first
     | refine q_s ?_ | refine q_z ?_ | refine q_b ?_ | refine q_mv ?_ | refine q_load ?_ | refine q_loadI ?_ | refine q_loadR ?_ | refine q_cmp ?_ | refine q_cmp2 (fun _ => ?_) (fun _ => ?_)
      | refine q_add ?_ | refine q_len ?_ | refine q_lenS ?_ | refine q_len0 ?_ | refine q_at ?_)
    exact ⟨Or.inr rfl, _, rfl, rfl⟩

theorem e_ContainsFunc (k : Nat) (hk : 1000000 ≤ k) (t f : Bool) (es : List AV) (l : List Cmd) (fn : Nat) (p : Cmd → Bool) (hl : l.length < 1000000) (hes : CsR es l) (hp : ∀ e c, CR e c → c ∈ l → FnV (acall B xf gf k) fn [e] (.bool (p c))) :
    FnV (acall B xf gf (k + 2)) n_slices_ContainsFunc___api_Command_api_Command_ [.islc t f 9 es, .fn fn []] (.bool (l.any p)) := by
  have hi := e_IndexFunc (xf := xf) (gf := gf) k hk t f es l fn p hl hes hp
  have ha := idxF_any p l 0
  refine fn_of B_slices_ContainsFunc___api_Command_api_Command_ rfl ?_
  unfold slices_ContainsFunc___api_Command_api_Command_
  repeat' (first
   | refine q_s ?_ | refine q_z ?_ | refine q_call hi ?_ | refine q_mv ?_ | refine q_cmp ?_ | refine q_cmp2 (fun _ => ?_) (fun _ => ?_))
  all_goals (refine ⟨Or.inr rfl, _, rfl, ?_⟩; show AV.bool _ = AV.bool _; rw [← ha]; simp only [cmpP] at *; congr 1; simp; omega)

/-- The sum of what is neither Begin nor End. -/
theorem crcMore_range2 (s : Int) (l : List UInt8) : 0 ≤ crcMore s l ∧ crcMore s l ≤ 4294967295 := by
  have hr : crcReg (4294967295 - (s % 4294967296).toNat) l < 4294967296 := crcReg_lt l (by omega)
  unfold crcMore
  omega

theorem sumC_range : ∀ (l : List Cmd) {s : Int}, 0 ≤ s ∧ s ≤ 4294967295 → 0 ≤ sumC s l ∧ sumC s l ≤ 4294967295
  | [], _, h => h
  | c :: l, s, h => by
    show 0 ≤ sumC (if c.kind = 1 ∨ c.kind = 6 then s else crcMore s (payB c)) l ∧ _
    refine sumC_range l ?_
    split
    · exact h
    · exact crcMore_range2 _ _

theorem digest_loop (k : Nat) (hk : 1000000 ≤ k) {fuel : Nat} {T : Tmps} {H : Heap} {t f : Bool} {es : List AV} {l : List Cmd} {v : AV} (hl : l.length < 1000000) (hk2 : 1000000 ≤ fuel) (hes : CsR es l) (hc : ∀ c ∈ l, chkP c) (hd : smallC l)
    (hT : Has T [(3, .int .i64 0), (8, .islc t f 9 es), (9, .int .i64 l.length), (10, .int .i64 0)]) :
    W (aexec (acall B xf gf (k + 5)) xf 0 fuel (.loop plan_digest_l0) T H) (fun ex T' H' => ex = .exit 0 ∧ T' 3 = .int .i64 (sumC 0 l)) := by
  refine w_loop (fun m T' H' => m ≤ l.length ∧ ∃ s : Int, (0 ≤ s ∧ s ≤ 4294967295) ∧ sumC 0 l = sumC s (l.drop (l.length - m)) ∧ Has T' [(3, .int .i64 s), (8, .islc t f 9 es), (9, .int .i64 l.length), (10, .int .i64 ((l.length - m : Nat) : Int))])
    l.length ⟨Nat.le_refl _, 0, by omega, by simp, ?_⟩ (by omega) ?_
  · obtain ⟨h0, h1, h2, h3, _⟩ := hT
    exact ⟨h0, h1, h2, by rw [h3]; simp, trivial⟩
  rintro m T H hm ⟨_, s, hs, hgo, hT⟩
  obtain ⟨i, hi⟩ : ∃ i, i = l.length - m := ⟨_, rfl⟩
  rw [← hi] at hT hgo
  by_cases hm0 : m = 0
  · have hil : i = l.length := by omega
    rw [hT.eq]
    simp only [over]
    unfold plan_digest_l0
    repeat' (first
     | refine q_s ?_ | refine q_z ?_ | refine q_b ?_ | refine q_n ?_ | refine q_nn ?_ | refine q_mv ?_ | refine q_faddr ?_ | refine q_load ?_ | refine q_loadI ?_ | refine q_loadR ?_
      | refine q_cmp ?_ | refine q_cmp2 (fun _ => ?_) (fun _ => ?_) | refine q_add ?_ | refine q_pickT ?_ | refine q_pickF ?_ | refine q_ex ?_ | refine q_store ?_ | refine q_storeR ?_
      | refine q_box ?_ | refine q_at ?_)
    refine ⟨rfl, ?_⟩
    rw [hgo, hil, List.drop_length]; rfl
  have hil : i < l.length := by omega
  rw [List.drop_eq_getElem_cons hil] at hgo
  obtain ⟨e, he, hcr⟩ := hes.get (List.getElem?_eq_getElem hil)
  have he2 : es[(i : Int).toNat]? = some e := by simpa using he
  have hchk := hc _ (List.getElem_mem hil)
  have hdl := hd _ (List.getElem_mem hil)
  obtain ⟨c, hcd⟩ : ∃ c, c = l[i] := ⟨_, rfl⟩
  rw [← hcd] at hcr hchk hdl hgo
  obtain ⟨t', f', s', rfl, hsd, htk⟩ := hcr
  have hp := e_frame_Payload (xf := xf) (gf := gf) k hk t' f' s' c hdl hsd htk
  rw [if_pos hchk] at hp
  have hpl := payB_le hchk
  have hm2 := fun f => e_crc_More (xf := xf) (gf := gf) (k + 4) (by omega) false f (payB c) s (by omega) hs
  unfold Cmd.av at hp he2
  rw [hT.eq]
  simp only [over]
  unfold plan_digest_l0
  by_cases hk1 : c.kind = 1 ∨ c.kind = 6
  · have hgo2 : sumC 0 l = sumC s (l.drop (i + 1)) := by
      rw [hgo]
      show sumC (if _ then _ else _) _ = _
      rw [if_pos hk1]
    repeat' (first
     | refine q_s ?_ | refine q_z ?_ | refine q_b ?_ | refine wo_atG rfl rfl (by omega) he2 rfl rfl ?_ | refine q_n ?_ | refine q_nn ?_ | refine q_mv ?_ | refine q_faddr ?_ | refine q_load ?_
      | refine q_loadI ?_ | refine q_loadR ?_ | refine q_cmp ?_ | refine q_cmp2 (fun _ => ?_) (fun _ => ?_) | refine q_add ?_ | refine q_pickT ?_ | refine q_pickF ?_ | refine q_ex ?_
      | refine q_store ?_ | refine q_storeR ?_ | refine q_box ?_ | refine q_at ?_)
    all_goals first
      | (refine ⟨by omega, by omega, s, hs, ?_, rfl, rfl, rfl, by show AV.int _ _ = AV.int _ _; congr 1; omega, trivial⟩
         rw [hgo2, show l.length - (m - 1) = i + 1 by omega])
      | (exfalso; simp only [cmpP] at *; omega)
  · have hgo2 : sumC 0 l = sumC (crcMore s (payB c)) (l.drop (i + 1)) := by
      rw [hgo]
      show sumC (if _ then _ else _) _ = _
      rw [if_neg hk1]
    repeat' (first
     | refine q_s ?_ | refine q_z ?_ | refine q_b ?_ | refine wo_atG rfl rfl (by omega) he2 rfl rfl ?_ | refine q_call hp ?_ | refine q_call (hm2 _) ?_ | refine q_n ?_ | refine q_nn ?_
      | refine q_mv ?_ | refine q_faddr ?_ | refine q_load ?_ | refine q_loadI ?_ | refine q_loadR ?_ | refine q_cmp ?_ | refine q_cmp2 (fun _ => ?_) (fun _ => ?_) | refine q_add ?_
      | refine q_pickT ?_ | refine q_pickF ?_ | refine q_ex ?_ | refine q_store ?_ | refine q_storeR ?_ | refine q_box ?_ | refine q_at ?_)
    all_goals first
      | (refine ⟨by omega, by omega, _, crcMore_range2 _ _, ?_, rfl, rfl, rfl, by show AV.int _ _ = AV.int _ _; congr 1; omega, trivial⟩
         rw [hgo2, show l.length - (m - 1) = i + 1 by omega])
      | (exfalso; simp only [cmpP] at *; omega)

theorem e_plan_digest (k : Nat) (hk : 1000000 ≤ k) (t f : Bool) (es : List AV) (l : List Cmd) (hl : l.length < 1000000) (hes : CsR es l) (hc : ∀ c ∈ l, chkP c) (hd : smallC l) :
    FnV (acall B xf gf (k + 6)) n_plan_digest [.islc t f 9 es] (.int .i64 (sumC 0 l)) := by
  refine fn_of B_plan_digest rfl ?_
  unfold plan_digest
  repeat' (first
   | refine q_s ?_ | refine q_z ?_ | refine q_b ?_ | refine wo_lenG (n := l.length) rfl hes.len rfl rfl ?_ | refine q_n ?_ | refine q_nn ?_ | refine q_mv ?_ | refine q_faddr ?_
    | refine q_load ?_ | refine q_loadI ?_ | refine q_loadR ?_ | refine q_cmp ?_ | refine q_cmp2 (fun _ => ?_) (fun _ => ?_) | refine q_add ?_ | refine q_pickT ?_ | refine q_pickF ?_
    | refine q_len ?_ | refine q_lenS ?_ | refine q_len0 ?_ | refine q_ex ?_ | refine q_store ?_ | refine q_storeR ?_ | refine q_box ?_ | refine q_at ?_)
  refine (digest_loop k hk (v := .undef) (t := t) (f := f) hl (by omega) hes hc hd ?_).mono ?_
  · exact ⟨rfl, rfl, rfl, rfl, trivial⟩
  rintro ex T2 H2 ⟨rfl, h3⟩
  rw [Has.eq (T := T2) (ps := [(3, _)]) ⟨h3, trivial⟩]
  simp only [over]
  show W _ _
  repeat' (first
   | refine q_s ?_ | refine q_z ?_ | refine q_b ?_ | refine q_n ?_ | refine q_nn ?_ | refine q_mv ?_ | refine q_faddr ?_ | refine q_load ?_ | refine q_loadI ?_ | refine q_loadR ?_
    | refine q_cmp ?_ | refine q_cmp2 (fun _ => ?_) (fun _ => ?_) | refine q_add ?_ | refine q_pickT ?_ | refine q_pickF ?_ | refine q_len ?_ | refine q_lenS ?_ | refine q_len0 ?_
    | refine q_ex ?_ | refine q_store ?_ | refine q_storeR ?_ | refine q_box ?_ | refine q_at ?_)
  exact ⟨Or.inr rfl, _, rfl, rfl⟩

theorem e_plan_Digest (k : Nat) (hk : 1000000 ≤ k) (t f : Bool) (es : List AV) (l : List Cmd) (hl : l.length < 1000000) (hes : CsR es l) (hd : smallC l) :
    FnV (acall B xf gf (k + 8)) n_plan_Digest [.islc t f 9 es] (if ∀ c ∈ l, chkP c then .tup [.int .i64 (sumC 0 l), .int .i64 0] else .tup [.int .i64 0, .int .i64 1]) := by
  have hcf := e_ContainsFunc (xf := xf) (gf := gf) (k + 5) (by omega) t f es l n_plan_wrong (fun c => !decide (chkP c)) hl hes (by
    rintro e c ⟨t', f', s', rfl, hs, ht⟩ hm
    exact e_plan_wrong k t' f' s' c (by have := hd c hm; omega) ht)
  refine fn_of B_plan_Digest rfl ?_
  unfold plan_Digest
  by_cases h : ∀ c ∈ l, chkP c
  · have hany : (l.any fun c => !decide (chkP c)) = false := by
      rw [List.any_eq_false]
      intro c hc
      simp [h c hc]
    rw [hany] at hcf
    rw [if_pos h]
    have hdg := e_plan_digest (xf := xf) (gf := gf) (k + 1) (by omega) t f es l hl hes h hd
    repeat' (first
     | refine q_s ?_ | refine q_z ?_ | refine q_b ?_ | refine q_call hcf ?_ | refine q_call hdg ?_ | refine q_mv ?_)
    exact ⟨Or.inr rfl, _, rfl, rfl⟩
  · have hany : (l.any fun c => !decide (chkP c)) = true := by
      rw [List.any_eq_true]
      exact Classical.byContradiction fun hh => h fun c hc => Classical.byContradiction fun h2 => hh ⟨c, hc, by simp [h2]⟩
    rw [hany] at hcf
    rw [if_neg h]
    repeat' (first
     | refine q_s ?_ | refine q_z ?_ | refine q_b ?_ | refine q_call hcf ?_ | refine q_mv ?_)
    exact ⟨Or.inr rfl, _, rfl, rfl⟩

end Go.Proofs.YtnakicjkolpacaaDoor
